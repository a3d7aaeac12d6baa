import Derived.Test.YtgobmfkffhomaaaShtZE
set_option linter.unusedSimpArgs false
set_option linter.unusedVariables false
set_option maxRecDepth 10000
set_option maxHeartbeats 3200000
namespace Go.Proofs.Ytgobmfkffhomaaa
open Go.Mt

theorem leafT_at {c : Nat → List Entry} {Lh : List TE} {i : Nat} {u : Value} (h : Lh[i]? = some (.v u)) : leafT c Lh i = some (.own u 62 .ent (c i)) := by
  unfold leafT
  rw [h]
/-- A table put aside, as the world knows it. -/
theorem hid_R {B : Nat → Prop} {W : World} {M0 : Mem} {w1 : World} {M1 : Mem} {B1 : Nat → Prop} {v : Value} {ty : TypeId} {Lh : List TE} {t : List (List Entry)} (hid : HidOk B W M0 w1 M1 B1 (hidH (.own v ty .tbh Lh) (leafT (Tt.leaf t) Lh))) (hx : Lh.length = t.length ∧ AllV Lh)
    (w : World) (M : Mem) (hb : BelowF B1 w1 w) (hM : Mem.ext B1 M1 M) : R (Mem.all w) (.lst .tbl t) v :=
  tbl_R (K := Mem.all w) (hid.now hb hM (n := 39) rfl) ⟨hx.1.symm, fun i hi => by
    obtain ⟨u, hu⟩ := hx.2 i (by rw [hx.1]; exact hi)
    exact ⟨u, _, _, _, hu, hid.now hb hM (n := i + 40) (show leafT (Tt.leaf t) Lh i = _ from leafT_at hu)⟩⟩ (fun b _ => rfl)

def env_saddF : Env := ⟨T, psi_vc, pspNil, psc_del, 38, [], none, false⟩
theorem eok_saddF : PsiOk Try.prog env_saddF := ⟨psi_vc_ok, pspNil_ok, psc_del_ok⟩
theorem saddF (cl sz : Int) (bk : List UInt8) (t : List (List Entry)) (S : List Shot) (M : List Bitmap) (C : List Int) (nm : List UInt8) (ht : TlOk t) (hS : ShOk S) (hM : BmOk M) (hC : C.length ≤ 1000000) (hn : nm.length ≤ 1000000000) (h1 : nameB nm = true) (h2 : ¬ 0 ≤ spl S nm) (h3 : S.length < 8) : CtrF Try.prog 12 [.g [.pv (i64 cl), .pv (i64 sz), .pv (.val (.string ⟨⟨bk⟩⟩)), .pv (.lst .tbl t), .pv (.lst .sht S), .pv (.lst .bms M), .pv (.lst (.ints .i64) C)], str nm] [] (fun x : Value × List TE => x.2.length = t.length ∧ AllV x.2) (fun x => .t [.g [.pv (i64 cl), .pv (i64 sz), .pv (.val (.string ⟨⟨bk⟩⟩)), .own 0 x.1, .pv (.lst .sht (S ++ [⟨nm, sz, t⟩])), .pv (.lst .bms M), .pv (.lst (.ints .i64) C)], int .i64 0]) (fun x => [.own x.1 59 .tbh x.2]) (fun x => leafT (Tt.leaf t) x.2) := by
  refine CtrF_intro (E := env_saddF) Try.func12 rfl (by decide) rfl rfl (fun M0 W hM0 => ?_)
  have hSl := hS.len
  have hMl := hM.len
  refine G_run tOk eok_saddF 60 (fun _ => none) (fun bs => rfl) (fun bs => ?_) (fun bs => ?_)
  · (repeat' apply And.intro) <;> (intros; first | exact trivial | exact rfl | omega | exact u8_lo _ | exact u8_hi _ | exact u8_in64 _ | exact u8_in63 _ | (simp only [inR, IntKind.bits]; omega) | (simp [inR, IntKind.bits]; done) | (simp [inR, IntKind.bits] at * <;> omega) | (simp_all; done) | (with_reducible assumption) | skip)
  refine G_els rfl rfl (by simp [h1]) ?_
  refine G_run tOk eok_saddF 60 (fun _ => none) (fun bs => rfl) (fun bs => ?_) (fun bs => ?_)
  · (repeat' apply And.intro) <;> (intros; first | exact trivial | exact rfl | omega | exact u8_lo _ | exact u8_hi _ | exact u8_in64 _ | exact u8_in63 _ | (simp only [inR, IntKind.bits]; omega) | (simp [inR, IntKind.bits]; done) | (simp [inR, IntKind.bits] at * <;> omega) | (simp_all; done) | (with_reducible assumption) | skip)
  refine G_els rfl rfl (by simp; omega) ?_
  refine G_run tOk eok_saddF 60 (fun _ => none) (fun bs => rfl) (fun bs => ?_) (fun bs => ?_)
  · (repeat' apply And.intro) <;> (intros; first | exact trivial | exact rfl | omega | exact u8_lo _ | exact u8_hi _ | exact u8_in64 _ | exact u8_in63 _ | (simp only [inR, IntKind.bits]; omega) | (simp [inR, IntKind.bits]; done) | (simp [inR, IntKind.bits] at * <;> omega) | (simp_all; done) | (with_reducible assumption) | skip)
  refine G_els rfl rfl (by simp; omega) ?_
  refine G_run tOk eok_saddF 60 (fun _ => none) (fun bs => rfl) (fun bs => ?_) (fun bs => ?_)
  · (repeat' apply And.intro) <;> (intros; first | exact trivial | exact rfl | omega | exact u8_lo _ | exact u8_hi _ | exact u8_in64 _ | exact u8_in63 _ | (simp only [inR, IntKind.bits]; omega) | (simp [inR, IntKind.bits]; done) | (simp [inR, IntKind.bits] at * <;> omega) | (simp_all; done) | (with_reducible assumption) | skip)
  refine G_nx 2 rfl ?_
  refine G_callF [] id (sownF cl sz bk t S M C ht hS hM hC) (fun x => leafT_own) rfl trivial rfl rfl rfl rfl (by decide) rfl (fun x => rfl) (fun x => rfl) (fun x hx => ?_)
  obtain ⟨v, Lh, vs, vm⟩ := x
  dsimp only at hx ⊢
  refine G_run tOk eok_saddF 1 (fun _ => none) (fun bs => rfl) (fun bs => ?_) (fun bs => ?_)
  · (repeat' apply And.intro) <;> (intros; first | exact trivial | exact rfl | omega | exact u8_lo _ | exact u8_hi _ | exact u8_in64 _ | exact u8_in63 _ | (simp only [inR, IntKind.bits]; omega) | (simp [inR, IntKind.bits]; done) | (simp [inR, IntKind.bits] at * <;> omega) | (simp_all; done) | (with_reducible assumption) | skip)
  refine G_wkFB2 (ns := [0, 1, 2, 3, 4]) (fun i => i + 40) (fs := fun b c => [(1, str nm), (2, .c (.ptr 0 b 0)), (4, .c (.ptr 1 c 0))]) (hs := fun b c => [.blk b 31 [.pv (i64 cl), .pv (i64 sz), .pv (.val (.string ⟨⟨bk⟩⟩)), .own 39 v, .own 2 vs, .own 3 vm, .pv (.lst (.ints .i64) C)], .blk c 31 mZ, .own v 59 .tbh Lh, .own vs 40 .sht S, .own vm 51 .bms M]) (L := leafT (Tt.leaf t) Lh) ?b0 ?c0 rfl ⟨?wkA, fun i y h => h, fun i y h => rfl, fun i j y z _ _ e => ?injA⟩ (fun b c => ?_)
  case wkA => (repeat' apply And.intro) <;> (first | exact rfl | exact trivial | omega | refine sigEq ?_ | skip)
  case injA => omega
  refine G_nxTo 39 ?_
  refine G_moveH 2 rfl ?_
  refine G_hideT (L := leafT (Tt.leaf t) Lh) rfl [0, 1, 3, 4] (fs := [(1, str nm), (2, .c (.ptr 0 b 0)), (4, .c (.ptr 1 c 0))]) (hs := [.blk b 31 [.pv (i64 cl), .pv (i64 sz), .pv (.val (.string ⟨⟨bk⟩⟩)), .own 39 v, .own 2 vs, .own 3 vm, .pv (.lst (.ints .i64) C)], .blk c 31 mZ, .own vs 40 .sht S, .own vm 51 .bms M]) rfl ?wkB rfl rfl (fun i x h => h) (fun w1 M1 B1 hid => ?_)
  case wkB => (repeat' apply And.intro) <;> (first | exact rfl | exact trivial | omega | refine sigEq ?_ | skip)
  refine G_run tOk eok_saddF 60 (fun _ => none) (fun bs => rfl) (fun bs => ?_) (fun bs => ?_)
  · (repeat' apply And.intro) <;> (intros; first | exact trivial | exact rfl | omega | exact u8_lo _ | exact u8_hi _ | exact u8_in64 _ | exact u8_in63 _ | (simp only [inR, IntKind.bits]; omega) | (simp [inR, IntKind.bits]; done) | (simp [inR, IntKind.bits] at * <;> omega) | (simp_all; done) | (with_reducible assumption) | skip)
  refine G_env env_a8 rfl rfl rfl ?_
  refine G_any rfl rfl _ rfl 13 rfl ?_
  refine GA_fld 0 tOk rfl rfl rfl rfl rfl rfl rfl (by decide +kernel) rfl (by decide +kernel) rfl rfl ?_
  refine GA_moveW 2 rfl rfl rfl rfl (by decide +kernel) rfl (by decide +kernel) trivial rfl ?_
  refine GA_fld 3 tOk rfl rfl rfl rfl rfl rfl rfl (by decide +kernel) rfl (by decide +kernel) rfl rfl ?_
  refine GA_fld 5 tOk rfl rfl rfl rfl rfl rfl rfl (by decide +kernel) rfl (by decide +kernel) rfl rfl ?_
  refine GA_wk [0, 1, 2, 3] [5, 3, 2, 0] rfl rfl ?wkC (a8_0 (vs := vs) (vm := vm) (v := v) (b := b) (c := c) (cl := cl) (sz := sz) (bk := bk) (C := C) (S := S) (M := M) (nm := nm) ht hSl (hid_R hid hx) (fun w10 => ?_))
  case wkC => (repeat' apply And.intro) <;> (first | exact rfl | exact trivial | omega | refine sigEq ?_ | skip)
  refine G_run tOk eok_a8 60 (fun _ => none) (fun bs => rfl) (fun bs => ?_) (fun bs => ?_)
  · (repeat' apply And.intro) <;> (intros; first | exact trivial | exact rfl | omega | exact u8_lo _ | exact u8_hi _ | exact u8_in64 _ | exact u8_in63 _ | (simp only [inR, IntKind.bits]; omega) | (simp [inR, IntKind.bits]; done) | (simp [inR, IntKind.bits] at * <;> omega) | (simp_all; done) | (with_reducible assumption) | skip)
  refine G_freezeC 1 4 2 rfl rfl rfl ?_
  refine G_freezeC 1 5 3 rfl rfl rfl ?_
  refine G_wk (ns := [1]) (fs := [(4, .c (.ptr 0 c 0)), (5, int .i64 0)]) (hs := [.blk c 31 [.pv (i64 cl), .pv (i64 sz), .pv (.val (.string ⟨⟨bk⟩⟩)), .own 0 v, .pv (.lst .sht (S ++ [⟨nm, sz, t⟩])), .pv (.lst .bms M), .pv (.lst (.ints .i64) C)]]) rfl ?wkD ?_
  case wkD => (repeat' apply And.intro) <;> (first | exact rfl | exact trivial | omega | refine sigEq ?_ | skip)
  refine G_unhideT rfl hid rfl ?_
  refine G_retF rfl tOk rfl rfl ⟨rfl, trivial, trivial⟩ (v, Lh) hx [39] (fun i => i + 40) (fun _ => 0) rfl (by decide) rfl (fun j y h => ⟨y, h, (leafT_own _ _ h _).symm⟩) (fun j y h => rfl) (fun j j' y z h1 h2 e => ?inj9)
  case inj9 => omega
end Go.Proofs.Ytgobmfkffhomaaa
