import Derived.Test.YtgobmfkffhomaaaShtZC
set_option linter.unusedSimpArgs false
set_option linter.unusedVariables false
set_option maxRecDepth 10000
set_option maxHeartbeats 3200000
namespace Go.Proofs.Ytgobmfkffhomaaa
open Go.Mt
def env_o : Env := ⟨T, Tt.psi_trright2, pspNil, psc_del, 60, [], none, false⟩
theorem eok_o : PsiOk Try.prog env_o := ⟨Tt.psi_trright2_ok, pspNil_ok, psc_del_ok⟩
structure OX where
  v : Value
  Lh : List TE
  s : Value
  m : Value

def env_sownF : Env := ⟨T, psi_vc, pspNil, psc_del, 60, [], none, false⟩
theorem eok_sownF : PsiOk Try.prog env_sownF := ⟨psi_vc_ok, pspNil_ok, psc_del_ok⟩
theorem sownF (cl sz : Int) (bk : List UInt8) (t : List (List Entry)) (S : List Shot) (M : List Bitmap) (C : List Int) (ht : TlOk t) (hS : ShOk S) (hM : BmOk M) (hC : C.length ≤ 1000000) : CtrF Try.prog 28 [.g [.pv (i64 cl), .pv (i64 sz), .pv (.val (.string ⟨⟨bk⟩⟩)), .pv (.lst .tbl t), .pv (.lst .sht S), .pv (.lst .bms M), .pv (.lst (.ints .i64) C)]] [] (fun x : OX => x.Lh.length = t.length ∧ AllV x.Lh) (fun x => .g [.pv (i64 cl), .pv (i64 sz), .pv (.val (.string ⟨⟨bk⟩⟩)), .own 0 x.v, .own 1 x.s, .own 2 x.m, .pv (.lst (.ints .i64) C)]) (fun x => [.own x.v 59 .tbh x.Lh, .own x.s 40 .sht S, .own x.m 51 .bms M]) (fun x => leafT (Tt.leaf t) x.Lh) := by
  refine CtrF_intro (E := env_sownF) Try.func28 rfl (by decide) rfl rfl (fun M0 W hM0 => ?_)
  have hSl := hS.len
  have hMl := hM.len
  refine G_run tOk eok_sownF 60 (fun _ => none) (fun bs => rfl) (fun bs => ?_) (fun bs => ?_)
  · (repeat' apply And.intro) <;> (intros; first | exact trivial | exact rfl | omega | exact u8_lo _ | exact u8_hi _ | exact u8_in64 _ | exact u8_in63 _ | (simp only [inR, IntKind.bits]; omega) | (simp [inR, IntKind.bits]; done) | (simp [inR, IntKind.bits] at * <;> omega) | (simp_all; done) | (with_reducible assumption) | skip)
  refine G_nx 2 rfl ?_
  refine G_callF [] id (wholeF t ht) (fun x => leafT_own) rfl trivial rfl rfl rfl rfl (by decide) rfl (fun x => rfl) (fun x => rfl) (fun x hx => ?_)
  obtain ⟨v, Lh⟩ := x
  dsimp only at hx ⊢
  refine G_env env_o rfl rfl rfl ?_
  refine G_run tOk eok_o 1 (fun _ => none) (fun bs => rfl) (fun bs => ?_) (fun bs => ?_)
  · (repeat' apply And.intro) <;> (intros; first | exact trivial | exact rfl | omega | exact u8_lo _ | exact u8_hi _ | exact u8_in64 _ | exact u8_in63 _ | (simp only [inR, IntKind.bits]; omega) | (simp [inR, IntKind.bits]; done) | (simp [inR, IntKind.bits] at * <;> omega) | (simp_all; done) | (with_reducible assumption) | skip)
  refine G_wkFB2 (ns := [0, 1, 2]) (fun i => i + 40) (fs := fun b c => [(1, .c (.ptr 0 b 0)), (2, .c (.ptr 1 c 0))]) (hs := fun b c => [.blk b 31 [.pv (i64 cl), .pv (i64 sz), .pv (.val (.string ⟨⟨bk⟩⟩)), .own 39 v, .pv (.lst .sht S), .pv (.lst .bms M), .pv (.lst (.ints .i64) C)], .blk c 31 mZ, .own v 59 .tbh Lh]) (L := leafT (Tt.leaf t) Lh) ?b0 ?c0 rfl ⟨?wkA, fun i y h => h, fun i y h => rfl, fun i j y z _ _ e => ?injA⟩ (fun b c => ?_)
  case wkA => (repeat' apply And.intro) <;> (first | exact rfl | exact trivial | omega | refine sigEq ?_ | skip)
  case injA => omega
  refine G_nxTo 39 ?_
  refine G_moveH 2 rfl ?_
  refine G_hideT (L := leafT (Tt.leaf t) Lh) rfl [0, 1] (fs := [(1, .c (.ptr 0 b 0)), (2, .c (.ptr 1 c 0))]) (hs := [.blk b 31 [.pv (i64 cl), .pv (i64 sz), .pv (.val (.string ⟨⟨bk⟩⟩)), .own 39 v, .pv (.lst .sht S), .pv (.lst .bms M), .pv (.lst (.ints .i64) C)], .blk c 31 mZ]) rfl ?wkB rfl rfl (fun i x h => h) (fun w1 M1 B1 hid => ?_)
  case wkB => (repeat' apply And.intro) <;> (first | exact rfl | exact trivial | omega | refine sigEq ?_ | skip)
  refine G_run tOk eok_o 60 (fun _ => none) (fun bs => rfl) (fun bs => ?_) (fun bs => ?_)
  · (repeat' apply And.intro) <;> (intros; first | exact trivial | exact rfl | omega | exact u8_lo _ | exact u8_hi _ | exact u8_in64 _ | exact u8_in63 _ | (simp only [inR, IntKind.bits]; omega) | (simp [inR, IntKind.bits]; done) | (simp [inR, IntKind.bits] at * <;> omega) | (simp_all; done) | (with_reducible assumption) | skip)
  refine G_loop (fun i : Nat => [(1, .c (.ptr 0 b 0)), (2, .c (.ptr 1 c 0)), (15, int .i64 S.length), (16, int .i64 i)]) (fun i => [.blk b 31 [.pv (i64 cl), .pv (i64 sz), .pv (.val (.string ⟨⟨bk⟩⟩)), .own 39 v, .own 2 ?v0, .pv (.lst .bms M), .pv (.lst (.ints .i64) C)], .blk c 31 mZ, .own ?v0 40 .sht S]) (fun i => i ≤ S.length) (fun i => S.length - i) rfl [0, 1, 2] 0 (Nat.zero_le _) ?wk (fun i hi => ?_)
  case wk => (repeat' apply And.intro) <;> (first | exact rfl | exact trivial | omega | refine sigEq ?_ | skip)
  refine G_run tOk eok_o 60 (fun _ => none) (fun bs => rfl) (fun bs => ?_) (fun bs => ?_)
  · (repeat' apply And.intro) <;> (intros; first | exact trivial | exact rfl | omega | exact u8_lo _ | exact u8_hi _ | exact u8_in64 _ | exact u8_in63 _ | (simp only [inR, IntKind.bits]; omega) | (simp [inR, IntKind.bits]; done) | (simp [inR, IntKind.bits] at * <;> omega) | (simp_all; done) | (with_reducible assumption) | skip)
  refine G_if rfl rfl (fun hk => ?_) (fun hk => ?_)
  · have hk' : i < S.length := by omega
    have hSi : TlOk (S.getD (i : Int).toNat LK.sht.dft).t := hS.get i
    refine G_run tOk eok_o 60 (fun _ => none) (fun bs => rfl) (fun bs => ?_) (fun bs => ?_)
    · (repeat' apply And.intro) <;> (intros; first | exact trivial | exact rfl | omega | exact u8_lo _ | exact u8_hi _ | exact u8_in64 _ | exact u8_in63 _ | (simp only [inR, IntKind.bits]; omega) | (simp [inR, IntKind.bits]; done) | (simp [inR, IntKind.bits] at * <;> omega) | (simp_all; done) | (with_reducible assumption) | skip)
    refine G_nx 3 rfl ?_
    refine G_draw tOk eok_o rfl (fun _ => none) 10 [0, 1, 0, 0, 8, 0, 56, 120, 248, 504, 1023, 2047, 4095] [] rfl (by decide +kernel) (fun bs => rfl) (fun bs => ?_) (fun bs => ?_)
    · (repeat' apply And.intro) <;> (intros; first | exact trivial | exact rfl | omega | exact u8_lo _ | exact u8_hi _ | exact u8_in64 _ | exact u8_in63 _ | (simp only [inR, IntKind.bits]; omega) | (simp [inR, IntKind.bits]; done) | (simp [inR, IntKind.bits] at * <;> omega) | (simp_all; done) | (with_reducible assumption) | skip)
    refine G_run tOk eok_o 60 (fun _ => none) (fun bs => rfl) (fun bs => ?_) (fun bs => ?_)
    · (repeat' apply And.intro) <;> (intros; first | exact trivial | exact rfl | omega | exact u8_lo _ | exact u8_hi _ | exact u8_in64 _ | exact u8_in63 _ | (simp only [inR, IntKind.bits]; omega) | (simp [inR, IntKind.bits]; done) | (simp [inR, IntKind.bits] at * <;> omega) | (simp_all; done) | (with_reducible assumption) | skip)
    refine G_lp [0, 1, 2] (i + 1) ?ok ?wk1
    case ok => exact ⟨hk', by omega⟩
    case wk1 =>
      (repeat' apply And.intro) <;> (first | exact rfl | exact trivial | omega | refine sigEq ?_ | skip)
      all_goals first | exact set_getD S i LK.sht.dft | skip
  have hk' : i = S.length := by omega
  subst hk'
  refine G_run tOk eok_o 60 (fun _ => none) (fun bs => rfl) (fun bs => ?_) (fun bs => ?_)
  · (repeat' apply And.intro) <;> (intros; first | exact trivial | exact rfl | omega | exact u8_lo _ | exact u8_hi _ | exact u8_in64 _ | exact u8_in63 _ | (simp only [inR, IntKind.bits]; omega) | (simp [inR, IntKind.bits]; done) | (simp [inR, IntKind.bits] at * <;> omega) | (simp_all; done) | (with_reducible assumption) | skip)
  refine G_loop (fun i : Nat => [(1, .c (.ptr 0 b 0)), (2, .c (.ptr 1 c 0)), (38, int .i64 M.length), (39, int .i64 i)]) (fun i => [.blk b 31 [.pv (i64 cl), .pv (i64 sz), .pv (.val (.string ⟨⟨bk⟩⟩)), .own 39 v, .own 2 ?v0, .own 3 ?u0, .pv (.lst (.ints .i64) C)], .blk c 31 mZ, .own ?v0 40 .sht S, .own ?u0 51 .bms M]) (fun i => i ≤ M.length) (fun i => M.length - i) rfl [0, 1, 2, 3] 0 (Nat.zero_le _) ?wk2 (fun i hi => ?_)
  case wk2 => (repeat' apply And.intro) <;> (first | exact rfl | exact trivial | omega | refine sigEq ?_ | skip)
  refine G_run tOk eok_o 60 (fun _ => none) (fun bs => rfl) (fun bs => ?_) (fun bs => ?_)
  · (repeat' apply And.intro) <;> (intros; first | exact trivial | exact rfl | omega | exact u8_lo _ | exact u8_hi _ | exact u8_in64 _ | exact u8_in63 _ | (simp only [inR, IntKind.bits]; omega) | (simp [inR, IntKind.bits]; done) | (simp [inR, IntKind.bits] at * <;> omega) | (simp_all; done) | (with_reducible assumption) | skip)
  refine G_if rfl rfl (fun hk => ?_) (fun hk => ?_)
  · have hk' : i < M.length := by omega
    have hb := hM.get i
    have hb' : (M.getD (i : Int).toNat LK.bms.dft).l.length ≤ 1000000 := by have : (M.getD (i : Int).toNat LK.bms.dft) = M.getD i LK.bms.dft := rfl; rw [this]; omega
    refine G_run tOk eok_o 60 (fun _ => none) (fun bs => rfl) (fun bs => ?_) (fun bs => ?_)
    · (repeat' apply And.intro) <;> (intros; first | exact trivial | exact rfl | omega | exact u8_lo _ | exact u8_hi _ | exact u8_in64 _ | exact u8_in63 _ | (simp only [inR, IntKind.bits]; omega) | (simp [inR, IntKind.bits]; done) | (simp [inR, IntKind.bits] at * <;> omega) | (simp_all; done) | (with_reducible assumption) | skip)
    refine G_nx 4 rfl ?_
    refine G_draw tOk eok_o rfl (fun _ => none) 10 [0, 1, 0, 0, 8, 0, 56, 120, 248, 504, 1023, 2047, 4095] [] rfl (by decide +kernel) (fun bs => rfl) (fun bs => ?_) (fun bs => ?_)
    · (repeat' apply And.intro) <;> (intros; first | exact trivial | exact rfl | omega | exact u8_lo _ | exact u8_hi _ | exact u8_in64 _ | exact u8_in63 _ | (simp only [inR, IntKind.bits]; omega) | (simp [inR, IntKind.bits]; done) | (simp [inR, IntKind.bits] at * <;> omega) | (simp_all; done) | (with_reducible assumption) | skip)
    refine G_freeze 13 [51] rfl ⟨rfl, trivial⟩ ?_
    refine G_run tOk eok_o 60 (fun _ => none) (fun bs => rfl) (fun bs => ?_) (fun bs => ?_)
    · (repeat' apply And.intro) <;> (intros; first | exact trivial | exact rfl | omega | exact u8_lo _ | exact u8_hi _ | exact u8_in64 _ | exact u8_in63 _ | (simp only [inR, IntKind.bits]; omega) | (simp [inR, IntKind.bits]; done) | (simp [inR, IntKind.bits] at * <;> omega) | (simp_all; done) | (with_reducible assumption) | skip)
    refine G_lp [0, 1, 2, 3] (i + 1) ?ok2 ?wk3
    case ok2 => exact ⟨hk', by omega⟩
    case wk3 =>
      (repeat' apply And.intro) <;> (first | exact rfl | exact trivial | omega | refine sigEq ?_ | skip)
      all_goals first | exact set_getD M i LK.bms.dft | skip
  have hk' : i = M.length := by omega
  subst hk'
  refine G_run tOk eok_o 60 (fun _ => none) (fun bs => rfl) (fun bs => ?_) (fun bs => ?_)
  · (repeat' apply And.intro) <;> (intros; first | exact trivial | exact rfl | omega | exact u8_lo _ | exact u8_hi _ | exact u8_in64 _ | exact u8_in63 _ | (simp only [inR, IntKind.bits]; omega) | (simp [inR, IntKind.bits]; done) | (simp [inR, IntKind.bits] at * <;> omega) | (simp_all; done) | (with_reducible assumption) | skip)
  refine G_freezeC 1 6 4 rfl rfl rfl ?_
  refine G_unhideT rfl hid rfl ?_
  refine G_retF rfl tOk rfl rfl ⟨rfl, trivial⟩ (⟨v, Lh, _, _⟩ : OX) hx [39, 2, 3] (fun i => i + 40) (fun n => match n with | 39 => 0 | 2 => 1 | _ => 2) rfl (by decide) rfl (fun j y h => ⟨y, h, (leafT_own _ _ h _).symm⟩) (fun j y h => rfl) (fun j j' y z h1 h2 e => ?inj9)
  case inj9 => omega
end Go.Proofs.Ytgobmfkffhomaaa
