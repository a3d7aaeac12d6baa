import Derived.Test.YtgobmfkffhomaaaShtF
set_option linter.unusedSimpArgs false
set_option linter.unusedVariables false
namespace Go.Proofs.Ytgobmfkffhomaaa
open Go.Mt

structure ShOk (l : List Shot) : Prop where
  len : l.length ≤ 1000
  each : ∀ b ∈ l, TlOk b.t
theorem TlOk.nil : TlOk [] := ⟨by simp, fun i => by simp [Tt.leaf]⟩
theorem ShOk.get {l : List Shot} (h : ShOk l) (i : Nat) : TlOk (l.getD i LK.sht.dft).t := by
  by_cases hi : i < l.length
  · exact h.each _ (mem_getD _ hi)
  · have e : l.getD i LK.sht.dft = ⟨[], 0, []⟩ := by simp [List.getD, List.getElem?_eq_none (Nat.le_of_not_lt hi)]; rfl
    rw [e]; exact TlOk.nil
def mZ : List C := [.pv (i64 0), .pv (i64 0), .pv (.val (.string ⟨⟨[]⟩⟩)), .pv (.nil .tbl), .pv (.nil .sht), .pv (.nil .bms), .pv (.nil (.ints .i64))]

def env_sown : Env := ⟨T, psi_splace, pspNil, pscNil, 60, [], none, false⟩
theorem eok_sown : PsiOk Try.prog env_sown := ⟨psi_splace_ok, pspNil_ok, pscNil_ok⟩
theorem sown (cl sz : Int) (bk : List UInt8) (t : List (List Entry)) (S : List Shot) (M : List Bitmap) (C : List Int) (ht : TlOk t) (hS : ShOk S) (hM : BmOk M) (hC : C.length ≤ 1000000) : CtrH (X := Value × Value) Try.prog 28 [.g [.pv (i64 cl), .pv (i64 sz), .pv (.val (.string ⟨⟨bk⟩⟩)), .pv (.lst .tbl t), .pv (.lst .sht S), .pv (.lst .bms M), .pv (.lst (.ints .i64) C)]] [] (fun _ => True) (fun x => .g [.pv (i64 cl), .pv (i64 sz), .pv (.val (.string ⟨⟨bk⟩⟩)), .pv (.lst .tbl t), .own 0 x.1, .own 1 x.2, .pv (.lst (.ints .i64) C)]) (fun x => [.own x.1 40 .sht S, .own x.2 51 .bms M]) := by
  refine CtrH_intro (E := env_sown) Try.func28 rfl (by decide) rfl rfl (fun M0 W hM0 => ?_)
  have hSl := hS.len
  have hMl := hM.len
  refine G_run tOk eok_sown 60 (fun _ => none) (fun bs => rfl) (fun bs => ?_) (fun bs => ?_)
  · (repeat' apply And.intro) <;> (intros; first | exact trivial | exact rfl | omega | exact u8_lo _ | exact u8_hi _ | exact u8_in64 _ | exact u8_in63 _ | (simp only [inR, IntKind.bits]; omega) | (simp [inR, IntKind.bits]; done) | (simp [inR, IntKind.bits] at * <;> omega) | (simp_all; done) | (with_reducible assumption) | skip)
  refine G_wkB2 (ns := [0, 1, 2]) (fs := fun b c => [(1, .c (.ptr 0 b 0)), (2, .c (.ptr 1 c 0)), (15, int .i64 S.length), (16, int .i64 0)]) (hs := fun b c => [.blk b 31 [.pv (i64 cl), .pv (i64 sz), .pv (.val (.string ⟨⟨bk⟩⟩)), .pv (.lst .tbl t), .own 2 ?v0, .pv (.lst .bms M), .pv (.lst (.ints .i64) C)], .blk c 31 mZ, .own ?v0 40 .sht S]) ?b1 ?c1 rfl ?wk0 (fun b c => ?_)
  case wk0 => (repeat' apply And.intro) <;> (first | exact rfl | exact trivial | omega | refine sigEq ?_ | skip)
  refine G_loop (fun i : Nat => [(1, .c (.ptr 0 b 0)), (2, .c (.ptr 1 c 0)), (15, int .i64 S.length), (16, int .i64 i)]) (fun i => [.blk b 31 [.pv (i64 cl), .pv (i64 sz), .pv (.val (.string ⟨⟨bk⟩⟩)), .pv (.lst .tbl t), .own 2 ?v0, .pv (.lst .bms M), .pv (.lst (.ints .i64) C)], .blk c 31 mZ, .own ?v0 40 .sht S]) (fun i => i ≤ S.length) (fun i => S.length - i) rfl [0, 1, 2] 0 (Nat.zero_le _) ?wk (fun i hi => ?_)
  case wk => (repeat' apply And.intro) <;> (first | exact rfl | exact trivial | omega | refine sigEq ?_ | skip)
  refine G_run tOk eok_sown 60 (fun _ => none) (fun bs => rfl) (fun bs => ?_) (fun bs => ?_)
  · (repeat' apply And.intro) <;> (intros; first | exact trivial | exact rfl | omega | exact u8_lo _ | exact u8_hi _ | exact u8_in64 _ | exact u8_in63 _ | (simp only [inR, IntKind.bits]; omega) | (simp [inR, IntKind.bits]; done) | (simp [inR, IntKind.bits] at * <;> omega) | (simp_all; done) | (with_reducible assumption) | skip)
  refine G_if rfl rfl (fun hk => ?_) (fun hk => ?_)
  · have hk' : i < S.length := by omega
    have hSi : TlOk (S.getD (i : Int).toNat LK.sht.dft).t := hS.get i
    refine G_run tOk eok_sown 60 (fun _ => none) (fun bs => rfl) (fun bs => ?_) (fun bs => ?_)
    · (repeat' apply And.intro) <;> (intros; first | exact trivial | exact rfl | omega | exact u8_lo _ | exact u8_hi _ | exact u8_in64 _ | exact u8_in63 _ | (simp only [inR, IntKind.bits]; omega) | (simp [inR, IntKind.bits]; done) | (simp [inR, IntKind.bits] at * <;> omega) | (simp_all; done) | (with_reducible assumption) | skip)
    refine G_nx 3 rfl ?_
    refine G_draw tOk eok_sown rfl (fun _ => none) 10 [0, 1, 0, 0, 8, 0, 56, 120, 248, 504, 1023, 2047, 4095] [] rfl (by decide +kernel) (fun bs => rfl) (fun bs => ?_) (fun bs => ?_)
    · (repeat' apply And.intro) <;> (intros; first | exact trivial | exact rfl | omega | exact u8_lo _ | exact u8_hi _ | exact u8_in64 _ | exact u8_in63 _ | (simp only [inR, IntKind.bits]; omega) | (simp [inR, IntKind.bits]; done) | (simp [inR, IntKind.bits] at * <;> omega) | (simp_all; done) | (with_reducible assumption) | skip)
    refine G_run tOk eok_sown 60 (fun _ => none) (fun bs => rfl) (fun bs => ?_) (fun bs => ?_)
    · (repeat' apply And.intro) <;> (intros; first | exact trivial | exact rfl | omega | exact u8_lo _ | exact u8_hi _ | exact u8_in64 _ | exact u8_in63 _ | (simp only [inR, IntKind.bits]; omega) | (simp [inR, IntKind.bits]; done) | (simp [inR, IntKind.bits] at * <;> omega) | (simp_all; done) | (with_reducible assumption) | skip)
    refine G_lp [0, 1, 2] (i + 1) ?ok ?wk1
    case ok => exact ⟨hk', by omega⟩
    case wk1 =>
      (repeat' apply And.intro) <;> (first | exact rfl | exact trivial | omega | refine sigEq ?_ | skip)
      all_goals first | exact set_getD S i LK.sht.dft | skip
  have hk' : i = S.length := by omega
  subst hk'
  refine G_run tOk eok_sown 60 (fun _ => none) (fun bs => rfl) (fun bs => ?_) (fun bs => ?_)
  · (repeat' apply And.intro) <;> (intros; first | exact trivial | exact rfl | omega | exact u8_lo _ | exact u8_hi _ | exact u8_in64 _ | exact u8_in63 _ | (simp only [inR, IntKind.bits]; omega) | (simp [inR, IntKind.bits]; done) | (simp [inR, IntKind.bits] at * <;> omega) | (simp_all; done) | (with_reducible assumption) | skip)
  refine G_loop (fun i : Nat => [(1, .c (.ptr 0 b 0)), (2, .c (.ptr 1 c 0)), (38, int .i64 M.length), (39, int .i64 i)]) (fun i => [.blk b 31 [.pv (i64 cl), .pv (i64 sz), .pv (.val (.string ⟨⟨bk⟩⟩)), .pv (.lst .tbl t), .own 2 ?v0, .own 3 ?u0, .pv (.lst (.ints .i64) C)], .blk c 31 mZ, .own ?v0 40 .sht S, .own ?u0 51 .bms M]) (fun i => i ≤ M.length) (fun i => M.length - i) rfl [0, 1, 2, 3] 0 (Nat.zero_le _) ?wk2 (fun i hi => ?_)
  case wk2 => (repeat' apply And.intro) <;> (first | exact rfl | exact trivial | omega | refine sigEq ?_ | skip)
  refine G_run tOk eok_sown 60 (fun _ => none) (fun bs => rfl) (fun bs => ?_) (fun bs => ?_)
  · (repeat' apply And.intro) <;> (intros; first | exact trivial | exact rfl | omega | exact u8_lo _ | exact u8_hi _ | exact u8_in64 _ | exact u8_in63 _ | (simp only [inR, IntKind.bits]; omega) | (simp [inR, IntKind.bits]; done) | (simp [inR, IntKind.bits] at * <;> omega) | (simp_all; done) | (with_reducible assumption) | skip)
  refine G_if rfl rfl (fun hk => ?_) (fun hk => ?_)
  · have hk' : i < M.length := by omega
    have hb := hM.get i
    have hb' : (M.getD (i : Int).toNat LK.bms.dft).l.length ≤ 1000000 := by have : (M.getD (i : Int).toNat LK.bms.dft) = M.getD i LK.bms.dft := rfl; rw [this]; omega
    refine G_run tOk eok_sown 60 (fun _ => none) (fun bs => rfl) (fun bs => ?_) (fun bs => ?_)
    · (repeat' apply And.intro) <;> (intros; first | exact trivial | exact rfl | omega | exact u8_lo _ | exact u8_hi _ | exact u8_in64 _ | exact u8_in63 _ | (simp only [inR, IntKind.bits]; omega) | (simp [inR, IntKind.bits]; done) | (simp [inR, IntKind.bits] at * <;> omega) | (simp_all; done) | (with_reducible assumption) | skip)
    refine G_nx 4 rfl ?_
    refine G_draw tOk eok_sown rfl (fun _ => none) 10 [0, 1, 0, 0, 8, 0, 56, 120, 248, 504, 1023, 2047, 4095] [] rfl (by decide +kernel) (fun bs => rfl) (fun bs => ?_) (fun bs => ?_)
    · (repeat' apply And.intro) <;> (intros; first | exact trivial | exact rfl | omega | exact u8_lo _ | exact u8_hi _ | exact u8_in64 _ | exact u8_in63 _ | (simp only [inR, IntKind.bits]; omega) | (simp [inR, IntKind.bits]; done) | (simp [inR, IntKind.bits] at * <;> omega) | (simp_all; done) | (with_reducible assumption) | skip)
    refine G_freeze 13 [51] rfl ⟨rfl, trivial⟩ ?_
    refine G_run tOk eok_sown 60 (fun _ => none) (fun bs => rfl) (fun bs => ?_) (fun bs => ?_)
    · (repeat' apply And.intro) <;> (intros; first | exact trivial | exact rfl | omega | exact u8_lo _ | exact u8_hi _ | exact u8_in64 _ | exact u8_in63 _ | (simp only [inR, IntKind.bits]; omega) | (simp [inR, IntKind.bits]; done) | (simp [inR, IntKind.bits] at * <;> omega) | (simp_all; done) | (with_reducible assumption) | skip)
    refine G_lp [0, 1, 2, 3] (i + 1) ?ok2 ?wk3
    case ok2 => exact ⟨hk', by omega⟩
    case wk3 =>
      (repeat' apply And.intro) <;> (first | exact rfl | exact trivial | omega | refine sigEq ?_ | skip)
      all_goals first | exact set_getD M i LK.bms.dft | skip
  have hk' : i = M.length := by omega
  subst hk'
  refine G_run tOk eok_sown 60 (fun _ => none) (fun bs => rfl) (fun bs => ?_) (fun bs => ?_)
  · (repeat' apply And.intro) <;> (intros; first | exact trivial | exact rfl | omega | exact u8_lo _ | exact u8_hi _ | exact u8_in64 _ | exact u8_in63 _ | (simp only [inR, IntKind.bits]; omega) | (simp [inR, IntKind.bits]; done) | (simp [inR, IntKind.bits] at * <;> omega) | (simp_all; done) | (with_reducible assumption) | skip)
  refine G_freezeC 1 6 4 rfl rfl rfl ?_
  refine G_retH rfl tOk rfl rfl ⟨rfl, trivial⟩ (_, _) trivial [2, 3] (fun n => match n with | 2 => 0 | _ => 1) rfl (by decide) rfl
end Go.Proofs.Ytgobmfkffhomaaa
