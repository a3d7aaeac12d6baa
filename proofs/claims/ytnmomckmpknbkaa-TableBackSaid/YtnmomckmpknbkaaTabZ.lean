import Derived.Test.YtnmomckmpknbkaaTabY
set_option linter.unusedSimpArgs false
set_option linter.unusedVariables false
namespace Go.Proofs.Ytnmomckmpknbkaa
open Go.Mt

def env_rcut : Env := ⟨T, psi_tcut, pspNil, 35, [], none, true⟩
theorem eok_rcut : PsiOk Try.prog env_rcut := ⟨psi_tcut_ok, pspNil_ok⟩
theorem rcut_fn (t0 : List (List Entry)) (n : Int) (hl : t0.length ≤ 1000000000) (hf : ∀ i, (leaf t0 i).length ≤ 1000000000) (hn : n ≤ 9223372036854775807) : Ctr Try.prog 24 true [.g [.pv (.lst .tbl t0)], int .i64 n] (.x (.g [.lst .tbl (cutT t0 n)])) := by
  refine Ctr_intro (E := env_rcut) Try.func24 rfl (by decide) rfl rfl (fun M0 W hM0 => ?_)
  refine G_run tOk eok_rcut 60 (fun _ => none) (fun bs => rfl) (fun bs => ?_) (fun bs => ?_)
  · (repeat' apply And.intro) <;> (intros; first | exact trivial | exact rfl | omega | exact u8_lo _ | exact u8_hi _ | exact u8_in64 _ | exact u8_in63 _ | (simp only [inR, IntKind.bits]; omega) | (simp [inR, IntKind.bits, hf]; done) | (simp [inR, IntKind.bits, hf] at * <;> omega) | (simp_all; done) | skip)
  obtain ⟨m, hm⟩ : ∃ m : Nat, max n 0 = m := ⟨(max n 0).toNat, by omega⟩
  have hmt : (max n 0).toNat = m := by omega
  cases ha : anyN t0 entZ 7 with
  | false =>
    have hC : cutT t0 n = t0 := by simp only [cutT, ha]
    rw [hC]
    refine G_thn rfl rfl ?c1 ?_
    case c1 => exact congrArg (!·) ha
    refine G_run tOk eok_rcut 60 (fun _ => none) (fun bs => rfl) (fun bs => ?_) (fun bs => ?_)
    · (repeat' apply And.intro) <;> (intros; first | exact trivial | exact rfl | omega | exact u8_lo _ | exact u8_hi _ | exact u8_in64 _ | exact u8_in63 _ | (simp only [inR, IntKind.bits]; omega) | (simp [inR, IntKind.bits]; done) | (simp [inR, IntKind.bits] at * <;> omega) | (simp_all; done) | skip)
    refine G_ret tOk hM0 rfl rfl ⟨rfl, trivial⟩ ?_
    exact ⟨rfl, trivial⟩
  | true =>
    refine G_els rfl rfl ?c2 ?_
    case c2 => exact congrArg (!·) ha
    obtain ⟨cc, hcc⟩ := any_ok ha
    have hC : cutT t0 n = cutN t0 m (t0.length * 8 - m) := by simp only [cutT, ha, hmt]
    have hl512 := right_len hcc
    rw [hC]
    refine G_run tOk eok_rcut 60 (fun _ => none) (fun bs => rfl) (fun bs => ?_) (fun bs => ?_)
    · (repeat' apply And.intro) <;> (intros; first | exact trivial | exact rfl | omega | exact u8_lo _ | exact u8_hi _ | exact u8_in64 _ | exact u8_in63 _ | (simp only [inR, IntKind.bits]; omega) | (simp [inR, IntKind.bits]; done) | (simp [inR, IntKind.bits] at * <;> omega) | (simp_all; done) | skip)
    refine G_wkB3 (ns := [0, 1, 2]) (fs := fun b c d => [(2, .c (.ptr 0 b 0)), (4, .c (.ptr 1 c 0)), (5, .c (.ptr 2 d 0)), (6, int .i64 (max n 0))]) (hs := fun b c d => [.blk b 24 [.pv (.lst .tbl t0)], .blk c 24 [.pv (.nil .tbl)], .blk d 24 [.pv (.lst .tbl t0)]]) ?b1 ?c1 ?d1 rfl ?wk0 (fun b c d => ?_)
    case wk0 => (repeat' apply And.intro) <;> (first | exact rfl | exact trivial | omega | refine sigEq ?_ | skip)
    rw [hm]
    refine G_loop (fun k : Nat => [(2, .c (.ptr 0 b 0)), (4, .c (.ptr 1 c 0)), (5, .c (.ptr 2 d 0)), (6, int .i64 ((m + k : Nat) : Int))]) (fun k => [.blk b 24 [.pv (.lst .tbl t0)], .blk c 24 [.pv (.nil .tbl)], .blk d 24 [.pv (.lst .tbl (cutN t0 m k))]]) (fun k => k ≤ t0.length * 8 - m) (fun k => t0.length * 8 - m - k) rfl [0, 1, 2] 0 (Nat.zero_le _) ?wk (fun k hx => ?_)
    case wk => (repeat' apply And.intro) <;> (first | exact rfl | exact trivial | omega | refine sigEq ?_ | skip)
    have hck := (cutN_ok hcc m k).1
    have hl2 := right_len hck
    have hl3 : ∀ i, (leaf (cutN t0 m k) i).length ≤ 1000000000 := fun i => Nat.le_trans (right_leaf hck i) (by decide)
    refine G_run tOk eok_rcut 60 (fun _ => none) (fun bs => rfl) (fun bs => ?_) (fun bs => ?_)
    · (repeat' apply And.intro) <;> (intros; first | exact trivial | exact rfl | omega | exact u8_lo _ | exact u8_hi _ | exact u8_in64 _ | exact u8_in63 _ | (simp only [inR, IntKind.bits]; omega) | (simp [inR, IntKind.bits]; done) | (simp [inR, IntKind.bits] at * <;> omega) | (simp_all; done) | skip)
    refine G_if (p := ((m + k : Nat) : Int) < (t0.length : Int) * 8) rfl rfl (fun hk => ?_) (fun hk => ?_)
    · have hk' : m + k < t0.length * 8 := by omega
      have hmn : noneX (atT (cutN t0 m k) ((m + k : Nat) : Int)) = decide ((atT (cutN t0 m k) ((m + k : Nat) : Int)).kind = 0) := may_none (at_may hck (m + k))
      refine G_run tOk eok_rcut 60 (fun _ => none) (fun bs => rfl) (fun bs => ?_) (fun bs => ?_)
      · (repeat' apply And.intro) <;> (intros; first | exact trivial | exact rfl | omega | exact u8_lo _ | exact u8_hi _ | exact u8_in64 _ | exact u8_in63 _ | (simp only [inR, IntKind.bits]; omega) | (simp [inR, IntKind.bits, hl3]; done) | (simp [inR, IntKind.bits, hl3] at * <;> omega) | (simp_all; done) | skip)
      refine G_cond (b := !decide ((atT (cutN t0 m k) ((m + k : Nat) : Int)).kind = 0)) rfl rfl (fun h2 => ?_) (fun h2 => ?_)
      · have h3 : noneX (atT (cutN t0 m k) ((m + k : Nat) : Int)) = false := by rw [hmn]; simpa using h2
        refine G_run tOk eok_rcut 60 (fun _ => none) (fun bs => rfl) (fun bs => ?_) (fun bs => ?_)
        · (repeat' apply And.intro) <;> (intros; first | exact trivial | exact rfl | omega | exact u8_lo _ | exact u8_hi _ | exact u8_in64 _ | exact u8_in63 _ | (simp only [inR, IntKind.bits]; omega) | (simp [inR, IntKind.bits, hl3]; done) | (simp [inR, IntKind.bits, hl3] at * <;> omega) | (simp_all; done) | skip)
        refine G_lp [0, 1, 2] (k + 1) ?ok1 ?wk1
        case ok1 => exact ⟨by omega, by omega⟩
        case wk1 =>
          (repeat' apply And.intro) <;> (first | exact rfl | exact trivial | omega | refine sigEq ?_ | skip)
          all_goals (refine congrArg (PV.lst .tbl) ?_; simp only [cutN, h3]; rfl)
      · have h3 : noneX (atT (cutN t0 m k) ((m + k : Nat) : Int)) = true := by rw [hmn]; simpa using h2
        refine G_run tOk eok_rcut 60 (fun _ => none) (fun bs => rfl) (fun bs => ?_) (fun bs => ?_)
        · (repeat' apply And.intro) <;> (intros; first | exact trivial | exact rfl | omega | exact u8_lo _ | exact u8_hi _ | exact u8_in64 _ | exact u8_in63 _ | (simp only [inR, IntKind.bits]; omega) | (simp [inR, IntKind.bits]; done) | (simp [inR, IntKind.bits] at * <;> omega) | (simp_all; done) | skip)
        refine G_lp [0, 1, 2] (k + 1) ?ok2 ?wk2
        case ok2 => exact ⟨by omega, by omega⟩
        case wk2 =>
          (repeat' apply And.intro) <;> (first | exact rfl | exact trivial | omega | refine sigEq ?_ | skip)
          all_goals (refine congrArg (PV.lst .tbl) ?_; simp only [cutN, h3])
    · have hk' : k = t0.length * 8 - m := by omega
      refine G_run tOk eok_rcut 60 (fun _ => none) (fun bs => rfl) (fun bs => ?_) (fun bs => ?_)
      · (repeat' apply And.intro) <;> (intros; first | exact trivial | exact rfl | omega | exact u8_lo _ | exact u8_hi _ | exact u8_in64 _ | exact u8_in63 _ | (simp only [inR, IntKind.bits]; omega) | (simp [inR, IntKind.bits, hl3]; done) | (simp [inR, IntKind.bits, hl3] at * <;> omega) | (simp_all; done) | skip)
      refine G_ret tOk hM0 rfl rfl ⟨rfl, trivial⟩ ?_
      refine ⟨?_, trivial⟩
      rw [hk']; exact rfl
def rcut_s : FSpec
  | [.g [.pv (.lst .tbl t0)], .c (.pv (.val (.int .i64 n)))] => some ((t0.length ≤ 1000000000) ∧ (∀ i, (leaf t0 i).length ≤ 1000000000) ∧ (n ≤ 9223372036854775807), true, .x (.g [.lst .tbl (cutT t0 n)]))
  | _ => none
theorem rcut_s_ok : SpecOk Try.prog 24 rcut_s := by
  intro args pre sh rv h hp; unfold rcut_s at h; split at h
  · cases h; obtain ⟨hl, hf, hn⟩ := hp; exact rcut_fn _ _ hl hf hn
  · cases h
def psi_rcut : FuncId → Option FSpec := psiCons 24 rcut_s psi_tcut
theorem psi_rcut_ok : PsiFn Try.prog psi_rcut := psiCons_ok rcut_s_ok psi_tcut_ok
end Go.Proofs.Ytnmomckmpknbkaa
