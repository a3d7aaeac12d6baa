import Derived.Test.YtnmomckmpknbkaaTabP
set_option linter.unusedSimpArgs false
set_option linter.unusedVariables false
namespace Go.Proofs.Ytnmomckmpknbkaa
open Go.Mt

theorem leaf_sum {t : List (List Entry)} (h : ∀ m ∈ t, m.length ≤ maxLen ∧ ∀ x ∈ m, EntryIn x) (i k : Nat) : inR .u32 ((leaf t i).getD k entZ).sum := by
  by_cases hi : i < t.length
  · have hm : leaf t i ∈ t := by unfold leaf; rw [List.getD, List.getElem?_eq_getElem hi]; simp
    by_cases hk : k < (leaf t i).length
    · have : (leaf t i).getD k entZ ∈ leaf t i := by rw [List.getD, List.getElem?_eq_getElem hk]; simp
      exact ((h _ hm).2 _ this).2.2.2.2
    · rw [List.getD, List.getElem?_eq_none (by omega)]; simp [inR, entZ]
  · rw [leaf_app (by omega)]; simp [inR, entZ, List.getD]
theorem tabL_len (t : List (List Entry)) (c : Int) : (tabL t c).length ≤ 70000 := by
  unfold tabL
  split
  · rename_i hr
    have h512 : t.length ≤ 512 := by
      by_cases h : 512 < t.length
      · exact (right_few hr h).elim
      · omega
    have := put2_len (cntN t t.length); have := bodN_len c t t.length
    simp only [List.length_append]; omega
  · simp
theorem tabE_in (t : List (List Entry)) (c : Int) : 0 ≤ tabE t c ∧ tabE t c ≤ 1 := by unfold tabE; split <;> omega

def env_ftputs : Env := ⟨T, psi_rtab, pspNil, 38, [], none, true⟩
theorem eok_ftputs : PsiOk Try.prog env_ftputs := ⟨psi_rtab_ok, pspNil_ok⟩
theorem ftputs_fn (t0 : List (List Entry)) (c : Int) (hl : t0.length ≤ 9223372036854775807) (hs : ∀ m ∈ t0, m.length ≤ maxLen ∧ ∀ x ∈ m, EntryIn x) : Ctr Try.prog 9 false [.g [.pv (.lst .tbl t0)], int .i64 c] (.x (.c (bv true))) := by
  refine Ctr_intro (E := env_ftputs) Try.func9 rfl (by decide) rfl rfl (fun M0 W hM0 => ?_)
  refine G_run tOk eok_ftputs 60 (fun _ => none) (fun bs => rfl) (fun bs => ?_) (fun bs => ?_)
  · (repeat' apply And.intro) <;> (intros; first | exact trivial | exact rfl | omega | exact u8_lo _ | exact u8_hi _ | exact u8_in64 _ | exact u8_in63 _ | (simp only [inR, IntKind.bits]; omega) | (simp [inR, IntKind.bits]; done) | (simp [inR, IntKind.bits] at * <;> omega) | (simp_all; done) | skip)
  refine G_cond (b := greatB t0) rfl rfl (fun h => ?_) (fun h => ?_)
  · refine G_run tOk eok_ftputs 60 (fun _ => none) (fun bs => rfl) (fun bs => ?_) (fun bs => ?_)
    · (repeat' apply And.intro) <;> (intros; first | exact trivial | exact rfl | omega | exact u8_lo _ | exact u8_hi _ | exact u8_in64 _ | exact u8_in63 _ | (simp only [inR, IntKind.bits]; omega) | (simp [inR, IntKind.bits]; done) | (simp [inR, IntKind.bits] at * <;> omega) | (simp_all; done) | skip)
    exact G_ret tOk hM0 rfl rfl ⟨trivial, trivial⟩ rfl
  obtain ⟨h1, h2⟩ := great_len h
  have h3 : ∀ i, (leaf t0 i).length ≤ 1000000000 := fun i => Nat.le_trans (h2 i) (by decide)
  have h4 := leaf_sum hs
  have h5 := tabL_len t0 c
  have h6 := tabE_in t0 c
  refine G_run tOk eok_ftputs 60 (fun _ => some true) (fun bs => rfl) (fun bs => ?_) (fun bs => ?_)
  · (repeat' apply And.intro) <;> (intros; first | exact trivial | exact rfl | omega | exact h3 _ | exact h4 _ _ | exact (h4 _ _).1 | exact (h4 _ _).2 | (simp; done) | (simp [inR]; omega) | skip)
  refine G_ret tOk hM0 rfl rfl ⟨trivial, trivial⟩ ?_
  conv => whnf
  simp
def ftputs_s : FSpec
  | [.g [.pv (.lst .tbl t0)], .c (.pv (.val (.int .i64 c)))] => some ((t0.length ≤ 9223372036854775807) ∧ (∀ m ∈ t0, m.length ≤ maxLen ∧ ∀ x ∈ m, EntryIn x), false, .x (.c (bv true)))
  | _ => none
theorem ftputs_s_ok : SpecOk Try.prog 9 ftputs_s := by
  intro args pre sh rv h hp; unfold ftputs_s at h; split at h
  · cases h; obtain ⟨hl, hs⟩ := hp; exact ftputs_fn _ _ hl hs
  · cases h
def psi_ftputs : FuncId → Option FSpec := psiCons 9 ftputs_s psi_rtab
theorem psi_ftputs_ok : PsiFn Try.prog psi_ftputs := psiCons_ok ftputs_s_ok psi_rtab_ok
end Go.Proofs.Ytnmomckmpknbkaa
