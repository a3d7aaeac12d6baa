import Derived.Test.YtnmomckmpknbkaaTabU
set_option linter.unusedSimpArgs false
set_option linter.unusedVariables false
namespace Go.Proofs.Ytnmomckmpknbkaa
open Go.Mt
def someK (l : List Entry) : Nat → Bool
  | 0 => false
  | k + 1 => someK l k || !decide ((l.getD k entZ).kind = 0)
theorem someK_eq {l : List Entry} (h : ∀ j, noneX (l.getD j entZ) = decide ((l.getD j entZ).kind = 0)) : ∀ k, someK l k = someN l k := by
  intro k
  induction k with
  | zero => rfl
  | succ k ih => simp only [someK, someN, ih, h]
theorem any_both {t : List (List Entry)} {e : Entry} : ∀ {k : Nat}, anyN t e k = true → ∃ c : Int, mayX c e = true ∧ rightT t 4096 c = true := by
  intro k
  induction k with
  | zero => intro h; cases h
  | succ k ih =>
    intro h
    simp only [anyN, Bool.or_eq_true, Bool.and_eq_true] at h
    rcases h with h | h
    · exact ih h
    · exact ⟨k, h.1, h.2⟩
theorem right_c {t : List (List Entry)} {n c : Int} (h : rightT t n c = true) : 0 ≤ c ∧ c ≤ 6 := by
  simp only [rightT, Bool.and_eq_true, Bool.not_eq_true', Bool.or_eq_false_iff, decide_eq_false_iff_not] at h
  omega
theorem may_zero {c : Int} (h : 0 ≤ c ∧ c ≤ 6) : mayX c entZ = true := by
  unfold mayX mayE
  rw [if_neg (by omega), if_pos (.inl rfl)]; rfl
theorem okRow_of {t : List (List Entry)} {n c : Int} (h : rightT t n c = true) {i : Nat} (hi : i < t.length) : okRow t n c i = true := by
  simp only [rightT, Bool.and_eq_true] at h
  cases ho : okRow t n c i with
  | true => rfl
  | false =>
    have : rightN t n c t.length = false := rightN_false (i := i + 1) (by simp [rightN, ho]) hi
    rw [this] at h; cases h.2
theorem leaf_may {t : List (List Entry)} {n c : Int} (h : rightT t n c = true) (i j : Nat) : mayX c ((leaf t i).getD j entZ) = true := by
  by_cases hj : j < (leaf t i).length
  · by_cases hi : i < t.length
    · have hrow := okRow_of h hi
      have h0 : decide ((leaf t i).length = 0) = false := by simp; intro e; rw [e] at hj; simp at hj
      simp only [okRow, h0, Bool.false_and, Bool.false_or, rowB, Bool.and_eq_true, decide_eq_true_eq] at hrow
      have := rowN_all hrow.2.1 j (by omega)
      simp only [entOk, Bool.and_eq_true] at this
      exact this.1
    · rw [leaf_app (by omega)] at hj; simp at hj
  · rw [List.getD, List.getElem?_eq_none (by omega)]; exact may_zero (right_c h)
theorem setN_may {l : List Entry} {c : Int} {e : Entry} (hc : 0 ≤ c ∧ c ≤ 6) (hl : ∀ j, mayX c (l.getD j entZ) = true) (he : mayX c e = true) (r : Nat) : ∀ j, mayX c ((setN l r e).getD j entZ) = true := by
  intro j
  have key : ∀ m : List Entry, (∀ j, mayX c (m.getD j entZ) = true) → mayX c ((m.set r e).getD j entZ) = true := by
    intro m hm
    rw [List.getD, List.getElem?_set]
    split
    · split
      · exact he
      · exact may_zero hc
    · have := hm j; rw [List.getD] at this; exact this
  unfold setN
  split
  · exact key _ (fun j => by
      rw [List.getD, List.getElem?_replicate]
      split <;> exact may_zero hc)
  · exact key _ hl
theorem setN_len {l : List Entry} (h : l.length = 0 ∨ l.length = 8) (r : Nat) (e : Entry) : (setN l r e).length = 8 := by
  unfold setN
  split
  · simp
  · rcases h with h | h
    · contradiction
    · simpa using h
/-- Nothing is set where nothing is. -/
theorem trim_app {t : List (List Entry)} : ∀ k : Nat, trimN (t ++ List.replicate k []) (t.length + k) = trimN (t ++ List.replicate k []) t.length := by
  have key : ∀ (m : List (List Entry)) (k : Nat), (∀ i, t.length ≤ i → (leaf m i).length = 0) → trimN m (t.length + k) = trimN m t.length := by
    intro m k hm
    induction k with
    | zero => rfl
    | succ k ih =>
      show trimN m (t.length + k + 1) = _
      have : decide ((leaf m (t.length + k)).length = 0) = true := by simp only [decide_eq_true_eq]; exact hm _ (by omega)
      simp only [trimN, this, ih]
  intro k
  refine key _ k (fun i hi => ?_)
  unfold leaf
  rw [List.getD, List.getElem?_append_right hi, List.getElem?_replicate]
  split <;> rfl
theorem trim_right {t : List (List Entry)} {n c : Int} (h : rightT t n c = true) (k : Nat) : trimT (t ++ List.replicate k []) = t := by
  have hlen : (t ++ List.replicate k ([] : List Entry)).length = t.length + k := by simp
  unfold trimT
  rw [hlen, trim_app]
  have hN : trimN (t ++ List.replicate k []) t.length = t.length := by
    cases hn : t.length with
    | zero => rfl
    | succ j =>
      have hrow := okRow_of h (i := j) (by omega)
      have hd : decide (j + 1 < t.length) = false := by simp; omega
      simp only [okRow, hd, Bool.and_false, Bool.false_or, rowB, Bool.and_eq_true, decide_eq_true_eq] at hrow
      have hl : leaf (t ++ List.replicate k []) j = leaf t j := by
        unfold leaf; rw [List.getD, List.getD, List.getElem?_append_left (by omega)]
      have h2 : decide ((leaf (t ++ List.replicate k []) j).length = 0) = false := by rw [hl]; simp; intro e; rw [e] at hrow; simp at hrow
      simp only [trimN, h2]
  rw [hN]; simp
theorem someN_zero {l : List Entry} (h : ∀ j, noneX (l.getD j entZ) = true) : ∀ k, someN l k = false := by
  intro k
  induction k with
  | zero => rfl
  | succ k ih => simp only [someN, ih, h]; rfl
theorem set_none {t : List (List Entry)} {c : Int} {e : Entry} {q r : Nat} (h : rightT t 4096 c = true) (he : mayX c e = true) (hk : e.kind = 0) (hq : t.length ≤ q) : setL t q r e = t := by
  have hz : noneX e = true := by rw [may_none he]; simp [hk]
  have hl0 : leaf t q = [] := leaf_app hq
  have hS : setS (setN (leaf t q) r e) = [] := by
    have : someN (setN (leaf t q) r e) (setN (leaf t q) r e).length = false := someN_zero (fun j => by
      rw [hl0]
      show noneX ((List.set (List.replicate 8 entZ) r e).getD j entZ) = true
      rw [List.getD, List.getElem?_set]
      split
      · split
        · exact hz
        · rfl
      · rw [List.getElem?_replicate]; split <;> rfl) _
    simp only [setS, this]
  unfold setL
  rw [hS]
  have : (t ++ List.replicate (q + 1 - t.length) ([] : List Entry)).set q [] = t ++ List.replicate (q + 1 - t.length) [] := by
    rw [List.set_append, if_neg (by omega)]
    congr 1
    apply List.ext_getElem?
    intro x
    rw [List.getElem?_set]
    split
    · rename_i hx; subst hx; rw [List.getElem?_replicate]; simp
    · rfl
  rw [this, trim_right h]
end Go.Proofs.Ytnmomckmpknbkaa
