import Derived.Test.YtnmomckmpknbkaaTabW
set_option linter.unusedSimpArgs false
set_option linter.unusedVariables false
namespace Go.Proofs.Ytnmomckmpknbkaa
open Go.Mt

/-! ### a table as what stands at its places -/
def RowG (c : Int) (l : List Entry) : Prop := l.length = 8 ∧ (∀ j, mayX c (l.getD j entZ) = true) ∧ someN l 8 = true
def TabG (c : Int) (t : List (List Entry)) : Prop := (0 ≤ c ∧ c ≤ 6) ∧ t.length ≤ 512 ∧ (∀ i, (leaf t i).length = 0 ∨ RowG c (leaf t i)) ∧ (0 < t.length → (leaf t (t.length - 1)).length ≠ 0)
theorem right_good {t : List (List Entry)} {c : Int} (h : rightT t 4096 c = true) : TabG c t := by
  have h512 : t.length ≤ 512 := by
    by_cases hh : 512 < t.length
    · exact (right_few h hh).elim
    · omega
  refine ⟨right_c h, h512, fun i => ?_, fun hp e => ?_⟩
  · by_cases hi : i < t.length
    · have hrow := okRow_of h hi
      simp only [okRow, Bool.or_eq_true, Bool.and_eq_true, decide_eq_true_eq, rowB] at hrow
      rcases hrow with hrow | ⟨h8, _, hs⟩
      · exact .inl hrow.1
      · exact .inr ⟨h8, leaf_may h i, hs⟩
    · left; rw [leaf_app (by omega)]; rfl
  · have hrow := okRow_of h (i := t.length - 1) (by omega)
    have hd : decide (t.length - 1 + 1 < t.length) = false := by simp; omega
    simp only [okRow, hd, Bool.and_false, Bool.false_or, rowB, Bool.and_eq_true, decide_eq_true_eq] at hrow
    omega
theorem good_right {t : List (List Entry)} {c : Int} (h : TabG c t) : rightT t 4096 c = true := by
  obtain ⟨hc, h512, hrow, hlast⟩ := h
  have e : (decide ((4096 : Int) < 0) || decide (4096 < (4096 : Int)) || decide (c < 0) || decide (6 < c)) = false := by simp; omega
  simp only [rightT, e, Bool.not_false, Bool.true_and]
  have key : ∀ k, k ≤ t.length → rightN t 4096 c k = true := by
    intro k
    induction k with
    | zero => intro _; rfl
    | succ k ih =>
      intro hk
      simp only [rightN, ih (by omega), Bool.true_and, okRow, Bool.or_eq_true, Bool.and_eq_true, decide_eq_true_eq]
      rcases hrow k with h0 | ⟨h8, hm, hs⟩
      · left
        refine ⟨h0, ?_⟩
        by_cases e : k + 1 < t.length
        · exact e
        · have := hlast (by omega)
          rw [show t.length - 1 = k by omega] at this; exact absurd h0 this
      · right
        have hr : ∀ j, j ≤ 8 → rowN c 4096 k (leaf t k) j = true := by
          intro j
          induction j with
          | zero => intro _; rfl
          | succ j ihj =>
            intro hj
            have hp : decide (((k : Int) * 8 + j) < 4096) = true := by simp; omega
            simp only [rowN, ihj (by omega), entOk, hm, hp, Bool.or_true, Bool.and_self]
        simp only [rowB, h8, hr 8 (Nat.le_refl _), hs, decide_true, Bool.and_self]
  exact key _ (Nat.le_refl _)

theorem trimN_le (l : List (List Entry)) : ∀ k, trimN l k ≤ k := by
  intro k
  induction k with
  | zero => exact Nat.le_refl _
  | succ k ih => simp only [trimN]; split <;> omega
theorem trimN_empty (l : List (List Entry)) : ∀ k i, trimN l k ≤ i → i < k → (leaf l i).length = 0 := by
  intro k
  induction k with
  | zero => intro i _ h; omega
  | succ k ih =>
    intro i h1 h2
    simp only [trimN] at h1
    split at h1
    · rename_i hd
      by_cases e : i = k
      · subst e; simpa using hd
      · exact ih i h1 (by omega)
    · omega
theorem trimN_last (l : List (List Entry)) : ∀ k, 0 < trimN l k → (leaf l (trimN l k - 1)).length ≠ 0 := by
  intro k
  induction k with
  | zero => intro h; simp [trimN] at h
  | succ k ih =>
    intro h
    simp only [trimN] at h ⊢
    split
    · rename_i hd; rw [hd] at h; exact ih h
    · rename_i hd; simpa using hd
theorem trim_leaf (l : List (List Entry)) (i : Nat) : leaf (trimT l) i = leaf l i := by
  have hle := trimN_le l l.length
  by_cases h : i < trimN l l.length
  · unfold trimT leaf; rw [List.getD, List.getD, List.getElem?_take, if_pos h]
  · have h1 : leaf (trimT l) i = [] := leaf_app (by unfold trimT; simp; omega)
    rw [h1]
    by_cases h2 : i < l.length
    · exact (List.eq_nil_of_length_eq_zero (trimN_empty l l.length i (by omega) h2)).symm
    · exact (leaf_app (by omega)).symm
theorem trim_len (l : List (List Entry)) : (trimT l).length = trimN l l.length := by
  have := trimN_le l l.length
  unfold trimT; simp; omega
theorem leaf_set (l : List (List Entry)) (q : Nat) (x : List Entry) (hq : q < l.length) (i : Nat) : leaf (l.set q x) i = if i = q then x else leaf l i := by
  unfold leaf
  rw [List.getD, List.getElem?_set]
  split
  · rename_i e; subst e; simp [hq]
  · rename_i e; rw [if_neg (fun h => e h.symm)]; rfl
theorem leaf_more (t : List (List Entry)) (k i : Nat) : leaf (t ++ List.replicate k []) i = leaf t i := by
  unfold leaf
  rw [List.getD, List.getD]
  by_cases h : i < t.length
  · rw [List.getElem?_append_left h]
  · rw [List.getElem?_append_right (by omega), List.getElem?_replicate, List.getElem?_eq_none (by omega : t.length ≤ i)]
    split <;> rfl
theorem setL_leaf (t : List (List Entry)) (q r : Nat) (e : Entry) (i : Nat) : leaf (setL t q r e) i = if i = q then setS (setN (leaf t q) r e) else leaf t i := by
  unfold setL
  rw [trim_leaf, leaf_set _ _ _ (by simp; omega), leaf_more]
theorem someN_mono {l : List Entry} {j k : Nat} (h : someN l j = true) (hj : j ≤ k) : someN l k = true := by
  induction k with
  | zero => have : j = 0 := by omega
            subst this; exact h
  | succ k ih =>
    by_cases e : j = k + 1
    · subst e; exact h
    · simp only [someN, ih (by omega)]; rfl
theorem set_good {t : List (List Entry)} {c : Int} {e : Entry} {q r : Nat} (h : TabG c t) (he : mayX c e = true) (hq : q < 512) : TabG c (setL t q r e) := by
  obtain ⟨hc, h512, hrow, hlast⟩ := h
  have hl8 : (setN (leaf t q) r e).length = 8 := setN_len (by rcases hrow q with h | h; exact .inl h; exact .inr h.1) r e
  have hlen : ((t ++ List.replicate (q + 1 - t.length) []).set q (setS (setN (leaf t q) r e))).length ≤ 512 := by simp; omega
  have hmt : ∀ j, mayX c ((leaf t q).getD j entZ) = true := by
    intro j
    rcases hrow q with h | h
    · rw [List.eq_nil_of_length_eq_zero h]; exact may_zero hc
    · exact h.2.1 j
  refine ⟨hc, ?_, fun i => ?_, fun hp => ?_⟩
  · unfold setL; rw [trim_len]; have := trimN_le ((t ++ List.replicate (q + 1 - t.length) []).set q (setS (setN (leaf t q) r e))) ((t ++ List.replicate (q + 1 - t.length) []).set q (setS (setN (leaf t q) r e))).length; omega
  · rw [setL_leaf]
    split
    · cases hs : someN (setN (leaf t q) r e) (setN (leaf t q) r e).length with
      | false => left; simp only [setS, hs]; rfl
      | true =>
        right
        simp only [setS, hs]
        exact ⟨hl8, setN_may hc hmt he r, by rw [hl8] at hs; exact hs⟩
    · exact hrow i
  · unfold setL at hp ⊢
    rw [trim_len] at hp ⊢
    rw [trim_leaf]
    exact trimN_last _ _ hp

/-- What stands at a place. -/
theorem atT_nat (t : List (List Entry)) (j : Nat) : atT t j = (leaf t (j / 8)).getD (j % 8) entZ := by
  unfold atT
  rw [if_neg (by omega)]
  have e1 : ((j : Int) / 8).toNat = j / 8 := by omega
  have e2 : ((j : Int) % 8).toNat = j % 8 := by omega
  rw [e1, e2]
theorem none_zero {c : Int} {e : Entry} (h : mayX c e = true) (hn : noneX e = true) : e = entZ := by
  obtain ⟨k, s, n, z, m⟩ := e
  simp only [noneX, noneE, Bool.and_eq_true, decide_eq_true_eq] at hn
  obtain ⟨⟨⟨⟨rfl, rfl⟩, rfl⟩, rfl⟩, rfl⟩ := hn
  rfl
theorem someN_no {l : List Entry} {k : Nat} (h : someN l k = false) : ∀ j, j < k → noneX (l.getD j entZ) = true := by
  induction k with
  | zero => intro j hj; omega
  | succ k ih =>
    intro j hj
    simp only [someN, Bool.or_eq_false_iff, Bool.not_eq_false'] at h
    by_cases e : j = k
    · subst e; exact h.2
    · exact ih h.1 j (by omega)
theorem setS_get {l : List Entry} {c : Int} (h8 : l.length = 8) (hm : ∀ j, mayX c (l.getD j entZ) = true) (j : Nat) : (setS l).getD j entZ = l.getD j entZ := by
  unfold setS
  cases hs : someN l l.length with
  | true => rfl
  | false =>
    simp only
    by_cases hj : j < 8
    · rw [none_zero (hm j) (someN_no hs j (by omega))]; simp [List.getD]
    · simp [List.getD, List.getElem?_eq_none (show l.length ≤ j by omega)]
theorem setN_get {l : List Entry} {r : Nat} {e : Entry} (h : l.length = 0 ∨ l.length = 8) (hr : r < 8) (j : Nat) : (setN l r e).getD j entZ = if j = r then e else l.getD j entZ := by
  have key : ∀ m : List Entry, m.length = 8 → (m.set r e).getD j entZ = if j = r then e else m.getD j entZ := by
    intro m hm
    rw [List.getD, List.getElem?_set]
    split
    · rename_i hh; subst hh; rw [if_pos (by omega), if_pos rfl]; rfl
    · rename_i hh; rw [if_neg (fun q => hh q.symm)]; rfl
  unfold setN
  split
  · rename_i h0
    rw [key _ (by simp), List.eq_nil_of_length_eq_zero h0]
    have : (List.replicate 8 entZ).getD j entZ = entZ := by rw [List.getD, List.getElem?_replicate]; split <;> rfl
    rw [this]; simp [List.getD]
  · rename_i h0
    rcases h with h | h
    · exact absurd h h0
    · exact key l h
theorem any_of {t : List (List Entry)} {e : Entry} {c : Int} (h : rightT t 4096 c = true) (he : mayX c e = true) : anyN t e 7 = true := by
  have hc := right_c h
  have : c = 0 ∨ c = 1 ∨ c = 2 ∨ c = 3 ∨ c = 4 ∨ c = 5 ∨ c = 6 := by omega
  rcases this with rfl | rfl | rfl | rfl | rfl | rfl | rfl <;> simp [anyN, h, he]
theorem setT_of {t : List (List Entry)} {e : Entry} {c : Int} (h : rightT t 4096 c = true) (he : mayX c e = true) {i : Nat} (hi : i < 4096) : setT t i e = setL t (i / 8) (i % 8) e := by
  unfold setT
  rw [if_neg (by rw [any_of h he]; simp; omega)]
  have e1 : ((i : Int) / 8).toNat = i / 8 := by omega
  have e2 : ((i : Int) % 8).toNat = i % 8 := by omega
  rw [e1, e2]
theorem right_set {t : List (List Entry)} {e : Entry} {c : Int} (h : rightT t 4096 c = true) (he : mayX c e = true) (i : Int) : rightT (setT t i e) 4096 c = true := by
  by_cases hi : 0 ≤ i ∧ i < 4096
  · obtain ⟨k, rfl⟩ : ∃ k : Nat, i = k := ⟨i.toNat, by omega⟩
    rw [setT_of h he (by omega)]
    exact good_right (set_good (right_good h) he (by omega))
  · have : setT t i e = t := by unfold setT; rw [if_pos (by omega)]
    rw [this]; exact h
theorem at_set {t : List (List Entry)} {e : Entry} {c : Int} (h : rightT t 4096 c = true) (he : mayX c e = true) {i : Nat} (hi : i < 4096) (j : Nat) : atT (setT t i e) j = if j = i then e else atT t j := by
  have hg := right_good h
  rw [setT_of h he hi, atT_nat, atT_nat, setL_leaf]
  have h08 : (leaf t (i / 8)).length = 0 ∨ (leaf t (i / 8)).length = 8 := by rcases hg.2.2.1 (i / 8) with h | h; exact .inl h; exact .inr h.1
  by_cases hq : j / 8 = i / 8
  · rw [if_pos hq, setS_get (c := c) (setN_len h08 _ _) (setN_may hg.1 (leaf_may h _) he _), setN_get h08 (by omega), hq]
    by_cases hr : j % 8 = i % 8
    · rw [if_pos hr, if_pos (by omega)]
    · rw [if_neg hr, if_neg (by omega)]
  · rw [if_neg hq, if_neg (by omega)]
theorem tab_ext {t u : List (List Entry)} {c c' : Int} (ht : rightT t 4096 c = true) (hu : rightT u 4096 c' = true) (h : ∀ j : Nat, j < 4096 → atT t j = atT u j) : t = u := by
  have gt := right_good ht
  have gu := right_good hu
  have key : ∀ {t u : List (List Entry)} {c c' : Int}, TabG c t → TabG c' u → (∀ j : Nat, j < 4096 → atT t j = atT u j) → ∀ i, (leaf t i).length ≠ 0 → (leaf u i).length ≠ 0 := by
    intro t u c c' gt gu h i h0 hn
    rcases gt.2.2.1 i with h1 | ⟨h8, hm, hs⟩
    · exact h0 h1
    · obtain ⟨j, hj, hne⟩ := someN_ex hs
      have hi : i < 512 := by
        by_cases hi : i < t.length
        · have := gt.2.1; omega
        · rw [leaf_app (by omega)] at h0; simp at h0
      have e := h (i * 8 + j) (by omega)
      rw [atT_nat, atT_nat, show (i * 8 + j) / 8 = i by omega, show (i * 8 + j) % 8 = j by omega, List.eq_nil_of_length_eq_zero hn] at e
      rw [e] at hne; simp [List.getD, noneX, noneE, entZ] at hne
  have hleaf : ∀ i, leaf t i = leaf u i := by
    intro i
    by_cases h0 : (leaf t i).length = 0
    · by_cases h1 : (leaf u i).length = 0
      · rw [List.eq_nil_of_length_eq_zero h0, List.eq_nil_of_length_eq_zero h1]
      · exact absurd h0 (key gu gt (fun j hj => (h j hj).symm) i h1)
    · have h1 := key gt gu h i h0
      have l1 : (leaf t i).length = 8 := by rcases gt.2.2.1 i with h | h; exact absurd h h0; exact h.1
      have l2 : (leaf u i).length = 8 := by rcases gu.2.2.1 i with h | h; exact absurd h h1; exact h.1
      have hi : i < 512 := by
        by_cases hi : i < t.length
        · have := gt.2.1; omega
        · rw [leaf_app (by omega)] at h0; simp at h0
      apply List.ext_getElem (by omega)
      intro j hj1 hj2
      have e := h (i * 8 + j) (by omega)
      rw [atT_nat, atT_nat, show (i * 8 + j) / 8 = i by omega, show (i * 8 + j) % 8 = j by omega] at e
      simpa [List.getD, List.getElem?_eq_getElem hj1, List.getElem?_eq_getElem hj2] using e
  have hlen : t.length = u.length := by
    have k1 : ∀ {t u : List (List Entry)} {c : Int}, TabG c t → (∀ i, leaf t i = leaf u i) → t.length ≤ u.length := by
      intro t u c gt hl
      by_cases h0 : t.length = 0
      · omega
      · have := gt.2.2.2 (by omega)
        rw [hl] at this
        by_cases hh : t.length - 1 < u.length
        · omega
        · rw [leaf_app (by omega)] at this; simp at this
    have := k1 gt hleaf; have := k1 gu (fun i => (hleaf i).symm); omega
  apply List.ext_getElem hlen
  intro i h1 h2
  have := hleaf i
  simpa [leaf, List.getD, List.getElem?_eq_getElem h1, List.getElem?_eq_getElem h2] using this
theorem at_out {t : List (List Entry)} {j : Nat} (h : t.length ≤ j / 8) : atT t j = entZ := by
  rw [atT_nat, leaf_app h]; rfl
theorem at_may {t : List (List Entry)} {c : Int} (h : rightT t 4096 c = true) (j : Nat) : mayX c (atT t j) = true := by
  rw [atT_nat]; exact leaf_may h _ _
end Go.Proofs.Ytnmomckmpknbkaa
