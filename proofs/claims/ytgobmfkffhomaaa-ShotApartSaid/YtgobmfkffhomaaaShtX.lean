import Derived.Test.YtgobmfkffhomaaaShtW
set_option linter.unusedSimpArgs false
set_option linter.unusedVariables false
set_option maxHeartbeats 1600000
namespace Go.Proofs.Ytgobmfkffhomaaa
open Go.Mt

/-! ### what is turned, behind Back -/
theorem Rt.in {l : List Span} (h : Rt l) {x : Int} (hx : inL l x = true) : 0 ≤ x ∧ x < 1073741824 := by
  obtain ⟨s, hs, h1, h2⟩ := inL_iff.1 hx
  have := h.1 s hs
  unfold Sp at this
  omega
theorem sub_in {l : List Span} {n x : Int} (h : Rt l) (hn : 0 ≤ n ∧ n ≤ 4096) (hx : inL (subL l ⟨n, 1073741824⟩) x = true) : 0 ≤ x ∧ x < n := by
  have hs := (subL_set h (s := ⟨n, 1073741824⟩) (by unfold Sp; simp only; omega)).2 x
  rw [hx] at hs
  have hs' : inL l x = true ∧ hasX x ⟨n, 1073741824⟩ = false := by simpa using hs.symm
  have h1 := h.in hs'.1
  have h2 := hasX_iffF.1 hs'.2
  simp only at h2
  omega
theorem bck_full {b : Bitmap} {n : Int} (hb : rightB b.l = true) (hn : 0 < n ∧ n ≤ 4096) (ho : b.on = true) : (bck n b).l = [⟨0, n⟩] := by
  have hR := right_iff.1 hb
  have s2 : Sp ⟨0, n⟩ := by unfold Sp; simp only; omega
  obtain ⟨c1, c2⟩ := subL_set hR (s := ⟨n, 1073741824⟩) (by unfold Sp; simp only; omega)
  obtain ⟨d1, d2⟩ := addL_set c1 s2
  have e : (bck n b).l = addL (subL b.l ⟨n, 1073741824⟩) ⟨0, n⟩ := by simp only [bck, ho]
  rw [e]
  refine Rt_ext d1 (Rt_cons.2 ⟨s2, by simp, Rt.nil⟩) (fun x => ?_)
  rw [d2, inL_one]
  cases h : inL (subL b.l ⟨n, 1073741824⟩) x with
  | false => rfl
  | true =>
    have := sub_in hR (by omega) h
    rw [Bool.true_or]; symm; rw [hasX_iff]; simp only; omega
theorem bck_rt {b : Bitmap} {n : Int} (hb : rightB b.l = true) (hn : 0 ≤ n ∧ n ≤ 4096) : Rt (bck n b).l ∧ ∀ x, inL (bck n b).l x = true → x < n := by
  have hR := right_iff.1 hb
  obtain ⟨c1, c2⟩ := subL_set hR (s := ⟨n, 1073741824⟩) (by unfold Sp; simp only; omega)
  cases ho : b.on with
  | false =>
    have e : (bck n b).l = subL b.l ⟨n, 1073741824⟩ := by simp only [bck, ho]
    rw [e]
    exact ⟨c1, fun x hx => (sub_in hR hn hx).2⟩
  | true =>
    by_cases h0 : n = 0
    · have e : (bck n b).l = addL (subL b.l ⟨n, 1073741824⟩) ⟨0, n⟩ := by simp only [bck, ho]
      rw [e, addL_not c1 (by unfold Sp; simp only; omega)]
      exact ⟨c1, fun x hx => (sub_in hR hn hx).2⟩
    · rw [bck_full hb (by omega) ho]
      refine ⟨Rt_cons.2 ⟨by unfold Sp; simp only; omega, by simp, Rt.nil⟩, fun x hx => ?_⟩
      rw [inL_one, hasX_iff] at hx
      exact hx.2
theorem last_in {l : List Span} {n : Int} (h : Rt l) (hn : n ≤ 4096) (hi : ∀ x, inL l x = true → x < n) : lastB l = false := by
  unfold lastB
  cases hl : decide ((0 : Int) < (l.length : Int)) with
  | false => rfl
  | true =>
    have hl' : 0 < l.length := by simp at hl; omega
    rw [Bool.true_and, decide_eq_false_iff_not]
    have hi' : ((l.length : Int) - 1).toNat < l.length := by omega
    have hm := mem_getD (d := LK.spn.dft) hi'
    have hs := h.1 _ hm
    unfold Sp at hs
    have := hi ((l.getD ((l.length : Int) - 1).toNat LK.spn.dft).to - 1) (inL_iff.2 ⟨_, hm, by omega, by omega⟩)
    omega
end Go.Proofs.Ytgobmfkffhomaaa
