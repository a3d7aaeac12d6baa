import Derived.Test.YtgobmfkffhomaaaShtU
set_option linter.unusedSimpArgs false
set_option linter.unusedVariables false
namespace Go.Proofs.Ytgobmfkffhomaaa
open Go.Mt

/-- Is a number in one of the spans? -/
def inL (l : List Span) (n : Int) : Bool := l.any (hasX n)
theorem inL_cons (x : Span) (l : List Span) (n : Int) : inL (x :: l) n = (hasX n x || inL l n) := rfl
theorem inL_app (l m : List Span) (n : Int) : inL (l ++ m) n = (inL l n || inL m n) := by simp [inL]
theorem inL_one (x : Span) (n : Int) : inL [x] n = hasX n x := by simp [inL]
theorem hasX_iff {n : Int} {x : Span} : hasX n x = true ↔ x.fr ≤ n ∧ n < x.to := by simp [hasX]
theorem hasX_iffF {n : Int} {x : Span} : hasX n x = false ↔ ¬ (x.fr ≤ n ∧ n < x.to) := by rw [← hasX_iff]; cases hasX n x <;> simp
theorem inL_iff {l : List Span} {n : Int} : inL l n = true ↔ ∃ x ∈ l, x.fr ≤ n ∧ n < x.to := by simp [inL, hasX]
theorem rightL_of {l : List Span} (h : Rt l) : rightL l = l := by simp [rightL, right_iff.2 h]
theorem hasL_of {l : List Span} (h : Rt l) (n : Int) : hasL l n = inL l n := by simp [hasL, rightL_of h, inL]
theorem countL_of {l : List Span} (h : Rt l) : countL l = cntS l := by simp [countL, rightL_of h]
theorem Rt_cons {x : Span} {l : List Span} : Rt (x :: l) ↔ Sp x ∧ (∀ b ∈ l, x.to < b.fr) ∧ Rt l := by
  simp only [Rt, List.mem_cons, List.pairwise_cons]
  constructor
  · rintro ⟨h1, h2, h3⟩; exact ⟨h1 x (.inl rfl), h2, fun y hy => h1 y (.inr hy), h3⟩
  · rintro ⟨h1, h2, h3, h4⟩; exact ⟨fun y hy => by rcases hy with rfl | hy; exact h1; exact h3 y hy, h2, h4⟩
theorem Rt_app {l m : List Span} : Rt (l ++ m) ↔ Rt l ∧ Rt m ∧ ∀ a ∈ l, ∀ b ∈ m, a.to < b.fr := by
  simp only [Rt, List.mem_append, List.pairwise_append]
  constructor
  · rintro ⟨h1, h2, h3, h4⟩; exact ⟨⟨fun y hy => h1 y (.inl hy), h2⟩, ⟨fun y hy => h1 y (.inr hy), h3⟩, h4⟩
  · rintro ⟨⟨h1, h2⟩, ⟨h3, h4⟩, h5⟩; exact ⟨fun y hy => by rcases hy with hy | hy; exact h1 y hy; exact h3 y hy, h2, h4, h5⟩

/-! ### one more -/
def AI (l : List Span) (s : Span) (st : Span × List Span × Bool) : Prop :=
  Rt st.2.1 ∧ Sp st.1 ∧ match st.2.2 with
    | false => (∀ a ∈ st.2.1, a ∈ l) ∧ (∀ a ∈ st.2.1, a.to < st.1.fr) ∧ ∀ n, (inL st.2.1 n || hasX n st.1) = (inL l n || hasX n s)
    | true => (∀ a ∈ st.2.1, ∃ b ∈ l, a.to ≤ b.to) ∧ (∃ b ∈ l, st.1.to < b.to) ∧ ∀ n, inL st.2.1 n = (inL l n || hasX n s)
theorem hasX_mix {n : Int} {s x : Span} (hs : Sp s) (hx : Sp x) (h1 : ¬ x.to < s.fr) (h2 : ¬ x.fr > s.to) : hasX n ⟨min s.fr x.fr, max s.to x.to⟩ = (hasX n s || hasX n x) := by
  unfold Sp at *
  rw [Bool.eq_iff_iff, Bool.or_eq_true, hasX_iff, hasX_iff, hasX_iff]
  dsimp only
  omega
theorem AI_all {s : Span} (hs : Sp s) : ∀ l : List Span, Rt l → AI l s (addN l s l.length) := by
  refine fun l => snoc_ind (p := fun l => Rt l → AI l s (addN l s l.length)) (fun _ => ?_) (fun l x ih hR => ?_) l
  · exact ⟨Rt.nil, hs, by simp [addN], by simp [addN], fun n => rfl⟩
  · obtain ⟨r1, r2, r3⟩ := Rt.snoc.1 hR
    rw [addN_snoc]
    have ih := ih r1
    generalize addN l s l.length = q at ih ⊢
    obtain ⟨s', out, put⟩ := q
    obtain ⟨i1, i2, i3⟩ := ih
    dsimp only at i1 i2 i3
    have r2' := r2
    have i2' := i2
    unfold Sp at r2' i2'
    have ap : ∀ n, inL (out ++ [x]) n = (inL out n || hasX n x) := fun n => by rw [inL_app, inL_one]
    have lp : ∀ n, inL (l ++ [x]) n = (inL l n || hasX n x) := fun n => by rw [inL_app, inL_one]
    cases put with
    | false =>
      obtain ⟨j1, j2, j3⟩ := i3
      cases h1 : decide (x.to < s'.fr) with
      | true =>
        have h1' := of_decide_eq_true h1
        simp only [addStep, h1]
        refine ⟨Rt.snoc.2 ⟨i1, r2, fun a ha => r3 a (j1 a ha)⟩, i2, fun a ha => ?_, fun a ha => ?_, fun n => ?_⟩
        · rcases List.mem_append.1 ha with ha | ha
          · exact List.mem_append.2 (.inl (j1 a ha))
          · exact List.mem_append.2 (.inr ha)
        · rcases List.mem_append.1 ha with ha | ha
          · exact j2 a ha
          · simp at ha; subst ha; exact h1'
        · dsimp only; rw [ap, lp]; have := j3 n; cases hasX n x <;> simp_all
      | false =>
        have h1' := of_decide_eq_false h1
        cases h2 : decide (x.fr > s'.to) with
        | true =>
          have h2' := of_decide_eq_true h2
          simp only [addStep, h1, h2]
          refine ⟨Rt.snoc.2 ⟨Rt.snoc.2 ⟨i1, i2, j2⟩, r2, fun a ha => ?_⟩, i2, fun a ha => ?_, ⟨x, by simp, by simp only; omega⟩, fun n => ?_⟩
          · rcases List.mem_append.1 ha with ha | ha
            · have := r3 a (j1 a ha); omega
            · simp at ha; subst ha; exact h2'
          · rcases List.mem_append.1 ha with ha | ha
            · refine ⟨x, by simp, ?_⟩
              rcases List.mem_append.1 ha with ha | ha
              · have := j2 a ha; omega
              · simp at ha; subst ha; omega
            · simp at ha; subst ha; exact ⟨a, by simp, by omega⟩
          · dsimp only; rw [inL_app, inL_app, inL_one, inL_one, lp]; have := j3 n; cases hasX n x <;> simp_all
        | false =>
          have h2' := of_decide_eq_false h2
          simp only [addStep, h1, h2]
          refine ⟨i1, ?_, fun a ha => List.mem_append.2 (.inl (j1 a ha)), fun a ha => ?_, fun n => ?_⟩
          · unfold Sp; dsimp only; omega
          · have q1 := j2 a ha; have q2 := r3 a (j1 a ha); dsimp only; omega
          · dsimp only; rw [lp, hasX_mix i2 r2 h1' h2', ← Bool.or_assoc, j3 n, Bool.or_assoc, Bool.or_assoc, Bool.or_comm (hasX n s)]
    | true =>
      obtain ⟨j1, ⟨b0, hb0, hb0'⟩, j3⟩ := i3
      have q := r3 b0 hb0
      have e1 : decide (x.to < s'.fr) = false := by simp; omega
      have e2 : decide (x.fr > s'.to) = true := by simp; omega
      simp only [addStep, e1, e2]
      refine ⟨Rt.snoc.2 ⟨i1, r2, fun a ha => ?_⟩, i2, fun a ha => ?_, ⟨x, by simp, by simp only; omega⟩, fun n => ?_⟩
      · obtain ⟨b, hb, hb'⟩ := j1 a ha; have := r3 b hb; omega
      · rcases List.mem_append.1 ha with ha | ha
        · obtain ⟨b, hb, hb'⟩ := j1 a ha; exact ⟨b, List.mem_append.2 (.inl hb), hb'⟩
        · simp at ha; subst ha; exact ⟨a, by simp, by omega⟩
      · dsimp only; rw [ap, lp, j3 n]; cases inL l n <;> cases hasX n x <;> cases hasX n s <;> rfl
theorem addL_set {l : List Span} {s : Span} (hR : Rt l) (hs : Sp s) : Rt (addL l s) ∧ ∀ n, inL (addL l s) n = (inL l n || hasX n s) := by
  have hA := AI_all hs l hR
  unfold addL
  rw [mayB_iff.2 hs, rightL_of hR]
  dsimp only
  generalize addN l s l.length = q at hA ⊢
  obtain ⟨s', out, put⟩ := q
  obtain ⟨i1, i2, i3⟩ := hA
  cases put with
  | false =>
    obtain ⟨j1, j2, j3⟩ := i3
    exact ⟨Rt.snoc.2 ⟨i1, i2, j2⟩, fun n => by rw [inL_app, inL_one]; exact j3 n⟩
  | true => exact ⟨i1, i3.2.2⟩
theorem addL_not {l : List Span} {s : Span} (hR : Rt l) (hs : ¬ Sp s) : addL l s = l := by
  have : mayB s.fr s.to = false := by
    cases h : mayB s.fr s.to with
    | false => rfl
    | true => exact absurd (mayB_iff.1 h) hs
  simp only [addL, this, rightL_of hR]

/-! ### one less -/
theorem subX_set {s x : Span} (hs : Sp s) (hx : Sp x) : Rt (subX s x) ∧ (∀ a ∈ subX s x, x.fr ≤ a.fr ∧ a.to ≤ x.to) ∧ ∀ n, inL (subX s x) n = (hasX n x && !hasX n s) := by
  have hs' := hs; have hx' := hx
  unfold Sp at hs' hx'
  have sem : ∀ n (q : Bool), (q = true ↔ (x.fr ≤ n ∧ n < x.to) ∧ ¬ (s.fr ≤ n ∧ n < s.to)) → q = (hasX n x && !hasX n s) := by
    intro n q h
    rw [Bool.eq_iff_iff, h, Bool.and_eq_true, hasX_iff, Bool.not_eq_true', hasX_iffF]
  cases h1 : decide (x.fr < s.fr) with
  | true =>
    have h1' := of_decide_eq_true h1
    cases h2 : decide (x.to > s.to) with
    | true =>
      have h2' := of_decide_eq_true h2
      have e : subX s x = [⟨x.fr, min x.to s.fr⟩, ⟨max x.fr s.to, x.to⟩] := by simp only [subX, h1, h2]; rfl
      rw [e]
      refine ⟨Rt_cons.2 ⟨by unfold Sp; dsimp only; omega, fun b hb => ?_, Rt_cons.2 ⟨by unfold Sp; dsimp only; omega, by simp, Rt.nil⟩⟩, fun a ha => ?_, fun n => sem n _ ?_⟩
      · simp at hb; subst hb; dsimp only; omega
      · simp at ha; rcases ha with rfl | rfl <;> dsimp only <;> omega
      · rw [inL_cons, inL_one, Bool.or_eq_true, hasX_iff, hasX_iff]; dsimp only; omega
    | false =>
      have h2' := of_decide_eq_false h2
      have e : subX s x = [⟨x.fr, min x.to s.fr⟩] := by simp only [subX, h1, h2]; rfl
      rw [e]
      refine ⟨Rt_cons.2 ⟨by unfold Sp; dsimp only; omega, by simp, Rt.nil⟩, fun a ha => ?_, fun n => sem n _ ?_⟩
      · simp at ha; subst ha; dsimp only; omega
      · rw [inL_one, hasX_iff]; dsimp only; omega
  | false =>
    have h1' := of_decide_eq_false h1
    cases h2 : decide (x.to > s.to) with
    | true =>
      have h2' := of_decide_eq_true h2
      have e : subX s x = [⟨max x.fr s.to, x.to⟩] := by simp only [subX, h1, h2]; rfl
      rw [e]
      refine ⟨Rt_cons.2 ⟨by unfold Sp; dsimp only; omega, by simp, Rt.nil⟩, fun a ha => ?_, fun n => sem n _ ?_⟩
      · simp at ha; subst ha; dsimp only; omega
      · rw [inL_one, hasX_iff]; dsimp only; omega
    | false =>
      have h2' := of_decide_eq_false h2
      have e : subX s x = [] := by simp only [subX, h1, h2]; rfl
      rw [e]
      refine ⟨Rt.nil, by simp, fun n => sem n _ ?_⟩
      simp only [inL, List.any_nil]
      constructor
      · intro h; cases h
      · intro h; omega
theorem flat_set {s : Span} (hs : Sp s) : ∀ l : List Span, Rt l → Rt (l.flatMap (subX s)) ∧ (∀ a ∈ l.flatMap (subX s), ∃ x ∈ l, x.fr ≤ a.fr ∧ a.to ≤ x.to) ∧ ∀ n, inL (l.flatMap (subX s)) n = (inL l n && !hasX n s) := by
  intro l
  induction l with
  | nil => intro _; exact ⟨Rt.nil, by simp, fun n => rfl⟩
  | cons x t ih =>
    intro hR
    obtain ⟨r1, r2, r3⟩ := Rt_cons.1 hR
    obtain ⟨i1, i2, i3⟩ := ih r3
    obtain ⟨k1, k2, k3⟩ := subX_set hs r1
    rw [List.flatMap_cons]
    refine ⟨Rt_app.2 ⟨k1, i1, fun a ha b hb => ?_⟩, fun a ha => ?_, fun n => ?_⟩
    · obtain ⟨y, hy, hy1, hy2⟩ := i2 b hb
      have := r2 y hy; have := k2 a ha; omega
    · rcases List.mem_append.1 ha with ha | ha
      · exact ⟨x, by simp, k2 a ha⟩
      · obtain ⟨y, hy, h⟩ := i2 a ha; exact ⟨y, by simp [hy], h⟩
    · rw [inL_app, k3, i3, inL_cons]; cases hasX n x <;> cases hasX n s <;> cases inL t n <;> rfl
theorem subL_set {l : List Span} {s : Span} (hR : Rt l) (hs : Sp s) : Rt (subL l s) ∧ ∀ n, inL (subL l s) n = (inL l n && !hasX n s) := by
  have := flat_set hs l hR
  unfold subL
  rw [mayB_iff.2 hs, rightL_of hR]
  exact ⟨this.1, this.2.2⟩
theorem subL_not {l : List Span} {s : Span} (hR : Rt l) (hs : ¬ Sp s) : subL l s = l := by
  have : mayB s.fr s.to = false := by
    cases h : mayB s.fr s.to with
    | false => rfl
    | true => exact absurd (mayB_iff.1 h) hs
  simp only [subL, this, rightL_of hR]

/-! ### one list of a set -/
theorem Rt_low {x : Span} {l : List Span} (h : Rt (x :: l)) {n : Int} (hn : inL (x :: l) n = true) : x.fr ≤ n := by
  obtain ⟨r1, r2, r3⟩ := Rt_cons.1 h
  obtain ⟨y, hy, h1, h2⟩ := inL_iff.1 hn
  unfold Sp at r1
  rcases List.mem_cons.1 hy with rfl | hy
  · exact h1
  · have := r2 y hy; omega
theorem Rt_tail {x : Span} {l : List Span} (h : Rt (x :: l)) (n : Int) : inL l n = (inL (x :: l) n && decide (x.to < n)) := by
  obtain ⟨r1, r2, r3⟩ := Rt_cons.1 h
  rw [Bool.eq_iff_iff, Bool.and_eq_true, decide_eq_true_eq, inL_cons, Bool.or_eq_true]
  constructor
  · intro hn
    obtain ⟨y, hy, h1, h2⟩ := inL_iff.1 hn
    exact ⟨.inr hn, by have := r2 y hy; omega⟩
  · rintro ⟨h1 | h1, h2⟩
    · rw [hasX_iff] at h1; omega
    · exact h1
theorem Rt_edge {x : Span} {l : List Span} (h : Rt (x :: l)) : inL (x :: l) x.to = false := by
  obtain ⟨r1, r2, r3⟩ := Rt_cons.1 h
  cases hq : inL (x :: l) x.to with
  | false => rfl
  | true =>
    obtain ⟨y, hy, h1, h2⟩ := inL_iff.1 hq
    rcases List.mem_cons.1 hy with rfl | hy
    · omega
    · have := r2 y hy; omega
theorem inL_head {x : Span} {l : List Span} {n : Int} (h1 : x.fr ≤ n) (h2 : n < x.to) : inL (x :: l) n = true := inL_iff.2 ⟨x, by simp, h1, h2⟩
theorem Rt_ext : ∀ {l m : List Span}, Rt l → Rt m → (∀ n, inL l n = inL m n) → l = m := by
  intro l
  induction l with
  | nil =>
    intro m _ hm h
    cases m with
    | nil => rfl
    | cons y t =>
      have := (Rt_cons.1 hm).1
      unfold Sp at this
      have e := h y.fr
      rw [inL_head (Int.le_refl _) this.2.1] at e
      cases e
  | cons x l ih =>
    intro m hl hm h
    have hx := (Rt_cons.1 hl).1
    unfold Sp at hx
    cases m with
    | nil =>
      have e := h x.fr
      rw [inL_head (Int.le_refl _) hx.2.1] at e
      cases e
    | cons y t =>
      have hy := (Rt_cons.1 hm).1
      unfold Sp at hy
      have e1 : x.fr = y.fr := by
        have a1 : y.fr ≤ x.fr := Rt_low hm (by rw [← h]; exact inL_head (Int.le_refl _) hx.2.1)
        have a2 : x.fr ≤ y.fr := Rt_low hl (by rw [h]; exact inL_head (Int.le_refl _) hy.2.1)
        omega
      have e2 : x.to = y.to := by
        by_cases c1 : x.to < y.to
        · have a1 := Rt_edge hl
          rw [h, inL_head (by omega) c1] at a1; cases a1
        · by_cases c2 : y.to < x.to
          · have a1 := Rt_edge hm
            rw [← h, inL_head (by omega) c2] at a1; cases a1
          · omega
      have e3 : x = y := by cases x; cases y; simp_all
      subst e3
      congr 1
      exact ih (Rt_cons.1 hl).2.2 (Rt_cons.1 hm).2.2 (fun n => by rw [Rt_tail hl, Rt_tail hm, h])

/-! ### how many -/
end Go.Proofs.Ytgobmfkffhomaaa
