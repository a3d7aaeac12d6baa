import Derived.Test.YtgobmfkffhomaaaTb
import Derived.Test.YtgobmfkffhomaaaMtQ4
set_option linter.unusedSimpArgs false
set_option linter.unusedVariables false
namespace Go.Proofs.Ytgobmfkffhomaaa
open Go.Mt

def mayB (f t : Int) : Bool := decide (0 ≤ f) && decide (f < t) && decide (t ≤ 1073741824)

def okAt (l : List Span) (i : Nat) : Bool := mayB (l.getD i ⟨0, 0⟩).fr (l.getD i ⟨0, 0⟩).to && (decide (i = 0) || decide ((l.getD (i - 1) ⟨0, 0⟩).to < (l.getD i ⟨0, 0⟩).fr))
def rightN (l : List Span) : Nat → Bool
  | 0 => true
  | k + 1 => rightN l k && okAt l k
def rightB (l : List Span) : Bool := rightN l l.length
theorem rightN_false {l : List Span} {i j : Nat} (h : rightN l i = false) (hij : i ≤ j) : rightN l j = false := by
  induction j with
  | zero => have : i = 0 := by omega
            subst this; exact h
  | succ j ih =>
    by_cases hi : i = j + 1
    · subst hi; exact h
    · simp [rightN, ih (by omega)]

theorem ok_cond (l : List Span) (x : Nat) : ((!mayB (l.getD x ⟨0, 0⟩).fr (l.getD x ⟨0, 0⟩).to) || (decide ((x : Int) > 0) && decide ((l.getD x ⟨0, 0⟩).fr ≤ (l.getD ((x : Int) - 1).toNat ⟨0, 0⟩).to))) = !okAt l x := by
  have e1 : ((x : Int) - 1).toNat = x - 1 := by omega
  rw [e1]
  by_cases h0 : x = 0
  · subst h0; simp [okAt]
  · have : decide ((x : Int) > 0) = true := by simp; omega
    rw [this]
    simp [okAt, h0]
    rw [← decide_not]; simp

def rightL (l : List Span) : List Span := if rightB l then l else []
/-- The document's 'Add': one round. -/
def addStep (st : Span × List Span × Bool) (x : Span) : Span × List Span × Bool :=
  match decide (x.to < st.1.fr) with
  | true => (st.1, st.2.1 ++ [x], st.2.2)
  | false => match decide (x.fr > st.1.to) with
    | true => (st.1, (match st.2.2 with | true => st.2.1 | false => st.2.1 ++ [st.1]) ++ [x], true)
    | false => (⟨min st.1.fr x.fr, max st.1.to x.to⟩, st.2.1, st.2.2)
def addN (l : List Span) (s : Span) : Nat → Span × List Span × Bool
  | 0 => (s, [], false)
  | k + 1 => addStep (addN l s k) (l.getD k ⟨0, 0⟩)
def addL (l : List Span) (s : Span) : List Span := match mayB s.fr s.to with
  | true => match addN (rightL l) s (rightL l).length with
    | (_, out, true) => out
    | (s', out, false) => out ++ [s']
  | false => rightL l


theorem snoc_ind {α : Type} {p : List α → Prop} (h0 : p []) (h1 : ∀ l x, p l → p (l ++ [x])) : ∀ l, p l := by
  intro l
  rw [← List.reverse_reverse l]
  induction l.reverse with
  | nil => exact h0
  | cons x t ih => rw [List.reverse_cons]; exact h1 _ _ ih
theorem getD_left {α : Type} (l m : List α) {i : Nat} (d : α) (h : i < l.length) : (l ++ m).getD i d = l.getD i d := by
  simp [List.getD, List.getElem?_append_left h]
theorem getD_right {α : Type} (l m : List α) (i : Nat) (d : α) : (l ++ m).getD (l.length + i) d = m.getD i d := by
  simp [List.getD, List.getElem?_append_right]
def Sp (x : Span) : Prop := 0 ≤ x.fr ∧ x.fr < x.to ∧ x.to ≤ 1073741824
theorem mayB_iff {x : Span} : mayB x.fr x.to = true ↔ Sp x := by simp [mayB, Sp, and_assoc]
/-- Right: apart and in order. -/
def Rt (l : List Span) : Prop := (∀ x ∈ l, Sp x) ∧ l.Pairwise (fun x y => x.to < y.fr)
theorem Rt.nil : Rt [] := ⟨by simp, List.Pairwise.nil⟩
theorem Rt.snoc {l : List Span} {x : Span} : Rt (l ++ [x]) ↔ Rt l ∧ Sp x ∧ ∀ a ∈ l, a.to < x.fr := by
  simp only [Rt, List.pairwise_append, List.mem_append, List.mem_singleton, List.pairwise_singleton]
  constructor
  · rintro ⟨h1, h2, _, h3⟩
    exact ⟨⟨fun y hy => h1 y (.inl hy), h2⟩, h1 x (.inr rfl), fun a ha => h3 a ha x rfl⟩
  · rintro ⟨⟨h1, h2⟩, h3, h4⟩
    exact ⟨fun y hy => by rcases hy with hy | rfl; exact h1 y hy; exact h3, h2, trivial, fun a ha b hb => by subst hb; exact h4 a ha⟩
theorem rightN_app (l m : List Span) : ∀ j, j ≤ l.length → rightN (l ++ m) j = rightN l j := by
  intro j
  induction j with
  | zero => intro _; rfl
  | succ j ih =>
    intro hj
    have h1 : okAt (l ++ m) j = okAt l j := by
      simp only [okAt, getD_left l m (⟨0, 0⟩ : Span) (show j < l.length by omega), getD_left l m (⟨0, 0⟩ : Span) (show j - 1 < l.length by omega)]
    simp only [rightN, ih (by omega), h1]
theorem right_iff : ∀ {l : List Span}, rightB l = true ↔ Rt l := by
  refine fun {l} => snoc_ind (p := fun l => rightB l = true ↔ Rt l) ?_ ?_ l
  · exact ⟨fun _ => Rt.nil, fun _ => rfl⟩
  · intro l x ih
    have e1 : rightB (l ++ [x]) = (rightB l && okAt (l ++ [x]) l.length) := by
      simp only [rightB, List.length_append, List.length_singleton, rightN, rightN_app l [x] l.length (Nat.le_refl _)]
    have e2 : (l ++ [x]).getD l.length ⟨0, 0⟩ = x := by simp [List.getD]
    rw [e1, Rt.snoc, Bool.and_eq_true, ih]
    refine and_congr_right fun hR => ?_
    simp only [okAt, e2, Bool.and_eq_true, Bool.or_eq_true, decide_eq_true_eq, mayB_iff]
    refine and_congr_right fun hx => ?_
    rcases List.eq_nil_or_concat l with rfl | ⟨m, y, rfl⟩
    · simp
    · rw [List.concat_eq_append] at *
      have e3 : (m ++ [y] ++ [x]).getD ((m ++ [y]).length - 1) ⟨0, 0⟩ = y := by simp [List.getD]
      rw [e3]
      obtain ⟨r1, r2, r3⟩ := Rt.snoc.1 hR
      have hy : y.fr < y.to := r2.2.1
      constructor
      · intro h a ha
        have h' : y.to < x.fr := by rcases h with h | h; simp at h; exact h
        rcases List.mem_append.1 ha with ha | ha
        · have := r3 a ha; omega
        · simp at ha; subst ha; exact h'
      · intro h; exact .inr (h y (by simp))
theorem addN_app (l m : List Span) (s : Span) : ∀ j, j ≤ l.length → addN (l ++ m) s j = addN l s j := by
  intro j
  induction j with
  | zero => intro _; rfl
  | succ j ih => intro hj; simp only [addN, ih (by omega), getD_left l m (⟨0, 0⟩ : Span) (show j < l.length by omega)]
theorem addN_snoc (l : List Span) (x s : Span) : addN (l ++ [x]) s (l ++ [x]).length = addStep (addN l s l.length) x := by
  simp only [List.length_append, List.length_singleton, addN, addN_app l [x] s l.length (Nat.le_refl _)]
  congr 1; simp [List.getD]
theorem addN_low : ∀ (l : List Span) (s : Span), (∀ x ∈ l, x.to < s.fr) → addN l s l.length = (s, l, false) := by
  intro l s
  refine snoc_ind (p := fun l => (∀ x ∈ l, x.to < s.fr) → addN l s l.length = (s, l, false)) (fun _ => rfl) (fun l x ih h => ?_) l
  rw [addN_snoc, ih (fun y hy => h y (by simp [hy]))]
  simp [addStep, h x (by simp)]
end Go.Proofs.Ytgobmfkffhomaaa
