/-
  Mt, part T: a table of types held against a program's.
-/
import Derived.Test.YtnmomckmpknbkaaMtS
set_option linter.unusedSimpArgs false
set_option linter.unusedVariables false
namespace Go.Mt
open Go.RowKit

def zeroOk : List C → List Value → Bool
  | [], [] => true
  | .pv (.val (.int k n)) :: xs, .int k' m :: vs => ikeq k k' && decide (n = m) && zeroOk xs vs
  | .pv (.val (.bool a)) :: xs, .bool b :: vs => beqB a b && zeroOk xs vs
  | .pv (.val (.string ⟨⟨[]⟩⟩)) :: xs, .string ⟨⟨[]⟩⟩ :: vs => zeroOk xs vs
  | .pv (.nil _) :: xs, .slice none 0 0 :: vs => zeroOk xs vs
  | .pv (.val (.pointer none)) :: xs, .pointer none :: vs => zeroOk xs vs
  | .pv (.val .nilFunc) :: xs, .nilFunc :: vs => zeroOk xs vs
  | .pv (.val .nilIface) :: xs, .nilIface :: vs => zeroOk xs vs
  | _, _ => false
def aggD : Option TypeDesc → Bool
  | some (.struct _) | some (.array _ _) => true
  | _ => false
def fieldsOk (P : Program) : List Field → List (Nat × Nat × Bool) → Bool
  | [], [] => true
  | f :: fs, (o, s, b) :: xs => Nat.beq f.offset o && (match P.info? f.type with | some i => Nat.beq i.size s | none => false) && (P.underlying f.type).isSome && beqB (aggD (P.underlying f.type)) b && fieldsOk P fs xs
  | _, _ => false
def kindOk (P : Program) (t : TypeId) : TK → Bool
  | .int k => match P.underlying t with | some (.int k') => ikeq k k' | _ => false
  | .bool => match P.underlying t with | some .bool => true | _ => false
  | .str => match P.underlying t with | some .string => true | _ => false
  | .slc e k => match P.underlying t with | some (.slice e') => Nat.beq e e' && (match P.info? e with | some i => Nat.beq i.size k.sz | none => false) | _ => false
  | .ptr e => match P.underlying t with | some (.pointer e') => Nat.beq e e' | _ => false
  | .strct fs => match P.underlying t with | some (.struct fields) => fieldsOk P fields.toList fs | _ => false
  | .arr n e => match P.underlying t with | some (.array n' e') => Nat.beq n n' && Nat.beq e e' && (P.info? e).isSome | _ => false
  | .other => match P.underlying t with | some (.struct _) | some (.array _ _) | none => false | _ => true
def tyOk (P : Program) (t : TypeId) (i : TI) : Bool :=
  (match P.info? t with
    | some inf => Nat.beq inf.size i.size && Nat.beq inf.bytes i.bytes && (match inf.zero with | some z => Nat.beq z.cells.size i.size && zeroOk i.zero z.cells.toList | none => false)
    | none => false) && kindOk P t i.kind && ((!eqab i.kind i.zero) || eqOk P t i.zero)
def tbOk (P : Program) (l : List (Option TI)) : Nat → Bool
  | 0 => true
  | n + 1 => (match nth l n with
    | some (some i) => tyOk P n i
    | _ => true) && tbOk P l n
/-- The table off a list. -/
def tbl (l : List (Option TI)) : Tb := fun t => match nth l t with
  | some (some i) => some i
  | _ => none

section
variable {P : Program}
theorem zeroOk_ok (M : Mem) : ∀ {xs : List C} {vs : List Value}, zeroOk xs vs = true → RCs M xs vs := by
  have cons : ∀ {x : C} {v : Value} {xs : List C} {vs : List Value}, RC M x v → RCs M xs vs → RCs M (x :: xs) (v :: vs) := by
    intro x v xs vs h1 h2
    refine ⟨by simp [h2.1], fun j c u a b => ?_⟩
    cases j with
    | zero => simp at a b; subst a b; exact h1
    | succ j => exact h2.2 j c u (by simpa using a) (by simpa using b)
  intro xs vs
  fun_induction zeroOk xs vs with
  | case1 => intro _; exact ⟨rfl, by simp⟩
  | case2 k n xs k' m vs ih =>
    intro h
    simp only [Bool.and_eq_true, decide_eq_true_eq] at h
    obtain ⟨⟨h1, h2⟩, h3⟩ := h
    have := ikeq_eq h1; subst this; subst h2
    exact cons (.pv (.val rfl)) (ih h3)
  | case3 a xs b vs ih =>
    intro h
    simp only [Bool.and_eq_true] at h
    have := beqB_eq h.1; subst this
    exact cons (.pv (.val rfl)) (ih h.2)
  | case4 xs vs ih => intro h; exact cons (.pv (.val rfl)) (ih h)
  | case5 k xs vs ih => intro h; exact cons (.pv .nil) (ih h)
  | case6 xs vs ih => intro h; exact cons (.pv (.val rfl)) (ih h)
  | case7 xs vs ih => intro h; exact cons (.pv (.val rfl)) (ih h)
  | case8 xs vs ih => intro h; exact cons (.pv (.val rfl)) (ih h)
  | case9 => intro h; simp at h

theorem fieldsOk_ok : ∀ {fs : List Field} {xs : List (Nat × Nat × Bool)}, fieldsOk P fs xs = true → fs.length = xs.length ∧
    ∀ (j : Nat) (f : Field) (x : Nat × Nat × Bool), fs[j]? = some f → xs[j]? = some x → f.offset = x.1 ∧ (∃ inf d, P.info? f.type = some inf ∧ inf.size = x.2.1 ∧ P.underlying f.type = some d ∧ (match d with | .struct _ | .array _ _ => true | _ => false) = x.2.2) := by
  intro fs
  induction fs with
  | nil => intro xs h; cases xs with
    | nil => exact ⟨rfl, by simp⟩
    | cons => simp [fieldsOk] at h
  | cons f fs ih =>
    intro xs h
    cases xs with
    | nil => simp [fieldsOk] at h
    | cons x xs =>
      obtain ⟨o, s, b⟩ := x
      simp only [fieldsOk, Bool.and_eq_true, Nat.beq_eq] at h
      obtain ⟨⟨⟨⟨h1, h2⟩, h3⟩, h4⟩, h5⟩ := h
      obtain ⟨i1, i2⟩ := ih h5
      refine ⟨by simp [i1], fun j g y a c => ?_⟩
      cases j with
      | zero =>
        simp at a c; subst a c
        cases hi : P.info? f.type with
        | none => simp [hi] at h2
        | some inf =>
          simp only [hi, Nat.beq_eq] at h2
          cases hd : P.underlying f.type with
          | none => simp [hd] at h3
          | some d =>
            rw [hd] at h4
            have := beqB_eq h4
            refine ⟨h1, inf, d, rfl, h2, rfl, ?_⟩
            simp only; rw [← this]
            cases d <;> rfl
      | succ j => exact i2 j g y (by simpa using a) (by simpa using c)

theorem tyOk_ok {t : TypeId} {i : TI} (h : tyOk P t i = true) : TyOk P t i := by
  unfold tyOk at h
  rw [Bool.and_eq_true, Bool.and_eq_true] at h
  obtain ⟨⟨h1, h2⟩, h3⟩ := h
  refine ⟨fun hab => by rw [hab] at h3; simpa using h3, ?_, ?_⟩
  · cases hi : P.info? t with
    | none => simp [hi] at h1
    | some inf =>
      simp only [hi, Bool.and_eq_true, Nat.beq_eq] at h1
      obtain ⟨⟨g1, g2⟩, g3⟩ := h1
      cases hz : inf.zero with
      | none => simp [hz] at g3
      | some z =>
        simp only [hz, Bool.and_eq_true, Nat.beq_eq] at g3
        exact ⟨inf, z, rfl, g1, g2, hz, g3.1, fun M => zeroOk_ok M g3.2⟩
  · cases hk : i.kind with
    | int k =>
      rw [hk] at h2; simp only [kindOk] at h2
      split at h2
      · rename_i hu; rw [ikeq_eq h2]; exact hu
      · cases h2
    | bool =>
      rw [hk] at h2; simp only [kindOk] at h2
      split at h2
      · rename_i hu; exact hu
      · cases h2
    | str =>
      rw [hk] at h2; simp only [kindOk] at h2
      split at h2
      · rename_i hu; exact hu
      · cases h2
    | slc e k =>
      rw [hk] at h2; simp only [kindOk] at h2
      split at h2
      · rename_i e' hu
        simp only [Bool.and_eq_true, Nat.beq_eq] at h2
        obtain ⟨rfl, h3⟩ := h2
        cases hi : P.info? e with
        | none => simp [hi] at h3
        | some inf => simp only [hi, Nat.beq_eq] at h3; exact ⟨hu, inf, hi, h3⟩
      · cases h2
    | ptr e =>
      rw [hk] at h2; simp only [kindOk] at h2
      split at h2
      · rename_i e' hu; rw [Nat.beq_eq] at h2; subst h2; exact hu
      · cases h2
    | strct fs =>
      rw [hk] at h2; simp only [kindOk] at h2
      split at h2
      · rename_i fields hu
        obtain ⟨g1, g2⟩ := fieldsOk_ok h2
        exact ⟨fields, hu, by simpa using g1, fun j f x a b => g2 j f x (by simpa using a) b⟩
      · cases h2
    | arr n e =>
      rw [hk] at h2; simp only [kindOk] at h2
      split at h2
      · rename_i n' e' hu
        simp only [Bool.and_eq_true, Nat.beq_eq] at h2
        obtain ⟨⟨rfl, rfl⟩, h3⟩ := h2
        refine ⟨hu, ?_⟩
        cases hi : P.info? e with
        | none => simp [hi] at h3
        | some inf => exact ⟨inf, rfl⟩
      · cases h2
    | other =>
      rw [hk] at h2; simp only [kindOk] at h2
      show (match P.underlying t with | some (.struct _) | some (.array _ _) | none => false | _ => true) = true
      cases hd : P.underlying t with
      | none => simp [hd] at h2
      | some d => cases d <;> simp [hd] at h2 ⊢

theorem tbOk_ok {l : List (Option TI)} : ∀ {n : Nat}, tbOk P l n = true → ∀ t, t < n → ∀ i, tbl l t = some i → TyOk P t i := by
  intro n
  induction n with
  | zero => intro _ t ht; omega
  | succ n ih =>
    intro h t ht i hi
    simp only [tbOk, Bool.and_eq_true] at h
    rcases Nat.lt_or_ge t n with hlt | hge
    · exact ih h.2 t hlt i hi
    · obtain rfl : t = n := by omega
      simp only [tbl] at hi
      split at hi
      · rename_i j hj; cases hi
        have := h.1; rw [hj] at this
        exact tyOk_ok this
      · cases hi

theorem tbl_ok {l : List (Option TI)} (h : tbOk P l (len l) = true) : TbOk P (tbl l) := by
  intro t i hi
  refine tbOk_ok h t ?_ i hi
  simp only [tbl] at hi
  split at hi
  · rename_i j hj
    rw [nth_eq] at hj
    rw [len_eq]; exact (List.getElem?_eq_some_iff.1 hj).1
  · cases hi
end
end Go.Mt
