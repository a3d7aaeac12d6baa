/-
  Mt, part W: what is known more does not turn what the evaluator says.
-/
import Derived.Test.YtnmomckmpknbkaaMtV
set_option linter.unusedSimpArgs false
set_option linter.unusedVariables false
namespace Go.Mt
open Go.RowKit

def leR (rd rd' : Operand → Option A) : Prop := ∀ o a, rd o = some a → rd' o = some a
def leF {α : Type} (f f' : Nat → Option α) : Prop := ∀ d e, f d = some e → f' d = some e
section
variable {T : Tb} {rd rd' : Operand → Option A} {H H' : Nat → Option HB} {f f' : Nat → Option Ent} {ops : List Oper}

theorem rdG_mono (h : leF f f') (Γ : List (Nat × Bool)) : leR (rdG f Γ) (rdG f' Γ) := by
  intro o a e
  cases o with
  | tmp t =>
    simp only [rdG] at e ⊢
    split at e <;> rename_i h1
    · rw [h _ _ h1]; exact e
    · rw [h _ _ h1]; exact e
    · cases e
  | _ => exact e
theorem rdP_mono (h : leF f f') (Γ : List (Nat × Bool)) (tc : Nat) (want : Bool) : leR (rdP ops f Γ tc want) (rdP ops f' Γ tc want) := by
  intro o a e
  cases o with
  | tmp t =>
    simp only [rdP] at e ⊢
    split at e <;> rename_i h1
    · rw [h _ _ h1]; exact e
    · rw [h _ _ h1]; exact e
    · cases e
  | _ => exact e
theorem rdT_mono (h : leR rd rd') (t : TypeId) : leR (rdT T t rd) (rdT T t rd') := by
  intro o a e
  unfold rdT at e ⊢
  split at e
  · exact e
  · exact e
  · exact h _ _ e
theorem optA_mono (h : leR rd rd') {o : Option Operand} {a : Option A} (e : optA rd o = some a) : optA rd' o = some a := by
  cases o with
  | none => exact e
  | some o =>
    simp only [optA] at e ⊢
    split at e
    · rename_i x hx; rw [h _ _ hx]; exact e
    · cases e
theorem rdAll_mono (h : leR rd rd') : ∀ {os : List Operand} {as : List A}, rdAll rd os = some as → rdAll rd' os = some as := by
  intro os
  induction os with
  | nil => intro as e; exact e
  | cons o os ih =>
    intro as e
    simp only [rdAll] at e ⊢
    split at e
    · rename_i x xs h1 h2; rw [h _ _ h1, ih h2]; exact e
    · cases e
theorem rdParts_mono (h : leR rd rd') : ∀ {os : List (Nat × Operand)} {as : List (Nat × A)}, rdParts T rd os = some as → rdParts T rd' os = some as := by
  intro os
  induction os with
  | nil => intro as e; exact e
  | cons o os ih =>
    intro as e
    obtain ⟨i, o⟩ := o
    simp only [rdParts] at e ⊢
    split at e
    · rename_i x xs h1 h2; rw [h _ _ h1, ih h2]; exact e
    · cases e
theorem lkOf_mono (h : leF H H') {a : A} {r} (e : lkOf H a = some r) : lkOf H' a = some r := by
  unfold lkOf at e ⊢
  split at e
  · exact e
  · exact e
  · split at e
    · rename_i h1; simp only [h _ _ h1]; exact e
    · cases e
  · cases e
theorem cnvB_mono (h : leF H H') {t : TypeId} {a : A} {r} (e : cnvB T H t a = some r) : cnvB T H' t a = some r := by
  unfold cnvB at e ⊢
  split at e
  · rename_i h1 h2; rw [lkOf_mono h h1, h2]; exact e
  · cases e

theorem leR.or (h : leR rd rd') (o : Operand) : rd o = none ∨ rd' o = rd o := by
  cases e : rd o with
  | none => exact .inl rfl
  | some a => exact .inr (h _ _ e)
theorem leH.or (h : leF H H') (n : Nat) : H n = none ∨ H' n = H n := by
  cases e : H n with
  | none => exact .inl rfl
  | some a => exact .inr (h _ _ e)
theorem lkOf_or (h : leF H H') (a : A) : lkOf H a = none ∨ lkOf H' a = lkOf H a := by
  cases e : lkOf H a with
  | none => exact .inl rfl
  | some r => exact .inr (lkOf_mono h e)
theorem rdT_or (h : leR rd rd') (t : TypeId) (o : Operand) : rdT T t rd o = none ∨ rdT T t rd' o = rdT T t rd o := (rdT_mono h t).or o
theorem optA_or (h : leR rd rd') (o : Option Operand) : optA rd o = none ∨ optA rd' o = optA rd o := by
  cases e : optA rd o with
  | none => exact .inl rfl
  | some a => exact .inr (optA_mono h e)
theorem rdAll_or (h : leR rd rd') (o : List Operand) : rdAll rd o = none ∨ rdAll rd' o = rdAll rd o := by
  cases e : rdAll rd o with
  | none => exact .inl rfl
  | some a => exact .inr (rdAll_mono h e)
theorem rdParts_or (h : leR rd rd') (o : List (Nat × Operand)) : rdParts T rd o = none ∨ rdParts T rd' o = rdParts T rd o := by
  cases e : rdParts T rd o with
  | none => exact .inl rfl
  | some a => exact .inr (rdParts_mono h e)

theorem pureOp_mono (h : leR rd rd') (hH : leF H H') {wm : Bool} {ty : TypeId} {op : Op} {r : A × Prop} (e : pureOp T H wm rd ty op = some r) : pureOp T H' wm rd' ty op = some r := by
  unfold pureOp at e
  split at e
  · rename_i x
    simp only [pureOp]; rcases rdT_or (T := T) h ty x with h1 | h1 <;> simp only [h1] at e ⊢ <;> first | exact e | cases e
  · rename_i x
    simp only [pureOp]; rcases rdT_or (T := T) h ty x with h1 | h1 <;> simp only [h1] at e ⊢ <;> first | exact e | cases e
  · rename_i op t x y _
    simp only [pureOp]
    rcases h.or x with h1 | h1
    · simp [h1] at e
    · rcases h.or y with h2 | h2
      · simp [h2] at e
      · rw [h1, h2]; exact e
  · rename_i op _ x
    simp only [pureOp]
    rcases h.or x with h1 | h1
    · simp [h1] at e
    · rw [h1]; exact e
  · rename_i src dst x
    simp only [pureOp]
    rcases h.or x with h1 | h1
    · simp [h1] at e
    · rw [h1]
      split at e
      · split at e
        · exact cnvB_mono hH e
        · cases e
      · exact e
      · cases e
  · rename_i x i
    simp only [pureOp]
    rcases h.or x with h1 | h1
    · simp [h1] at e
    · rw [h1]; exact e
  · rename_i xT x f
    simp only [pureOp]
    rcases h.or x with h1 | h1
    · simp [h1] at e
    · rw [h1]; exact e
  · rename_i sT x f
    simp only [pureOp]
    rcases h.or x with h1 | h1
    · exfalso; rw [h1] at e; (repeat' split at e) <;> simp_all
    · rw [h1]; exact e
  · rename_i t x i
    simp only [pureOp]
    rcases h.or x with h1 | h1
    · exfalso; rw [h1] at e; (repeat' split at e) <;> simp_all
    · rcases h.or i with h2 | h2
      · exfalso; rw [h2] at e; (repeat' split at e) <;> simp_all
      · rw [h1, h2]
        split at e
        · exact e
        · rename_i n v _ _ _ _ _
          rcases leH.or hH n with h3 | h3
          · rw [h3] at e; cases e
          · rw [h3]; exact e
        · cases e
  · rename_i t x
    simp only [pureOp]
    rcases h.or x with h1 | h1
    · exfalso; rw [h1] at e; simp at e
    · rw [h1]
      split at e
      · rename_i n b o _
        rcases leH.or hH n with h3 | h3
        · rw [h3] at e; cases e
        · rw [h3]; exact e
      · exact e
      · rename_i n v i sz o _
        rcases leH.or hH n with h3 | h3
        · rw [h3] at e; cases e
        · rw [h3]; exact e
      · cases e
  · rename_i t x lo hi mx
    simp only [pureOp]
    rcases h.or x with h1 | h1
    · exfalso; rw [h1] at e; (repeat' split at e) <;> simp_all
    · rcases optA_or h lo with h2 | h2
      · exfalso; rw [h2] at e; (repeat' split at e) <;> simp_all
      · rcases optA_or h hi with h3 | h3
        · exfalso; rw [h3] at e; (repeat' split at e) <;> simp_all
        · rcases optA_or h mx with h4 | h4
          · exfalso; rw [h4] at e; (repeat' split at e) <;> simp_all
          · rw [h1, h2, h3, h4]; exact e
  · rename_i t ps
    simp only [pureOp]
    rcases rdParts_or (T := T) h ps with h1 | h1
    · exfalso; rw [h1] at e; (repeat' split at e) <;> simp_all
    · rw [h1]; exact e
  · rename_i x t
    simp only [pureOp]
    rcases h.or x with h1 | h1
    · exfalso; rw [h1] at e; simp at e
    · rw [h1]
      split at e
      · exact e
      · rename_i a _ _
        rcases lkOf_or hH a with h3 | h3
        · rw [h3] at e; simp at e
        · rw [h3]; exact e
      · cases e
  · rename_i x y _
    simp only [pureOp]
    rcases h.or x with h1 | h1
    · exfalso; rw [h1] at e; simp at e
    · rcases h.or y with h2 | h2
      · exfalso; rw [h2] at e; (repeat' split at e) <;> simp_all
      · rw [h1, h2]; exact e
  · rename_i x y _
    simp only [pureOp]
    rcases h.or x with h1 | h1
    · exfalso; rw [h1] at e; simp at e
    · rcases h.or y with h2 | h2
      · exfalso; rw [h2] at e; (repeat' split at e) <;> simp_all
      · rw [h1, h2]; exact e
  · rename_i x
    simp only [pureOp]
    rcases h.or x with h1 | h1
    · exfalso; rw [h1] at e; simp at e
    · rw [h1]; exact e
  · rename_i f caps
    simp only [pureOp]
    rcases rdAll_or h caps with h1 | h1
    · exfalso; rw [h1] at e; simp at e
    · rw [h1]; exact e
  · rename_i t x i
    simp only [pureOp]
    rcases h.or x with h1 | h1
    · exfalso; rw [h1] at e; (repeat' split at e) <;> simp_all
    · rcases h.or i with h2 | h2
      · exfalso; rw [h2] at e; (repeat' split at e) <;> simp_all
      · rw [h1, h2]; exact e
  · rename_i arr x
    simp only [pureOp]
    rcases h.or x with h1 | h1
    · exfalso; rw [h1] at e; (repeat' split at e) <;> simp_all
    · rw [h1]; exact e
  · cases e
end
end Go.Mt
