/-
  Mt, part U: contracts gathered.
-/
import Derived.Test.YtnmomckmpknbkaaMtT
set_option linter.unusedSimpArgs false
set_option linter.unusedVariables false
namespace Go.Mt
theorem u8_in64 (b : UInt8) : ((b.toNat : Nat) : Int) ≤ 18446744073709551615 := by have := b.toNat_lt; omega
theorem u8_in63 (b : UInt8) : ((b.toNat : Nat) : Int) ≤ 9223372036854775807 := by have := b.toNat_lt; omega
def psiNil : FuncId → Option FSpec := fun _ => none
def psiCons (k : Nat) (s : FSpec) (r : FuncId → Option FSpec) : FuncId → Option FSpec := fun f => match Nat.beq f k with
  | true => some s
  | false => r f
def pspNil : FuncId → Option (TypeId × PSpec) := fun _ => none
def pspCons (k : Nat) (t : TypeId) (s : PSpec) (r : FuncId → Option (TypeId × PSpec)) : FuncId → Option (TypeId × PSpec) := fun f => match Nat.beq f k with
  | true => some (t, s)
  | false => r f
abbrev PsiFn (P : Program) (Ψ : FuncId → Option FSpec) : Prop := ∀ f s, Ψ f = some s → SpecOk P f s
abbrev PsiPt (P : Program) (Ψ : FuncId → Option (TypeId × PSpec)) : Prop := ∀ f ty s, Ψ f = some (ty, s) → PSpecOk P f ty s
variable {P : Program}
theorem psiNil_ok : PsiFn P psiNil := fun f s h => by cases h
theorem pspNil_ok : PsiPt P pspNil := fun f t s h => by cases h
theorem psiCons_ok {k : Nat} {s : FSpec} {r : FuncId → Option FSpec} (h : SpecOk P k s) (hr : PsiFn P r) : PsiFn P (psiCons k s r) := by
  intro f s' e
  unfold psiCons at e
  split at e
  · rename_i hb; rw [Nat.beq_eq] at hb; subst hb; cases e; exact h
  · exact hr f s' e
theorem pspCons_ok {k : Nat} {t : TypeId} {s : PSpec} {r : FuncId → Option (TypeId × PSpec)} (h : PSpecOk P k t s) (hr : PsiPt P r) : PsiPt P (pspCons k t s r) := by
  intro f t' s' e
  unfold pspCons at e
  split at e
  · rename_i hb; rw [Nat.beq_eq] at hb; subst hb; cases e; exact h
  · exact hr f t' s' e
end Go.Mt
