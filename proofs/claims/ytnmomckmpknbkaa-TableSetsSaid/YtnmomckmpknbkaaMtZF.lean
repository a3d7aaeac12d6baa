/-
  Mt, part ZF: what a row tells of a table.
-/
import Derived.Test.YtnmomckmpknbkaaMtZA
set_option linter.unusedSimpArgs false
set_option linter.unusedVariables false
namespace Go.Mt
open Go.RowKit Go.ChangeShapes Go.WideShapes
variable {P : Program}
theorem rd_tbl {t2 t3 e : TypeId} {g : Entry → Prop} (h2 : P.underlying t2 = some (.slice t3)) (c2 : P.cellsOf t3 = 1) (h3 : P.underlying t3 = some (.slice e)) (c3 : P.cellsOf e = 5)
    (he : Rds P e 5 (fun ys => ∃ x : Entry, LK.enc .ent x = ys ∧ g x)) : Rd P t2 (fun y => ∃ l : List (List Entry), y = .lst .tbl l ∧ l.length ≤ maxLen ∧ ∀ m ∈ l, m.length ≤ maxLen ∧ ∀ x ∈ m, g x) :=
  rd_slc (k := .tbl) (g := fun m : List Entry => m.length ≤ maxLen ∧ ∀ x ∈ m, g x) h2 c2 (rds_one (rd_slc (k := .ent) h3 c3 he) (fun y ⟨l, e, h1, h2⟩ => ⟨l, by rw [e]; rfl, h1, h2⟩))
theorem rds_tblS {t t2 t3 e : TypeId} {fs : Array Field} {g : Entry → Prop} (ht : P.underlying t = some (.struct fs)) (hb : strB P t fs 1 = true) (hf : fs.toList.map (·.type) = [t2]) (h2 : P.underlying t2 = some (.slice t3)) (c2 : P.cellsOf t3 = 1)
    (h3 : P.underlying t3 = some (.slice e)) (c3 : P.cellsOf e = 5) (he : Rds P e 5 (fun ys => ∃ x : Entry, LK.enc .ent x = ys ∧ g x)) :
    Rds P t 1 (fun ys => ∃ l : List (List Entry), [PV.lst .tbl l] = ys ∧ l.length ≤ maxLen ∧ ∀ m ∈ l, m.length ≤ maxLen ∧ ∀ x ∈ m, g x) := by
  have hr := rd_tbl h2 c2 h3 c3 he
  refine (rds_struct (gs := [(t2, fun y => ∃ l : List (List Entry), y = .lst .tbl l ∧ l.length ≤ maxLen ∧ ∀ m ∈ l, m.length ≤ maxLen ∧ ∀ x ∈ m, g x)]) ht hb (rdAllF_of (by simpa using hf) (fun p hp => ?_))).imp (fun ys hy => ?_)
  · simp at hp; subst hp; exact hr
  · match ys, hy with
    | [y], ⟨⟨l, e, h1, h2⟩, _⟩ => exact ⟨l, by rw [e], h1, h2⟩
end Go.Mt
