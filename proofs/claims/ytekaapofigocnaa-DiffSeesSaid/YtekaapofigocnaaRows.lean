/-
  No cell of these rows narrows 'for every input' (looked for: loops, veiled, ifaces, maps, wideKeys, modest, calm, conditions, laid).
  DERIVED. THE GIVEN ROWS OF THIS SEAT. 6 by the template 'for every input the law returns true; each argument reads behind the call as it read before'; 0 by the template 'total and deterministic' (their statements: YtekaapofigocnaaTotals.lean).
  GIVEN WITH THE SEED: the statements are not yours to turn. If you find one false, say at which input.
  Laid BY PROGRAM, IN A SANDBOX (cutbox-rows.mjs): the forced cells as the released guide's own fill.sh prints them over the translation 2f4d9d656b1ddca3… (all of the seat's roots in one cut). By AI agents, Wed Nov 11 2026. No macro, syntax, notation, axiom, sorry.
-/
import Derived.Test.YtekaapofigocnaaChecked
import GoSem.Claim
import GoSem.ClaimJoined
import GoSem.ClaimMapViews
import Derived.JoinedTies
import Derived.KernelRfl
namespace Go.Proofs.Ytekaapofigocnaa
/- THE CELL 'sum', in the pinned program and in every row, IS THE sha256 OF THE DUMP (.gsa) THAT YtekaapofigocnaaProg.lean LOADS. Nothing in Lean hashes anything: it is a label: what it is worth is what the hold of that sum in a sandbox is worth. -/
noncomputable def Try.pinned : Pinned := { name := "ytekaapofigocnaa", sum := "2f4d9d656b1ddca3f3962db38eb04e50f78f35d301416a8f524150279726c894", checked := Try.checked }
namespace Rows
def none {H : Type} : Left H := { results := [], args := [] }

/-- 'matryoshkalaw24.DiffOfs': WHATEVER THE INPUT: true; the input reads as it did. -/
def diffOfsSpec : ChangeSpec := { name := "diffOfs", fn := fun _ => fun
  | [d1, d2, d3] => { results := [.lit (.bool true)], args := [d1, d2, d3] }
  | _ => none }
def diffOfsRow : OpenClaim := { program := "ytekaapofigocnaa", sum := "2f4d9d656b1ddca3f3962db38eb04e50f78f35d301416a8f524150279726c894", func := "matryoshka/matryoshkalaw24.DiffOfs", spec := "diffOfs", apart := false }
def DiffOfsSaid : Prop := diffOfsRow.holds Try.pinned (OpenSpec.ofChange diffOfsSpec)

/-- ITS FALSE NEIGHBOUR: 'it returns false'. Refute it at one input. -/
def diffOfsWrong : ChangeSpec := { name := "diffOfs", fn := fun _ => fun
  | [d1, d2, d3] => { results := [.lit (.bool false)], args := [d1, d2, d3] }
  | _ => none }
def DiffOfsWrongFalsely : Prop := diffOfsRow.holds Try.pinned (OpenSpec.ofChange diffOfsWrong)

/-- 'matryoshkalaw24.DiffTurns': WHATEVER THE INPUT: true; the input reads as it did. -/
def diffTurnsSpec : ChangeSpec := { name := "diffTurns", fn := fun _ => fun
  | [d1, d2, d3] => { results := [.lit (.bool true)], args := [d1, d2, d3] }
  | _ => none }
def diffTurnsRow : OpenClaim := { program := "ytekaapofigocnaa", sum := "2f4d9d656b1ddca3f3962db38eb04e50f78f35d301416a8f524150279726c894", func := "matryoshka/matryoshkalaw24.DiffTurns", spec := "diffTurns", apart := false }
def DiffTurnsSaid : Prop := diffTurnsRow.holds Try.pinned (OpenSpec.ofChange diffTurnsSpec)

/-- ITS FALSE NEIGHBOUR: 'it returns false'. Refute it at one input. -/
def diffTurnsWrong : ChangeSpec := { name := "diffTurns", fn := fun _ => fun
  | [d1, d2, d3] => { results := [.lit (.bool false)], args := [d1, d2, d3] }
  | _ => none }
def DiffTurnsWrongFalsely : Prop := diffTurnsRow.holds Try.pinned (OpenSpec.ofChange diffTurnsWrong)

/-- 'matryoshkalaw24.DiffSees': WHATEVER THE INPUT: true; the input reads as it did. -/
def diffSeesSpec : ChangeSpec := { name := "diffSees", fn := fun _ => fun
  | [d1, d2, d3, d4, d5] => { results := [.lit (.bool true)], args := [d1, d2, d3, d4, d5] }
  | _ => none }
def diffSeesRow : OpenClaim := { program := "ytekaapofigocnaa", sum := "2f4d9d656b1ddca3f3962db38eb04e50f78f35d301416a8f524150279726c894", func := "matryoshka/matryoshkalaw24.DiffSees", spec := "diffSees", apart := false }
def DiffSeesSaid : Prop := diffSeesRow.holds Try.pinned (OpenSpec.ofChange diffSeesSpec)

/-- ITS FALSE NEIGHBOUR: 'it returns false'. Refute it at one input. -/
def diffSeesWrong : ChangeSpec := { name := "diffSees", fn := fun _ => fun
  | [d1, d2, d3, d4, d5] => { results := [.lit (.bool false)], args := [d1, d2, d3, d4, d5] }
  | _ => none }
def DiffSeesWrongFalsely : Prop := diffSeesRow.holds Try.pinned (OpenSpec.ofChange diffSeesWrong)

/-- 'matryoshkalaw24.DiffTakes': WHATEVER THE INPUT: true; the input reads as it did. -/
def diffTakesSpec : ChangeSpec := { name := "diffTakes", fn := fun _ => fun
  | [d1, d2, d3] => { results := [.lit (.bool true)], args := [d1, d2, d3] }
  | _ => none }
def diffTakesRow : OpenClaim := { program := "ytekaapofigocnaa", sum := "2f4d9d656b1ddca3f3962db38eb04e50f78f35d301416a8f524150279726c894", func := "matryoshka/matryoshkalaw24.DiffTakes", spec := "diffTakes", apart := false }
def DiffTakesSaid : Prop := diffTakesRow.holds Try.pinned (OpenSpec.ofChange diffTakesSpec)

/-- ITS FALSE NEIGHBOUR: 'it returns false'. Refute it at one input. -/
def diffTakesWrong : ChangeSpec := { name := "diffTakes", fn := fun _ => fun
  | [d1, d2, d3] => { results := [.lit (.bool false)], args := [d1, d2, d3] }
  | _ => none }
def DiffTakesWrongFalsely : Prop := diffTakesRow.holds Try.pinned (OpenSpec.ofChange diffTakesWrong)

/-- 'matryoshkalaw24.DiffMakes': WHATEVER THE INPUT: true; the input reads as it did. -/
def diffMakesSpec : ChangeSpec := { name := "diffMakes", fn := fun _ => fun
  | [d1, d2, d3] => { results := [.lit (.bool true)], args := [d1, d2, d3] }
  | _ => none }
def diffMakesRow : OpenClaim := { program := "ytekaapofigocnaa", sum := "2f4d9d656b1ddca3f3962db38eb04e50f78f35d301416a8f524150279726c894", func := "matryoshka/matryoshkalaw24.DiffMakes", spec := "diffMakes", apart := false }
def DiffMakesSaid : Prop := diffMakesRow.holds Try.pinned (OpenSpec.ofChange diffMakesSpec)

/-- ITS FALSE NEIGHBOUR: 'it returns false'. Refute it at one input. -/
def diffMakesWrong : ChangeSpec := { name := "diffMakes", fn := fun _ => fun
  | [d1, d2, d3] => { results := [.lit (.bool false)], args := [d1, d2, d3] }
  | _ => none }
def DiffMakesWrongFalsely : Prop := diffMakesRow.holds Try.pinned (OpenSpec.ofChange diffMakesWrong)

/-- 'matryoshkalaw24.DiffParts': WHATEVER THE INPUT: true; the input reads as it did. -/
def diffPartsSpec : ChangeSpec := { name := "diffParts", fn := fun _ => fun
  | [d1, d2, d3, d4, d5] => { results := [.lit (.bool true)], args := [d1, d2, d3, d4, d5] }
  | _ => none }
def diffPartsRow : OpenClaim := { program := "ytekaapofigocnaa", sum := "2f4d9d656b1ddca3f3962db38eb04e50f78f35d301416a8f524150279726c894", func := "matryoshka/matryoshkalaw24.DiffParts", spec := "diffParts", apart := false }
def DiffPartsSaid : Prop := diffPartsRow.holds Try.pinned (OpenSpec.ofChange diffPartsSpec)

/-- ITS FALSE NEIGHBOUR: 'it returns false'. Refute it at one input. -/
def diffPartsWrong : ChangeSpec := { name := "diffParts", fn := fun _ => fun
  | [d1, d2, d3, d4, d5] => { results := [.lit (.bool false)], args := [d1, d2, d3, d4, d5] }
  | _ => none }
def DiffPartsWrongFalsely : Prop := diffPartsRow.holds Try.pinned (OpenSpec.ofChange diffPartsWrong)

/- THE SECOND FORM. 'bulk': how many values and letters a reading holds, each counted each time it is reached (what is shared counts as often as it is met; a slice's spare places count too). A statement '..UptoSaid' is the law's where the arguments, and the package variables that the reading takes, are together of bulk at most 1048576: NARROWER than '..Said'. Prove '..Said' where nothing that the law and all that it calls make is longer than what came in: it says more and counts as full. Else prove '..UptoSaid'. A law counts once. -/
mutual
def uptoBulk {H : Type} : DataW H → Nat
  | .lit (.string bytes) => bytes.length + 1
  | .lit _ => 1
  | .nil => 1
  | .ptr d => uptoBulk d + 1
  | .slice elems spare => uptoBulkAll elems + uptoBulkAll spare + 1
  | .agg parts => uptoBulkAll parts + 1
  | .iface _ d => uptoBulk d + 1
  | .map entries => uptoBulkEntries entries + 1
  | .held _ => 1
def uptoBulkAll {H : Type} : List (DataW H) → Nat
  | [] => 0
  | d :: r => uptoBulk d + uptoBulkAll r
def uptoBulkEntries {H : Type} : List (Lit × DataW H) → Nat
  | [] => 0
  | x :: r => uptoBulkEntry x + uptoBulkEntries r
def uptoBulkEntry {H : Type} : Lit × DataW H → Nat
  | (.string bytes, d) => bytes.length + uptoBulk d + 1
  | (_, d) => uptoBulk d + 1
 end
def uptoSmall : (H : Type) → List (DataW H) → Bool := fun _ ds => decide (uptoBulkAll ds ≤ 1048576)
def OpenSpec.upto (s : _root_.Go.ChangeSpec) : _root_.Go.OpenSpec := { _root_.Go.OpenSpec.ofChange s with cond := some uptoSmall }

/-- 'matryoshkalaw24.DiffOfs', WHERE WHAT IT READS IS OF BULK AT MOST 1048576: true; the input reads as it did. -/
def diffOfsUptoRow : OpenClaim := { program := "ytekaapofigocnaa", sum := "2f4d9d656b1ddca3f3962db38eb04e50f78f35d301416a8f524150279726c894", func := "matryoshka/matryoshkalaw24.DiffOfs", spec := "diffOfs", apart := false, narrowed := true }
def DiffOfsUptoSaid : Prop := diffOfsUptoRow.holds Try.pinned (OpenSpec.upto diffOfsSpec)

/-- 'matryoshkalaw24.DiffTurns', WHERE WHAT IT READS IS OF BULK AT MOST 1048576: true; the input reads as it did. -/
def diffTurnsUptoRow : OpenClaim := { program := "ytekaapofigocnaa", sum := "2f4d9d656b1ddca3f3962db38eb04e50f78f35d301416a8f524150279726c894", func := "matryoshka/matryoshkalaw24.DiffTurns", spec := "diffTurns", apart := false, narrowed := true }
def DiffTurnsUptoSaid : Prop := diffTurnsUptoRow.holds Try.pinned (OpenSpec.upto diffTurnsSpec)

/-- 'matryoshkalaw24.DiffSees', WHERE WHAT IT READS IS OF BULK AT MOST 1048576: true; the input reads as it did. -/
def diffSeesUptoRow : OpenClaim := { program := "ytekaapofigocnaa", sum := "2f4d9d656b1ddca3f3962db38eb04e50f78f35d301416a8f524150279726c894", func := "matryoshka/matryoshkalaw24.DiffSees", spec := "diffSees", apart := false, narrowed := true }
def DiffSeesUptoSaid : Prop := diffSeesUptoRow.holds Try.pinned (OpenSpec.upto diffSeesSpec)

/-- 'matryoshkalaw24.DiffTakes', WHERE WHAT IT READS IS OF BULK AT MOST 1048576: true; the input reads as it did. -/
def diffTakesUptoRow : OpenClaim := { program := "ytekaapofigocnaa", sum := "2f4d9d656b1ddca3f3962db38eb04e50f78f35d301416a8f524150279726c894", func := "matryoshka/matryoshkalaw24.DiffTakes", spec := "diffTakes", apart := false, narrowed := true }
def DiffTakesUptoSaid : Prop := diffTakesUptoRow.holds Try.pinned (OpenSpec.upto diffTakesSpec)

/-- 'matryoshkalaw24.DiffMakes', WHERE WHAT IT READS IS OF BULK AT MOST 1048576: true; the input reads as it did. -/
def diffMakesUptoRow : OpenClaim := { program := "ytekaapofigocnaa", sum := "2f4d9d656b1ddca3f3962db38eb04e50f78f35d301416a8f524150279726c894", func := "matryoshka/matryoshkalaw24.DiffMakes", spec := "diffMakes", apart := false, narrowed := true }
def DiffMakesUptoSaid : Prop := diffMakesUptoRow.holds Try.pinned (OpenSpec.upto diffMakesSpec)

/-- 'matryoshkalaw24.DiffParts', WHERE WHAT IT READS IS OF BULK AT MOST 1048576: true; the input reads as it did. -/
def diffPartsUptoRow : OpenClaim := { program := "ytekaapofigocnaa", sum := "2f4d9d656b1ddca3f3962db38eb04e50f78f35d301416a8f524150279726c894", func := "matryoshka/matryoshkalaw24.DiffParts", spec := "diffParts", apart := false, narrowed := true }
def DiffPartsUptoSaid : Prop := diffPartsUptoRow.holds Try.pinned (OpenSpec.upto diffPartsSpec)

end Rows
end Go.Proofs.Ytekaapofigocnaa
