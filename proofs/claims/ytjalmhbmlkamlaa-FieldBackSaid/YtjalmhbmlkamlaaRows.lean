/-
  No cell of these rows narrows 'for every input' (looked for: loops, veiled, ifaces, maps, wideKeys, modest, calm, conditions, laid).
  DERIVED. THE GIVEN ROWS OF THIS SEAT. 7 by the template 'for every input the law returns true; each argument reads behind the call as it read before'; 0 by the template 'total and deterministic' (their statements: YtjalmhbmlkamlaaTotals.lean).
  GIVEN WITH THE SEED: the statements are not yours to turn. If you find one false, say at which input.
  Laid BY PROGRAM, IN A SANDBOX (cutbox-rows.mjs): the forced cells as the released guide's own fill.sh prints them over the translation 764e68460c919820… (all of the seat's roots in one cut). By AI agents, Wed Nov 11 2026. No macro, syntax, notation, axiom, sorry.
-/
import Derived.Test.YtjalmhbmlkamlaaChecked
import GoSem.Claim
import GoSem.ClaimJoined
import GoSem.ClaimMapViews
import Derived.JoinedTies
import Derived.KernelRfl
namespace Go.Proofs.Ytjalmhbmlkamlaa
/- THE CELL 'sum', in the pinned program and in every row, IS THE sha256 OF THE DUMP (.gsa) THAT YtjalmhbmlkamlaaProg.lean LOADS. Nothing in Lean hashes anything: it is a label: what it is worth is what the hold of that sum in a sandbox is worth. -/
noncomputable def Try.pinned : Pinned := { name := "ytjalmhbmlkamlaa", sum := "764e68460c919820ccd3c55c829e18544ea2e77c111d21102bfe3ef26a47d4c0", checked := Try.checked }
namespace Rows
def none {H : Type} : Left H := { results := [], args := [] }

/-- 'matryoshkalaw2.FieldPuts': WHATEVER THE INPUT: true; the input reads as it did. -/
def fieldPutsSpec : ChangeSpec := { name := "fieldPuts", fn := fun _ => fun
  | [d1, d2, d3, d4] => { results := [.lit (.bool true)], args := [d1, d2, d3, d4] }
  | _ => none }
def fieldPutsRow : OpenClaim := { program := "ytjalmhbmlkamlaa", sum := "764e68460c919820ccd3c55c829e18544ea2e77c111d21102bfe3ef26a47d4c0", func := "matryoshka/matryoshkalaw2.FieldPuts", spec := "fieldPuts", apart := false }
def FieldPutsSaid : Prop := fieldPutsRow.holds Try.pinned (OpenSpec.ofChange fieldPutsSpec)

/-- ITS FALSE NEIGHBOUR: 'it returns false'. Refute it at one input. -/
def fieldPutsWrong : ChangeSpec := { name := "fieldPuts", fn := fun _ => fun
  | [d1, d2, d3, d4] => { results := [.lit (.bool false)], args := [d1, d2, d3, d4] }
  | _ => none }
def FieldPutsWrongFalsely : Prop := fieldPutsRow.holds Try.pinned (OpenSpec.ofChange fieldPutsWrong)

/-- 'matryoshkalaw2.FieldSides': WHATEVER THE INPUT: true; the input reads as it did. -/
def fieldSidesSpec : ChangeSpec := { name := "fieldSides", fn := fun _ => fun
  | [d1, d2] => { results := [.lit (.bool true)], args := [d1, d2] }
  | _ => none }
def fieldSidesRow : OpenClaim := { program := "ytjalmhbmlkamlaa", sum := "764e68460c919820ccd3c55c829e18544ea2e77c111d21102bfe3ef26a47d4c0", func := "matryoshka/matryoshkalaw2.FieldSides", spec := "fieldSides", apart := false }
def FieldSidesSaid : Prop := fieldSidesRow.holds Try.pinned (OpenSpec.ofChange fieldSidesSpec)

/-- ITS FALSE NEIGHBOUR: 'it returns false'. Refute it at one input. -/
def fieldSidesWrong : ChangeSpec := { name := "fieldSides", fn := fun _ => fun
  | [d1, d2] => { results := [.lit (.bool false)], args := [d1, d2] }
  | _ => none }
def FieldSidesWrongFalsely : Prop := fieldSidesRow.holds Try.pinned (OpenSpec.ofChange fieldSidesWrong)

/-- 'matryoshkalaw2.FieldWide': WHATEVER THE INPUT: true; the input reads as it did. -/
def fieldWideSpec : ChangeSpec := { name := "fieldWide", fn := fun _ => fun
  | [d1, d2, d3] => { results := [.lit (.bool true)], args := [d1, d2, d3] }
  | _ => none }
def fieldWideRow : OpenClaim := { program := "ytjalmhbmlkamlaa", sum := "764e68460c919820ccd3c55c829e18544ea2e77c111d21102bfe3ef26a47d4c0", func := "matryoshka/matryoshkalaw2.FieldWide", spec := "fieldWide", apart := false }
def FieldWideSaid : Prop := fieldWideRow.holds Try.pinned (OpenSpec.ofChange fieldWideSpec)

/-- ITS FALSE NEIGHBOUR: 'it returns false'. Refute it at one input. -/
def fieldWideWrong : ChangeSpec := { name := "fieldWide", fn := fun _ => fun
  | [d1, d2, d3] => { results := [.lit (.bool false)], args := [d1, d2, d3] }
  | _ => none }
def FieldWideWrongFalsely : Prop := fieldWideRow.holds Try.pinned (OpenSpec.ofChange fieldWideWrong)

/-- 'matryoshkalaw2.FieldGets': WHATEVER THE INPUT: true; the input reads as it did. -/
def fieldGetsSpec : ChangeSpec := { name := "fieldGets", fn := fun _ => fun
  | [d1, d2, d3, d4] => { results := [.lit (.bool true)], args := [d1, d2, d3, d4] }
  | _ => none }
def fieldGetsRow : OpenClaim := { program := "ytjalmhbmlkamlaa", sum := "764e68460c919820ccd3c55c829e18544ea2e77c111d21102bfe3ef26a47d4c0", func := "matryoshka/matryoshkalaw2.FieldGets", spec := "fieldGets", apart := false }
def FieldGetsSaid : Prop := fieldGetsRow.holds Try.pinned (OpenSpec.ofChange fieldGetsSpec)

/-- ITS FALSE NEIGHBOUR: 'it returns false'. Refute it at one input. -/
def fieldGetsWrong : ChangeSpec := { name := "fieldGets", fn := fun _ => fun
  | [d1, d2, d3, d4] => { results := [.lit (.bool false)], args := [d1, d2, d3, d4] }
  | _ => none }
def FieldGetsWrongFalsely : Prop := fieldGetsRow.holds Try.pinned (OpenSpec.ofChange fieldGetsWrong)

/-- 'matryoshkalaw2.FieldTexts': WHATEVER THE INPUT: true; the input reads as it did. -/
def fieldTextsSpec : ChangeSpec := { name := "fieldTexts", fn := fun _ => fun
  | [d1, d2, d3] => { results := [.lit (.bool true)], args := [d1, d2, d3] }
  | _ => none }
def fieldTextsRow : OpenClaim := { program := "ytjalmhbmlkamlaa", sum := "764e68460c919820ccd3c55c829e18544ea2e77c111d21102bfe3ef26a47d4c0", func := "matryoshka/matryoshkalaw2.FieldTexts", spec := "fieldTexts", inPlace := ["sync/atomic.AddInt64", "sync/atomic.LoadInt64"], apart := false }
def FieldTextsSaid : Prop := fieldTextsRow.holds Try.pinned (OpenSpec.ofChange fieldTextsSpec)

/-- ITS FALSE NEIGHBOUR: 'it returns false'. Refute it at one input. -/
def fieldTextsWrong : ChangeSpec := { name := "fieldTexts", fn := fun _ => fun
  | [d1, d2, d3] => { results := [.lit (.bool false)], args := [d1, d2, d3] }
  | _ => none }
def FieldTextsWrongFalsely : Prop := fieldTextsRow.holds Try.pinned (OpenSpec.ofChange fieldTextsWrong)

/-- 'matryoshkalaw2.FieldBack': WHATEVER THE INPUT: true; the input reads as it did. -/
def fieldBackSpec : ChangeSpec := { name := "fieldBack", fn := fun _ => fun
  | [d1, d2, d3, d4, d5, d6] => { results := [.lit (.bool true)], args := [d1, d2, d3, d4, d5, d6] }
  | _ => none }
def fieldBackRow : OpenClaim := { program := "ytjalmhbmlkamlaa", sum := "764e68460c919820ccd3c55c829e18544ea2e77c111d21102bfe3ef26a47d4c0", func := "matryoshka/matryoshkalaw2.FieldBack", spec := "fieldBack", inPlace := ["sync/atomic.AddInt64", "sync/atomic.LoadInt64"], apart := false }
def FieldBackSaid : Prop := fieldBackRow.holds Try.pinned (OpenSpec.ofChange fieldBackSpec)

/-- ITS FALSE NEIGHBOUR: 'it returns false'. Refute it at one input. -/
def fieldBackWrong : ChangeSpec := { name := "fieldBack", fn := fun _ => fun
  | [d1, d2, d3, d4, d5, d6] => { results := [.lit (.bool false)], args := [d1, d2, d3, d4, d5, d6] }
  | _ => none }
def FieldBackWrongFalsely : Prop := fieldBackRow.holds Try.pinned (OpenSpec.ofChange fieldBackWrong)

/-- 'matryoshkalaw2.FieldEnds': WHATEVER THE INPUT: true; the input reads as it did. -/
def fieldEndsSpec : ChangeSpec := { name := "fieldEnds", fn := fun _ => fun
  | [d1, d2, d3] => { results := [.lit (.bool true)], args := [d1, d2, d3] }
  | _ => none }
def fieldEndsRow : OpenClaim := { program := "ytjalmhbmlkamlaa", sum := "764e68460c919820ccd3c55c829e18544ea2e77c111d21102bfe3ef26a47d4c0", func := "matryoshka/matryoshkalaw2.FieldEnds", spec := "fieldEnds", inPlace := ["sync/atomic.AddInt64", "sync/atomic.LoadInt64"], apart := false }
def FieldEndsSaid : Prop := fieldEndsRow.holds Try.pinned (OpenSpec.ofChange fieldEndsSpec)

/-- ITS FALSE NEIGHBOUR: 'it returns false'. Refute it at one input. -/
def fieldEndsWrong : ChangeSpec := { name := "fieldEnds", fn := fun _ => fun
  | [d1, d2, d3] => { results := [.lit (.bool false)], args := [d1, d2, d3] }
  | _ => none }
def FieldEndsWrongFalsely : Prop := fieldEndsRow.holds Try.pinned (OpenSpec.ofChange fieldEndsWrong)

/- THE SECOND FORM. 'bulk': how many values and letters a reading holds, each counted each time it is reached (what is shared counts as often as it is met; a slice's spare places count too). A statement '..UptoSaid' is the law's where the arguments, and the package variables that the reading takes, are together of bulk at most 1048576: NARROWER than '..Said'. Prove '..Said' where nothing that the law and all that it calls make is longer than what came in: it says more and counts as full. Else prove '..UptoSaid'. A law counts once. -/
mutual
def uptoBulk {H : Type} : DataW H → Nat
  | .lit (.string bytes) => bytes.length + 1
  | .lit _ => 1
  | .nil => 1
  | .ptr d => uptoBulk d + 1
  | .slice elems spare => uptoBulkAll elems + uptoBulkAll spare + 1
  | .agg parts => uptoBulkAll parts + 1
  | .iface _ d => uptoBulk d + 1
  | .map entries => uptoBulkEntries entries + 1
  | .held _ => 1
def uptoBulkAll {H : Type} : List (DataW H) → Nat
  | [] => 0
  | d :: r => uptoBulk d + uptoBulkAll r
def uptoBulkEntries {H : Type} : List (Lit × DataW H) → Nat
  | [] => 0
  | x :: r => uptoBulkEntry x + uptoBulkEntries r
def uptoBulkEntry {H : Type} : Lit × DataW H → Nat
  | (.string bytes, d) => bytes.length + uptoBulk d + 1
  | (_, d) => uptoBulk d + 1
 end
def uptoSmall : (H : Type) → List (DataW H) → Bool := fun _ ds => decide (uptoBulkAll ds ≤ 1048576)
def OpenSpec.upto (s : _root_.Go.ChangeSpec) : _root_.Go.OpenSpec := { _root_.Go.OpenSpec.ofChange s with cond := some uptoSmall }

/-- 'matryoshkalaw2.FieldPuts', WHERE WHAT IT READS IS OF BULK AT MOST 1048576: true; the input reads as it did. -/
def fieldPutsUptoRow : OpenClaim := { program := "ytjalmhbmlkamlaa", sum := "764e68460c919820ccd3c55c829e18544ea2e77c111d21102bfe3ef26a47d4c0", func := "matryoshka/matryoshkalaw2.FieldPuts", spec := "fieldPuts", apart := false, narrowed := true }
def FieldPutsUptoSaid : Prop := fieldPutsUptoRow.holds Try.pinned (OpenSpec.upto fieldPutsSpec)

/-- 'matryoshkalaw2.FieldSides', WHERE WHAT IT READS IS OF BULK AT MOST 1048576: true; the input reads as it did. -/
def fieldSidesUptoRow : OpenClaim := { program := "ytjalmhbmlkamlaa", sum := "764e68460c919820ccd3c55c829e18544ea2e77c111d21102bfe3ef26a47d4c0", func := "matryoshka/matryoshkalaw2.FieldSides", spec := "fieldSides", apart := false, narrowed := true }
def FieldSidesUptoSaid : Prop := fieldSidesUptoRow.holds Try.pinned (OpenSpec.upto fieldSidesSpec)

/-- 'matryoshkalaw2.FieldWide', WHERE WHAT IT READS IS OF BULK AT MOST 1048576: true; the input reads as it did. -/
def fieldWideUptoRow : OpenClaim := { program := "ytjalmhbmlkamlaa", sum := "764e68460c919820ccd3c55c829e18544ea2e77c111d21102bfe3ef26a47d4c0", func := "matryoshka/matryoshkalaw2.FieldWide", spec := "fieldWide", apart := false, narrowed := true }
def FieldWideUptoSaid : Prop := fieldWideUptoRow.holds Try.pinned (OpenSpec.upto fieldWideSpec)

/-- 'matryoshkalaw2.FieldGets', WHERE WHAT IT READS IS OF BULK AT MOST 1048576: true; the input reads as it did. -/
def fieldGetsUptoRow : OpenClaim := { program := "ytjalmhbmlkamlaa", sum := "764e68460c919820ccd3c55c829e18544ea2e77c111d21102bfe3ef26a47d4c0", func := "matryoshka/matryoshkalaw2.FieldGets", spec := "fieldGets", apart := false, narrowed := true }
def FieldGetsUptoSaid : Prop := fieldGetsUptoRow.holds Try.pinned (OpenSpec.upto fieldGetsSpec)

/-- 'matryoshkalaw2.FieldTexts', WHERE WHAT IT READS IS OF BULK AT MOST 1048576: true; the input reads as it did. -/
def fieldTextsUptoRow : OpenClaim := { program := "ytjalmhbmlkamlaa", sum := "764e68460c919820ccd3c55c829e18544ea2e77c111d21102bfe3ef26a47d4c0", func := "matryoshka/matryoshkalaw2.FieldTexts", spec := "fieldTexts", inPlace := ["sync/atomic.AddInt64", "sync/atomic.LoadInt64"], apart := false, narrowed := true }
def FieldTextsUptoSaid : Prop := fieldTextsUptoRow.holds Try.pinned (OpenSpec.upto fieldTextsSpec)

/-- 'matryoshkalaw2.FieldBack', WHERE WHAT IT READS IS OF BULK AT MOST 1048576: true; the input reads as it did. -/
def fieldBackUptoRow : OpenClaim := { program := "ytjalmhbmlkamlaa", sum := "764e68460c919820ccd3c55c829e18544ea2e77c111d21102bfe3ef26a47d4c0", func := "matryoshka/matryoshkalaw2.FieldBack", spec := "fieldBack", inPlace := ["sync/atomic.AddInt64", "sync/atomic.LoadInt64"], apart := false, narrowed := true }
def FieldBackUptoSaid : Prop := fieldBackUptoRow.holds Try.pinned (OpenSpec.upto fieldBackSpec)

/-- 'matryoshkalaw2.FieldEnds', WHERE WHAT IT READS IS OF BULK AT MOST 1048576: true; the input reads as it did. -/
def fieldEndsUptoRow : OpenClaim := { program := "ytjalmhbmlkamlaa", sum := "764e68460c919820ccd3c55c829e18544ea2e77c111d21102bfe3ef26a47d4c0", func := "matryoshka/matryoshkalaw2.FieldEnds", spec := "fieldEnds", inPlace := ["sync/atomic.AddInt64", "sync/atomic.LoadInt64"], apart := false, narrowed := true }
def FieldEndsUptoSaid : Prop := fieldEndsUptoRow.holds Try.pinned (OpenSpec.upto fieldEndsSpec)

end Rows
end Go.Proofs.Ytjalmhbmlkamlaa
