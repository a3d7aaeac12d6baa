/-
  The statement 'TopRoundsSaid' is proved: the law 'matryoshka/matryoshkatop.TopRounds' returns true and turns nothing that was there, whatever it is handed.
  The frame is this project's own program's; the walk is the contract of the text TLawR.
-/
import Derived.Test.YtgmeedgkjlfpeaaGreatRows
import Derived.WalkKit
import Derived.ProofKit
import Derived.OpenShut
import Derived.ShutString
import Derived.ChangeOld
import Derived.Below
import Derived.Carry
import Derived.Test.YtgmeedgkjlfpeaaGreatQ6
namespace Go.Proofs.YtgmeedgkjlfpeaaGreat.topRounds
open Go.ChangeShapes Go.WideShapes Go.ChangeAt Go.RowKit
set_option linter.unusedVariables false

theorem own : ownKnob Tryz.prog.godebug = none := by kernel_rfl
theorem jand {a b : Bool} (ha : a = true) (hb : b = true) : (a && b) = true := by rw [ha, hb]; rfl
set_option maxRecDepth 100000
theorem jf0 : (Rows.topRoundsRow.wf (OpenSpec.ofChange Rows.topRoundsSpec) : Bool) = true := by kernel_rfl
theorem jf1 : (laidOutB Tryz.prog : Bool) = true := by kernel_rfl
theorem jf2 : (mapsRowed Tryz.prog : Bool) = true := by kernel_rfl
theorem jf3 : (Tryz.f5.params.all (Tryz.prog.readableRec ·) : Bool) = true := by kernel_rfl
theorem jf4 : (namedTie Tryz.prog Rows.topRoundsRow.named Rows.topRoundsSpec.vars : Bool) = true := by kernel_rfl
theorem jf5 : ((Rows.topRoundsRow.stops == []) : Bool) = true := by kernel_rfl
theorem jf6 : ((Tryz.prog.stops == []) : Bool) = true := by kernel_rfl
theorem jf7 : ((Rows.topRoundsRow.knobs == []) : Bool) = true := by kernel_rfl
theorem jf8 : ((Tryz.prog.stopKnobs == []) : Bool) = true := by kernel_rfl
theorem jf9 : ((Rows.topRoundsRow.inPlace == Tryz.prog.inPlace 5) : Bool) = true := by kernel_rfl
theorem jf10 : ((Rows.topRoundsRow.unfollowed == Tryz.prog.unfollowed 5) : Bool) = true := by kernel_rfl
theorem jf11 : ((Rows.topRoundsRow.recurses == Tryz.prog.recurses 5) : Bool) = true := by kernel_rfl
theorem jf12 : ((Rows.topRoundsRow.named == Tryz.prog.varsNamed 5) : Bool) = true := by kernel_rfl
theorem jf13 : ((Rows.topRoundsRow.maps == (Tryz.f5.params.toList ++ Rows.topRoundsSpec.plain.varTypes Tryz.prog).any (Tryz.prog.mapsRec ·)) : Bool) = true := by kernel_rfl
theorem jf14 : ((Rows.topRoundsRow.ifaces == (Tryz.f5.params.toList ++ Rows.topRoundsSpec.plain.varTypes Tryz.prog).any (Tryz.prog.ifacesRec ·)) : Bool) = true := by kernel_rfl
theorem jf15 : ((Rows.topRoundsRow.mapsOut == Tryz.prog.mapsAmong Tryz.f5.resultTypes.toList) : Bool) = true := by kernel_rfl
theorem jf16 : ((Rows.topRoundsRow.loops == (Tryz.f5.params.toList ++ Rows.topRoundsSpec.plain.varTypes Tryz.prog).any (Tryz.prog.loopsFrom ·)) : Bool) = true := by kernel_rfl
theorem jf17 : ((Rows.topRoundsRow.wideKeys == (Tryz.f5.params.toList ++ Rows.topRoundsSpec.plain.varTypes Tryz.prog ++ Tryz.f5.resultTypes.toList).any (Tryz.prog.wideKeysFrom ·)) : Bool) = true := by kernel_rfl
theorem jf18 : (Rows.topRoundsSpec.vars.all (Tryz.prog.varReadable ·) : Bool) = true := by kernel_rfl
theorem jf19 : (Tryz.f5.resultTypes.all (fun t => Tryz.prog.readableRec t && decide (t < Tryz.prog.types.size)) : Bool) = true := by kernel_rfl
theorem jf20 : ((Rows.topRoundsRow.ifacesOut == Tryz.f5.resultTypes.toList.any (Tryz.prog.ifacesRec ·)) : Bool) = true := by kernel_rfl
theorem jf21 : ((Rows.topRoundsRow.loopsOut == Tryz.f5.resultTypes.toList.any (Tryz.prog.loopsFrom ·)) : Bool) = true := by kernel_rfl
theorem jf22 : ((Rows.topRoundsRow.plainKeys == Tryz.prog.plainKeys) : Bool) = true := by kernel_rfl
theorem jf23 : (Rows.topRoundsRow.shortTexts.isNone : Bool) = true := by kernel_rfl
theorem jf24 : (Tryz.prog.stopsHeard : Bool) = true := by kernel_rfl
theorem jf25 : (Tryz.prog.mayEnter : Bool) = true := by kernel_rfl
theorem jf26 : ((Rows.topRoundsRow.lifted == Tryz.prog.liftsFinal) : Bool) = true := by kernel_rfl
theorem jf27 : ((Tryz.prog.make == some Rows.topRoundsRow.make) : Bool) = true := by kernel_rfl
theorem jf28 : ((Rows.topRoundsRow.kinds == (if Rows.topRoundsRow.domain.isEmpty then [] else Tryz.f5.params.toList.map fun t => match Tryz.prog.underlying t with | some (.int k) => some k | _ => none)) : Bool) = true := by kernel_rfl
theorem jf29 : ((Rows.topRoundsRow.pinned == Rows.topRoundsRow.pinnedBy) : Bool) = true := by kernel_rfl
theorem jf30 : ((Rows.topRoundsRow.veiled == (Tryz.f5.params.toList ++ Rows.topRoundsSpec.plain.varTypes Tryz.prog ++ Tryz.f5.resultTypes.toList).any (Tryz.prog.veiledRec ·)) : Bool) = true := by kernel_rfl
theorem jf31 : (Rows.topRoundsRow.veiledFits Tryz.prog Tryz.f5.params.toList (Tryz.f5.params.toList ++ Rows.topRoundsSpec.plain.varTypes Tryz.prog ++ Tryz.f5.resultTypes.toList) : Bool) = true := by kernel_rfl
theorem closed : joinedFacts Tryz.prog 5 Tryz.f5 Rows.topRoundsSpec Rows.topRoundsRow = true := by unfold joinedFacts; exact (jand (jand (jand (jand (jand (jand (jand (jand (jand (jand (jand (jand (jand (jand (jand (jand (jand (jand (jand (jand (jand (jand (jand (jand (jand (jand (jand (jand (jand (jand (jand jf0 jf1) jf2) jf3) jf4) jf5) jf6) jf7) jf8) jf9) jf10) jf11) jf12) jf13) jf14) jf15) jf16) jf17) jf18) jf19) jf20) jf21) jf22) jf23) jf24) jf25) jf26) jf27) jf28) jf29) jf30) jf31)
theorem laidOut : laidOutB Tryz.prog = true := jf1

set_option maxRecDepth 100000 in
theorem lifted (os : Os) (started : os.Started) (H : Type) (enc : TypeId × Value → H) :
    ReturnsInHanded {} Tryz.checked os 5 .any (Rows.topRoundsSpec.pre6 enc Tryz.prog Tryz.f5 Rows.topRoundsRow.domain false) (Rows.topRoundsSpec.post enc Tryz.prog Tryz.f5 false true false false) := by
  refine returnsInHanded_of_change (C := Tryz.checked) own started (by kernel_rfl) Tryz.func5
    (ChangeSpec.witness6 (enc := enc) (C := Tryz.checked) false ⟨#[], #[.slice none 0 0, .int .u8 0], []⟩ 8 (by kernel_rfl) (by kernel_rfl) (by kernel_rfl) (by kernel_rfl)) ?_
  intro W base args ds gs before hval0 hW hcnd _
  have hval : ∀ (j : Nat) t v, Tryz.f5.params[j]? = some t → args[j]? = some v → Value.okWide Tryz.prog W .any base t v := hval0
  have hW' := hW
  obtain ⟨p, q, hA0, hV, rfl, hfz, hnd⟩ := hW
  have hA : DataW.TrodAll enc Tryz.prog W 0 (fun _ => true) true Tryz.f5.params.toList args.toList ds p := hA0
  rw [Tryz.params5] at hA hval
  obtain ⟨v0, vs0, d0, ds0, p0, q0, hargs, rfl, rfl, h0, r0⟩ := trodAll_cons hA
  obtain ⟨v1, vs1, d1, ds1, p1, q1, rfl, rfl, rfl, h1, r1⟩ := trodAll_cons r0
  obtain ⟨rfl, rfl, rfl⟩ := trodAll_nil r1
  obtain rfl : args = #[v0, v1] := by cases args; simp_all
  obtain ⟨rfl, rfl⟩ := trodVars_none hV
  have k0 := h0
  have lt0 : ∀ x ∈ p0, x.block < W.heap.size := by obtain ⟨m, hm⟩ := k0; exact DataW.trod_lt m _ _ _ hm
  obtain ⟨x0, r0, w0⟩ := Go.Mt.C6M (k := .byt) Tryz.underlying22 (by kernel_rfl) (Go.Mt.C6N Tryz.underlying5) (hval 0 22 v0 rfl rfl) h0
  have k1 := h1
  have lt1 : ∀ x ∈ p1, x.block < W.heap.size := by obtain ⟨m, hm⟩ := k1; exact DataW.trod_lt m _ _ _ hm
  obtain ⟨x1, r1, w1⟩ := Go.Mt.C6L Tryz.underlying5 (hval 1 5 v1 rfl rfl) h1
  clear hA0 hval0
  refine (Go.Mt.C4l (C6O _ _ w1) (Go.Mt.cY.cons r0 (Go.Mt.cY.cons r1 Go.Mt.cY.nil))).mono fun e W' ⟨he, bel⟩ => ?_
  subst he
  exact ⟨_, rfl, _, _, _, [], _, [], hW', trodAll_mk1 (shut_bool Tryz.underlying4 _), (trodAll_cons_mk (Below.trod laidOut (by kernel_rfl) (of_decide_eq_true (by kernel_rfl)) k0 bel lt0) (trodAll_cons_mk (Below.trod laidOut (by kernel_rfl) (of_decide_eq_true (by kernel_rfl)) k1 bel lt1) trodAll_mk0)), rfl, bel.frame _, fun h => by cases h⟩

theorem over : Rows.topRoundsRow.holds Tryz.pinned (OpenSpec.ofChange Rows.topRoundsSpec) :=
  OpenClaim.holds_of_wide 5 Tryz.f5 rfl rfl rfl rfl rfl rfl rfl ⟨rfl, rfl, rfl, rfl, rfl⟩ rfl rfl rfl rfl rfl (by kernel_rfl) Tryz.func5 closed
    (of_decide_eq_true (by kernel_rfl)) (by unfold Func.isWrapper; first | (rw [if_pos (by decide +kernel)]; kernel_rfl) | (rw [if_neg (by decide +kernel)]; exact ⟨rfl, rfl⟩))
    (fun os started H enc _ => lifted os started H enc)

theorem proved : Rows.TopRoundsSaid := over
#print axioms proved
end Go.Proofs.YtgmeedgkjlfpeaaGreat.topRounds
