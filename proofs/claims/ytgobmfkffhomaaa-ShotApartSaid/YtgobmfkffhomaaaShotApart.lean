/-
  The statement 'ShotApartSaid' is proved: the law 'matryoshka/matryoshkalaw12.ShotApart' returns true and turns nothing that was there, whatever it is handed.
  The frame is this project's own program's; the walk is the contract of the text ShtZH.
-/
import Derived.Test.YtgobmfkffhomaaaRows
import Derived.WalkKit
import Derived.ProofKit
import Derived.OpenShut
import Derived.ShutString
import Derived.ChangeOld
import Derived.Below
import Derived.Carry
import Derived.Test.YtgobmfkffhomaaaShtZH
import Derived.Test.YtgobmfkffhomaaaMtQ4
namespace Go.Proofs.Ytgobmfkffhomaaa.shotApart
open Go.ChangeShapes Go.WideShapes Go.ChangeAt Go.RowKit
set_option linter.unusedVariables false

theorem own : ownKnob Try.prog.godebug = none := by kernel_rfl
theorem laidOut : laidOutB Try.prog = true := by kernel_rfl

set_option maxRecDepth 100000 in
theorem lifted (os : Os) (started : os.Started) (H : Type) (enc : TypeId × Value → H) :
    ReturnsInHanded {} Try.checked os 8 .any (Rows.shotApartSpec.pre6 enc Try.prog Try.f8 Rows.shotApartRow.domain false) (Rows.shotApartSpec.post enc Try.prog Try.f8 false true false false) := by
  refine returnsInHanded_of_change (C := Try.checked) own started (by kernel_rfl) Try.func8
    (ChangeSpec.witness6 (enc := enc) (C := Try.checked) false ⟨#[], #[.agg #[.int .i64 0, .int .i64 0, .string ⟨#[]⟩, .slice none 0 0, .slice none 0 0, .slice none 0 0, .slice none 0 0]], []⟩ 8 (by kernel_rfl) (by kernel_rfl) (by kernel_rfl) (by kernel_rfl)) ?_
  intro W base args ds gs before hval0 hW hcnd _
  have hval : ∀ (j : Nat) t v, Try.f8.params[j]? = some t → args[j]? = some v → Value.okWide Try.prog W .any base t v := hval0
  have hW' := hW
  obtain ⟨p, q, hA0, hV, rfl, hfz, hnd⟩ := hW
  have hA : DataW.TrodAll enc Try.prog W 0 (fun _ => true) true Try.f8.params.toList args.toList ds p := hA0
  rw [Try.params8] at hA hval
  obtain ⟨v0, vs0, d0, ds0, p0, q0, hargs, rfl, rfl, h0, r0⟩ := trodAll_cons hA
  obtain ⟨rfl, rfl, rfl⟩ := trodAll_nil r0
  obtain rfl : args = #[v0] := by cases args; simp_all
  obtain ⟨rfl, rfl⟩ := trodVars_none hV
  have k0 := h0
  have lt0 : ∀ x ∈ p0, x.block < W.heap.size := by obtain ⟨m, hm⟩ := k0; exact DataW.trod_lt m _ _ _ hm
  obtain ⟨ys0, r0, x0, rfl, w0⟩ := Go.Mt.arg_g Try.underlying31 (Go.Mt.rds_meta Try.underlying31 (by kernel_rfl) rfl Try.underlying3 Try.underlying3 Try.underlying9 (Go.Mt.rd_tblF Try.underlying26 (by kernel_rfl) rfl Try.underlying24 (by kernel_rfl) Try.underlying59 (by kernel_rfl) (Go.Mt.rds_ent Try.underlying62 (by kernel_rfl) rfl Try.underlying3 Try.underlying3 Try.underlying3 Try.underlying3 Try.underlying60)) Try.underlying27 (by kernel_rfl) (Go.Mt.rds_sht Try.underlying40 (by kernel_rfl) rfl Try.underlying9 Try.underlying3 (Go.Mt.rd_tblF Try.underlying26 (by kernel_rfl) rfl Try.underlying24 (by kernel_rfl) Try.underlying59 (by kernel_rfl) (Go.Mt.rds_ent Try.underlying62 (by kernel_rfl) rfl Try.underlying3 Try.underlying3 Try.underlying3 Try.underlying3 Try.underlying60))) Try.underlying28 (by kernel_rfl) (Go.Mt.rds_bms Try.underlying51 (by kernel_rfl) rfl Try.underlying9 Try.underlying4 Try.underlying49 (by kernel_rfl) (Go.Mt.rds_spn Try.underlying48 (by kernel_rfl) rfl Try.underlying3 Try.underlying3)) Try.underlying29 (by kernel_rfl) (Go.Mt.rds_ints Try.underlying3)) (hval 0 31 v0 rfl rfl) h0
  clear hA0 hval0
  refine (Go.Mt.law_calls (fapart_fn _ _ _ _ _ _ _ (Go.Proofs.Ytgobmfkffhomaaa.MtaIn.of w0)) (Go.Mt.RAs.cons r0 Go.Mt.RAs.nil)).mono fun e W' ⟨he, bel⟩ => ?_
  subst he
  exact ⟨_, rfl, _, _, _, [], _, [], hW', trodAll_mk1 (shut_bool Try.underlying4 _), (trodAll_cons_mk (Below.trod laidOut (by kernel_rfl) (of_decide_eq_true (by kernel_rfl)) k0 bel lt0) trodAll_mk0), rfl, bel.frame _, fun h => by cases h⟩

theorem over : Rows.shotApartRow.holds Try.pinned (OpenSpec.ofChange Rows.shotApartSpec) :=
  OpenClaim.holds_of_wide 8 Try.f8 rfl rfl rfl rfl rfl rfl rfl ⟨rfl, rfl, rfl, rfl, rfl⟩ rfl rfl rfl rfl rfl (by kernel_rfl) Try.func8 (by kernel_rfl)
    (of_decide_eq_true (by kernel_rfl)) (by unfold Func.isWrapper; first | (rw [if_pos (by decide +kernel)]; kernel_rfl) | (rw [if_neg (by decide +kernel)]; exact ⟨rfl, rfl⟩))
    (fun os started H enc _ => lifted os started H enc)

theorem proved : Rows.ShotApartSaid := over
#print axioms proved
end Go.Proofs.Ytgobmfkffhomaaa.shotApart
