/-
  The statement 'ShotBackSaid' is proved: the law 'matryoshka/matryoshkalaw12.ShotBack' returns true and turns nothing that was there, whatever it is handed.
  The frame is this project's own program's; the walk is the contract of the text ShtZA.
-/
import Derived.Test.YtgobmfkffhomaaaRows
import Derived.WalkKit
import Derived.ProofKit
import Derived.OpenShut
import Derived.ShutString
import Derived.ChangeOld
import Derived.Below
import Derived.Carry
import Derived.Test.YtgobmfkffhomaaaShtZA
import Derived.Test.YtgobmfkffhomaaaMtQ4
namespace Go.Proofs.Ytgobmfkffhomaaa.shotBack
open Go.ChangeShapes Go.WideShapes Go.ChangeAt Go.RowKit
set_option linter.unusedVariables false

theorem own : ownKnob Try.prog.godebug = none := by kernel_rfl
theorem laidOut : laidOutB Try.prog = true := by kernel_rfl

set_option maxRecDepth 100000 in
theorem lifted (os : Os) (started : os.Started) (H : Type) (enc : TypeId × Value → H) :
    ReturnsInHanded {} Try.checked os 6 .any (Rows.shotBackSpec.pre6 enc Try.prog Try.f6 Rows.shotBackRow.domain false) (Rows.shotBackSpec.post enc Try.prog Try.f6 false true false false) := by
  refine returnsInHanded_of_change (C := Try.checked) own started (by kernel_rfl) Try.func6
    (ChangeSpec.witness6 (enc := enc) (C := Try.checked) false ⟨#[], #[.agg #[.int .i64 0, .int .i64 0, .string ⟨#[]⟩, .slice none 0 0, .slice none 0 0, .slice none 0 0, .slice none 0 0], .agg #[.slice none 0 0], .int .u8 0], []⟩ 8 (by kernel_rfl) (by kernel_rfl) (by kernel_rfl) (by kernel_rfl)) ?_
  intro W base args ds gs before hval0 hW hcnd _
  have hval : ∀ (j : Nat) t v, Try.f6.params[j]? = some t → args[j]? = some v → Value.okWide Try.prog W .any base t v := hval0
  have hW' := hW
  obtain ⟨p, q, hA0, hV, rfl, hfz, hnd⟩ := hW
  have hA : DataW.TrodAll enc Try.prog W 0 (fun _ => true) true Try.f6.params.toList args.toList ds p := hA0
  rw [Try.params6] at hA hval
  obtain ⟨v0, vs0, d0, ds0, p0, q0, hargs, rfl, rfl, h0, r0⟩ := trodAll_cons hA
  obtain ⟨v1, vs1, d1, ds1, p1, q1, rfl, rfl, rfl, h1, r1⟩ := trodAll_cons r0
  obtain ⟨v2, vs2, d2, ds2, p2, q2, rfl, rfl, rfl, h2, r2⟩ := trodAll_cons r1
  obtain ⟨rfl, rfl, rfl⟩ := trodAll_nil r2
  obtain rfl : args = #[v0, v1, v2] := by cases args; simp_all
  obtain ⟨rfl, rfl⟩ := trodVars_none hV
  have k0 := h0
  have lt0 : ∀ x ∈ p0, x.block < W.heap.size := by obtain ⟨m, hm⟩ := k0; exact DataW.trod_lt m _ _ _ hm
  obtain ⟨ys0, r0, x0, rfl, w0⟩ := Go.Mt.arg_g Try.underlying31 (Go.Mt.rds_meta Try.underlying31 (by kernel_rfl) rfl Try.underlying3 Try.underlying3 Try.underlying9 (Go.Mt.rd_tblF Try.underlying26 (by kernel_rfl) rfl Try.underlying24 (by kernel_rfl) Try.underlying59 (by kernel_rfl) (Go.Mt.rds_ent Try.underlying62 (by kernel_rfl) rfl Try.underlying3 Try.underlying3 Try.underlying3 Try.underlying3 Try.underlying60)) Try.underlying27 (by kernel_rfl) (Go.Mt.rds_sht Try.underlying40 (by kernel_rfl) rfl Try.underlying9 Try.underlying3 (Go.Mt.rd_tblF Try.underlying26 (by kernel_rfl) rfl Try.underlying24 (by kernel_rfl) Try.underlying59 (by kernel_rfl) (Go.Mt.rds_ent Try.underlying62 (by kernel_rfl) rfl Try.underlying3 Try.underlying3 Try.underlying3 Try.underlying3 Try.underlying60))) Try.underlying28 (by kernel_rfl) (Go.Mt.rds_bms Try.underlying51 (by kernel_rfl) rfl Try.underlying9 Try.underlying4 Try.underlying49 (by kernel_rfl) (Go.Mt.rds_spn Try.underlying48 (by kernel_rfl) rfl Try.underlying3 Try.underlying3)) Try.underlying29 (by kernel_rfl) (Go.Mt.rds_ints Try.underlying3)) (hval 0 31 v0 rfl rfl) h0
  have k1 := h1
  have lt1 : ∀ x ∈ p1, x.block < W.heap.size := by obtain ⟨m, hm⟩ := k1; exact DataW.trod_lt m _ _ _ hm
  obtain ⟨ys1, r1, x1, rfl, w1⟩ := Go.Mt.arg_g Try.underlying26 (Go.Mt.rds_tblS Try.underlying26 (by kernel_rfl) rfl Try.underlying24 (by kernel_rfl) Try.underlying59 (by kernel_rfl) (Go.Mt.rds_ent Try.underlying62 (by kernel_rfl) rfl Try.underlying3 Try.underlying3 Try.underlying3 Try.underlying3 Try.underlying60)) (hval 1 26 v1 rfl rfl) h1
  have k2 := h2
  have lt2 : ∀ x ∈ p2, x.block < W.heap.size := by obtain ⟨m, hm⟩ := k2; exact DataW.trod_lt m _ _ _ hm
  obtain ⟨x2, r2, w2⟩ := Go.Mt.arg_int Try.underlying5 (hval 2 5 v2 rfl rfl) h2
  clear hA0 hval0
  refine (Go.Mt.law_calls (sbacks_fn _ _ _ _ _ _ _ _ _ (Go.Proofs.Ytgobmfkffhomaaa.MtaIn.of w0) w1.1 (Go.Proofs.Ytgobmfkffhomaaa.leaf_le (fun m h => w1.2 m h)) w2) (Go.Mt.RAs.cons r0 (Go.Mt.RAs.cons r1 (Go.Mt.RAs.cons r2 Go.Mt.RAs.nil)))).mono fun e W' ⟨he, bel⟩ => ?_
  subst he
  exact ⟨_, rfl, _, _, _, [], _, [], hW', trodAll_mk1 (shut_bool Try.underlying4 _), (trodAll_cons_mk (Below.trod laidOut (by kernel_rfl) (of_decide_eq_true (by kernel_rfl)) k0 bel lt0) (trodAll_cons_mk (Below.trod laidOut (by kernel_rfl) (of_decide_eq_true (by kernel_rfl)) k1 bel lt1) (trodAll_cons_mk (Below.trod laidOut (by kernel_rfl) (of_decide_eq_true (by kernel_rfl)) k2 bel lt2) trodAll_mk0))), rfl, bel.frame _, fun h => by cases h⟩

theorem over : Rows.shotBackRow.holds Try.pinned (OpenSpec.ofChange Rows.shotBackSpec) :=
  OpenClaim.holds_of_wide 6 Try.f6 rfl rfl rfl rfl rfl rfl rfl ⟨rfl, rfl, rfl, rfl, rfl⟩ rfl rfl rfl rfl rfl (by kernel_rfl) Try.func6 (by kernel_rfl)
    (of_decide_eq_true (by kernel_rfl)) (by unfold Func.isWrapper; first | (rw [if_pos (by decide +kernel)]; kernel_rfl) | (rw [if_neg (by decide +kernel)]; exact ⟨rfl, rfl⟩))
    (fun os started H enc _ => lifted os started H enc)

theorem proved : Rows.ShotBackSaid := over
#print axioms proved
end Go.Proofs.Ytgobmfkffhomaaa.shotBack
