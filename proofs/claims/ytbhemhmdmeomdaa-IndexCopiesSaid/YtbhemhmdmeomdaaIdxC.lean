import Derived.Test.YtbhemhmdmeomdaaIdxB
import Derived.Tactics
import Derived.Tactics2
import Derived.Laws.Pointers
import Derived.Laws.LoneSync
set_option linter.unusedSimpArgs false
set_option linter.unusedVariables false
namespace Go.Proofs.Ytbhemhmdmeomdaa
open Go.Mt Go.RowKit

theorem ci_walk (x d : Int) (v0 : Value) (w : World) (b : Nat) (hb : w.heap[b]? = some (.cells #[v0, .int .i64 x] 54 (0, 0))) :
    Calls Try.prog 20 #[.pointer (some ⟨b, 1, none⟩), .int .i64 d] w fun e w' => ∃ s : Int, e = .returned (.int .i64 s) ∧ w' = w.setCell ⟨b, 1, none⟩ (.int .i64 s) := by
  have hc : w.cell? ⟨b, 1, none⟩ = some (.int .i64 x) := by simp [World.cell?, hb]
  have hz : w.frozen? ⟨b, 1, none⟩ = false := by simp [World.frozen?, hb]
  have hadd := run_call_add (P := Try.prog) Try.func31 (by kernel_rfl) (by kernel_rfl) (by kernel_rfl) .i64 (by kernel_rfl) (y := d) (s := IntKind.i64.wrap (x + d)) hc hz (by simp [Op.intArith])
  go_enter Try.func20, Try.ntmps20
  go_wp2
  go_ret
  exact ⟨_, rfl, rfl⟩
theorem two_cells {M : Mem} {n : Nat} {v : Value} {x : Int} {us : Array Value} (h : RCs M [.own n v, .pv (i64 x)] us.toList) : us = #[v, .int .i64 x] := by
  obtain ⟨h1, h2⟩ := h
  obtain ⟨l⟩ := us
  match l, h1, h2 with
  | [u0, u1], h1, h2 =>
    have e0 := h2 0 _ u0 rfl rfl
    have e1 := h2 1 _ u1 rfl rfl
    cases e0 with | own => cases e1 with | pv r => cases r; rfl
theorem cells_two {M : Mem} {n : Nat} {v : Value} (hv : v.oneCell' = true) (y : Int) : RCs M [.own n v, .pv (i64 y)] (#[v, .int .i64 y] : Array Value).toList := by
  refine ⟨rfl, fun j c u e1 e2 => ?_⟩
  match j, e1, e2 with
  | 0, e1, e2 => cases e1; cases e2; exact .own hv
  | 1, e1, e2 => cases e1; cases e2; exact .pv (.val rfl)
theorem own_one {M : Mem} {B : Nat → Prop} {w : World} {v : Value} {ty : TypeId} {k : LK} {l : List k.T} (h : OwnSl M B w v ty k l) : v.oneCell' = true := by
  rcases h with ⟨rfl, rfl⟩ | ⟨b, cap, us, rfl, _⟩ <;> rfl
/-- One found more. -/
theorem hcount (b : Nat) (v : Value) (c d : Int) (l : List Known) : CtrH Try.prog 20 [.c (.ptr 0 b 1), int .i64 d] [.blk b 54 [.own 1 v, .pv (i64 c)], .own v 58 .knw l]
    (fun _ : Int => True) (fun r => pv (i64 r)) (fun r => [.blk b 54 [.own 1 v, .pv (i64 r)], .own v 58 .knw l]) := by
  refine ⟨⟨_, Try.func20, rfl, by decide⟩, fun M w vs hS hra => ?_⟩
  obtain ⟨q1, q2, us, q3, q4⟩ := hS.ok 0 _ rfl
  have hus := two_cells q4; subst hus
  have hv := own_one (M := M) (w := w) (ty := 58) (k := .knw) (l := l) (hS.ok 1 _ rfl)
  obtain ⟨vs⟩ := vs
  obtain ⟨h1, h2⟩ := hra
  match vs, h1, h2 with
  | [u0, u1], h1, h2 =>
    have e0 := h2 0 _ u0 rfl rfl
    have e1 := h2 1 _ u1 rfl rfl
    cases e0 with | c e0 => cases e0 with | ptr =>
    have := e1.val_inv; subst this
    refine (ci_walk c d v w b q3).mono fun e w' ⟨s, he, hw⟩ => ⟨_, M, s, he, Mem.ext_refl _ _, trivial, .c (.pv (.val rfl)), ?_⟩
    have hsr := setCell_eq_setRow w b 1 #[v, .int .i64 c] 54 (0, 0) (.int .i64 s) q3
    rw [hw, hsr]
    refine hS.step (row := some b) (grownBy_setRow w b _) (fun b' hb' => by cases hb'; exact ⟨q1, q2⟩) (nn := 0) (xx := .blk b 54 [.own 1 v,   .pv (i64 s)]) (fun n x hn hx => ?_) rfl ⟨q1, q2, #[v, .int .i64 s], ?_, cells_two hv _⟩ (fun b' hb' => .inr hb')
    · match n, hn, hx with
      | 1, _, hx => cases hx; exact ⟨rfl, fun b' hb' => by cases hb'; exact hS.inj 0 1 _ _ b (by decide) rfl rfl rfl⟩
    · exact setRow_heap w b _ _ _ _ q3
end Go.Proofs.Ytbhemhmdmeomdaa
