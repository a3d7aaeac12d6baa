import Derived.Test.YtjalmhbmlkamlaaTb
import Derived.Test.YtjalmhbmlkamlaaMtU
import Derived.Tactics
import Derived.Tactics2
import Derived.Laws.Pointers
import Derived.Laws.LoneSync
set_option linter.unusedSimpArgs false
set_option linter.unusedVariables false
namespace Go.Proofs.Ytjalmhbmlkamlaa
open Go.Mt Go.RowKit

theorem one_cell {x : Int} {us : Array Value} {M : Mem} (h : RCs M ([i64 x].map .pv) us.toList) : us = #[.int .i64 x] := by
  obtain ⟨h1, h2⟩ := h
  obtain ⟨l⟩ := us
  match l, h1, h2 with
  | [u], h1, h2 =>
    have := h2 0 _ u rfl rfl
    cases this with | pv r => cases r; rfl
theorem one_arg {d : Int} {vs : List Value} {M : Mem} (h : RAs M [int .i64 d] vs.toArray) : vs = [.int .i64 d] := by
  obtain ⟨h1, h2⟩ := h
  match vs, h1, h2 with
  | [u], h1, h2 =>
    have := h2 0 _ u rfl rfl
    cases this with | c r => cases r with | pv r => cases r; rfl
theorem no_arg {vs : List Value} {M : Mem} (h : RAs M [] vs.toArray) : vs = [] := by
  obtain ⟨h1, h2⟩ := h
  match vs, h1 with
  | [], _ => rfl
theorem cells_one {y : Int} (M : Mem) : RCs M ([i64 y].map .pv) (#[Value.int .i64 y] : Array Value).toList := by
  refine ⟨rfl, fun j c u e1 e2 => ?_⟩
  cases j with
  | zero => simp at e1 e2; subst e1 e2; exact .pv (.val rfl)
  | succ j => simp at e1

theorem add_walk (x d : Int) (h : inR .i64 (x + d)) (w : World) (b : Nat) (hb : w.heap[b]? = some (.cells #[.int .i64 x] 56 (0, 0))) :
    Calls Try.prog 21 #[.pointer (some ⟨b, 0, none⟩), .int .i64 d] w fun e w' => e = .returned (.int .i64 (x + d)) ∧ w' = w.setCell ⟨b, 0, none⟩ (.int .i64 (x + d)) := by
  have hc : w.cell? ⟨b, 0, none⟩ = some (.int .i64 x) := by simp [World.cell?, hb]
  have hz : w.frozen? ⟨b, 0, none⟩ = false := by simp [World.frozen?, hb]
  have hw : IntKind.i64.wrap (x + d) = x + d := wrap_in h
  have hadd := run_call_add (P := Try.prog) Try.func23 (by kernel_rfl) (by kernel_rfl) (by kernel_rfl) .i64 (by kernel_rfl) (y := d) (s := x + d) hc hz (by simp [Op.intArith, hw])
  go_enter Try.func21, Try.ntmps21
  go_wp2
  go_ret
  exact ⟨rfl, rfl⟩
theorem load_walk (x : Int) (w : World) (b : Nat) (hb : w.heap[b]? = some (.cells #[.int .i64 x] 56 (0, 0))) :
    Calls Try.prog 22 #[.pointer (some ⟨b, 0, none⟩)] w fun e w' => e = .returned (.int .i64 x) ∧ w' = w := by
  have hc : w.cell? ⟨b, 0, none⟩ = some (.int .i64 x) := by simp [World.cell?, hb]
  have hz : w.frozen? ⟨b, 0, none⟩ = false := by simp [World.frozen?, hb]
  have hadd := run_call_load (P := Try.prog) Try.func24 (by kernel_rfl) (by kernel_rfl) (by kernel_rfl) .i64 (by kernel_rfl) hc
  go_enter Try.func22, Try.ntmps22
  go_wp2
  go_ret
  exact ⟨rfl, rfl⟩
theorem setCell_row (w : World) (b : Nat) (x y : Int) (t : TypeId) (hb : w.heap[b]? = some (.cells #[.int .i64 x] t (0, 0))) : w.setCell ⟨b, 0, none⟩ (.int .i64 y) = w.setRow b #[.int .i64 y] := by
  have := setCell_eq_setRow w b 0 #[.int .i64 x] t (0, 0) (.int .i64 y) hb
  rw [this]; rfl
theorem setRow_same (w : World) (b : Nat) (x : Int) (t : TypeId) (hb : w.heap[b]? = some (.cells #[.int .i64 x] t (0, 0))) : w = w.setRow b #[.int .i64 x] := by
  have hlt : b < w.heap.size := (Array.getElem?_eq_some_iff.1 hb).1
  have hget := (Array.getElem?_eq_some_iff.1 hb).2
  have : w.heap = (w.setRow b #[.int .i64 x]).heap := by
    apply Array.ext (by simp [World.setRow])
    intro i h1 h2
    simp only [World.setRow, Array.getElem_modify]
    split
    · rename_i e; subst e; simp [hget]
    · rfl
  cases w; simp [World.setRow] at this ⊢; exact this
theorem add_cp (x d : Int) (h : inR .i64 (x + d)) : CtrP Try.prog 21 56 [i64 x] [int .i64 d] (i64 (x + d)) [i64 (x + d)] := by
  refine ⟨⟨_, Try.func21, rfl, by decide⟩, fun M w b us vs hb hus hvs => ?_⟩
  have := one_cell hus; subst this
  have := one_arg hvs; subst this
  refine (add_walk x d h w b hb).mono fun e w' ⟨he, hw⟩ => ⟨_, _, he, fun M' => .val rfl, fun M' => cells_one M', ?_⟩
  rw [hw]; exact setCell_row _ _ _ _ _ hb
theorem load_cp (x : Int) : CtrP Try.prog 22 56 [i64 x] [] (i64 x) [i64 x] := by
  refine ⟨⟨_, Try.func22, rfl, by decide⟩, fun M w b us vs hb hus hvs => ?_⟩
  have := one_cell hus; subst this
  have := no_arg hvs; subst this
  refine (load_walk x w b hb).mono fun e w' ⟨he, hw⟩ => ⟨_, _, he, fun M' => .val rfl, fun M' => cells_one M', ?_⟩
  rw [hw]; exact setRow_same _ _ _ _ hb
def add_ps : PSpec
  | [.val (.int .i64 x)], [.c (.pv (.val (.int .i64 d)))] => some (inR .i64 (x + d), i64 (x + d), [i64 (x + d)])
  | _, _ => none
def load_ps : PSpec
  | [.val (.int .i64 x)], [] => some (True, i64 x, [i64 x])
  | _, _ => none
theorem add_ps_ok : PSpecOk Try.prog 21 56 add_ps := by
  intro cs args pre r cs' h hp; unfold add_ps at h; split at h
  · cases h; exact add_cp _ _ hp
  · cases h
theorem load_ps_ok : PSpecOk Try.prog 22 56 load_ps := by
  intro cs args pre r cs' h hp; unfold load_ps at h; split at h
  · cases h; exact load_cp _
  · cases h
def psp_atom : FuncId → Option (TypeId × PSpec) := pspCons 21 56 add_ps (pspCons 22 56 load_ps pspNil)
theorem psp_atom_ok : PsiPt Try.prog psp_atom := pspCons_ok add_ps_ok (pspCons_ok load_ps_ok pspNil_ok)
end Go.Proofs.Ytjalmhbmlkamlaa
