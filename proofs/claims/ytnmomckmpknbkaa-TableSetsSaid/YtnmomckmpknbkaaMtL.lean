/-
  Mt, part L: boxes, new variables, stores.
-/
import Derived.Test.YtnmomckmpknbkaaMtK
set_option linter.unusedSimpArgs false
set_option linter.unusedVariables false
namespace Go.Mt
open Go.RowKit
section
variable {P : Program} {T : Tb} {w w' : World} {M F : Mem} {B : Nat} {W : World} {H H' : Nat → Option HB}

/-- What is asked of an operation's outcome: 'K' from whatever it may leave. -/
def Kok (B : Nat) (W : World) (M : Mem) (o : Oper) (a : Act) (K : Act → World → Prop) (r : HR) : Prop :=
  r.ob ∧ ∀ v w' M', Mem.ext B M M' → SatH B W r.H M' w' → RA M' r.x v → K (a.put o.dst v) w'

variable {E : Env} {a : Act} {rd : Operand → Option A} {nx : Nat} {K : Act → World → Prop} {Q : Exit → Act → World → Prop}
  {dst : Option Tmp} {ty : TypeId} {pos : String} {after : Array Edge} {guard : Option (Nat × Bool)}

theorem box_ok (hS : SatH B W H M w) (hr : ∀ o x, rd o = some x → RA M x (a.eval o)) {t : TypeId} {x : Operand}
    (h : ∀ u, ∃ r, heapOp E H nx rd u (.box t x) = some r ∧ Kok B W M ⟨dst, .box t x, ty, pos, after, guard⟩ a K r) : Oper.wp P ⟨dst, .box t x, ty, pos, after, guard⟩ a w K Q := by
  obtain ⟨r, h1, h2, h3⟩ := h (.pointer (some ⟨w.heap.size, 0, none⟩))
  simp only [heapOp] at h1
  split at h1
  · rename_i av ha
    split at h1
    · rename_i cs hcs; cases h1
      have hrx := rdT_ok (T := E.T) hr (fun _ => rfl) ha
      have hc := cells_ok hrx hcs
      refine wp_value (w' := w.alloc (.cells (a.eval x).cells t)) (v := .pointer (some ⟨w.heap.size, 0, none⟩)) ?_ (h3 _ _ M (Mem.ext_refl _ _) (hS.new hc nx) (.c .ptr))
      simp [execOp, Instr.box, newVar, newRow]
    · cases h1
  · cases h1

theorem alloc_ok (hT : TbOk P E.T) (hS : SatH B W H M w) {t : TypeId}
    (h : ∀ u, ∃ r, heapOp E H nx rd u (.alloc t) = some r ∧ Kok B W M ⟨dst, .alloc t, ty, pos, after, guard⟩ a K r) : Oper.wp P ⟨dst, .alloc t, ty, pos, after, guard⟩ a w K Q := by
  obtain ⟨r, h1, h2, h3⟩ := h (.pointer (some ⟨w.heap.size, 0, none⟩))
  simp only [heapOp] at h1
  split at h1
  · rename_i i hi; cases h1
    obtain ⟨inf, z, i1, i2, i3, i4, i5, i6⟩ := (hT _ _ hi).info
    refine wp_value (w' := w.alloc (.cells z.cells t)) (v := .pointer (some ⟨w.heap.size, 0, none⟩)) ?_ (h3 _ _ M (Mem.ext_refl _ _) (hS.new (i6 M) nx) (.c .ptr))
    simp [execOp, Instr.alloc, newVar, newRow, zeroValue, run_typeInfo i1, i4]
  · cases h1

/-- Cells with some of them written anew. -/
theorem RCs.splice {cs new : List C} {us vs : List Value} (h : RCs M cs us) (h' : RCs M new vs) {o : Nat} (hle : o + new.length ≤ cs.length) :
    RCs M (tke o cs ++ new ++ drp (o + len new) cs) (us.take o ++ vs ++ us.drop (o + vs.length)) := by
  have hul := h.1
  have hvl := h'.1
  refine ⟨?_, fun j c u e1 e2 => ?_⟩
  · simp [tke_eq, drp_eq, len_eq]; omega
  · rw [tke_eq, drp_eq, len_eq, List.append_assoc] at e1
    rw [List.append_assoc] at e2
    by_cases hj : j < o
    · rw [List.getElem?_append_left (by simp; omega), List.getElem?_take, if_pos hj] at e1 e2
      exact h.2 j c u e1 e2
    · rw [List.getElem?_append_right (by simp; omega)] at e1 e2
      have l1 : (List.take o cs).length = o := by simp; omega
      have l2 : (List.take o us).length = o := by simp; omega
      rw [l1] at e1; rw [l2] at e2
      by_cases hj2 : j - o < new.length
      · rw [List.getElem?_append_left hj2] at e1
        rw [List.getElem?_append_left (by omega)] at e2
        exact h'.2 _ c u e1 e2
      · rw [List.getElem?_append_right (by omega), List.getElem?_drop] at e1
        rw [List.getElem?_append_right (by omega), List.getElem?_drop, hvl] at e2
        exact h.2 _ c u e1 e2

theorem get_splice (l vs : List Value) (o i : Nat) (h : o + vs.length ≤ l.length) :
    (l.take o ++ vs ++ l.drop (o + vs.length))[i]? = if i < o then l[i]? else if i < o + vs.length then vs[i - o]? else l[i]? := by
  rw [List.append_assoc]
  have l1 : (List.take o l).length = o := by simp; omega
  split
  · rename_i hi
    rw [List.getElem?_append_left (by omega), List.getElem?_take, if_pos hi]
  · rw [List.getElem?_append_right (by omega), l1]
    split
    · rw [List.getElem?_append_left (by omega)]
    · rw [List.getElem?_append_right (by omega), List.getElem?_drop]
      congr 1; omega

theorem undef_ok (M : Mem) : RA M (.t []) undef := .t (by rfl) (by simp)

theorem store_ok (hT : TbOk P E.T) (hS : SatH B W H M w) (hr : ∀ o x, rd o = some x → RA M x (a.eval o)) {t : TypeId} {p x : Operand}
    (h : ∀ u, ∃ r, heapOp E H nx rd u (.store t p x) = some r ∧ Kok B W M ⟨dst, .store t p x, ty, pos, after, guard⟩ a K r) : Oper.wp P ⟨dst, .store t p x, ty, pos, after, guard⟩ a w K Q := by
  obtain ⟨r, h1, h2, h3⟩ := h undef
  simp only [heapOp] at h1
  split at h1
  · rename_i n b o av i hp hx hi
    split at h1
    · rename_i b' ty' cs new hn hcs
      split at h1
      · rename_i hb; cases h1
        simp only [Bool.and_eq_true, Nat.beq_eq, Nat.ble_eq, len_eq] at hb
        subst h2
        have hrx := rdT_ok (T := E.T) hr (fun _ => rfl) hx
        have hc := cells_ok hrx hcs
        obtain ⟨g1, g2, us, g3, g4⟩ := hS.ok _ _ hn
        have hul : us.size = cs.length := by rw [← Array.length_toList, g4.1]
        have hst := run_storeCells_at P b o ty' (a.eval x).cells.toList 0 us w g3 (by rw [hc.1]; omega) hc.one
        simp only [Nat.add_zero] at hst
        refine wp_skip' (w' := w.setRow b (us.toList.take o ++ (a.eval x).cells.toList ++ us.toList.drop (o + (a.eval x).cells.toList.length)).toArray) ?_ (h3 _ _ M (Mem.ext_refl _ _) ?_ (undef_ok M))
        · have hsz : (a.eval x).cells.size = i.size := by rw [← Array.length_toList, hc.1, hb.1]
          simp only [execOp, Instr.storeAt, (hr _ _ hp).ptr_inv, Instr.sureAddr, storeVar, Sem.run_bind, Sem.run_pure, Result.andThen_ok, (hT _ _ hi).sizeOf]
          rw [if_neg (by simp [hsz])]
          rw [hst]; rfl
        · refine hS.step (nn := n) (xx := .blk b ty' _) (grownBy_setRow w b _) (fun c hc => by cases hc; exact ⟨g1, g2⟩) (fun m y hm hy => ?_) (updH_same _ _ _) ⟨g1, g2, _, setRow_heap w b us _ ty' _ g3, ?_⟩ (fun c hc => .inr hc)
          · have hy' : updH H n _ m = some y := hy
            rw [updH_ne _ _ hm] at hy'
            replace hy := hy'
            exact ⟨hy, fun c hc => by cases hc; exact hS.inj n m _ y b (fun e => hm e.symm) hn hy rfl⟩
          · rw [List.toList_toArray]
            exact g4.splice hc hb.2
      · cases h1
    · cases h1
  · rename_i n v j sz o av i hp hx hi
    split at h1
    · rename_i v' ty' k l new hn hcs
      split at h1
      · rename_i hb
        simp only [Bool.and_eq_true, Nat.beq_eq, Nat.ble_eq, len_eq] at hb
        split at h1
        · rename_i x' ob hd'; cases h1
          obtain ⟨⟨⟨rfl, rfl⟩, hlt⟩, hob⟩ := h2
          have hrx := rdT_ok (T := E.T) hr (fun _ => rfl) hx
          have hc := cells_ok hrx hcs
          rcases hS.ok _ _ hn with ⟨rfl, rfl⟩ | ⟨b, cap, us, rfl, g1, g2, g3, g4, g5, g6, g7⟩
          · simp at hlt
          · have hj1 : j * k.sz + k.sz ≤ cap * k.sz := by
              have : (j + 1) * k.sz ≤ cap * k.sz := Nat.mul_le_mul_right _ (by omega)
              rw [Nat.add_mul, Nat.one_mul] at this; exact this
            have hfit : j * k.sz + o + new.length ≤ us.size := by rw [g6]; omega
            have hul : us.toList.length = us.size := by simp
            have hst := run_storeCells_at P b (j * k.sz + o) ty' (a.eval x).cells.toList 0 us w g3 (by rw [hc.1]; omega) hc.one
            simp only [Nat.add_zero] at hst
            have hcl := hc.1
            refine wp_skip' (w' := w.setRow b (us.toList.take (j * k.sz + o) ++ (a.eval x).cells.toList ++ us.toList.drop (j * k.sz + o + (a.eval x).cells.toList.length)).toArray) ?_ (h3 _ _ M (Mem.ext_refl _ _) ?_ (undef_ok M))
            · have hsz : (a.eval x).cells.size = i.size := by rw [← Array.length_toList, hc.1, hb.1]
              simp only [execOp, Instr.storeAt, (hr _ _ hp).oel_inv, Value.blk, Value.ownBlock, Option.getD_some, Instr.sureAddr, storeVar, Sem.run_bind, Sem.run_pure, Result.andThen_ok, (hT _ _ hi).sizeOf]
              rw [if_neg (by simp [hsz])]
              rw [hst]; rfl
            · refine hS.step (nn := n) (xx := .own _ ty' k _) (grownBy_setRow w b _) (fun c hc => by cases hc; exact ⟨g1, g2⟩) (fun m y hm hy => ?_) (updH_same _ _ _) ?_ (fun c hc => .inr hc)
              · have hy' : updH H n _ m = some y := hy
                rw [updH_ne _ _ hm] at hy'
                replace hy := hy'
                exact ⟨hy, fun c hc => by cases hc; exact hS.inj n m _ y b (fun e => hm e.symm) hn hy rfl⟩
              · -- the element's cells as they stand now
                let old : List C := (k.enc (l.getD j k.dft)).map .pv
                have hol : old.length = k.sz := by simp [old, LK.enc_len]
                let ucell : List Value := ((us.toList.drop (j * k.sz)).take k.sz)
                have hucl : ucell.length = k.sz := by simp [ucell]; omega
                have hold : RCs M old ucell := by
                  refine ⟨by rw [hucl, hol], fun q c u e1 e2 => ?_⟩
                  simp only [old, List.getElem?_map] at e1
                  cases hy : (k.enc (l.getD j k.dft))[q]? with
                  | none => rw [hy] at e1; cases e1
                  | some y =>
                    rw [hy] at e1; simp at e1; subst e1
                    rw [List.getD, List.getElem?_eq_getElem hlt] at hy
                    obtain ⟨u', f1, f2⟩ := g7 j l[j] q y (List.getElem?_eq_getElem hlt) hy
                    have hq := enc_lt hy
                    simp only [ucell, List.getElem?_take, if_pos hq, List.getElem?_drop] at e2
                    rw [Array.getElem?_toList, f1] at e2
                    cases e2; exact .pv f2
                have hnewc := hold.splice hc (o := o) (by rw [hol]; exact hb.2)
                obtain ⟨d1, d2⟩ := dec_ok hd' hob hnewc
                refine .inr ⟨b, cap, _, by rw [List.length_set], g1, g2, setRow_heap w b us _ ty' _ g3, by rw [List.length_set]; exact g4, g5, ?_, fun q y r z e1 e2 => ?_⟩
                · rw [List.size_toArray, ← g6]
                  simp only [List.length_append, List.length_take, List.length_drop]
                  omega
                · have hr' := enc_lt e2
                  by_cases hqj : q = j
                  · subst hqj
                    rw [List.getElem?_set_self (by exact hlt)] at e1
                    cases e1
                    obtain ⟨u, f1, f2⟩ := d2 r z e2
                    refine ⟨u, ?_, f2⟩
                    rw [← f1, List.getElem?_toArray, get_splice _ _ _ _ (by omega), get_splice _ _ _ _ (by omega)]
                    simp only [ucell, List.getElem?_take, List.getElem?_drop, if_pos hr']
                    by_cases hro : r < o
                    · rw [if_pos (by omega), if_pos hro]
                    · rw [if_neg (by omega), if_neg hro]
                      by_cases hr2 : r < o + (a.eval x).cells.toList.length
                      · rw [if_pos (by omega), if_pos hr2]; congr 1; omega
                      · rw [if_neg (by omega), if_neg hr2]
                  · rw [List.getElem?_set_ne (fun e => hqj e.symm)] at e1
                    obtain ⟨u, f1, f2⟩ := g7 q y r z e1 e2
                    refine ⟨u, ?_, f2⟩
                    rw [← f1, List.getElem?_toArray, get_splice _ _ _ _ (by omega), ← Array.getElem?_toList]
                    rcases Nat.lt_or_ge q j with hlt' | hge'
                    · have : (q + 1) * k.sz ≤ j * k.sz := Nat.mul_le_mul_right _ hlt'
                      rw [Nat.add_mul, Nat.one_mul] at this
                      rw [if_pos (by omega)]
                    · have : (j + 1) * k.sz ≤ q * k.sz := Nat.mul_le_mul_right _ (by omega)
                      rw [Nat.add_mul, Nat.one_mul] at this
                      rw [if_neg (by omega), if_neg (by omega)]
        · cases h1
      · cases h1
    · cases h1
  · cases h1
end
end Go.Mt
