/-
  Mt, part E: the evaluator's pure operations, all in one.
-/
import Derived.Test.YtnmomckmpknbkaaMtD
set_option linter.unusedSimpArgs false
set_option linter.unusedVariables false
namespace Go.Mt
open Go.RowKit
section
variable {P : Program} {T : Tb} {w : World} {M : Mem} {B : Nat} {W : World} {H : Nat → Option HB}

theorem fillC_ok {places : Array (Nat × Nat)} {fs : List (Nat × Nat × Bool)} (hpl : ∀ (i : Nat) x, fs[i]? = some x → places[i]? = some (x.1, x.2.1)) :
    ∀ (ps : List (Nat × A)) (vs : List (Nat × Value)) (cs cs' : List C) (us : Array Value), RCs M cs us.toList →
      (ps.length = vs.length ∧ ∀ (i : Nat) p v, ps[i]? = some p → vs[i]? = some v → p.1 = v.1 ∧ RA M p.2 v.2) → fillC fs cs ps = some cs' →
      ∃ us', Instr.fill (places[·]?) us vs = some us' ∧ RCs M cs' us'.toList := by
  intro ps
  induction ps with
  | nil =>
    intro vs cs cs' us hr hv h
    obtain ⟨hl, _⟩ := hv
    cases vs with
    | nil => simp [fillC] at h; subst h; exact ⟨us, rfl, hr⟩
    | cons => simp at hl
  | cons p ps ih =>
    intro vs cs cs' us hr hv h
    obtain ⟨hl, hv⟩ := hv
    cases vs with
    | nil => simp at hl
    | cons v vs =>
    obtain ⟨i, a⟩ := p
    obtain ⟨i', av⟩ := v
    have h0 := hv 0 _ _ rfl rfl
    simp only at h0
    obtain ⟨rfl, ha⟩ := h0
    simp only [fillC] at h
    split at h
    · rename_i off size bb new hf hn
      split at h
      · rename_i hb
        simp only [Bool.and_eq_true, Nat.beq_eq, Nat.ble_eq, len_eq] at hb
        rw [nth_eq] at hf
        have hp := hpl _ _ hf
        simp only [Instr.fill, hp]
        -- the cells of the new part
        have hnew : RCs M new av.cells.toList := by
          cases ha with
          | c hc =>
            simp [A.cells] at hn; subst hn
            have := hc.one
            have hcs : av.cells = #[av] := by cases av <;> simp [Value.oneCell'] at this <;> rfl
            rw [hcs]
            refine ⟨rfl, fun j c u h1 h2 => ?_⟩
            cases j with
            | zero => simp at h1 h2; subst h1 h2; exact hc
            | succ j => simp at h1
          | g hg => simp [A.cells] at hn; subst hn; exact hg
          | t => simp [A.cells] at hn
        have hsz : av.cells.size = size := by rw [← Array.length_toList, hnew.1, hb.1]
        have hus : us.size = cs.length := by rw [← Array.length_toList, hr.1]
        have hcond : (decide (av.cells.size ≠ size) || decide (off + av.cells.size > us.size)) = false := by
          simp [hsz, hus]; omega
        rw [hcond]
        simp only [Bool.false_eq_true, if_false]
        have key : ∀ (l : List Value) (k : Nat) (us : Array Value), off + k + l.length ≤ us.size →
            ((l.zipIdx k).foldl (fun cs (c, j) => cs.setIfInBounds (off + j) c) us).toList = us.toList.take (off + k) ++ l ++ us.toList.drop (off + k + l.length) := by
          intro l
          induction l with
          | nil => intro k us hk; simp
          | cons x l ih =>
            intro k us hk
            simp only [List.zipIdx_cons, List.foldl_cons]
            rw [ih (k + 1) _ (by simp at hk ⊢; omega)]
            simp only [Array.toList_setIfInBounds]
            have hlt : off + k < us.toList.length := by simp at hk ⊢; omega
            have := list_seg_step us.toList (off + k) x l (by simp at hk ⊢; omega)
            simp only [List.length_cons]
            rw [show off + (k + 1) = off + k + 1 from by omega, show off + k + (l.length + 1) = off + k + (l.length + 1) from rfl]
            exact this
        have hk := key av.cells.toList 0 us (by simp [hsz, hus]; omega)
        have hz : av.cells.zipIdx.foldl (fun cs (x : Value × Nat) => cs.setIfInBounds (off + x.2) x.1) us = ((av.cells.toList.zipIdx 0).foldl (fun cs (c, j) => cs.setIfInBounds (off + j) c) us) := by
          rw [← Array.foldl_toList, Array.toList_zipIdx]
        have hfin := ih vs (tke off cs ++ new ++ drp (off + size) cs) cs' (av.cells.zipIdx.foldl (fun cs (x : Value × Nat) => cs.setIfInBounds (off + x.2) x.1) us) (by
          rw [hz]
          simp only [Nat.add_zero] at hk
          refine ⟨?_, ?_⟩
          · rw [hk]; simp [tke_eq, drp_eq, hb.1, hus, hsz]
          · intro j c u h1 h2
            rw [hk] at h2
            rw [tke_eq, drp_eq] at h1
            rw [List.append_assoc] at h1 h2
            by_cases hj : j < off
            · rw [List.getElem?_append_left (by simp; omega)] at h1 h2
              rw [List.getElem?_take, if_pos hj] at h1 h2
              exact hr.2 j c u h1 h2
            · rw [List.getElem?_append_right (by simp; omega)] at h1 h2
              have e1 : (List.take off cs).length = off := by simp; omega
              have e2 : (List.take off us.toList).length = off := by simp; omega
              rw [e1] at h1; rw [e2] at h2
              by_cases hj2 : j - off < size
              · rw [List.getElem?_append_left (by omega)] at h1
                rw [List.getElem?_append_left (by simp [hsz]; omega)] at h2
                exact hnew.2 _ c u h1 h2
              · rw [List.getElem?_append_right (by omega)] at h1
                rw [List.getElem?_append_right (by simp [hsz]; omega)] at h2
                rw [List.getElem?_drop] at h1 h2
                simp only [Array.length_toList, hsz, hb.1] at h1 h2
                exact hr.2 _ c u h1 h2) ⟨by simpa using hl, fun i p v h1 h2 => hv (i + 1) p v h1 h2⟩ h
        exact hfin
      · cases h
    · cases h

theorem rdAll_ok {rd : Operand → Option A} {ρ : Operand → Value} (hr : ∀ o x, rd o = some x → RA M x (ρ o)) : ∀ (os : List Operand) (xs : List A), rdAll rd os = some xs → os.length = xs.length ∧ ∀ (j : Nat) x, xs[j]? = some x → ∃ o, os[j]? = some o ∧ RA M x (ρ o) := by
  intro os
  induction os with
  | nil => intro xs h; simp [rdAll] at h; subst h; simp
  | cons o os ih =>
    intro xs h
    simp only [rdAll] at h
    split at h
    · rename_i x xs' h1 h2
      simp at h; subst h
      obtain ⟨e, ih⟩ := ih _ h2
      refine ⟨by simp [e], fun j y hj => ?_⟩
      cases j with
      | zero => simp at hj; subst hj; exact ⟨o, rfl, hr _ _ h1⟩
      | succ j => simpa using ih j y (by simpa using hj)
    · cases h

theorem rdParts_ok {rd : Operand → Option A} {ρ : Operand → Value} (hr : ∀ o x, rd o = some x → RA M x (ρ o)) : ∀ (os : List (Nat × Operand)) (xs : List (Nat × A)), rdParts T rd os = some xs →
    xs.length = (os.map fun (i, x) => (i, ρ x)).length ∧ ∀ (i : Nat) p v, xs[i]? = some p → (os.map fun (i, x) => (i, ρ x))[i]? = some v → p.1 = v.1 ∧ RA M p.2 v.2 := by
  intro os
  induction os with
  | nil => intro xs h; simp [rdParts] at h; subst h; simp
  | cons o os ih =>
    obtain ⟨i0, o⟩ := o
    intro xs h
    simp only [rdParts] at h
    split at h
    · rename_i x xs' h1 h2
      simp at h; subst h
      obtain ⟨e, ih⟩ := ih _ h2
      refine ⟨by simp at e ⊢; exact e, fun i p v h3 h4 => ?_⟩
      cases i with
      | zero => simp at h3 h4; subst h3 h4; exact ⟨rfl, hr _ _ h1⟩
      | succ i => exact ih i p v (by simpa using h3) (by simpa using h4)
    · cases h

theorem cellsOf_ok : ∀ (xs : List A) (cs : List C), cellsOf xs = some cs → xs = cs.map .c := by
  intro xs
  induction xs with
  | nil => intro cs h; simp [cellsOf] at h; subst h; rfl
  | cons x xs ih =>
    intro cs h
    simp only [cellsOf] at h
    split at h
    · rename_i c cs' h1 h2
      simp at h; subst h
      cases x <;> simp [cellOf] at h1
      subst h1
      rw [ih _ h2]; rfl
    · cases h

theorem cnv_ok (hT : TbOk P T) {wm : Bool} {src dst : TypeId} {a : A} {v : Value} (ha : RA M a v) {x : A} {ob : Prop} (h : cnv T wm dst a = some (x, ob)) (hob : ob)
    (hsrc : ∃ d, P.underlying src = some d) :
    ∃ u, (Go.convert src dst v).run P w = .ok u w ∧ RA M x u := by
  obtain ⟨ds, hds⟩ := hsrc
  unfold cnv at h
  split at h
  · have := ha.val_inv; subst this
    split at h
    · rename_i n k s1 s2 z hk
      have hu := (hT _ _ hk).und
      simp only at hu
      simp only [Option.some.injEq] at h
      generalize (wm != cvw k) = bb at h
      cases bb <;> simp only [wrp, Prod.mk.injEq] at h <;> obtain ⟨rfl, rfl⟩ := h
      · exact ⟨_, by simp [Go.convert, run_underlying hu, run_underlying hds, Conv.intToInt, wrap_in hob], .c (.pv (.val rfl))⟩
      · exact ⟨_, by simp [Go.convert, run_underlying hu, run_underlying hds, Conv.intToInt], .c (.pv (.val rfl))⟩
    · cases h
  · have := ha.val_inv; subst this
    split at h
    · rename_i s s1 s2 z hk
      have hu := (hT _ _ hk).und
      simp only at hu
      cases h
      exact ⟨_, by simp [Go.convert, run_underlying hu, run_underlying hds], .c (.pv (.val rfl))⟩
    · cases h
  · cases h

theorem cnvB_ok (hT : TbOk P T) (hS : SatH B W H M w) {src dst e : TypeId} {a : A} {v : Value} (ha : RA M a v) {x : A} {ob : Prop} (h : cnvB T H dst a = some (x, ob)) (hob : ob)
    (he1 : P.underlying src = some (.slice e)) (he2 : P.underlying e = some (.int .u8)) :
    ∃ u, (Go.convert src dst v).run P w = .ok u w ∧ RA M x u := by
  unfold cnvB at h
  split at h
  · rename_i l ob' s1 s2 z hl hk
    have hu := (hT _ _ hk).und
    simp only at hu
    cases h
    obtain ⟨ad, c, b, o, rfl, h1, h2, h3, h4⟩ := lkOf_ok hS ha hl hob
    refine ⟨.string ⟨l.toArray⟩, ?_, .c (.pv (.val rfl))⟩
    rw [run_convert_bytes_string w src dst e ad l.length c he1 he2 hu]
    by_cases hne : l = []
    · subst hne
      cases ad with
      | none => simp [Conv.bytesToString]; rfl
      | some ad =>
        have := run_bytesToString (P := P) w ad 0 c [] (by simp [loadCells, loadCellsFrom])
        simp only [List.length_nil]
        rw [this]; rfl
    · have := h1 hne; subst this
      have hcells := run_loadCells (P := P) w ⟨b, o, none⟩ l.length (fun j => .int .u8 ((l.getD j 0).toNat : Int)) (fun j hj => by
        obtain ⟨u, hu, hr⟩ := h4 j l[j] 0 _ (List.getElem?_eq_getElem hj) rfl
        have := hr.val_eq; subst this
        rw [Addr.add_lit]
        simp only [LK.sz, Nat.mul_one, Nat.add_zero] at hu
        rw [hu]
        simp [List.getD, List.getElem?_eq_getElem hj])
      have hmap : (List.range l.length).map (fun j => Value.int .u8 ((l.getD j 0).toNat : Int)) = (l.map fun x => ((x.toNat : Nat) : Int)).map (Value.int .u8) := by
        apply List.ext_getElem?
        intro i
        by_cases hi : i < l.length
        · simp [hi, List.getD]
        · simp [List.getElem?_eq_none (Nat.le_of_not_lt hi)]; omega
      rw [hmap] at hcells
      rw [run_bytesToString w _ l.length c _ hcells]
      congr 2
      have : ∀ (l : List UInt8) (s : ByteArray), (l.map fun x => ((x.toNat : Nat) : Int)).foldl (fun r n => r.push (UInt8.ofNat n.toNat)) s = ⟨(s.data.toList ++ l).toArray⟩ := by
        intro l
        induction l with
        | nil => intro s; simp
        | cons x l ih =>
          intro s
          simp only [List.map_cons, List.foldl_cons, ih]
          simp [ByteArray.push]
      rw [this]; simp
  · cases h

end
end Go.Mt
