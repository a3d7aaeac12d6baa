/-
  Mt, part M: a slice's literal, make, append, a call by its contract.
-/
import Derived.Test.YtnmomckmpknbkaaMtL
set_option linter.unusedSimpArgs false
set_option linter.unusedVariables false
namespace Go.Mt
open Go.RowKit
section
variable {P : Program} {T : Tb} {w w' : World} {M F : Mem} {B : Nat} {W : World} {H H' : Nat → Option HB}
variable {E : Env} {a : Act} {rd : Operand → Option A} {nx : Nat} {K : Act → World → Prop} {Q : Exit → Act → World → Prop}
  {dst : Option Tmp} {ty : TypeId} {pos : String} {after : Array Edge} {guard : Option (Nat × Bool)}

theorem slc_und (hT : TbOk P T) {t e s1 s2 : Nat} {k : LK} {z} (h : T t = some ⟨.slc e k, s1, s2, z⟩) : P.underlying t = some (.slice e) ∧ ∃ inf, P.info? e = some inf ∧ inf.size = k.sz := by
  have := (hT _ _ h).und
  exact this

theorem buildSlice_ok (hT : TbOk P E.T) (hS : SatH B W H M w) (hr : ∀ o x, rd o = some x → RA M x (a.eval o)) {t n : Nat} {ps : Array (Nat × Operand)}
    (h : ∀ u, ∃ r, heapOp E H nx rd u (.buildSlice t n ps) = some r ∧ Kok B W M ⟨dst, .buildSlice t n ps, ty, pos, after, guard⟩ a K r) : Oper.wp P ⟨dst, .buildSlice t n ps, ty, pos, after, guard⟩ a w K Q := by
  obtain ⟨ps⟩ := ps
  obtain ⟨r, h1, h2, h3⟩ := h (.slice (some ⟨w.heap.size, 0, none⟩) n n)
  simp only [heapOp] at h1
  split at h1
  · rename_i e k s1 s2 z hk
    split at h1
    · rename_i l ob ie hn hd hie
      split at h1
      · rename_i hb; cases h1
        simp only [Bool.and_eq_true, Nat.beq_eq, Nat.ble_eq, len_eq] at hb hn
        obtain ⟨hu, _⟩ := slc_und hT hk
        obtain ⟨inf, zv, i1, i2, i3, i4, i5, i6⟩ := (hT _ _ hie).info
        obtain ⟨g1, g2⟩ := decAll_ok hr (fun _ => rfl) _ _ _ _ hd h2
        have hsz := LK.sz_pos k
        have hsz2 : k.sz ≤ 8 := by cases k <;> simp [LK.sz]
        have hisz : inf.size = k.sz := by rw [i2, hb.1]
        let zs : Array Value := (Array.range (n * k.sz)).map ((if n * k.sz = 0 then #[] else zv.cells)[· % (if n * k.sz = 0 then #[] else zv.cells).size]!)
        obtain ⟨us', f1, f2, f3, f4⟩ := fill_all k.sz (ps.map fun (i, x) => (i, a.eval x)) 0 zs (fun j p hj => by
          rw [List.getElem?_map] at hj
          cases hp : ps[j]? with
          | none => rw [hp] at hj; cases hj
          | some p0 =>
            rw [hp] at hj; simp at hj; subst hj
            obtain ⟨q1, x, q2, q3, q4⟩ := g2 j p0 hp
            exact ⟨q1, q3⟩) (by simp [zs, hn])
        have hlen : l.length = n := by rw [g1, hn]
        have hlies : Lies M k l us'.toList := by
          refine ⟨by simp [f2, zs, hlen], fun i x j y e1 e2 => ?_⟩
          have hi : i < ps.length := by rw [← g1]; exact (List.getElem?_eq_some_iff.1 e1).1
          obtain ⟨q1, x', q2, q3, q4⟩ := g2 i ps[i] (List.getElem?_eq_getElem hi)
          rw [e1] at q2; cases q2
          obtain ⟨u, v1, v2⟩ := q4 j y e2
          have := f4 i j (ps[i].1, a.eval ps[i].2) (by simp [hi]) (enc_lt e2)
          rw [Nat.zero_add] at this
          exact ⟨u, by rw [Array.getElem?_toList, this]; exact v1, v2⟩
        have hown : OwnSl M B (w.alloc (.cells us' e)) (.slice (some ⟨w.heap.size, 0, none⟩) n n) e k l := by
          rw [← hlen]
          refine OwnSl.mk hS.base (Mem.none_of_size hS.mem (Nat.le_refl _)) (heap_alloc_new w _) (Nat.le_refl _) (by have := hb.2; simp only [maxLen]; omega) (by simp [f2, zs, hlen]) ?_
          rw [List.take_of_length_le (by rw [hlies.1]; exact Nat.le_refl _)]
          exact hlies
        refine wp_value (w' := w.alloc (.cells us' e)) (v := .slice (some ⟨w.heap.size, 0, none⟩) n n) ?_ (h3 _ _ M (Mem.ext_refl _ _) (hS.newOwn (row := none) (World.grownBy_alloc w _ none) (by simp) hown (fun b hb => .inl (by cases hb; exact Nat.le_refl _)) nx (fun m x hm hx => ⟨hx, by simp⟩)) (.c (.own rfl)))
        have hsmall : ¬ (n * k.sz > 2 ^ 24) := by
          have : n * k.sz ≤ 1000 * 8 := Nat.mul_le_mul hb.2 hsz2
          omega
        simp only [execOp, Instr.buildSlice, Sem.run_bind, run_underlying hu, Result.andThen_ok, Go.sizeOf, run_typeInfo i1, Sem.run_map, hisz]
        by_cases hz : n * k.sz = 0
        · simp [hz, zs] at f1 ⊢
          rw [f1]
          simp [newRow]
        · simp only [if_neg hsmall, if_neg hz, Sem.run_bind, zeroValue, run_typeInfo i1, Result.andThen_ok, i4, Sem.run_pure, List.map_toArray]
          simp only [zs, if_neg hz] at f1
          rw [f1]
          simp [newRow]
      · cases h1
    · cases h1
  · cases h1

theorem makeSlice_ok (hT : TbOk P E.T) (hS : SatH B W H M w) (hr : ∀ o x, rd o = some x → RA M x (a.eval o)) {t : Nat} {ol oc : Operand}
    (h : ∀ u, ∃ r, heapOp E H nx rd u (.makeSlice t ol oc) = some r ∧ Kok B W M ⟨dst, .makeSlice t ol oc, ty, pos, after, guard⟩ a K r) : Oper.wp P ⟨dst, .makeSlice t ol oc, ty, pos, after, guard⟩ a w K Q := by
  have hfind : ∀ u r, heapOp E H nx rd u (.makeSlice t ol oc) = some r → ∃ e k s1 s2 z kl l kc c ie, E.T t = some ⟨.slc e k, s1, s2, z⟩ ∧ rd ol = some (.c (.pv (.val (.int kl l)))) ∧ rd oc = some (.c (.pv (.val (.int kc c)))) ∧ E.T e = some ie ∧ ie.bytes ≤ 64 ∧
      r = ⟨.c (.own nx u), ((0 ≤ l ∧ l ≤ c) ∧ c ≤ 1099511627776) ∧ ie.zero = (k.enc k.dft).map .pv, updH H nx (some (.own u e k (List.replicate l.toNat k.dft))), nx + 1⟩ := by
    intro u r h1
    simp only [heapOp] at h1
    split at h1
    · rename_i e k s1 s2 z kl l kc c hk hl hc
      split at h1
      · rename_i ie hie
        split at h1
        · rename_i hb; cases h1
          rw [Nat.ble_eq] at hb
          exact ⟨e, k, s1, s2, z, kl, l, kc, c, ie, hk, hl, hc, hie, hb, rfl⟩
        · cases h1
      · cases h1
    · cases h1
  obtain ⟨r0, h0, h02, _⟩ := h undef
  obtain ⟨e, k, s1, s2, z, kl, l, kc, c, ie, hk, hl, hc, hie, hb, rfl⟩ := hfind _ _ h0
  obtain ⟨⟨⟨h0l, hlc⟩, hcm⟩, hzero⟩ := h02
  obtain ⟨hu, _⟩ := slc_und hT hk
  obtain ⟨inf, zv, i1, i2, i3, i4, i5, i6⟩ := (hT _ _ hie).info
  obtain ⟨r, h1, h2, h3⟩ := h (.slice (some ⟨w.heap.size, 0, none⟩) l.toNat c.toNat)
  obtain ⟨e', k', s1', s2', z', kl', l', kc', c', ie', hk', hl', hc', hie', hb', rfl⟩ := hfind _ _ h1
  rw [hk] at hk'; cases hk'
  rw [hl] at hl'; cases hl'
  rw [hc] at hc'; cases hc'
  rw [hie] at hie'; cases hie'
  have hbytes : (inf.bytes : Int) * c ≤ 281474976710656 := by
    have h1 : (inf.bytes : Int) ≤ 64 := by rw [i3]; omega
    calc (inf.bytes : Int) * c ≤ 64 * 1099511627776 := Int.mul_le_mul h1 hcm (by omega) (by omega)
      _ ≤ _ := by decide
  have hrun := run_make (P := P) w t e inf zv hu i1 i4 kl kc l c h0l hlc hbytes (by omega)
  have hzr := i6 M
  rw [hzero] at hzr
  have hzsz : zv.cells.size = k.sz := by rw [← Array.length_toList, hzr.1]; simp [LK.enc_len]
  have hisz : inf.size = k.sz := by rw [i2, ← i5, hzsz]
  have hown : OwnSl M B (w.alloc (.cells (madeCells zv.cells (c.toNat * inf.size)) e)) (.slice (some ⟨w.heap.size, 0, none⟩) l.toNat c.toNat) e k (List.replicate l.toNat k.dft) := by
    refine .inr ⟨w.heap.size, c.toNat, _, by rw [List.length_replicate], hS.base, Mem.none_of_size hS.mem (Nat.le_refl _), heap_alloc_new w _, by rw [List.length_replicate]; omega, by simp only [maxLen]; omega, by rw [size_madeCells, hisz], fun i x j y e1 e2 => ?_⟩
    rw [List.getElem?_replicate] at e1
    split at e1
    · rename_i hi; cases e1
      have hj := enc_lt e2
      obtain ⟨u, f1, f2⟩ := hzr.at (j := j) (x := y) (by rw [List.getElem?_map, e2]; rfl)
      refine ⟨u, ?_, f2⟩
      have hlt : i * k.sz + j < c.toNat * k.sz := by
        have : (i + 1) * k.sz ≤ c.toNat * k.sz := Nat.mul_le_mul_right _ (by omega)
        rw [Nat.add_mul, Nat.one_mul] at this; omega
      have hmod : (i * k.sz + j) % k.sz = j := by rw [Nat.mul_comm, Nat.mul_add_mod, Nat.mod_eq_of_lt hj]
      rw [Array.getElem?_toList] at f1
      have hj' : j < zv.cells.size := by omega
      rw [Array.getElem?_eq_getElem hj'] at f1
      have hnz : zv.cells.size ≠ 0 := by omega
      simp only [madeCells, hisz]
      rw [Array.getElem?_map, Array.getElem?_range, if_pos hlt, Option.map_some, hzsz, hmod]
      rw [getElem!_pos zv.cells j hj']
      exact f1
    · cases e1
  refine wp_value (w' := w.alloc (.cells (madeCells zv.cells (c.toNat * inf.size)) e)) (v := .slice (some ⟨w.heap.size, 0, none⟩) l.toNat c.toNat) ?_ (h3 _ _ M (Mem.ext_refl _ _) (hS.newOwn (row := none) (World.grownBy_alloc w _ none) (by simp) hown (fun b hb => .inl (by cases hb; exact Nat.le_refl _)) nx (fun m x hm hx => ⟨hx, by simp⟩)) (.c (.own rfl)))
  have el := (hr _ _ hl).val_inv
  have ec := (hr _ _ hc).val_inv
  simp only [execOp, el, ec, Sem.run_bind]
  rw [hrun]; rfl
end
end Go.Mt
