/-
  Mt, part K: operations that turn memory say what the machine does.
-/
import Derived.Test.YtnmomckmpknbkaaMtJ
set_option linter.unusedSimpArgs false
set_option linter.unusedVariables false
namespace Go.Mt
open Go.RowKit
section
variable {P : Program} {T : Tb} {w w' : World} {M F : Mem} {B : Nat} {W : World} {H H' : Nat → Option HB}

theorem cells_ok {a : A} {v : Value} {cs : List C} (hv : RA M a v) (h : a.cells = some cs) : RCs M cs v.cells.toList := by
  cases hv with
  | c hc =>
    simp [A.cells] at h; subst h
    have := hc.one
    have hcs : v.cells = #[v] := by cases v <;> simp [Value.oneCell'] at this <;> rfl
    rw [hcs]
    refine ⟨rfl, fun j c u h1 h2 => ?_⟩
    cases j with
    | zero => simp at h1 h2; subst h1 h2; exact hc
    | succ j => simp at h1
  | g hg => simp [A.cells] at h; subst h; exact hg
  | t => simp [A.cells] at h

theorem RCs.one {xs : List C} {us : List Value} (h : RCs M xs us) : ∀ u ∈ us, u.oneCell' = true := by
  intro u hu
  obtain ⟨n, hn, rfl⟩ := List.getElem_of_mem hu
  have hn' : n < xs.length := by rw [← h.1]; exact hn
  exact (h.2 n _ _ (List.getElem?_eq_getElem hn') (List.getElem?_eq_getElem hn)).one

/-- A new block under a new name. -/
theorem SatH.new (hS : SatH B W H M w) {us : Array Value} {ty : TypeId} {cs : List C} (hc : RCs M cs us.toList) (nx : Nat) :
    SatH B W (updH H nx (some (.blk w.heap.size ty cs))) M (w.alloc (.cells us ty)) :=
  hS.step (row := none) (nn := nx) (xx := .blk w.heap.size ty cs) (World.grownBy_alloc w _ none) (by simp)
    (fun n x hn hx => by rw [updH_ne _ _ hn] at hx; exact ⟨hx, by simp⟩) (updH_same _ _ _)
    ⟨hS.base, Mem.none_of_size hS.mem (Nat.le_refl _), us, heap_alloc_new w _, hc⟩ (fun b hb => .inl (by cases hb; exact Nat.le_refl _))

theorem SatH.newOwn (hS : SatH B W H M w) {row : Option Nat} (hg : w.grownBy w' row) (hrow : ∀ b, row = some b → B ≤ b ∧ M b = none) {v : Value} {ty : TypeId} {k : LK} {l : List k.T} (ho : OwnSl M B w' v ty k l)
    (hf : ∀ b, v.ownBlock = some b → w.heap.size ≤ b ∨ row = some b) (nx : Nat) (hH : ∀ n x, n ≠ nx → H' n = some x → H n = some x ∧ ∀ b, row = some b → x.block ≠ some b) :
    SatH B W (updH H' nx (some (.own v ty k l))) M w' :=
  hS.step (nn := nx) (xx := .own v ty k l) hg hrow (fun n x hn hx => by rw [updH_ne _ _ hn] at hx; exact hH n x hn hx) (updH_same _ _ _) ho hf

theorem appL_ok {k k' : LK} {l lm : List k.T} {m : List k'.T} (h : appL k l k' m = some lm) : ∃ e : k' = k, lm = l ++ (e ▸ m) := by
  unfold appL at h
  split at h <;> first | (cases h; done) | (cases h; exact ⟨rfl, rfl⟩) | skip
  · split at h
    · rename_i hk; cases h
      have := ikeq_eq hk; subst this
      exact ⟨rfl, rfl⟩
    · cases h

theorem wp_value {o : Oper} {a : Act} {K : Act → World → Prop} {Q : Exit → Act → World → Prop} {v : Value} (h : (execOp a.eval o).run P w = .ok (.value v) w') (hk : K (a.put o.dst v) w') : o.wp P a w K Q := by
  unfold Oper.wp; rw [h]; exact hk
theorem wp_skip' {o : Oper} {a : Act} {K : Act → World → Prop} {Q : Exit → Act → World → Prop} (h : (execOp a.eval o).run P w = .ok .skip w') (hk : K (a.put o.dst undef) w') : o.wp P a w K Q := by
  unfold Oper.wp; rw [h]; exact hk

/-- What a list's cells are, as an append's source. -/
theorem src_ok (hS : SatH B W H M w) {a : A} {v : Value} (hv : RA M a v) {tx : TypeId} {itx : TI} (hx : TyOk P tx itx) {k : LK} {l : List k.T} {ob : Prop} {zs : List C} {z : Value} (hz : RCs M zs z.cells.toList) (h : srcOf H zs itx.kind a = some ⟨k, l, ob⟩) (hob : ob) :
    ∃ news, Src2 P k.sz tx v l.length news w z ∧ Lies M k l news := by
  have hund := hx.und
  unfold srcOf at h
  split at h
  · rename_i kd ki n hkind
    rw [hkind] at hund
    cases h
    have := hv.val_inv; subst this
    obtain ⟨rfl, h0, h1⟩ := hob
    have hzc : z.cells = #[.int .u8 0] := by
      have e1 : z.cells.toList.length = 1 := by simpa using hz.1
      obtain ⟨u, hu⟩ : ∃ u, z.cells.toList[0]? = some u := ⟨_, List.getElem?_eq_getElem (by omega)⟩
      have hv := hz.2 0 _ u rfl hu
      cases hv with
      | pv hv =>
        cases hv with
        | val hv =>
          apply Array.ext'
          rw [List.getElem?_eq_getElem (by omega)] at hu
          cases hcs : z.cells.toList with
          | nil => rw [hcs] at e1; cases e1
          | cons y r =>
            cases r with
            | nil => simp [hcs] at hu; simp [hu]
            | cons _ _ => rw [hcs] at e1; simp at e1
    refine ⟨List.replicate n.toNat (.int .u8 0), .inr ⟨⟨kd, hund⟩, ⟨ki, ?_⟩, ?_, ?_, hzc⟩, ⟨by simp [LK.sz], fun i x j y e1 e2 => ?_⟩⟩
    · rw [List.length_replicate]; congr 1; omega
    · rw [List.length_replicate]; omega
    · rw [List.length_replicate]
    have hj := enc_lt e2
    have hj0 : j = 0 := by simp [LK.sz] at hj; exact hj
    subst hj0
    rw [List.getElem?_replicate] at e1
    split at e1
    · rename_i hi; cases e1
      simp [LK.enc] at e2; subst e2
      refine ⟨.int .u8 0, ?_, .val rfl⟩
      simp [LK.sz, hi]
    · cases e1
  · rename_i s hkind
    rw [hkind] at hund
    cases h
    have := hv.val_inv; subst this
    refine ⟨byteCells ⟨⟨s⟩⟩, .inl (Src.ofString w hund ⟨⟨s⟩⟩), ?_⟩
    refine ⟨by rw [byteCells_length]; simp [LK.sz]; rfl, fun i x j y e1 e2 => ?_⟩
    have hj := enc_lt e2
    have hj0 : j = 0 := by simp [LK.sz] at hj; exact hj
    subst hj0
    simp [LK.enc] at e2; subst e2
    refine ⟨.int .u8 x.toNat, ?_, .val rfl⟩
    simp [byteCells, LK.sz, e1]
  · rename_i e k'' hkind
    rw [hkind] at hund
    have he := hund.1
    obtain ⟨ad, c, b, o, rfl, h1, h2, h3, h4⟩ := lkOf_ok hS hv h hob
    by_cases hne : l = []
    · subst hne
      refine ⟨[], ?_, ⟨by simp, by simp⟩⟩
      refine .inl ⟨.inl ⟨e, he⟩, fun _ => rfl, ?_, ?_, by simp, by simp⟩
      · cases ad with
        | none => simp [Builtin.firstCells]
        | some ad => simp [Builtin.firstCells, loadCells, loadCellsFrom]
      · cases ad with
        | none => simp [Builtin.firstCells]
        | some ad => simp [Builtin.firstCells, loadCells, loadCellsFrom]
    · have := h1 hne; subst this
      have hsz := LK.sz_pos k
      let news : List Value := (List.range (l.length * k.sz)).map fun j => (w.cell? ⟨b, o + j, none⟩).getD undef
      have hnl : news.length = l.length * k.sz := by simp [news]
      have hcell : ∀ (j : Nat), j < l.length * k.sz → ∃ u, w.cell? ⟨b, o + j, none⟩ = some u := by
        intro j hj
        have hi : j / k.sz < l.length := Nat.div_lt_of_lt_mul (by rw [Nat.mul_comm]; exact hj)
        have hjj : j % k.sz < (k.enc l[j / k.sz]).length := by rw [LK.enc_len]; exact Nat.mod_lt _ hsz
        obtain ⟨u, e1, e2⟩ := h4 (j / k.sz) _ (j % k.sz) _ (List.getElem?_eq_getElem hi) (List.getElem?_eq_getElem hjj)
        rw [Nat.add_assoc, Nat.div_add_mod'] at e1
        exact ⟨u, e1⟩
      have hnews : ∀ (j : Nat) u, news[j]? = some u → w.cell? ((⟨b, o, none⟩ : Addr).add j) = some u := by
        intro j u hu
        have hj : j < l.length * k.sz := by rw [← hnl]; exact (List.getElem?_eq_some_iff.1 hu).1
        obtain ⟨u', hu'⟩ := hcell j hj
        rw [Addr.add_lit, hu']
        simp [news, hj, hu'] at hu
        rw [hu]
      have hlies : Lies M k l news := by
        refine ⟨hnl, fun i x j y e1 e2 => ?_⟩
        obtain ⟨u, g1, g2⟩ := h4 i x j y e1 e2
        refine ⟨u, ?_, g2⟩
        have hi := (List.getElem?_eq_some_iff.1 e1).1
        have hj := enc_lt e2
        have hlt : i * k.sz + j < l.length * k.sz := by
          have : (i + 1) * k.sz ≤ l.length * k.sz := Nat.mul_le_mul_right _ hi
          rw [Nat.add_mul] at this; omega
        simp [news, hlt, ← Nat.add_assoc, g1]
      exact ⟨news, .inl (Src.ofSlice w he _ _ _ news hnl hnews hlies.one), hlies⟩
  · cases h

theorem decAll_ok {k : LK} {e : TypeId} {rd : Operand → Option A} {ρ : Operand → Value} (hr : ∀ o x, rd o = some x → RA M x (ρ o)) (hcn : ∀ v, ρ (.const v) = v) : ∀ (ps : List (Nat × Operand)) (i : Nat) (l : List k.T) (ob : Prop), decAll k T e rd i ps = some (l, ob) → ob →
    l.length = ps.length ∧ ∀ (j : Nat) p, ps[j]? = some p → p.1 = i + j ∧ ∃ x, l[j]? = some x ∧ (ρ p.2).cells.size = k.sz ∧ (∀ (q : Nat) (y : PV), (k.enc x)[q]? = some y → ∃ u, (ρ p.2).cells[q]? = some u ∧ R M y u) := by
  intro ps
  induction ps with
  | nil => intro i l ob h hob; cases h; simp
  | cons p ps ih =>
    obtain ⟨j0, o⟩ := p
    intro i l ob h hob
    simp only [decAll] at h
    split at h
    · rename_i a hb ha
      split at h
      · rename_i cs hcs
        split at h
        · rename_i x obx xs obxs hd hrest
          cases h
          rw [Nat.beq_eq] at hb; subst hb
          obtain ⟨g1, g2⟩ := ih _ _ _ hrest hob.2
          obtain ⟨d1, d2⟩ := dec_ok hd hob.1 (cells_ok (rdT_ok (T := T) hr hcn ha) hcs)
          refine ⟨by simp [g1], fun j p hj => ?_⟩
          cases j with
          | zero =>
            simp at hj; subst hj
            exact ⟨rfl, x, rfl, by simpa using d1, fun q y hq => let ⟨u, e1, e2⟩ := d2 q y hq; ⟨u, by simpa using e1, e2⟩⟩
          | succ j =>
            obtain ⟨e1, x', e2, e3⟩ := g2 j p (by simpa using hj)
            exact ⟨by omega, x', by simpa using e2, e3⟩
        · cases h
      · cases h
    · cases h

/-- The parts of a slice's literal laid one behind the other. -/
theorem fill_all (sz : Nat) : ∀ (vs : List (Nat × Value)) (i : Nat) (us : Array Value), (∀ (j : Nat) p, vs[j]? = some p → p.1 = i + j ∧ p.2.cells.size = sz) → (i + vs.length) * sz ≤ us.size →
    ∃ us', Instr.fill (fun i => some (i * sz, sz)) us vs = some us' ∧ us'.size = us.size ∧ (∀ q, q < i * sz → us'[q]? = us[q]?) ∧ ∀ (j q : Nat) p, vs[j]? = some p → q < sz → us'[(i + j) * sz + q]? = p.2.cells[q]? := by
  intro vs
  induction vs with
  | nil => intro i us _ _; exact ⟨us, rfl, rfl, fun _ _ => rfl, by simp⟩
  | cons p vs ih =>
    intro i us h hs
    obtain ⟨j0, v⟩ := p
    obtain ⟨e1, e2⟩ := h 0 _ rfl
    simp only [Nat.add_zero] at e1 e2
    subst e1
    simp only [List.length_cons] at hs
    have hs1 : j0 * sz + sz ≤ us.size := by
      have : (j0 + 1) * sz ≤ (j0 + (vs.length + 1)) * sz := Nat.mul_le_mul_right _ (by omega)
      rw [Nat.add_mul, Nat.one_mul] at this; omega
    have hcond : (decide (v.cells.size ≠ sz) || decide (j0 * sz + v.cells.size > us.size)) = false := by simp [e2]; omega
    let us1 := v.cells.zipIdx.foldl (fun cs (x : Value × Nat) => cs.setIfInBounds (j0 * sz + x.2) x.1) us
    have key : ∀ (l : List Value) (k : Nat) (us : Array Value), j0 * sz + k + l.length ≤ us.size →
        ((l.zipIdx k).foldl (fun cs (c, j) => cs.setIfInBounds (j0 * sz + j) c) us).toList = us.toList.take (j0 * sz + k) ++ l ++ us.toList.drop (j0 * sz + k + l.length) := by
      intro l
      induction l with
      | nil => intro k us hk; simp
      | cons x l ih =>
        intro k us hk
        simp only [List.zipIdx_cons, List.foldl_cons]
        rw [ih (k + 1) _ (by simp at hk ⊢; omega)]
        simp only [Array.toList_setIfInBounds]
        have := list_seg_step us.toList (j0 * sz + k) x l (by simp at hk ⊢; omega)
        try simp only [List.length_cons]
        rw [show j0 * sz + (k + 1) = j0 * sz + k + 1 from by omega]
        exact this
    have hk := key v.cells.toList 0 us (by simp [e2]; omega)
    have hz : us1.toList = us.toList.take (j0 * sz) ++ v.cells.toList ++ us.toList.drop (j0 * sz + sz) := by
      simp only [us1]
      rw [← Array.foldl_toList, Array.toList_zipIdx, hk]
      simp [e2]
    have hsz1 : us1.size = us.size := by
      rw [← Array.length_toList, hz]; simp [e2]; omega
    obtain ⟨us', g1, g2, g3, g4⟩ := ih (j0 + 1) us1 (fun j p hj => by
      have := h (j + 1) p (by simpa using hj)
      exact ⟨by omega, this.2⟩) (by rw [hsz1, show j0 + 1 + vs.length = j0 + (vs.length + 1) from by omega]; exact hs)
    have hget : ∀ (q : Nat), us1[q]? = us1.toList[q]? := fun q => Array.getElem?_toList.symm
    refine ⟨us', ?_, g2.trans hsz1, fun q hq => ?_, fun j q p hj hq => ?_⟩
    · simp only [Instr.fill]
      rw [hcond]
      simp only [Bool.false_eq_true, if_false]
      exact g1
    · rw [g3 q (by rw [Nat.add_mul]; omega), hget, hz, List.append_assoc, List.getElem?_append_left (by simp; omega), List.getElem?_take, if_pos hq]
      simp
    · cases j with
      | zero =>
        simp at hj; subst hj
        rw [Nat.add_zero, g3 _ (by rw [Nat.add_mul]; omega), hget, hz, List.append_assoc, List.getElem?_append_right (by simp; omega), List.getElem?_append_left (by simp [e2]; omega)]
        have l1 : (List.take (j0 * sz) us.toList).length = j0 * sz := by simp; omega
        rw [l1, show j0 * sz + q - j0 * sz = q from by omega]
        simp
      | succ j =>
        have := g4 j q p (by simpa using hj) hq
        rw [show j0 + 1 + j = j0 + (j + 1) from by omega] at this
        exact this
end
end Go.Mt
