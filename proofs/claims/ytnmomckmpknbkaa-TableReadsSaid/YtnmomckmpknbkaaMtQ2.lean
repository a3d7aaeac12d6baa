/-
  This claim's own program library, part 2: the letters MtK to MtP.
-/
import Derived.Test.YtnmomckmpknbkaaMtQ1
import Derived.TacticsIn
import Derived.RangeFuncCalls
import Derived.RangeFuncRecord
/-
  Mt, part K: operations that turn memory say what the machine does.
-/
set_option linter.unusedSimpArgs false
set_option linter.unusedVariables false
namespace Go.Mt
open Go.RowKit
section
variable {P : Program} {T : Tb} {w w' : World} {M F : Mem} {B : Nat} {W : World} {H H' : Nat → Option HB}

theorem cells_ok {a : A} {v : Value} {cs : List C} (hv : RA M a v) (h : a.cells = some cs) : RCs M cs v.cells.toList := by
  cases hv with
  | c hc =>
    simp [A.cells] at h; subst h
    have := hc.one
    have hcs : v.cells = #[v] := by cases v <;> simp [Value.oneCell'] at this <;> rfl
    rw [hcs]
    refine ⟨rfl, fun j c u h1 h2 => ?_⟩
    cases j with
    | zero => simp at h1 h2; subst h1 h2; exact hc
    | succ j => simp at h1
  | g hg => simp [A.cells] at h; subst h; exact hg
  | t => simp [A.cells] at h

theorem RCs.one {xs : List C} {us : List Value} (h : RCs M xs us) : ∀ u ∈ us, u.oneCell' = true := by
  intro u hu
  obtain ⟨n, hn, rfl⟩ := List.getElem_of_mem hu
  have hn' : n < xs.length := by rw [← h.1]; exact hn
  exact (h.2 n _ _ (List.getElem?_eq_getElem hn') (List.getElem?_eq_getElem hn)).one

/-- A new block under a new name. -/
theorem SatH.new (hS : SatH B W H M w) {us : Array Value} {ty : TypeId} {cs : List C} (hc : RCs M cs us.toList) (nx : Nat) :
    SatH B W (updH H nx (some (.blk w.heap.size ty cs))) M (w.alloc (.cells us ty)) :=
  hS.step (row := none) (nn := nx) (xx := .blk w.heap.size ty cs) (World.grownBy_alloc w _ none) (by simp)
    (fun n x hn hx => by rw [updH_ne _ _ hn] at hx; exact ⟨hx, by simp⟩) (updH_same _ _ _)
    ⟨hS.base, Mem.none_of_size hS.mem (Nat.le_refl _), us, heap_alloc_new w _, hc⟩ (fun b hb => .inl (by cases hb; exact Nat.le_refl _))

theorem SatH.newOwn (hS : SatH B W H M w) {row : Option Nat} (hg : w.grownBy w' row) (hrow : ∀ b, row = some b → B ≤ b ∧ M b = none) {v : Value} {ty : TypeId} {k : LK} {l : List k.T} (ho : OwnSl M B w' v ty k l)
    (hf : ∀ b, v.ownBlock = some b → w.heap.size ≤ b ∨ row = some b) (nx : Nat) (hH : ∀ n x, n ≠ nx → H' n = some x → H n = some x ∧ ∀ b, row = some b → x.block ≠ some b) :
    SatH B W (updH H' nx (some (.own v ty k l))) M w' :=
  hS.step (nn := nx) (xx := .own v ty k l) hg hrow (fun n x hn hx => by rw [updH_ne _ _ hn] at hx; exact hH n x hn hx) (updH_same _ _ _) ho hf

theorem appL_ok {k k' : LK} {l lm : List k.T} {m : List k'.T} (h : appL k l k' m = some lm) : ∃ e : k' = k, lm = l ++ (e ▸ m) := by
  unfold appL at h
  split at h <;> first | (cases h; done) | (cases h; exact ⟨rfl, rfl⟩) | skip
  · split at h
    · rename_i hk; cases h
      have := ikeq_eq hk; subst this
      exact ⟨rfl, rfl⟩
    · cases h

theorem wp_value {o : Oper} {a : Act} {K : Act → World → Prop} {Q : Exit → Act → World → Prop} {v : Value} (h : (execOp a.eval o).run P w = .ok (.value v) w') (hk : K (a.put o.dst v) w') : o.wp P a w K Q := by
  unfold Oper.wp; rw [h]; exact hk
theorem wp_skip' {o : Oper} {a : Act} {K : Act → World → Prop} {Q : Exit → Act → World → Prop} (h : (execOp a.eval o).run P w = .ok .skip w') (hk : K (a.put o.dst undef) w') : o.wp P a w K Q := by
  unfold Oper.wp; rw [h]; exact hk

/-- What a list's cells are, as an append's source. -/
theorem src_ok (hS : SatH B W H M w) {a : A} {v : Value} (hv : RA M a v) {tx : TypeId} {itx : TI} (hx : TyOk P tx itx) {k : LK} {l : List k.T} {ob : Prop} {zs : List C} {z : Value} (hz : RCs M zs z.cells.toList) (h : srcOf H zs itx.kind a = some ⟨k, l, ob⟩) (hob : ob) :
    ∃ news, Src2 P k.sz tx v l.length news w z ∧ Lies M k l news := by
  have hund := hx.und
  unfold srcOf at h
  split at h
  · rename_i kd ki n hkind
    rw [hkind] at hund
    cases h
    have := hv.val_inv; subst this
    obtain ⟨rfl, h0, h1⟩ := hob
    have hzc : z.cells = #[.int .u8 0] := by
      have e1 : z.cells.toList.length = 1 := by simpa using hz.1
      obtain ⟨u, hu⟩ : ∃ u, z.cells.toList[0]? = some u := ⟨_, List.getElem?_eq_getElem (by omega)⟩
      have hv := hz.2 0 _ u rfl hu
      cases hv with
      | pv hv =>
        cases hv with
        | val hv =>
          apply Array.ext'
          rw [List.getElem?_eq_getElem (by omega)] at hu
          cases hcs : z.cells.toList with
          | nil => rw [hcs] at e1; cases e1
          | cons y r =>
            cases r with
            | nil => simp [hcs] at hu; simp [hu]
            | cons _ _ => rw [hcs] at e1; simp at e1
    refine ⟨List.replicate n.toNat (.int .u8 0), .inr ⟨⟨kd, hund⟩, ⟨ki, ?_⟩, ?_, ?_, hzc⟩, ⟨by simp [LK.sz], fun i x j y e1 e2 => ?_⟩⟩
    · rw [List.length_replicate]; congr 1; omega
    · rw [List.length_replicate]; omega
    · rw [List.length_replicate]
    have hj := enc_lt e2
    have hj0 : j = 0 := by simp [LK.sz] at hj; exact hj
    subst hj0
    rw [List.getElem?_replicate] at e1
    split at e1
    · rename_i hi; cases e1
      simp [LK.enc] at e2; subst e2
      refine ⟨.int .u8 0, ?_, .val rfl⟩
      simp [LK.sz, hi]
    · cases e1
  · rename_i s hkind
    rw [hkind] at hund
    cases h
    have := hv.val_inv; subst this
    refine ⟨byteCells ⟨⟨s⟩⟩, .inl (Src.ofString w hund ⟨⟨s⟩⟩), ?_⟩
    refine ⟨by rw [byteCells_length]; simp [LK.sz]; rfl, fun i x j y e1 e2 => ?_⟩
    have hj := enc_lt e2
    have hj0 : j = 0 := by simp [LK.sz] at hj; exact hj
    subst hj0
    simp [LK.enc] at e2; subst e2
    refine ⟨.int .u8 x.toNat, ?_, .val rfl⟩
    simp [byteCells, LK.sz, e1]
  · rename_i e k'' hkind
    rw [hkind] at hund
    have he := hund.1
    obtain ⟨ad, c, b, o, rfl, h1, h2, h3, h4⟩ := lkOf_ok hS hv h hob
    by_cases hne : l = []
    · subst hne
      refine ⟨[], ?_, ⟨by simp, by simp⟩⟩
      refine .inl ⟨.inl ⟨e, he⟩, fun _ => rfl, ?_, ?_, by simp, by simp⟩
      · cases ad with
        | none => simp [Builtin.firstCells]
        | some ad => simp [Builtin.firstCells, loadCells, loadCellsFrom]
      · cases ad with
        | none => simp [Builtin.firstCells]
        | some ad => simp [Builtin.firstCells, loadCells, loadCellsFrom]
    · have := h1 hne; subst this
      have hsz := LK.sz_pos k
      let news : List Value := (List.range (l.length * k.sz)).map fun j => (w.cell? ⟨b, o + j, none⟩).getD undef
      have hnl : news.length = l.length * k.sz := by simp [news]
      have hcell : ∀ (j : Nat), j < l.length * k.sz → ∃ u, w.cell? ⟨b, o + j, none⟩ = some u := by
        intro j hj
        have hi : j / k.sz < l.length := Nat.div_lt_of_lt_mul (by rw [Nat.mul_comm]; exact hj)
        have hjj : j % k.sz < (k.enc l[j / k.sz]).length := by rw [LK.enc_len]; exact Nat.mod_lt _ hsz
        obtain ⟨u, e1, e2⟩ := h4 (j / k.sz) _ (j % k.sz) _ (List.getElem?_eq_getElem hi) (List.getElem?_eq_getElem hjj)
        rw [Nat.add_assoc, Nat.div_add_mod'] at e1
        exact ⟨u, e1⟩
      have hnews : ∀ (j : Nat) u, news[j]? = some u → w.cell? ((⟨b, o, none⟩ : Addr).add j) = some u := by
        intro j u hu
        have hj : j < l.length * k.sz := by rw [← hnl]; exact (List.getElem?_eq_some_iff.1 hu).1
        obtain ⟨u', hu'⟩ := hcell j hj
        rw [Addr.add_lit, hu']
        simp [news, hj, hu'] at hu
        rw [hu]
      have hlies : Lies M k l news := by
        refine ⟨hnl, fun i x j y e1 e2 => ?_⟩
        obtain ⟨u, g1, g2⟩ := h4 i x j y e1 e2
        refine ⟨u, ?_, g2⟩
        have hi := (List.getElem?_eq_some_iff.1 e1).1
        have hj := enc_lt e2
        have hlt : i * k.sz + j < l.length * k.sz := by
          have : (i + 1) * k.sz ≤ l.length * k.sz := Nat.mul_le_mul_right _ hi
          rw [Nat.add_mul] at this; omega
        simp [news, hlt, ← Nat.add_assoc, g1]
      exact ⟨news, .inl (Src.ofSlice w he _ _ _ news hnl hnews hlies.one), hlies⟩
  · cases h

theorem decAll_ok {k : LK} {e : TypeId} {rd : Operand → Option A} {ρ : Operand → Value} (hr : ∀ o x, rd o = some x → RA M x (ρ o)) (hcn : ∀ v, ρ (.const v) = v) : ∀ (ps : List (Nat × Operand)) (i : Nat) (l : List k.T) (ob : Prop), decAll k T e rd i ps = some (l, ob) → ob →
    l.length = ps.length ∧ ∀ (j : Nat) p, ps[j]? = some p → p.1 = i + j ∧ ∃ x, l[j]? = some x ∧ (ρ p.2).cells.size = k.sz ∧ (∀ (q : Nat) (y : PV), (k.enc x)[q]? = some y → ∃ u, (ρ p.2).cells[q]? = some u ∧ R M y u) := by
  intro ps
  induction ps with
  | nil => intro i l ob h hob; cases h; simp
  | cons p ps ih =>
    obtain ⟨j0, o⟩ := p
    intro i l ob h hob
    simp only [decAll] at h
    split at h
    · rename_i a hb ha
      split at h
      · rename_i cs hcs
        split at h
        · rename_i x obx xs obxs hd hrest
          cases h
          rw [Nat.beq_eq] at hb; subst hb
          obtain ⟨g1, g2⟩ := ih _ _ _ hrest hob.2
          obtain ⟨d1, d2⟩ := dec_ok hd hob.1 (cells_ok (rdT_ok (T := T) hr hcn ha) hcs)
          refine ⟨by simp [g1], fun j p hj => ?_⟩
          cases j with
          | zero =>
            simp at hj; subst hj
            exact ⟨rfl, x, rfl, by simpa using d1, fun q y hq => let ⟨u, e1, e2⟩ := d2 q y hq; ⟨u, by simpa using e1, e2⟩⟩
          | succ j =>
            obtain ⟨e1, x', e2, e3⟩ := g2 j p (by simpa using hj)
            exact ⟨by omega, x', by simpa using e2, e3⟩
        · cases h
      · cases h
    · cases h

/-- The parts of a slice's literal laid one behind the other. -/
theorem fill_all (sz : Nat) : ∀ (vs : List (Nat × Value)) (i : Nat) (us : Array Value), (∀ (j : Nat) p, vs[j]? = some p → p.1 = i + j ∧ p.2.cells.size = sz) → (i + vs.length) * sz ≤ us.size →
    ∃ us', Instr.fill (fun i => some (i * sz, sz)) us vs = some us' ∧ us'.size = us.size ∧ (∀ q, q < i * sz → us'[q]? = us[q]?) ∧ ∀ (j q : Nat) p, vs[j]? = some p → q < sz → us'[(i + j) * sz + q]? = p.2.cells[q]? := by
  intro vs
  induction vs with
  | nil => intro i us _ _; exact ⟨us, rfl, rfl, fun _ _ => rfl, by simp⟩
  | cons p vs ih =>
    intro i us h hs
    obtain ⟨j0, v⟩ := p
    obtain ⟨e1, e2⟩ := h 0 _ rfl
    simp only [Nat.add_zero] at e1 e2
    subst e1
    simp only [List.length_cons] at hs
    have hs1 : j0 * sz + sz ≤ us.size := by
      have : (j0 + 1) * sz ≤ (j0 + (vs.length + 1)) * sz := Nat.mul_le_mul_right _ (by omega)
      rw [Nat.add_mul, Nat.one_mul] at this; omega
    have hcond : (decide (v.cells.size ≠ sz) || decide (j0 * sz + v.cells.size > us.size)) = false := by simp [e2]; omega
    let us1 := v.cells.zipIdx.foldl (fun cs (x : Value × Nat) => cs.setIfInBounds (j0 * sz + x.2) x.1) us
    have key : ∀ (l : List Value) (k : Nat) (us : Array Value), j0 * sz + k + l.length ≤ us.size →
        ((l.zipIdx k).foldl (fun cs (c, j) => cs.setIfInBounds (j0 * sz + j) c) us).toList = us.toList.take (j0 * sz + k) ++ l ++ us.toList.drop (j0 * sz + k + l.length) := by
      intro l
      induction l with
      | nil => intro k us hk; simp
      | cons x l ih =>
        intro k us hk
        simp only [List.zipIdx_cons, List.foldl_cons]
        rw [ih (k + 1) _ (by simp at hk ⊢; omega)]
        simp only [Array.toList_setIfInBounds]
        have := list_seg_step us.toList (j0 * sz + k) x l (by simp at hk ⊢; omega)
        try simp only [List.length_cons]
        rw [show j0 * sz + (k + 1) = j0 * sz + k + 1 from by omega]
        exact this
    have hk := key v.cells.toList 0 us (by simp [e2]; omega)
    have hz : us1.toList = us.toList.take (j0 * sz) ++ v.cells.toList ++ us.toList.drop (j0 * sz + sz) := by
      simp only [us1]
      rw [← Array.foldl_toList, Array.toList_zipIdx, hk]
      simp [e2]
    have hsz1 : us1.size = us.size := by
      rw [← Array.length_toList, hz]; simp [e2]; omega
    obtain ⟨us', g1, g2, g3, g4⟩ := ih (j0 + 1) us1 (fun j p hj => by
      have := h (j + 1) p (by simpa using hj)
      exact ⟨by omega, this.2⟩) (by rw [hsz1, show j0 + 1 + vs.length = j0 + (vs.length + 1) from by omega]; exact hs)
    have hget : ∀ (q : Nat), us1[q]? = us1.toList[q]? := fun q => Array.getElem?_toList.symm
    refine ⟨us', ?_, g2.trans hsz1, fun q hq => ?_, fun j q p hj hq => ?_⟩
    · simp only [Instr.fill]
      rw [hcond]
      simp only [Bool.false_eq_true, if_false]
      exact g1
    · rw [g3 q (by rw [Nat.add_mul]; omega), hget, hz, List.append_assoc, List.getElem?_append_left (by simp; omega), List.getElem?_take, if_pos hq]
      simp
    · cases j with
      | zero =>
        simp at hj; subst hj
        rw [Nat.add_zero, g3 _ (by rw [Nat.add_mul]; omega), hget, hz, List.append_assoc, List.getElem?_append_right (by simp; omega), List.getElem?_append_left (by simp [e2]; omega)]
        have l1 : (List.take (j0 * sz) us.toList).length = j0 * sz := by simp; omega
        rw [l1, show j0 * sz + q - j0 * sz = q from by omega]
        simp
      | succ j =>
        have := g4 j q p (by simpa using hj) hq
        rw [show j0 + 1 + j = j0 + (j + 1) from by omega] at this
        exact this
end
end Go.Mt

/-
  Mt, part L: boxes, new variables, stores.
-/
set_option linter.unusedSimpArgs false
set_option linter.unusedVariables false
namespace Go.Mt
open Go.RowKit
section
variable {P : Program} {T : Tb} {w w' : World} {M F : Mem} {B : Nat} {W : World} {H H' : Nat → Option HB}

/-- What is asked of an operation's outcome: 'K' from whatever it may leave. -/
def Kok (B : Nat) (W : World) (M : Mem) (o : Oper) (a : Act) (K : Act → World → Prop) (r : HR) : Prop :=
  r.ob ∧ ∀ v w' M', Mem.ext B M M' → SatH B W r.H M' w' → RA M' r.x v → K (a.put o.dst v) w'

variable {E : Env} {a : Act} {rd : Operand → Option A} {nx : Nat} {K : Act → World → Prop} {Q : Exit → Act → World → Prop}
  {dst : Option Tmp} {ty : TypeId} {pos : String} {after : Array Edge} {guard : Option (Nat × Bool)}

theorem box_ok (hS : SatH B W H M w) (hr : ∀ o x, rd o = some x → RA M x (a.eval o)) {t : TypeId} {x : Operand}
    (h : ∀ u, ∃ r, heapOp E H nx rd u (.box t x) = some r ∧ Kok B W M ⟨dst, .box t x, ty, pos, after, guard⟩ a K r) : Oper.wp P ⟨dst, .box t x, ty, pos, after, guard⟩ a w K Q := by
  obtain ⟨r, h1, h2, h3⟩ := h (.pointer (some ⟨w.heap.size, 0, none⟩))
  simp only [heapOp] at h1
  split at h1
  · rename_i av ha
    split at h1
    · rename_i cs hcs; cases h1
      have hrx := rdT_ok (T := E.T) hr (fun _ => rfl) ha
      have hc := cells_ok hrx hcs
      refine wp_value (w' := w.alloc (.cells (a.eval x).cells t)) (v := .pointer (some ⟨w.heap.size, 0, none⟩)) ?_ (h3 _ _ M (Mem.ext_refl _ _) (hS.new hc nx) (.c .ptr))
      simp [execOp, Instr.box, newVar, newRow]
    · cases h1
  · cases h1

theorem alloc_ok (hT : TbOk P E.T) (hS : SatH B W H M w) {t : TypeId}
    (h : ∀ u, ∃ r, heapOp E H nx rd u (.alloc t) = some r ∧ Kok B W M ⟨dst, .alloc t, ty, pos, after, guard⟩ a K r) : Oper.wp P ⟨dst, .alloc t, ty, pos, after, guard⟩ a w K Q := by
  obtain ⟨r, h1, h2, h3⟩ := h (.pointer (some ⟨w.heap.size, 0, none⟩))
  simp only [heapOp] at h1
  split at h1
  · rename_i i hi; cases h1
    obtain ⟨inf, z, i1, i2, i3, i4, i5, i6⟩ := (hT _ _ hi).info
    refine wp_value (w' := w.alloc (.cells z.cells t)) (v := .pointer (some ⟨w.heap.size, 0, none⟩)) ?_ (h3 _ _ M (Mem.ext_refl _ _) (hS.new (i6 M) nx) (.c .ptr))
    simp [execOp, Instr.alloc, newVar, newRow, zeroValue, run_typeInfo i1, i4]
  · cases h1

/-- Cells with some of them written anew. -/
theorem RCs.splice {cs new : List C} {us vs : List Value} (h : RCs M cs us) (h' : RCs M new vs) {o : Nat} (hle : o + new.length ≤ cs.length) :
    RCs M (tke o cs ++ new ++ drp (o + len new) cs) (us.take o ++ vs ++ us.drop (o + vs.length)) := by
  have hul := h.1
  have hvl := h'.1
  refine ⟨?_, fun j c u e1 e2 => ?_⟩
  · simp [tke_eq, drp_eq, len_eq]; omega
  · rw [tke_eq, drp_eq, len_eq, List.append_assoc] at e1
    rw [List.append_assoc] at e2
    by_cases hj : j < o
    · rw [List.getElem?_append_left (by simp; omega), List.getElem?_take, if_pos hj] at e1 e2
      exact h.2 j c u e1 e2
    · rw [List.getElem?_append_right (by simp; omega)] at e1 e2
      have l1 : (List.take o cs).length = o := by simp; omega
      have l2 : (List.take o us).length = o := by simp; omega
      rw [l1] at e1; rw [l2] at e2
      by_cases hj2 : j - o < new.length
      · rw [List.getElem?_append_left hj2] at e1
        rw [List.getElem?_append_left (by omega)] at e2
        exact h'.2 _ c u e1 e2
      · rw [List.getElem?_append_right (by omega), List.getElem?_drop] at e1
        rw [List.getElem?_append_right (by omega), List.getElem?_drop, hvl] at e2
        exact h.2 _ c u e1 e2

theorem get_splice (l vs : List Value) (o i : Nat) (h : o + vs.length ≤ l.length) :
    (l.take o ++ vs ++ l.drop (o + vs.length))[i]? = if i < o then l[i]? else if i < o + vs.length then vs[i - o]? else l[i]? := by
  rw [List.append_assoc]
  have l1 : (List.take o l).length = o := by simp; omega
  split
  · rename_i hi
    rw [List.getElem?_append_left (by omega), List.getElem?_take, if_pos hi]
  · rw [List.getElem?_append_right (by omega), l1]
    split
    · rw [List.getElem?_append_left (by omega)]
    · rw [List.getElem?_append_right (by omega), List.getElem?_drop]
      congr 1; omega

theorem undef_ok (M : Mem) : RA M (.t []) undef := .t (by rfl) (by simp)

theorem store_ok (hT : TbOk P E.T) (hS : SatH B W H M w) (hr : ∀ o x, rd o = some x → RA M x (a.eval o)) {t : TypeId} {p x : Operand}
    (h : ∀ u, ∃ r, heapOp E H nx rd u (.store t p x) = some r ∧ Kok B W M ⟨dst, .store t p x, ty, pos, after, guard⟩ a K r) : Oper.wp P ⟨dst, .store t p x, ty, pos, after, guard⟩ a w K Q := by
  obtain ⟨r, h1, h2, h3⟩ := h undef
  simp only [heapOp] at h1
  split at h1
  · rename_i n b o av i hp hx hi
    split at h1
    · rename_i b' ty' cs new hn hcs
      split at h1
      · rename_i hb; cases h1
        simp only [Bool.and_eq_true, Nat.beq_eq, Nat.ble_eq, len_eq] at hb
        subst h2
        have hrx := rdT_ok (T := E.T) hr (fun _ => rfl) hx
        have hc := cells_ok hrx hcs
        obtain ⟨g1, g2, us, g3, g4⟩ := hS.ok _ _ hn
        have hul : us.size = cs.length := by rw [← Array.length_toList, g4.1]
        have hst := run_storeCells_at P b o ty' (a.eval x).cells.toList 0 us w g3 (by rw [hc.1]; omega) hc.one
        simp only [Nat.add_zero] at hst
        refine wp_skip' (w' := w.setRow b (us.toList.take o ++ (a.eval x).cells.toList ++ us.toList.drop (o + (a.eval x).cells.toList.length)).toArray) ?_ (h3 _ _ M (Mem.ext_refl _ _) ?_ (undef_ok M))
        · have hsz : (a.eval x).cells.size = i.size := by rw [← Array.length_toList, hc.1, hb.1]
          simp only [execOp, Instr.storeAt, (hr _ _ hp).ptr_inv, Instr.sureAddr, storeVar, Sem.run_bind, Sem.run_pure, Result.andThen_ok, (hT _ _ hi).sizeOf]
          rw [if_neg (by simp [hsz])]
          rw [hst]; rfl
        · refine hS.step (nn := n) (xx := .blk b ty' _) (grownBy_setRow w b _) (fun c hc => by cases hc; exact ⟨g1, g2⟩) (fun m y hm hy => ?_) (updH_same _ _ _) ⟨g1, g2, _, setRow_heap w b us _ ty' _ g3, ?_⟩ (fun c hc => .inr hc)
          · have hy' : updH H n _ m = some y := hy
            rw [updH_ne _ _ hm] at hy'
            replace hy := hy'
            exact ⟨hy, fun c hc => by cases hc; exact hS.inj n m _ y b (fun e => hm e.symm) hn hy rfl⟩
          · rw [List.toList_toArray]
            exact g4.splice hc hb.2
      · cases h1
    · cases h1
  · rename_i n v j sz o av i hp hx hi
    split at h1
    · rename_i v' ty' k l new hn hcs
      split at h1
      · rename_i hb
        simp only [Bool.and_eq_true, Nat.beq_eq, Nat.ble_eq, len_eq] at hb
        split at h1
        · rename_i x' ob hd'; cases h1
          obtain ⟨⟨⟨rfl, rfl⟩, hlt⟩, hob⟩ := h2
          have hrx := rdT_ok (T := E.T) hr (fun _ => rfl) hx
          have hc := cells_ok hrx hcs
          rcases hS.ok _ _ hn with ⟨rfl, rfl⟩ | ⟨b, cap, us, rfl, g1, g2, g3, g4, g5, g6, g7⟩
          · simp at hlt
          · have hj1 : j * k.sz + k.sz ≤ cap * k.sz := by
              have : (j + 1) * k.sz ≤ cap * k.sz := Nat.mul_le_mul_right _ (by omega)
              rw [Nat.add_mul, Nat.one_mul] at this; exact this
            have hfit : j * k.sz + o + new.length ≤ us.size := by rw [g6]; omega
            have hul : us.toList.length = us.size := by simp
            have hst := run_storeCells_at P b (j * k.sz + o) ty' (a.eval x).cells.toList 0 us w g3 (by rw [hc.1]; omega) hc.one
            simp only [Nat.add_zero] at hst
            have hcl := hc.1
            refine wp_skip' (w' := w.setRow b (us.toList.take (j * k.sz + o) ++ (a.eval x).cells.toList ++ us.toList.drop (j * k.sz + o + (a.eval x).cells.toList.length)).toArray) ?_ (h3 _ _ M (Mem.ext_refl _ _) ?_ (undef_ok M))
            · have hsz : (a.eval x).cells.size = i.size := by rw [← Array.length_toList, hc.1, hb.1]
              simp only [execOp, Instr.storeAt, (hr _ _ hp).oel_inv, Value.blk, Value.ownBlock, Option.getD_some, Instr.sureAddr, storeVar, Sem.run_bind, Sem.run_pure, Result.andThen_ok, (hT _ _ hi).sizeOf]
              rw [if_neg (by simp [hsz])]
              rw [hst]; rfl
            · refine hS.step (nn := n) (xx := .own _ ty' k _) (grownBy_setRow w b _) (fun c hc => by cases hc; exact ⟨g1, g2⟩) (fun m y hm hy => ?_) (updH_same _ _ _) ?_ (fun c hc => .inr hc)
              · have hy' : updH H n _ m = some y := hy
                rw [updH_ne _ _ hm] at hy'
                replace hy := hy'
                exact ⟨hy, fun c hc => by cases hc; exact hS.inj n m _ y b (fun e => hm e.symm) hn hy rfl⟩
              · -- the element's cells as they stand now
                let old : List C := (k.enc (l.getD j k.dft)).map .pv
                have hol : old.length = k.sz := by simp [old, LK.enc_len]
                let ucell : List Value := ((us.toList.drop (j * k.sz)).take k.sz)
                have hucl : ucell.length = k.sz := by simp [ucell]; omega
                have hold : RCs M old ucell := by
                  refine ⟨by rw [hucl, hol], fun q c u e1 e2 => ?_⟩
                  simp only [old, List.getElem?_map] at e1
                  cases hy : (k.enc (l.getD j k.dft))[q]? with
                  | none => rw [hy] at e1; cases e1
                  | some y =>
                    rw [hy] at e1; simp at e1; subst e1
                    rw [List.getD, List.getElem?_eq_getElem hlt] at hy
                    obtain ⟨u', f1, f2⟩ := g7 j l[j] q y (List.getElem?_eq_getElem hlt) hy
                    have hq := enc_lt hy
                    simp only [ucell, List.getElem?_take, if_pos hq, List.getElem?_drop] at e2
                    rw [Array.getElem?_toList, f1] at e2
                    cases e2; exact .pv f2
                have hnewc := hold.splice hc (o := o) (by rw [hol]; exact hb.2)
                obtain ⟨d1, d2⟩ := dec_ok hd' hob hnewc
                refine .inr ⟨b, cap, _, by rw [List.length_set], g1, g2, setRow_heap w b us _ ty' _ g3, by rw [List.length_set]; exact g4, g5, ?_, fun q y r z e1 e2 => ?_⟩
                · rw [List.size_toArray, ← g6]
                  simp only [List.length_append, List.length_take, List.length_drop]
                  omega
                · have hr' := enc_lt e2
                  by_cases hqj : q = j
                  · subst hqj
                    rw [List.getElem?_set_self (by exact hlt)] at e1
                    cases e1
                    obtain ⟨u, f1, f2⟩ := d2 r z e2
                    refine ⟨u, ?_, f2⟩
                    rw [← f1, List.getElem?_toArray, get_splice _ _ _ _ (by omega), get_splice _ _ _ _ (by omega)]
                    simp only [ucell, List.getElem?_take, List.getElem?_drop, if_pos hr']
                    by_cases hro : r < o
                    · rw [if_pos (by omega), if_pos hro]
                    · rw [if_neg (by omega), if_neg hro]
                      by_cases hr2 : r < o + (a.eval x).cells.toList.length
                      · rw [if_pos (by omega), if_pos hr2]; congr 1; omega
                      · rw [if_neg (by omega), if_neg hr2]
                  · rw [List.getElem?_set_ne (fun e => hqj e.symm)] at e1
                    obtain ⟨u, f1, f2⟩ := g7 q y r z e1 e2
                    refine ⟨u, ?_, f2⟩
                    rw [← f1, List.getElem?_toArray, get_splice _ _ _ _ (by omega), ← Array.getElem?_toList]
                    rcases Nat.lt_or_ge q j with hlt' | hge'
                    · have : (q + 1) * k.sz ≤ j * k.sz := Nat.mul_le_mul_right _ hlt'
                      rw [Nat.add_mul, Nat.one_mul] at this
                      rw [if_pos (by omega)]
                    · have : (j + 1) * k.sz ≤ q * k.sz := Nat.mul_le_mul_right _ (by omega)
                      rw [Nat.add_mul, Nat.one_mul] at this
                      rw [if_neg (by omega), if_neg (by omega)]
        · cases h1
      · cases h1
    · cases h1
  · cases h1
end
end Go.Mt

/-
  Mt, part M: a slice's literal, make, append, a call by its contract.
-/
set_option linter.unusedSimpArgs false
set_option linter.unusedVariables false
namespace Go.Mt
open Go.RowKit
section
variable {P : Program} {T : Tb} {w w' : World} {M F : Mem} {B : Nat} {W : World} {H H' : Nat → Option HB}
variable {E : Env} {a : Act} {rd : Operand → Option A} {nx : Nat} {K : Act → World → Prop} {Q : Exit → Act → World → Prop}
  {dst : Option Tmp} {ty : TypeId} {pos : String} {after : Array Edge} {guard : Option (Nat × Bool)}

theorem slc_und (hT : TbOk P T) {t e s1 s2 : Nat} {k : LK} {z} (h : T t = some ⟨.slc e k, s1, s2, z⟩) : P.underlying t = some (.slice e) ∧ ∃ inf, P.info? e = some inf ∧ inf.size = k.sz := by
  have := (hT _ _ h).und
  exact this

theorem buildSlice_ok (hT : TbOk P E.T) (hS : SatH B W H M w) (hr : ∀ o x, rd o = some x → RA M x (a.eval o)) {t n : Nat} {ps : Array (Nat × Operand)}
    (h : ∀ u, ∃ r, heapOp E H nx rd u (.buildSlice t n ps) = some r ∧ Kok B W M ⟨dst, .buildSlice t n ps, ty, pos, after, guard⟩ a K r) : Oper.wp P ⟨dst, .buildSlice t n ps, ty, pos, after, guard⟩ a w K Q := by
  obtain ⟨ps⟩ := ps
  obtain ⟨r, h1, h2, h3⟩ := h (.slice (some ⟨w.heap.size, 0, none⟩) n n)
  simp only [heapOp] at h1
  split at h1
  · rename_i e k s1 s2 z hk
    split at h1
    · rename_i l ob ie hn hd hie
      split at h1
      · rename_i hb; cases h1
        simp only [Bool.and_eq_true, Nat.beq_eq, Nat.ble_eq, len_eq] at hb hn
        obtain ⟨hu, _⟩ := slc_und hT hk
        obtain ⟨inf, zv, i1, i2, i3, i4, i5, i6⟩ := (hT _ _ hie).info
        obtain ⟨g1, g2⟩ := decAll_ok hr (fun _ => rfl) _ _ _ _ hd h2
        have hsz := LK.sz_pos k
        have hsz2 : k.sz ≤ 8 := by cases k <;> simp [LK.sz]
        have hisz : inf.size = k.sz := by rw [i2, hb.1]
        let zs : Array Value := (Array.range (n * k.sz)).map ((if n * k.sz = 0 then #[] else zv.cells)[· % (if n * k.sz = 0 then #[] else zv.cells).size]!)
        obtain ⟨us', f1, f2, f3, f4⟩ := fill_all k.sz (ps.map fun (i, x) => (i, a.eval x)) 0 zs (fun j p hj => by
          rw [List.getElem?_map] at hj
          cases hp : ps[j]? with
          | none => rw [hp] at hj; cases hj
          | some p0 =>
            rw [hp] at hj; simp at hj; subst hj
            obtain ⟨q1, x, q2, q3, q4⟩ := g2 j p0 hp
            exact ⟨q1, q3⟩) (by simp [zs, hn])
        have hlen : l.length = n := by rw [g1, hn]
        have hlies : Lies M k l us'.toList := by
          refine ⟨by simp [f2, zs, hlen], fun i x j y e1 e2 => ?_⟩
          have hi : i < ps.length := by rw [← g1]; exact (List.getElem?_eq_some_iff.1 e1).1
          obtain ⟨q1, x', q2, q3, q4⟩ := g2 i ps[i] (List.getElem?_eq_getElem hi)
          rw [e1] at q2; cases q2
          obtain ⟨u, v1, v2⟩ := q4 j y e2
          have := f4 i j (ps[i].1, a.eval ps[i].2) (by simp [hi]) (enc_lt e2)
          rw [Nat.zero_add] at this
          exact ⟨u, by rw [Array.getElem?_toList, this]; exact v1, v2⟩
        have hown : OwnSl M B (w.alloc (.cells us' e)) (.slice (some ⟨w.heap.size, 0, none⟩) n n) e k l := by
          rw [← hlen]
          refine OwnSl.mk hS.base (Mem.none_of_size hS.mem (Nat.le_refl _)) (heap_alloc_new w _) (Nat.le_refl _) (by have := hb.2; simp only [maxLen]; omega) (by simp [f2, zs, hlen]) ?_
          rw [List.take_of_length_le (by rw [hlies.1]; exact Nat.le_refl _)]
          exact hlies
        refine wp_value (w' := w.alloc (.cells us' e)) (v := .slice (some ⟨w.heap.size, 0, none⟩) n n) ?_ (h3 _ _ M (Mem.ext_refl _ _) (hS.newOwn (row := none) (World.grownBy_alloc w _ none) (by simp) hown (fun b hb => .inl (by cases hb; exact Nat.le_refl _)) nx (fun m x hm hx => ⟨hx, by simp⟩)) (.c (.own rfl)))
        have hsmall : ¬ (n * k.sz > 2 ^ 24) := by
          have : n * k.sz ≤ 1000 * 8 := Nat.mul_le_mul hb.2 hsz2
          omega
        simp only [execOp, Instr.buildSlice, Sem.run_bind, run_underlying hu, Result.andThen_ok, Go.sizeOf, run_typeInfo i1, Sem.run_map, hisz]
        by_cases hz : n * k.sz = 0
        · simp [hz, zs] at f1 ⊢
          rw [f1]
          simp [newRow]
        · simp only [if_neg hsmall, if_neg hz, Sem.run_bind, zeroValue, run_typeInfo i1, Result.andThen_ok, i4, Sem.run_pure, List.map_toArray]
          simp only [zs, if_neg hz] at f1
          rw [f1]
          simp [newRow]
      · cases h1
    · cases h1
  · cases h1

theorem makeSlice_ok (hT : TbOk P E.T) (hS : SatH B W H M w) (hr : ∀ o x, rd o = some x → RA M x (a.eval o)) {t : Nat} {ol oc : Operand}
    (h : ∀ u, ∃ r, heapOp E H nx rd u (.makeSlice t ol oc) = some r ∧ Kok B W M ⟨dst, .makeSlice t ol oc, ty, pos, after, guard⟩ a K r) : Oper.wp P ⟨dst, .makeSlice t ol oc, ty, pos, after, guard⟩ a w K Q := by
  have hfind : ∀ u r, heapOp E H nx rd u (.makeSlice t ol oc) = some r → ∃ e k s1 s2 z kl l kc c ie, E.T t = some ⟨.slc e k, s1, s2, z⟩ ∧ rd ol = some (.c (.pv (.val (.int kl l)))) ∧ rd oc = some (.c (.pv (.val (.int kc c)))) ∧ E.T e = some ie ∧ ie.bytes ≤ 64 ∧
      r = ⟨.c (.own nx u), ((0 ≤ l ∧ l ≤ c) ∧ c ≤ 1099511627776) ∧ ie.zero = (k.enc k.dft).map .pv, updH H nx (some (.own u e k (List.replicate l.toNat k.dft))), nx + 1⟩ := by
    intro u r h1
    simp only [heapOp] at h1
    split at h1
    · rename_i e k s1 s2 z kl l kc c hk hl hc
      split at h1
      · rename_i ie hie
        split at h1
        · rename_i hb; cases h1
          rw [Nat.ble_eq] at hb
          exact ⟨e, k, s1, s2, z, kl, l, kc, c, ie, hk, hl, hc, hie, hb, rfl⟩
        · cases h1
      · cases h1
    · cases h1
  obtain ⟨r0, h0, h02, _⟩ := h undef
  obtain ⟨e, k, s1, s2, z, kl, l, kc, c, ie, hk, hl, hc, hie, hb, rfl⟩ := hfind _ _ h0
  obtain ⟨⟨⟨h0l, hlc⟩, hcm⟩, hzero⟩ := h02
  obtain ⟨hu, _⟩ := slc_und hT hk
  obtain ⟨inf, zv, i1, i2, i3, i4, i5, i6⟩ := (hT _ _ hie).info
  obtain ⟨r, h1, h2, h3⟩ := h (.slice (some ⟨w.heap.size, 0, none⟩) l.toNat c.toNat)
  obtain ⟨e', k', s1', s2', z', kl', l', kc', c', ie', hk', hl', hc', hie', hb', rfl⟩ := hfind _ _ h1
  rw [hk] at hk'; cases hk'
  rw [hl] at hl'; cases hl'
  rw [hc] at hc'; cases hc'
  rw [hie] at hie'; cases hie'
  have hbytes : (inf.bytes : Int) * c ≤ 281474976710656 := by
    have h1 : (inf.bytes : Int) ≤ 64 := by rw [i3]; omega
    calc (inf.bytes : Int) * c ≤ 64 * 1099511627776 := Int.mul_le_mul h1 hcm (by omega) (by omega)
      _ ≤ _ := by decide
  have hrun := run_make (P := P) w t e inf zv hu i1 i4 kl kc l c h0l hlc hbytes (by omega)
  have hzr := i6 M
  rw [hzero] at hzr
  have hzsz : zv.cells.size = k.sz := by rw [← Array.length_toList, hzr.1]; simp [LK.enc_len]
  have hisz : inf.size = k.sz := by rw [i2, ← i5, hzsz]
  have hown : OwnSl M B (w.alloc (.cells (madeCells zv.cells (c.toNat * inf.size)) e)) (.slice (some ⟨w.heap.size, 0, none⟩) l.toNat c.toNat) e k (List.replicate l.toNat k.dft) := by
    refine .inr ⟨w.heap.size, c.toNat, _, by rw [List.length_replicate], hS.base, Mem.none_of_size hS.mem (Nat.le_refl _), heap_alloc_new w _, by rw [List.length_replicate]; omega, by simp only [maxLen]; omega, by rw [size_madeCells, hisz], fun i x j y e1 e2 => ?_⟩
    rw [List.getElem?_replicate] at e1
    split at e1
    · rename_i hi; cases e1
      have hj := enc_lt e2
      obtain ⟨u, f1, f2⟩ := hzr.at (j := j) (x := y) (by rw [List.getElem?_map, e2]; rfl)
      refine ⟨u, ?_, f2⟩
      have hlt : i * k.sz + j < c.toNat * k.sz := by
        have : (i + 1) * k.sz ≤ c.toNat * k.sz := Nat.mul_le_mul_right _ (by omega)
        rw [Nat.add_mul, Nat.one_mul] at this; omega
      have hmod : (i * k.sz + j) % k.sz = j := by rw [Nat.mul_comm, Nat.mul_add_mod, Nat.mod_eq_of_lt hj]
      rw [Array.getElem?_toList] at f1
      have hj' : j < zv.cells.size := by omega
      rw [Array.getElem?_eq_getElem hj'] at f1
      have hnz : zv.cells.size ≠ 0 := by omega
      simp only [madeCells, hisz]
      rw [Array.getElem?_map, Array.getElem?_range, if_pos hlt, Option.map_some, hzsz, hmod]
      rw [getElem!_pos zv.cells j hj']
      exact f1
    · cases e1
  refine wp_value (w' := w.alloc (.cells (madeCells zv.cells (c.toNat * inf.size)) e)) (v := .slice (some ⟨w.heap.size, 0, none⟩) l.toNat c.toNat) ?_ (h3 _ _ M (Mem.ext_refl _ _) (hS.newOwn (row := none) (World.grownBy_alloc w _ none) (by simp) hown (fun b hb => .inl (by cases hb; exact Nat.le_refl _)) nx (fun m x hm hx => ⟨hx, by simp⟩)) (.c (.own rfl)))
  have el := (hr _ _ hl).val_inv
  have ec := (hr _ _ hc).val_inv
  simp only [execOp, el, ec, Sem.run_bind]
  rw [hrun]; rfl
end
end Go.Mt

/-
  Mt, part N: append, a call by its contract; 'heap_ok'.
-/
set_option linter.unusedSimpArgs false
set_option linter.unusedVariables false
namespace Go.Mt
open Go.RowKit
section
variable {P : Program} {T : Tb} {w w' : World} {M F : Mem} {B : Nat} {W : World} {H H' : Nat → Option HB}
variable {E : Env} {a : Act} {rd : Operand → Option A} {nx : Nat} {K : Act → World → Prop} {Q : Exit → Act → World → Prop}
  {dst : Option Tmp} {ty : TypeId} {pos : String} {after : Array Edge} {guard : Option (Nat × Bool)}

theorem run_builtin_append {ρ : Operand → Value} {x y : Operand} {ts : Array TypeId} {r : Result Value}
    (h : (Builtin.append_ ts ty #[ρ x, ρ y]).run P w = r) :
    (execOp ρ ⟨dst, .call ⟨.builtin .append, #[x, y], ts⟩, ty, pos, after, guard⟩).run P w = r.andThen fun v w' => .ok (.value v) w' := by
  simp [execOp, resolve, invoke, Go.builtin, h]

theorem OwnSl.row {v : Value} {e : TypeId} {k : LK} {l : List k.T} (h : OwnSl M B w v e k l) : ∀ b, v.ownBlock = some b → B ≤ b ∧ M b = none := by
  intro b hb
  rcases h with ⟨rfl, rfl⟩ | ⟨b', cap, us, rfl, h1, h2, _⟩
  · cases hb
  · cases hb; exact ⟨h1, h2⟩
theorem OwnSl.one {v : Value} {e : TypeId} {k : LK} {l : List k.T} (h : OwnSl M B w v e k l) : v.oneCell' = true := by
  rcases h with ⟨rfl, rfl⟩ | ⟨b', cap, us, rfl, _⟩ <;> rfl

theorem RA.nil_inv {k : LK} {v : Value} (r : RA M (pv (.nil k)) v) : v = .slice none 0 0 := by
  cases r with | c r => cases r with | pv r => cases r; rfl

theorem append_ok (hT : TbOk P E.T) (hS : SatH B W H M w) (hr : ∀ o x, rd o = some x → RA M x (a.eval o)) {s x : Operand} {t tx : TypeId}
    (h : ∀ u, ∃ r, heapOp E H nx rd u (.call ⟨.builtin .append, #[s, x], #[t, tx]⟩) = some r ∧ Kok B W M ⟨dst, .call ⟨.builtin .append, #[s, x], #[t, tx]⟩, ty, pos, after, guard⟩ a K r) :
    Oper.wp P ⟨dst, .call ⟨.builtin .append, #[s, x], #[t, tx]⟩, ty, pos, after, guard⟩ a w K Q := by
  -- what is known whatever the outcome
  have main : ∀ {e : TypeId} {k0 : LK} {l lm : List k0.T} {k' : LK} {m : List k'.T} {s1 s2 : Nat} {z} {kk : LK} {xa : A} {ie itx : TI} {v : Value} {ob : Prop} (hk : E.T t = some ⟨.slc e kk, s1, s2, z⟩) (hie : E.T e = some ie) (hb : ie.bytes ≤ 64) (hsz : k0.sz = kk.sz)
      (hxa : rdT E.T tx rd x = some xa) (htx : E.T tx = some itx) (hsrc : srcOf H ie.zero itx.kind xa = some ⟨k', m, ob⟩) (hob : ob)
      (hap : appL k0 l k' m = some lm) (hle : l.length + m.length ≤ 1099511627776) (hv : a.eval s = v) (ho : OwnSl M B w v e k0 l),
      ∃ v' w', (execOp a.eval ⟨dst, .call ⟨.builtin .append, #[s, x], #[t, tx]⟩, ty, pos, after, guard⟩).run P w = .ok (.value v') w' ∧ w.grownBy w' v.ownBlock ∧ OwnSl M B w' v' e k0 lm ∧ ∀ b, v'.ownBlock = some b → w.heap.size ≤ b ∨ v.ownBlock = some b := by
    intro e k0 l lm k' m s1 s2 z kk xa ie itx v ob hk hie hb hsz hxa htx hsrc hob hap hle hv ho
    obtain ⟨ek, rfl⟩ := appL_ok hap
    subst ek
    obtain ⟨hu, inf', hi', hs'⟩ := slc_und hT hk
    obtain ⟨inf, zv, i1, i2, i3, i4, i5, i6⟩ := (hT _ _ hie).info
    rw [i1] at hi'; cases hi'
    have hrx := rdT_ok (T := E.T) hr (fun _ => rfl) hxa
    obtain ⟨news, n1, n2⟩ := src_ok (P := P) hS hrx (hT _ _ htx) (i6 M) hsrc hob
    subst hv
    obtain ⟨v', w', r1, r2, r3, r4⟩ := own_append hS.base hS.mem ho (tr := ty) hu i1 i4 (by rw [hs', hsz]) (by rw [i5, ← i2, hs', hsz]) (by rw [i3]; exact hb) n1 n2 hle
    refine ⟨v', w', ?_, r2, r3, r4⟩
    rw [run_builtin_append r1]; rfl
  have hu0 := h undef
  obtain ⟨r0, h0, h02, _⟩ := hu0
  have e0 := h0
  simp only [heapOp] at e0
  split at e0
  · rename_i e k s1 s2 z av xa itx hk hsa hxa htx
    split at e0
    · rename_i ie k' m ob hie hsrc
      rw [hie] at hsrc; simp only [Option.elim] at hsrc
      split at e0
      · rename_i n v hb
        split at e0
        · rename_i v' ty' k0 l hn
          split at e0
          · rename_i lm hc hap; cases e0
            simp only [Bool.and_eq_true, Nat.beq_eq] at hc
            rw [Nat.ble_eq] at hb
            obtain ⟨⟨hob, rfl⟩, hle⟩ := h02
            obtain ⟨rfl, hsz⟩ := hc
            have hsv := (rdT_ok (T := E.T) hr (fun _ => rfl) hsa).own_inv
            obtain ⟨v', w', f1, f2, f3, f4⟩ := main hk hie hb hsz hxa htx hsrc hob hap hle hsv (hS.ok _ _ hn)
            obtain ⟨r, g1, g2, g3⟩ := h v'
            have e1 := g1
            simp only [heapOp, hk, hsa, hxa, htx, hie, Option.elim, hsrc, (Nat.ble_eq ▸ hb : Nat.ble ie.bytes 64 = true), hn, hap, Nat.beq_refl, (by rw [hsz]; exact Nat.beq_refl _ : Nat.beq k0.sz k.sz = true), Bool.and_self, Option.some.injEq] at e1
            subst e1
            refine wp_value f1 (g3 _ _ M (Mem.ext_refl _ _) (hS.newOwn f2 (OwnSl.row (hS.ok _ _ hn)) f3 f4 nx (fun m x hm hx => ?_)) (.c (.own f3.one)))
            by_cases hmn : m = n
            · subst hmn; rw [updH_same] at hx; cases hx
            · rw [updH_ne _ _ hmn] at hx
              exact ⟨hx, fun b hb => hS.inj n m _ x b (fun e => hmn e.symm) hn hx hb⟩
          · cases e0
        · cases e0
      · rename_i k0 hb
        split at e0
        · rename_i lm hc hap; cases e0
          rw [Nat.beq_eq] at hc
          rw [Nat.ble_eq] at hb
          obtain ⟨hob, hle⟩ := h02
          have hsv : a.eval s = .slice none 0 0 := by
            exact RA.nil_inv (rdT_ok (T := E.T) hr (fun _ => rfl) hsa)
          obtain ⟨v', w', f1, f2, f3, f4⟩ := main hk hie hb hc hxa htx hsrc hob hap (by simpa using hle) hsv (OwnSl.nil _ _ _ _ _)
          obtain ⟨r, g1, g2, g3⟩ := h v'
          have e1 := g1
          simp only [heapOp, hk, hsa, hxa, htx, hie, Option.elim, hsrc, (Nat.ble_eq ▸ hb : Nat.ble ie.bytes 64 = true), hap, (by rw [hc]; exact Nat.beq_refl _ : Nat.beq k0.sz k.sz = true), Option.some.injEq] at e1
          subst e1
          exact wp_value f1 (g3 _ _ M (Mem.ext_refl _ _) (hS.newOwn f2 (by simp [Value.ownBlock]) f3 f4 nx (fun m x hm hx => ⟨hx, by simp [Value.ownBlock]⟩)) (.c (.own f3.one)))
        · cases e0
      · cases e0
    · cases e0
  · cases e0

/-! ### a call -/
theorem own_lst {v : Value} {e : TypeId} {k : LK} {l : List k.T} (h : OwnSl M B w v e k l) (hM : M.on w) : R (Mem.all w) (.lst k l) v := by
  rcases h with ⟨rfl, rfl⟩ | ⟨b, cap, us, rfl, h1, h2, h3, h4, h5, h6, h7⟩
  · exact R.lst_nil _ _
  · refine R.lst_mk (b := b) (o := 0) rfl h4 h5 (fun _ => rfl) (by simp) (fun i x j y e1 e2 => ?_)
    obtain ⟨u, hu, hr⟩ := h7 i x j y e1 e2
    exact ⟨u, by simp [Mem.cell, Mem.all, h3, hu], hr.mono (Mem.le_all hM)⟩

theorem PV.nrm_ok {x : PV} {v : Value} (h : R M x v) : R M x.nrm v := by
  cases x with
  | nil k => exact h.nil_lst
  | val _ => exact h
  | lst _ _ => exact h
theorem C.nrm_ok {x : C} {v : Value} (h : RC M x v) : RC M x.nrm v := by
  cases h with
  | pv r => exact .pv (PV.nrm_ok r)
  | ptr => exact .ptr
  | own h => exact .own h
  | cel b o us hc hR => exact .cel b o us hc hR
  | oel => exact .oel
  | clo h1 h2 => exact .clo h1 h2
theorem nrm_okA {x : PV} {v : Value} (h : RA M (pv x) v) : RA M (pv x.nrm) v := by
  cases h with | c h => exact .c (C.nrm_ok h)
theorem nrm_okG {xs : List C} {v : Value} (h : RA M (.g xs) v) : RA M (.g (xs.map C.nrm)) v := by
  cases h with
  | g r =>
    refine .g ⟨by simpa using r.1, fun j c u e1 e2 => ?_⟩
    rw [List.getElem?_map] at e1
    cases hx : xs[j]? with
    | none => rw [hx] at e1; cases e1
    | some x => rw [hx] at e1; cases e1; exact C.nrm_ok (r.2 j x u hx e2)

theorem pvsOf_ok : ∀ (cs : List C) (ps : List PV), pvsOf cs = some ps → cs = ps.map .pv
  | [], ps, h => by cases h; rfl
  | .pv x :: l, ps, h => by
    simp only [pvsOf] at h
    split at h
    · rename_i xs hxs; cases h; rw [pvsOf_ok l xs hxs]; rfl
    · cases h
  | .ptr .. :: _, _, h => by cases h
  | .own .. :: _, _, h => by cases h
  | .cel .. :: _, _, h => by cases h
  | .oel .. :: _, _, h => by cases h
  | .clo .. :: _, _, h => by cases h

theorem argC_ok (hS : SatH B W H M w) {x : C} {y : A} {v : Value} {b : Bool} {ob : Prop} (h : argC H x = some (y, b, ob)) (hob : ob) (hx : RC M x v) : RA (Mem.all w) y v ∧ (b = false → RA M y v) := by
  unfold argC at h
  split at h
  · split at h
    · rename_i hn; cases h
      have : v = _ := (RA.c hx).own_inv; subst this; subst hob
      exact ⟨.c (.pv (own_lst (hS.ok _ _ hn) hS.mem)), by simp⟩
    · cases h
  · cases h
    have hx' : RA M _ v := nrm_okA (.c hx)
    exact ⟨hx'.mono (Mem.le_all hS.mem), fun _ => hx'⟩
  · split at h
    · rename_i hn
      split at h
      · rename_i ps hps; cases h
        subst hob
        have := pvsOf_ok _ _ hps; subst this
        obtain ⟨g1, g2, us, g3, g4⟩ := hS.ok _ _ hn
        cases hx
        refine ⟨.c (.cel _ 0 (fun j => (us[j]?).getD undef) (fun j y hj => ?_) (fun j y hj => ?_)), by simp⟩
        all_goals
          have hlt : j < us.size := by
            have h1 := g4.1
            have h2 := (List.getElem?_eq_some_iff.1 hj).1
            simp at h1; omega
        · simp [Mem.cell, Mem.all, g3, hlt]
        · have := g4.2 j (.pv y) us[j] (by rw [List.getElem?_map, hj]; rfl) (by simp [hlt])
          cases this with | pv r => simpa [hlt] using r.mono (Mem.le_all hS.mem)
      · cases h
    · cases h
  · cases h; exact ⟨.c (hx.mono (Mem.le_all hS.mem)), fun _ => .c hx⟩
  · cases h; exact ⟨.c (hx.mono (Mem.le_all hS.mem)), fun _ => .c hx⟩
  · split at h
    · rename_i hn
      split at h
      · rename_i ps hps; cases h
        subst hob
        have := pvsOf_ok _ _ hps; subst this
        obtain ⟨g1, g2, us, g3, g4⟩ := hS.ok _ _ hn
        cases hx with
        | clo hs hc =>
          rename_i vs
          refine ⟨.c (.clo hs fun j c u e1 e2 => ?_), by simp⟩
          match j, e1 with
          | 0, e1 =>
            cases e1
            have hp := hc 0 _ u rfl e2
            cases hp
            refine .cel _ 0 (fun j => (us[j]?).getD undef) (fun j y hj => ?_) (fun j y hj => ?_)
            all_goals
              have hlt : j < us.size := by
                have h1 := g4.1
                have h2 := (List.getElem?_eq_some_iff.1 hj).1
                simp at h1; omega
            · simp [Mem.cell, Mem.all, g3, hlt]
            · have := g4.2 j (.pv y) us[j] (by rw [List.getElem?_map, hj]; rfl) (by simp [hlt])
              cases this with | pv r => simpa [hlt] using r.mono (Mem.le_all hS.mem)
      · cases h
    · cases h
  · cases h
theorem argA_ok (hS : SatH B W H M w) {x y : A} {v : Value} {b : Bool} {ob : Prop} (h : argA H x = some (y, b, ob)) (hob : ob) (hx : RA M x v) : RA (Mem.all w) y v ∧ (b = false → RA M y v) := by
  unfold argA at h
  split at h
  · cases hx with | c hx => exact argC_ok hS h hob hx
  · cases h; have hx := nrm_okG hx; exact ⟨hx.mono (Mem.le_all hS.mem), fun _ => hx⟩
  · cases h
theorem capsA_ok (hS : SatH B W H M w) : ∀ (cs : List C) (us : List Value) (as : List A) (b : Bool) (ob : Prop), capsA H cs = some (as, b, ob) → ob → RCs M cs us → RAs (Mem.all w) as us.toArray ∧ (b = false → RAs M as us.toArray) := by
  intro cs
  induction cs with
  | nil =>
    intro us as b ob h hob hr
    cases h
    have : us = [] := List.eq_nil_of_length_eq_zero (by simpa using hr.1)
    subst this
    exact ⟨⟨rfl, by simp⟩, fun _ => ⟨rfl, by simp⟩⟩
  | cons c cs ih =>
    intro us as b ob h hob hr
    obtain ⟨u, us', rfl, h1, h2⟩ := hr.cell
    simp only [capsA] at h
    split at h
    · rename_i a b1 p as' b2 p' e1 e2; cases h
      obtain ⟨g1, g2⟩ := argC_ok hS e1 hob.1 h1
      obtain ⟨k1, k2⟩ := ih us' as' b2 p' e2 hob.2 h2
      have key : ∀ (MM : Mem), RA MM a u → RAs MM as' us'.toArray → RAs MM (a :: as') (u :: us').toArray := by
        intro MM r1 r2
        refine ⟨by have := r2.1; simp at this ⊢; exact this, fun j c v e1 e2 => ?_⟩
        cases j with
        | zero => simp at e1 e2; subst e1 e2; exact r1
        | succ j => exact r2.2 j c v (by simpa using e1) (by simpa using e2)
      refine ⟨key _ g1 k1, fun hb => ?_⟩
      simp only [Bool.or_eq_false_iff] at hb
      exact key _ (g2 hb.1) (k2 hb.2)
    · cases h
theorem RAs.app {M : Mem} {as bs : List A} {us vs : Array Value} (h : RAs M as us) (h' : RAs M bs vs) : RAs M (as ++ bs) (us ++ vs) := by
  refine ⟨by simp [h.1, h'.1], fun j a v e1 e2 => ?_⟩
  by_cases hj : j < as.length
  · rw [List.getElem?_append_left hj] at e1
    rw [Array.getElem?_append_left (by rw [h.1]; exact hj)] at e2
    exact h.2 j a v e1 e2
  · rw [List.getElem?_append_right (by omega)] at e1
    rw [Array.getElem?_append_right (by rw [h.1]; omega), h.1] at e2
    exact h'.2 _ a v e1 e2

theorem argsA_ok (hS : SatH B W H M w) (hr : ∀ o x, rd o = some x → RA M x (a.eval o)) : ∀ (os : List Operand) (ts : List TypeId) (as : List A) (b : Bool) (ob : Prop), argsA T H rd os ts = some (as, b, ob) → ob →
    RAs (Mem.all w) as (os.map a.eval).toArray ∧ (b = false → RAs M as (os.map a.eval).toArray) := by
  intro os
  induction os with
  | nil =>
    intro ts as b ob h hob
    cases ts <;> cases h <;> exact ⟨⟨rfl, by simp⟩, fun _ => ⟨rfl, by simp⟩⟩
  | cons o os ih =>
    intro ts as b ob h hob
    cases ts with
    | nil => cases h
    | cons t ts =>
      simp only [argsA] at h
      split at h
      · rename_i x hx
        split at h
        · rename_i y b1 p as' b2 p' h1 h2; cases h
          obtain ⟨g1, g2⟩ := argA_ok hS h1 hob.1 (rdT_ok (T := T) hr (fun _ => rfl) hx)
          obtain ⟨k1, k2⟩ := ih ts as' b2 p' h2 hob.2
          have key : ∀ (MM : Mem), RA MM y (a.eval o) → RAs MM as' (os.map a.eval).toArray → RAs MM (y :: as') ((o :: os).map a.eval).toArray := by
            intro MM r1 r2
            refine ⟨by have := r2.1; simp at this ⊢; exact this, fun j c v e1 e2 => ?_⟩
            cases j with
            | zero => simp at e1 e2; subst e1 e2; exact r1
            | succ j => exact r2.2 j c v (by simpa using e1) (by simpa using e2)
          refine ⟨key _ g1 k1, fun hb => ?_⟩
          simp only [Bool.or_eq_false_iff] at hb
          exact key _ (g2 hb.1) (k2 hb.2)
        · cases h
      · cases h

theorem instX_ok {r : RX} {v : Value} (h : RXok M r v) : RA M (instX r) v := by
  cases r with
  | c x => exact .c (.pv h)
  | g xs =>
    obtain ⟨us, rfl, h1, h2⟩ := h
    refine .g ⟨by simpa using h1, fun j c u e1 e2 => ?_⟩
    rw [List.getElem?_map] at e1
    cases hx : xs[j]? with
    | none => rw [hx] at e1; cases e1
    | some x => rw [hx] at e1; cases e1; exact .pv (h2 j x u hx (by simpa using e2))
  | cl f cs => exact .c h

theorem call_ok (hT : TbOk P E.T) (hΨ : PsiOk P E) (hS : SatH B W H M w) (hr : ∀ o x, rd o = some x → RA M x (a.eval o)) {fo : Operand} {args : List Operand} {tys : List TypeId}
    (h : ∀ u, ∃ r, heapOp E H nx rd u (.call ⟨.value fo, ⟨args⟩, ⟨tys⟩⟩) = some r ∧ Kok B W M ⟨dst, .call ⟨.value fo, ⟨args⟩, ⟨tys⟩⟩, ty, pos, after, guard⟩ a K r) :
    Oper.wp P ⟨dst, .call ⟨.value fo, ⟨args⟩, ⟨tys⟩⟩, ty, pos, after, guard⟩ a w K Q := by
  obtain ⟨r0, h0, h02, h03⟩ := h undef
  have e0 := h0
  simp only [heapOp] at e0
  split at e0
  · rename_i f caps hf
    obtain ⟨us, hfv, hus⟩ : ∃ us : List Value, a.eval fo = .func (.func f) #[] us.toArray ∧ RCs M caps us := by
      have := hr _ _ hf
      cases this with | c h => 
      generalize a.eval fo = v at h
      cases h with
      | @clo _ _ us hs hh => exact ⟨us.toList, by simp, by simpa using hs, fun j c u e1 e2 => hh j c u e1 (by simpa using e2)⟩
    have hrun : Enters P f → (execOp a.eval ⟨dst, .call ⟨.value fo, ⟨args⟩, ⟨tys⟩⟩, ty, pos, after, guard⟩).run P w = .ok (.enter f ((args.map a.eval).toArray ++ us.toArray)) w := by
      intro ⟨fn, e1, e2, e3⟩
      have e3' : fn.name ≠ "runtime.NumGoroutine" := by simpa using e3
      have e2' : fn.body ≠ none := by intro e; rw [e] at e2; cases e2
      simp [execOp, resolve, invoke, hfv, Deferred.ofValue, callFunc, e1, e2', e3']
    split at e0
    · rename_i s hs
      split at e0
      · rename_i as lent ob cs lent' ob' has hcs
        split at e0
        · rename_i pre sh rv hsp
          -- what both outcomes share
          have fin : ((lent || lent') && sh) = false → (ob ∧ ob') ∧ pre → Oper.wp P ⟨dst, .call ⟨.value fo, ⟨args⟩, ⟨tys⟩⟩, ty, pos, after, guard⟩ a w K Q := by
            intro hls hobp
            obtain ⟨ok1, ok2⟩ := argsA_ok hS hr _ _ _ _ _ has hobp.1.1
            obtain ⟨kk1, kk2⟩ := capsA_ok hS _ _ _ _ _ hcs hobp.1.2 hus
            obtain ⟨hent, hfn⟩ := hΨ.fn f s hs (as ++ cs) pre sh rv hsp hobp.2
            have hcall : ∀ (M0 : Mem), M0.on w → RAs M0 (as ++ cs) ((args.map a.eval).toArray ++ us.toArray) → (∀ v w' F, Below w.heap.size w w' → Fresh F w.heap.size w' → RVok (shM sh M0 F) w.heap.size w' rv v → K (a.put dst v) w') →
                Oper.wp P ⟨dst, .call ⟨.value fo, ⟨args⟩, ⟨tys⟩⟩, ty, pos, after, guard⟩ a w K Q := by
              intro M0 hM0 hra hk
              unfold Oper.wp
              rw [hrun hent, Oper.upon_enter]
              refine (hfn M0 w _ hM0 hra).mono fun e w' ⟨v, F, he, hb, hF, hv⟩ => ?_
              subst he
              exact hk v w' F hb hF hv
            -- the result, over what is known behind the call
            have res : ∀ v w' F (M0 : Mem), (sh = true → M0 = M) → Below w.heap.size w w' → Fresh F w.heap.size w' → RVok (shM sh M0 F) w.heap.size w' rv v → K (a.put dst v) w' := by
              intro v w' F M0 hM0 hb hF hv
              have hS' := hS.call hb hF
              have hMle := Mem.ext_or hS.mem hS.base hF
              have hle : (shM sh M0 F).le (M.or F) := by
                cases sh with
                | true => rw [hM0 rfl]; exact Mem.le_refl _
                | false => exact Mem.or_le
              have rx : ∀ (r : RX) (u : Value), RXok (shM sh M0 F) r u → RA (M.or F) (instX r) u := fun r u hr => (instX_ok hr).mono hle
              have ow : ∀ (u : Value) (e : TypeId) (k : LK) (l : List k.T), OwnSl (shM sh M0 F) w.heap.size w' u e k l → OwnSl (M.or F) B w' u e k l ∧ ∀ b, u.ownBlock = some b → w.heap.size ≤ b := by
                intro u e k l ho
                rcases ho with ⟨rfl, rfl⟩ | ⟨b, cap, us, rfl, q1, q2, q3, q4, q5, q6, q7⟩
                · exact ⟨.inl ⟨rfl, rfl⟩, by simp [Value.ownBlock]⟩
                · refine ⟨.inr ⟨b, cap, us, rfl, Nat.le_trans hS.base q1, ?_, q3, q4, q5, q6, fun i x j y a1 a2 => let ⟨u, b1, b2⟩ := q7 i x j y a1 a2; ⟨u, b1, b2.mono hle⟩⟩, fun b' hb' => by cases hb'; exact q1⟩
                  unfold Mem.or
                  have hMb := Mem.none_of_size hS.mem q1
                  cases hFb : F b with
                  | none => exact hMb
                  | some o =>
                    exfalso
                    cases sh with
                    | true => simp [shM, Mem.or, hFb] at q2
                    | false => simp [shM, hFb] at q2
              have newo : ∀ (u : Value) (e : TypeId) (k : LK) (l : List k.T), OwnSl (shM sh M0 F) w.heap.size w' u e k l → SatH B W (updH H nx (some (.own u e k l))) (M.or F) w' := by
                intro u e k l ho
                obtain ⟨o1, o2⟩ := ow u e k l ho
                refine ⟨hS'.below, hS'.base, hS'.mem, fun n x hx => ?_, fun n n' x x' b hnn h1 h2 hb => ?_⟩
                · by_cases hn : n = nx
                  · subst hn; rw [updH_same] at hx; cases hx; exact o1
                  · rw [updH_ne _ _ hn] at hx; exact hS'.ok n x hx
                · have old : ∀ m y, m ≠ nx → updH H nx (some (.own u e k l)) m = some y → ∀ c, y.block = some c → c < w.heap.size := by
                    intro m y hm hy c hc
                    rw [updH_ne _ _ hm] at hy
                    exact (HB.block_lt (hS.ok m y hy) hc).2.1
                  by_cases hn : n = nx
                  · subst hn; rw [updH_same] at h1; cases h1
                    intro hc
                    have := old n' x' (fun e => hnn e.symm) h2 b hc
                    have := o2 b hb; omega
                  · by_cases hn' : n' = nx
                    · subst hn'; rw [updH_same] at h2; cases h2
                      intro hc
                      have := old n x hn h1 b hb
                      have := o2 b hc; omega
                    · rw [updH_ne _ _ hn] at h1; rw [updH_ne _ _ hn'] at h2
                      exact hS'.inj n n' x x' b hnn h1 h2 hb
              obtain ⟨r, g1, g2, g3⟩ := h v
              have e1 := g1
              simp only [heapOp, hf, has, hcs, hs, hsp, hls] at e1
              cases rv with
              | x r => simp only [inst, Option.some.injEq] at e1; subst e1; exact g3 v w' _ hMle hS' (rx r v hv)
              | o e k l => simp only [inst, Option.some.injEq] at e1; subst e1; exact g3 v w' _ hMle (newo v e k l hv) (.c (.own (OwnSl.one (ow v e k l hv).1)))
              | ot e k l rest =>
                obtain ⟨us, rfl, q1, ⟨u0, q2, q3⟩, q4⟩ := hv
                simp only [inst, Option.some.injEq] at e1; subst e1
                have hc0 : (Value.tuple us).comp 0 = u0 := by
                  have hlt := (Array.getElem?_eq_some_iff.1 q2).1
                  simp [Value.comp, Array.getD, hlt, (Array.getElem?_eq_some_iff.1 q2).2]
                refine g3 _ w' _ hMle (by rw [hc0]; exact newo u0 e k l q3) (.t (by simp [q1]) fun j c u e1 e2 => ?_)
                cases j with
                | zero =>
                  simp at e1; subst e1
                  rw [q2] at e2; cases e2
                  rw [hc0]; exact .c (.own (OwnSl.one (ow u0 e k l q3).1))
                | succ j =>
                  simp at e1
                  obtain ⟨r, hr1, rfl⟩ := e1
                  exact rx r u (q4 j r u hr1 e2)
              | t rest =>
                obtain ⟨us, rfl, q1, q4⟩ := hv
                simp only [inst, Option.some.injEq] at e1; subst e1
                refine g3 _ w' _ hMle hS' (.t (by simp [q1]) fun j c u e1 e2 => ?_)
                simp at e1
                obtain ⟨r, hr1, rfl⟩ := e1
                exact rx r u (q4 j r u hr1 e2)
            cases hsh : sh with
            | false => exact hcall (Mem.all w) (Mem.all_on w) (ok1.app kk1) (fun v w' F hb hF hv => res v w' F (Mem.all w) (fun e => by rw [hsh] at e; cases e) hb hF hv)
            | true =>
              have hl : lent = false ∧ lent' = false := by rw [hsh] at hls; simpa using hls
              exact hcall M hS.mem ((ok2 hl.1).app (kk2 hl.2)) (fun v w' F hb hF hv => res v w' F M (fun _ => rfl) hb hF hv)
          split at e0
          · rename_i hls _; cases e0; exact fin hls h02
          · rename_i hls _; cases e0; exact fin hls h02
          · cases e0
        · cases e0
      · cases e0
    · split at e0
      · rename_i tyq s p os t0 ts hs
        have hu0 : us = [] := List.eq_nil_of_length_eq_zero (by simpa using hus.1)
        subst hu0
        split at e0
        · rename_i n b as lent ob hp has
          split at e0
          · rename_i b' ty' cs hn
            split at e0
            · rename_i ps hps
              split at e0
              · rename_i pre r ps' hty hsp; cases e0
                obtain ⟨⟨hob, rfl⟩, hpre⟩ := h02
                rw [Nat.beq_eq] at hty; subst hty
                obtain ⟨hent, hfn⟩ := hΨ.pt f _ s hs ps as pre r ps' hsp hpre
                obtain ⟨ok1, ok2⟩ := argsA_ok hS hr _ _ _ _ _ has hob
                obtain ⟨g1, g2, us, g3, g4⟩ := hS.ok _ _ hn
                have hpc := pvsOf_ok _ _ hps
                subst hpc
                unfold Oper.wp
                rw [hrun hent, Oper.upon_enter, show ((List.map a.eval (p :: os)).toArray ++ ([] : List Value).toArray) = (List.map a.eval (p :: os)).toArray by simp]
                have hpv := (hr _ _ hp).ptr_inv
                have := hfn (Mem.all w) w b us (os.map a.eval) g3 (g4.mono (Mem.le_all hS.mem)) ok1
                rw [show (List.map a.eval (p :: os)).toArray = (.pointer (some ⟨b, 0, none⟩) :: os.map a.eval).toArray from by rw [List.map_cons, hpv]]
                refine this.mono fun e w' ⟨v, us', he, h1, h2, h3⟩ => ?_
                subst he; subst h3
                refine h03 v _ M (Mem.ext_refl _ _) ?_ (.c (.pv (h1 M)))
                refine hS.step (nn := n) (xx := .blk b _ _) (grownBy_setRow w b _) (fun c hc => by cases hc; exact ⟨g1, g2⟩) (fun m y hm hy => ?_) (updH_same _ _ _) ⟨g1, g2, _, setRow_heap w b us _ _ _ g3, h2 M⟩ (fun c hc => .inr hc)
                have hy' : updH H n _ m = some y := hy
                rw [updH_ne _ _ hm] at hy'
                exact ⟨hy', fun c hc => by cases hc; exact hS.inj n m _ y b (fun e => hm e.symm) hn hy' rfl⟩
              · cases e0
            · cases e0
          · cases e0
        · cases e0
      · cases e0
  · cases e0

theorem decB_ok : ∀ {cs : List C} {l : List UInt8} {ob : Prop} {us : List Value}, decB cs = some (l, ob) → ob → RCs M cs us → l.length = cs.length ∧ us = l.map (fun x => .int .u8 (x.toNat : Int)) := by
  intro cs
  induction cs with
  | nil =>
    intro l ob us h hob hr
    cases h
    exact ⟨rfl, List.eq_nil_of_length_eq_zero (by simpa using hr.1)⟩
  | cons c cs ih =>
    intro l ob us h hob hr
    unfold decB at h
    split at h
    · rename_i hc; cases hc
    · rename_i n l' hc
      cases hc
      split at h
      · rename_i xs p hp; cases h
        obtain ⟨u, us', rfl, h1, h2⟩ := hr.cell
        obtain ⟨g1, g2⟩ := ih hp hob.2 h2
        have hu : u = .int .u8 n := by cases h1 with | pv r => exact r.val_eq
        subst hu
        have : ((UInt8.ofNat n.toNat).toNat : Int) = n := by rw [UInt8.toNat_ofNat']; omega
        exact ⟨by simp [g1], by rw [List.map_cons, this, g2]⟩
      · cases h
    · cases h

theorem slcArr_ok (hT : TbOk P E.T) (hS : SatH B W H M w) (hr : ∀ o x, rd o = some x → RA M x (a.eval o)) {t : TypeId} {x : Operand}
    (h : ∀ u, ∃ r, heapOp E H nx rd u (.slice t x none none none) = some r ∧ Kok B W M ⟨dst, .slice t x none none none, ty, pos, after, guard⟩ a K r) : Oper.wp P ⟨dst, .slice t x none none none, ty, pos, after, guard⟩ a w K Q := by
  obtain ⟨r, h1, h2, h3⟩ := h undef
  simp only [heapOp] at h1
  split at h1
  · rename_i N e s1 s2 z n b hk hx
    split at h1
    · rename_i s3 s4 z' b' ty' cs he hn
      split at h1
      · rename_i l ob hN hd; cases h1
        obtain ⟨rfl, hob⟩ := h2
        simp only [Bool.and_eq_true, Nat.beq_eq, Nat.ble_eq, len_eq] at hN
        obtain ⟨hN1, hN2⟩ := hN
        have hu := (hT _ _ hk).und
        simp only at hu
        have hue := (hT _ _ he).und
        simp only at hue
        obtain ⟨inf, zv, i1, i2, i3, i4, i5, i6⟩ := (hT _ _ he).info
        have hv := (hr _ _ hx).ptr_inv
        obtain ⟨g1, g2, us, g3, g4⟩ := hS.ok _ _ hn
        obtain ⟨d1, d2⟩ := decB_ok hd hob g4
        have hul : us.size = N := by rw [← Array.length_toList, g4.1, hN1]
        have hl : l.length = N := by rw [d1, hN1]
        have hun : P.arrayLen t = N ∧ P.elem t = e := by
          unfold Program.arrayLen Program.elem; rw [hu.1]; exact ⟨rfl, rfl⟩
        have hrun : (Instr.sliceAt t (.pointer (some ⟨b, 0, none⟩)) none none none).run P w = .ok (.slice (some ⟨b, 0, none⟩) N N) w := by
          rw [run_sliceAt_array_all w t ⟨b, 0, none⟩ (by rw [hun.1, hun.2]; exact hu.1), hun.1, hun.2]
          have hsz : (Go.sizeOf e).run P w = .ok inf.size w := by simp [Go.sizeOf, run_typeInfo i1]
          rw [hsz]
          simp only [Result.andThen_ok, slicedAt, Nat.zero_mul, Nat.sub_zero]
          split
          · rfl
          · simp [Addr.add]
        refine wp_value (w' := w) (v := .slice (some ⟨b, 0, none⟩) N N) ?_ (h3 _ _ M (Mem.ext_refl _ _) ?_ (.c (.own rfl)))
        · simp only [execOp, hv, Option.map_none, Sem.run_bind]
          rw [hrun]; rfl
        · refine hS.step (row := some b) (nn := n) (xx := .own (.slice (some ⟨b, 0, none⟩) N N) ty' .byt l) (grownBy_refl w _) (fun c hc => by cases hc; exact ⟨g1, g2⟩) (fun m y hm hy => ?_) (updH_same _ _ _) ?_ (fun c hc => .inr hc)
          · have hy' : updH H n _ m = some y := hy
            rw [updH_ne _ _ hm] at hy'
            exact ⟨hy', fun c hc => by cases hc; exact hS.inj n m _ y b (fun e => hm e.symm) hn hy' rfl⟩
          · refine .inr ⟨b, N, us, by rw [hl], g1, g2, g3, by rw [hl]; exact Nat.le_refl _, by simp only [maxLen]; omega, by simp [LK.sz, hul], fun i x j y e1 e2 => ?_⟩
            have hj := enc_lt e2
            have hj0 : j = 0 := by simp [LK.sz] at hj; exact hj
            subst hj0
            simp [LK.enc] at e2; subst e2
            refine ⟨.int .u8 (x.toNat : Int), ?_, .val rfl⟩
            rw [← Array.getElem?_toList, d2]
            simp [LK.sz, e1]
      · cases h1
    · cases h1
  · cases h1

theorem copy_ok (hT : TbOk P E.T) (hS : SatH B W H M w) (hr : ∀ o x, rd o = some x → RA M x (a.eval o)) {d s : Operand} {td ts : TypeId}
    (h : ∀ u, ∃ r, heapOp E H nx rd u (.call ⟨.builtin .copy, ⟨[d, s]⟩, ⟨[td, ts]⟩⟩) = some r ∧ Kok B W M ⟨dst, .call ⟨.builtin .copy, ⟨[d, s]⟩, ⟨[td, ts]⟩⟩, ty, pos, after, guard⟩ a K r) :
    Oper.wp P ⟨dst, .call ⟨.builtin .copy, ⟨[d, s]⟩, ⟨[td, ts]⟩⟩, ty, pos, after, guard⟩ a w K Q := by
  obtain ⟨r, h1, h2, h3⟩ := h undef
  simp only [heapOp] at h1
  split at h1
  · rename_i e s1 s2 z n v sa hk hd hs
    split at h1
    · rename_i v' ty' l m ob s3 s4 z' hn hm he; cases h1
      obtain ⟨hob, rfl⟩ := h2
      obtain ⟨hu, _⟩ := slc_und hT hk
      obtain ⟨inf, zv, i1, i2, i3, i4, i5, i6⟩ := (hT _ _ he).info
      obtain ⟨hu2, inf2, i1', hsz⟩ := slc_und hT hk
      rw [i1] at i1'; cases i1'
      have h1sz : (P.info? e).map (·.size) = some 1 := by rw [i1]; simp [hsz, LK.sz]
      have hv := (hr _ _ hd).own_inv
      obtain ⟨ad, c, b', o, hsv, q1, q2, q3, q4⟩ := lkOf_ok hS (hr _ _ hs) hm hob
      have hexec : ∀ v w', (Builtin.copy_ #[td, ts] ty #[a.eval d, a.eval s]).run P w = .ok v w' → (execOp a.eval ⟨dst, .call ⟨.builtin .copy, ⟨[d, s]⟩, ⟨[td, ts]⟩⟩, ty, pos, after, guard⟩).run P w = .ok (.value v) w' := by
        intro v w' hh
        simp [execOp, resolve, invoke, Go.builtin, hh]
      have hnone : Nat.min m.length l.length = 0 → ∀ (dd : Option Addr) (cap : Nat), a.eval d = .slice dd l.length cap → m.take l.length ++ l.drop m.length = l → Oper.wp P ⟨dst, .call ⟨.builtin .copy, ⟨[d, s]⟩, ⟨[td, ts]⟩⟩, ty, pos, after, guard⟩ a w K Q := by
        intro h0 dd cap hdd hll
        refine wp_value (hexec _ _ (by rw [hdd, hsv]; exact run_copy_none w td ts ty e dd ad l.length cap m.length c hu h1sz h0)) (h3 _ _ M (Mem.ext_refl _ _) ?_ ?_)
        · rw [hll]
          refine hS.less fun n' x hx => ?_
          have hx' : updH H n _ n' = some x := hx
          by_cases e : n' = n
          · subst e; rw [updH_same] at hx'; cases hx'; exact hn
          · rwa [updH_ne _ _ e] at hx'
        · have h0' : min m.length l.length = 0 := h0
          rw [h0']; exact .c (.pv (.val rfl))
      by_cases h0 : Nat.min m.length l.length = 0
      · have hll : m.take l.length ++ l.drop m.length = l := by
          have h0' : min m.length l.length = 0 := h0
          by_cases hm0 : m.length = 0
          · have : m = [] := List.eq_nil_of_length_eq_zero hm0
            subst this; simp
          · have : l.length = 0 := by omega
            have : l = [] := List.eq_nil_of_length_eq_zero this
            subst this; simp
        rcases hS.ok _ _ hn with ⟨hv0, rfl⟩ | ⟨b, cap, us, hv0, g1, g2, g3, g4, g5, g6, g7⟩
        · exact hnone h0 none 0 (by rw [hv, hv0]; rfl) hll
        · exact hnone h0 _ cap (by rw [hv, hv0]) hll
      · have h0' : ¬ min m.length l.length = 0 := h0
        have hmne : m ≠ [] := by intro e; subst e; simp at h0'
        have := q1 hmne; subst this
        rcases hS.ok _ _ hn with ⟨hv0, rfl⟩ | ⟨b, cap, us, rfl, g1, g2, g3, g4, g5, g6, g7⟩
        · simp at h0'
        · let cs : List Value := (m.take l.length).map (fun x => .int .u8 (x.toNat : Int))
          have hcl : cs.length = min l.length m.length := by simp [cs, List.length_take]
          simp only [LK.sz, Nat.mul_one] at g6
          have hrun := run_copy_row (P := P) w td ts ty e b 0 l.length cap ⟨b', o, none⟩ m.length c us ty' cs hu h1sz g3 (by rw [hcl, Nat.min_comm]) (fun j u hj => by
            have hjl : j < (m.take l.length).length := by have := (List.getElem?_eq_some_iff.1 hj).1; simpa [cs] using this
            have hjm : j < m.length := by rw [List.length_take] at hjl; omega
            have hjl' : j < l.length := by rw [List.length_take] at hjl; omega
            obtain ⟨u', hu', hru⟩ := q4 j m[j] 0 (.val (.int .u8 (m[j]).toNat)) (List.getElem?_eq_getElem hjm) rfl
            have := hru.val_eq; subst this
            simp [cs, List.getElem?_take, hjl', hjm] at hj
            rw [← hj, Addr.add_lit]
            simpa [LK.sz] using hu') (by rw [hcl]; simp; omega) (fun u hu => by obtain ⟨x, _, rfl⟩ := List.mem_map.1 hu; rfl)
          refine wp_value (hexec _ _ (by rw [hv, hsv]; exact hrun)) (h3 _ _ M (Mem.ext_refl _ _) ?_ ?_)
          · have hlen2 : (m.take l.length ++ l.drop m.length).length = l.length := by simp; omega
            refine hS.step (nn := n) (xx := .own (.slice (some ⟨b, 0, none⟩) l.length cap) ty' .byt (m.take l.length ++ l.drop m.length)) (grownBy_setRow w b _) (fun q hq => by cases hq; exact ⟨g1, g2⟩) (fun m' y hm' hy => ?_) (updH_same _ _ _) ?_ (fun q hq => .inr hq)
            · have hy' : updH H n _ m' = some y := hy
              rw [updH_ne _ _ hm'] at hy'
              exact ⟨hy', fun q hq => by cases hq; exact hS.inj n m' _ y b (fun e => hm' e.symm) hn hy' rfl⟩
            · refine .inr ⟨b, cap, _, by rw [hlen2], g1, g2, setRow_heap w b us _ ty' _ g3, by rw [hlen2]; exact g4, g5, ?_, fun i x j y e1 e2 => ?_⟩
              · simp [LK.sz, hcl]; omega
              · have hj := enc_lt e2
                have hj0 : j = 0 := by simp [LK.sz] at hj; exact hj
                subst hj0
                simp [LK.enc] at e2; subst e2
                refine ⟨.int .u8 (x.toNat : Int), ?_, .val rfl⟩
                simp only [LK.sz, Nat.mul_one, Nat.add_zero, List.take_zero, List.nil_append, Nat.zero_add, List.getElem?_toArray]
                by_cases hi : i < cs.length
                · rw [List.getElem?_append_left hi]
                  rw [List.getElem?_append_left (by rw [List.length_take]; omega)] at e1
                  simp only [cs, List.getElem?_map, e1, Option.map_some]
                · rw [List.getElem?_append_right (by omega), List.getElem?_drop]
                  rw [List.getElem?_append_right (by rw [List.length_take]; omega), List.getElem?_drop, List.length_take] at e1
                  have hidx : cs.length + (i - cs.length) = i := by omega
                  have hi2 : i < l.length := by
                    have := (List.getElem?_eq_some_iff.1 e1).1; omega
                  have hml : m.length ≤ l.length := by omega
                  rw [show m.length + (i - min l.length m.length) = i by omega] at e1
                  obtain ⟨u, hu, hru⟩ := g7 i x 0 (.val (.int .u8 x.toNat)) e1 rfl
                  have := hru.val_eq; subst this
                  simp only [LK.sz, Nat.mul_one, Nat.add_zero] at hu
                  rw [hidx, Array.getElem?_toList]; exact hu
          · rw [hcl]
            simp only [goInt]
            rw [Nat.min_comm]; exact .c (.pv (.val rfl))
    · cases h1
  · cases h1

theorem heap_freeze (w : World) (b n : Nat) {us : Array Value} {ty : TypeId} (hb : w.heap[b]? = some (.cells us ty (0, 0))) : ∀ c, (w.freeze ⟨b, n, none⟩ 1).heap[c]? = if c = b then some (.cells us ty (n, n + 1)) else w.heap[c]? := by
  intro c
  unfold World.freeze
  rw [if_neg (by decide)]
  simp only [Array.getElem?_modify]
  by_cases h : c = b
  · subst h; simp [hb]
  · rw [if_neg (fun e => h e.symm), if_neg h]
/-- A text's bytes written as a slice: nothing turns them any more. -/
theorem conv_ok (hT : TbOk P E.T) (hS : SatH B W H M w) (hr : ∀ o x, rd o = some x → RA M x (a.eval o)) {src dt : TypeId} {x : Operand}
    (h : ∀ u, ∃ r, heapOp E H nx rd u (.convert src dt x) = some r ∧ Kok B W M ⟨dst, .convert src dt x, ty, pos, after, guard⟩ a K r) : Oper.wp P ⟨dst, .convert src dt x, ty, pos, after, guard⟩ a w K Q := by
  obtain ⟨r, h1, h2, h3⟩ := h undef
  simp only [heapOp] at h1
  split at h1
  · rename_i e kk s1 s2 z n v hb0 hk hx
    rw [Nat.beq_eq] at hb0; subst hb0
    split at h1
    · rename_i v' ty' k l s3 s4 z' hn he; cases h1
      obtain ⟨rfl, hpos⟩ := h2
      obtain ⟨hu, _⟩ := slc_und hT hk
      have hue := (hT _ _ he).und
      simp only at hue
      have hv := (hr _ _ hx).own_inv
      rcases hS.ok _ _ hn with ⟨rfl, rfl⟩ | ⟨b, cap, us, rfl, g1, g2, g3, g4, g5, g6, g7⟩
      · simp at hpos
      · have hfz := heap_freeze w b us.size g3
        have hsh : w.shape? b = some (ty', us.size) := by unfold World.shape?; rw [g3]
        have hrun : (Go.convert src src (.slice (some ⟨b, 0, none⟩) l.length cap)).run P w = .ok (.slice (some ⟨b, 0, none⟩) l.length cap) (w.freeze ⟨b, us.size, none⟩ 1) := by
          simp [Go.convert, run_underlying hu, run_underlying hue, markStringish, hsh]
        have hsize : (w.freeze ⟨b, us.size, none⟩ 1).heap.size = w.heap.size := by
          unfold World.freeze; rw [if_neg (by decide)]; simp
        have hle : M.le (fun j => if j = b then (w.freeze ⟨b, us.size, none⟩ 1).heap[b]? else M j) := by
          intro j o e
          by_cases hj : j = b
          · subst hj; rw [g2] at e; cases e
          · simp [hj, e]
        have hrest : (w.freeze ⟨b, us.size, none⟩ 1).os = w.os ∧ (w.freeze ⟨b, us.size, none⟩ 1).tape = w.tape ∧ (w.freeze ⟨b, us.size, none⟩ 1).output = w.output := by
          unfold World.freeze; rw [if_neg (by decide)]; exact ⟨rfl, rfl, rfl⟩
        refine wp_value (w' := w.freeze ⟨b, us.size, none⟩ 1) (v := .slice (some ⟨b, 0, none⟩) l.length cap) ?_ (h3 _ _ (fun j => if j = b then (w.freeze ⟨b, us.size, none⟩ 1).heap[b]? else M j) ⟨hle, fun j o e hj => ?_⟩ ?_ ?_)
        · simp only [execOp, hv, Sem.run_bind]
          rw [hrun]; rfl
        · have hjb : j ≠ b := by omega
          simpa [hjb] using e
        · refine ⟨⟨hrest.1.trans hS.below.os, hrest.2.1.trans hS.below.tape, hrest.2.2.trans hS.below.output, by rw [hsize]; exact hS.below.size, fun k hk => ?_⟩, by rw [hsize]; exact hS.base, ?_, ?_, ?_⟩
          · rw [hfz k, if_neg (by omega)]; exact hS.below.block k hk
          · intro j o e
            by_cases hj : j = b
            · subst hj; simpa using e
            · simp only [hj, if_false] at e
              rw [hfz j, if_neg hj]; exact hS.mem j o e
          · intro m x hm
            have hm' : m ≠ n := fun e => by subst e; simp only [updH_same] at hm; cases hm
            have e2 : H m = some x := by simpa only [updH_ne _ _ hm'] using hm
            have hok := hS.ok m x e2
            have hcb : ∀ c, x.block = some c → c ≠ b := fun c hc e => hS.inj n m _ x b (fun h => hm' h.symm) hn e2 rfl (e ▸ hc)
            refine hok.keep hle (fun c hc => ?_) (fun c hc => ?_)
            · simp only [hcb c hc, if_false]; exact (HB.block_lt hok hc).2.2
            · rw [hfz c, if_neg (hcb c hc)]
          · intro m m' x x' c hm a1 a2
            have hne : ∀ q y, updH H n none q = some y → H q = some y := by
              intro q y hq
              by_cases e : q = n
              · subst e; rw [updH_same] at hq; cases hq
              · rwa [updH_ne _ _ e] at hq
            exact hS.inj m m' x x' c hm (hne _ _ a1) (hne _ _ a2)
        · refine .c (.pv (R.lst_mk (b := b) (o := 0) rfl g4 g5 (fun _ => rfl) (by simp) (fun i x j y e1 e2 => ?_)))
          obtain ⟨u, hu, hr⟩ := g7 i x j y e1 e2
          exact ⟨u, by simp [Mem.cell, hfz, hu], hr.mono hle⟩
    · cases h1
  · cases h1

theorem binNil_ok (hT : TbOk P E.T) (hS : SatH B W H M w) (hr : ∀ o x, rd o = some x → RA M x (a.eval o)) {op : BinOp} {t t2 : TypeId} {x : Operand}
    (h : ∀ u, ∃ r, heapOp E H nx rd u (.binOp op t x (.const (.slice none 0 0)) t2) = some r ∧ Kok B W M ⟨dst, .binOp op t x (.const (.slice none 0 0)) t2, ty, pos, after, guard⟩ a K r) : Oper.wp P ⟨dst, .binOp op t x (.const (.slice none 0 0)) t2, ty, pos, after, guard⟩ a w K Q := by
  obtain ⟨r0, h0, _⟩ := h undef
  simp only [heapOp] at h0
  split at h0
  rotate_left
  · cases h0
  rename_i e k s1 s2 z k2 l hk hx
  obtain ⟨hu, _⟩ := slc_und hT hk
  have hv := hr _ _ hx
  obtain ⟨ad, c, b, o, hvv, q1, q2, q3, q4, q5⟩ : ∃ ad c b o, a.eval x = .slice ad l.length c ∧ l.length ≤ c ∧ c ≤ maxLen ∧ (l ≠ [] → ad = some ⟨b, o, none⟩) ∧ (ad = none → c = 0) ∧ True := by
    cases hv with
    | c hv => cases hv with
      | pv hv => obtain ⟨ad, c, b, o, e1, e2, e3, e4, e5, _⟩ := hv.lst_inv; exact ⟨ad, c, b, o, e1, e2, e3, e4, e5, trivial⟩
  obtain ⟨d, hd, he⟩ : ∃ d, nilB (.bool d) l = d ∧ (Op.equal t (.slice ad l.length c) (.slice none 0 0)).run P w = .ok d w := by
    cases ad with
    | none =>
      have hl : l = [] := by
        cases l with
        | nil => rfl
        | cons y m => exact absurd (q3 (by simp)) (by simp)
      subst hl
      refine ⟨true, rfl, ?_⟩
      show (Op.equalIn (9999 + 1) t _ _).run P w = _
      rw [Op.equalIn]
      simp [run_underlying hu]
    | some ad =>
      refine ⟨false, by cases l <;> rfl, ?_⟩
      show (Op.equalIn (9999 + 1) t _ _).run P w = _
      rw [Op.equalIn]
      simp [run_underlying hu]
  obtain ⟨r, h1, h2, h3⟩ := h (.bool d)
  simp only [heapOp, hk, hx] at h1
  have hy : a.eval (.const (.slice none 0 0)) = .slice none 0 0 := rfl
  split at h1
  · cases h1
    refine wp_value (w' := w) (v := .bool d) ?_ (h3 _ _ M (Mem.ext_refl _ _) hS (by rw [hd]; exact .c (.pv (.val rfl))))
    simp only [execOp, hvv, hy]
    rw [Sem.run_bind, Sem.run_bind, run_eqGuard_plain _ _ _ _ _ _ rfl]
    simp [Go.binOp, he]
  · cases h1
    refine wp_value (w' := w) (v := .bool (!d)) ?_ (h3 _ _ M (Mem.ext_refl _ _) hS (by rw [hd]; exact .c (.pv (.val rfl))))
    simp only [execOp, hvv, hy]
    rw [Sem.run_bind, Sem.run_bind, run_eqGuard_plain _ _ _ _ _ _ rfl]
    simp [Go.binOp, he]
  · cases h1

/-- EVERY OPERATION THAT TURNS MEMORY. -/
theorem heap_ok (hT : TbOk P E.T) (hΨ : PsiOk P E) (hS : SatH B W H M w) (hr : ∀ o x, rd o = some x → RA M x (a.eval o)) {o : Oper}
    (h : ∀ u, ∃ r, heapOp E H nx rd u o.op = some r ∧ Kok B W M o a K r) : o.wp P a w K Q := by
  obtain ⟨dst, op, ty, pos, after, guard⟩ := o
  obtain ⟨r0, h0, _⟩ := h undef
  have e0 := h0
  simp only at e0 h
  cases op with
  | box t x => exact box_ok hS hr h
  | alloc t => exact alloc_ok hT hS h
  | store t p x => exact store_ok hT hS hr h
  | convert src dt x => exact conv_ok hT hS hr h
  | binOp op t x y t2 =>
    cases y with
    | const v =>
      cases v with
      | slice p n c =>
        match p, n, c, h, e0 with
        | none, 0, 0, h, e0 => exact binNil_ok hT hS hr h
        | some _, _, _, _, e0 => simp [heapOp] at e0
        | none, n + 1, _, _, e0 => simp [heapOp] at e0
        | none, 0, c + 1, _, e0 => simp [heapOp] at e0
      | _ => simp [heapOp] at e0
    | _ => simp [heapOp] at e0
  | buildSlice t n ps => exact buildSlice_ok hT hS hr h
  | makeSlice t l c => exact makeSlice_ok hT hS hr h
  | call c =>
    obtain ⟨callee, args, tys⟩ := c
    obtain ⟨args⟩ := args
    obtain ⟨tys⟩ := tys
    cases callee with
    | value fo => exact call_ok hT hΨ hS hr h
    | invoke => simp [heapOp] at e0
    | builtin b =>
      cases b <;> (try (simp [heapOp] at e0; done))
      · match args, tys, h, e0 with
        | [s, x], [t, tx], h, e0 => exact append_ok hT hS hr h
      · match args, tys, h, e0 with
        | [s, x], [t, tx], h, e0 => exact copy_ok hT hS hr h
  | slice t x lo hi mx =>
    match lo, hi, mx, h, e0 with
    | none, none, none, h, e0 => exact slcArr_ok hT hS hr h
    | some _, _, _, _, e0 => simp [heapOp] at e0
    | none, some _, _, _, e0 => simp [heapOp] at e0
    | none, none, some _, _, e0 => simp [heapOp] at e0
  | _ => simp [heapOp] at e0
end
end Go.Mt

/-
  Mt, part O: a region's operations, one behind the other.
-/
set_option linter.unusedSimpArgs false
set_option linter.unusedVariables false
namespace Go.Mt
open Go.RowKit

def dstOf (ops : List Oper) (j : Nat) : Option Nat := match nth ops j with
  | some o => o.dst
  | none => none
def beqB : Bool → Bool → Bool
  | true, true | false, false => true
  | _, _ => false
theorem beqB_eq {a b : Bool} (h : beqB a b = true) : a = b := by cases a <;> cases b <;> first | rfl | cases h
def mem2 (j : Nat) (b : Bool) : List (Nat × Bool) → Bool
  | [] => false
  | (j', b') :: l => (Nat.beq j j' && beqB b b') || mem2 j b l
theorem mem2_mem {j : Nat} {b : Bool} : ∀ {l : List (Nat × Bool)}, mem2 j b l = true → (j, b) ∈ l := by
  intro l
  induction l with
  | nil => intro h; cases h
  | cons x l ih =>
    intro h
    obtain ⟨j', b'⟩ := x
    simp only [mem2, Bool.or_eq_true, Bool.and_eq_true] at h
    rcases h with ⟨h1, h2⟩ | h
    · rw [Nat.beq_eq] at h1; have := beqB_eq h2; subst h1 this; exact List.mem_cons_self
    · exact List.mem_cons_of_mem _ (ih h)
/-- A guard, and those that it stands under. -/
def chainE (ops : List Oper) (f : Nat → Option Ent) : Nat → Nat → Bool → List (Nat × Bool)
  | 0, _, _ => []
  | n + 1, j, b => (j, b) :: match dstOf ops j with
    | some d => match f d with
      | some (.gd j' b' _) => chainE ops f n j' b'
      | _ => []
    | none => []
def boolOf : Ent → Option Bool
  | .u (.c (.pv (.val (.bool g)))) => some g
  | .gd _ _ (.c (.pv (.val (.bool g)))) => some g
  | _ => none
def gobs (ops : List Oper) (f : Nat → Option Ent) : List (Nat × Bool) → Prop → Option Prop
  | [], p => some p
  | (j, b) :: l, p => match dstOf ops j with
    | some d => match f d with
      | some e => match boolOf e with
        | some g => gobs ops f l (g = b → p)
        | none => none
      | none => none
    | none => none
def rdG (f : Nat → Option Ent) (Γ : List (Nat × Bool)) : Operand → Option A
  | .tmp t => match f t with
    | some (.u x) => some x
    | some (.gd j b x) => match mem2 j b Γ with
      | true => some x
      | false => none
    | none => none
  | .const v => constA v
  | .func f => some (.c (.clo f []))
  | .global _ => none
def oeq : Option Nat → Nat → Bool
  | some a, b => Nat.beq a b
  | none, _ => false
def rdP (ops : List Oper) (f : Nat → Option Ent) (Γ : List (Nat × Bool)) (tc : Nat) (want : Bool) : Operand → Option A
  | .tmp t => match f t with
    | some (.u x) => some x
    | some (.gd j b x) => match mem2 j b Γ || (beqB b want && oeq (dstOf ops j) tc) with
      | true => some x
      | false => none
    | none => none
  | .const v => constA v
  | _ => none
def boolA : A → Option Bool
  | .c (.pv (.val (.bool g))) => some g
  | _ => none
def pickB (t : Bool) (oa ob : Operand) (p q : Bool) : Bool := match oa, ob with
  | .const (.bool true), _ => t || q
  | _, .const (.bool false) => t && p
  | _, _ => match t with | true => p | false => q
def pickE (t : Bool) (oa ob : Operand) (p q : Bool) : Option A := match oa, ob with
  | .const (.bool true), _ => some (bool (t || q))
  | _, .const (.bool false) => some (bool (t && p))
  | _, _ => some (bool (match t with | true => p | false => q))
def pickOp (ops : List Oper) (f : Nat → Option Ent) (Γ : List (Nat × Bool)) : Operand → Operand → Operand → Option A
  | .tmp tc, oa, ob => match rdG f Γ (.tmp tc) with
    | some c => match boolA c, rdP ops f Γ tc true oa, rdP ops f Γ tc false ob with
      | some t, some xa, some xb => match boolA xa, boolA xb with
        | some p, some q => pickE t oa ob p q
        | _, _ => none
      | _, _, _ => none
    | none => none
  | _, _, _ => none
def memN (d : Nat) : List Nat → Bool
  | [] => false
  | x :: l => Nat.beq d x || memN d l
def gfree (i d : Nat) : List (Nat × Nat) → Bool
  | [] => true
  | (j, dj) :: l => (!Nat.beq dj d || Nat.beq j i) && gfree i d l
def refsOf (ops : List Oper) : List Oper → List (Nat × Nat)
  | [] => []
  | o :: l => match o.guard with
    | some (j, _) => match dstOf ops j with
      | some d => (j, d) :: refsOf ops l
      | none => refsOf ops l
    | none => refsOf ops l
def has2 (j d : Nat) : List (Nat × Nat) → Bool
  | [] => false
  | (j', d') :: l => (Nat.beq j j' && Nat.beq d d') || has2 j d l
/-- The slot behind an operation. -/
def putS (N i : Nat) (rs : List (Nat × Nat)) (f : Nat → Option Ent) (d : Option Nat) (e : Option Ent) : Option (Nat → Option Ent) := match d with
  | none => some f
  | some d => match Nat.blt d N && gfree i d rs with
    | true => some (updF f d e)
    | false => none
def plainOp (E : Env) (ops : List Oper) (Γ : List (Nat × Bool)) (f : Nat → Option Ent) (H : Nat → Option HB) (o : Oper) : Option (A × Prop) := match o.op with
  | .pick c a b => match pickOp ops f Γ c a b with
    | some x => some (x, True)
    | none => none
  | op => pureOp E.T H (match o.dst with | some d => memN d E.ws | none => false) (rdG f Γ) o.type op
def boolO : Option A → Option Bool
  | some a => boolA a
  | none => none
theorem boolO_some {x : Option A} {b : Bool} (h : boolO x = some b) : ∃ a, x = some a ∧ boolA a = some b := by
  cases x with
  | none => cases h
  | some a => exact ⟨a, rfl, h⟩
/-- What stands where an operation was passed over. -/
abbrev und0 : A := .t []
def isUnd : A → Bool
  | .t [] => true
  | _ => false
/-- A choice of which one side was passed over. -/
def pickF (ops : List Oper) (f : Nat → Option Ent) : Op → Option (A × Prop)
  | .pick (.tmp tc) oa ob => match rdG f [] (.tmp tc) with
    | some c => match boolA c with
      | some t => match boolO (rdP ops f [] tc true oa), boolO (rdP ops f [] tc false ob) with
        | none, some q => some (bool q, t = false)
        | some p, none => some (bool p, t = true)
        | _, _ => none
      | none => none
    | none => none
  | _ => none
def stepU (E : Env) (ops : List Oper) (rs : List (Nat × Nat)) (i : Nat) (f : Nat → Option Ent) (H : Nat → Option HB) (nx : Nat) (o : Oper) (u : Value) : Option (St × Prop) :=
  match plainOp E ops [] f H o with
  | some (x, ob) => match putS E.N i rs f o.dst (some (.u x)) with
    | some f => some (⟨f, H, nx⟩, ob)
    | none => none
  | none => match pickF ops f o.op with
    | some (x, ob) => match putS E.N i rs f o.dst (some (.u x)) with
      | some f => some (⟨f, H, nx⟩, ob)
      | none => none
    | none => match heapOp E H nx (rdG f []) u o.op with
      | some ⟨x, ob, H, nx⟩ => match putS E.N i rs f o.dst (some (.u x)) with
        | some f => some (⟨f, H, nx⟩, ob)
        | none => none
      | none => none
def stepOp (E : Env) (kn : Nat → Option Bool) (ops : List Oper) (rs : List (Nat × Nat)) (i : Nat) (f : Nat → Option Ent) (H : Nat → Option HB) (nx : Nat) (o : Oper) (u : Value) : Option (St × Prop) :=
  match o.guard with
  | none => stepU E ops rs i f H nx o u
  | some (j, b) => match dstOf ops j with
    | none => none
    | some dj => match Nat.blt j i && has2 j dj rs, kn j with
      | true, some k => match f dj with
        | some (.u c) => match boolA c with
          | some g => match beqB b k with
            | true => match stepU E ops rs i f H nx o u with
              | some (st', ob) => some (st', g = k ∧ ob)
              | none => none
            | false => match putS E.N i rs f o.dst (some (.u und0)) with
              | some f => some (⟨f, H, nx⟩, g = k)
              | none => none
          | none => match isUnd c with
            | true => match putS E.N i rs f o.dst (some (.u und0)) with
              | some f => some (⟨f, H, nx⟩, True)
              | none => none
            | false => none
        | _ => none
      | true, none => match plainOp E ops (chainE ops f 5 j b) f H o with
        | some (x, ob) => match gobs ops f (chainE ops f 5 j b) ob, putS E.N i rs f o.dst (some (.gd j b x)) with
          | some ob', some f => some (⟨f, H, nx⟩, ob')
          | _, _ => none
        | none => none
      | false, _ => none

/-- (Two makes, so that a match on it reckons.) -/
inductive ER where
  | mk (rest : List Oper) (i : Nat) (st : St) (ob : Prop)
  | bad
def ER.rest : ER → List Oper | .mk r _ _ _ => r | .bad => []
def ER.i : ER → Nat | .mk _ i _ _ => i | .bad => 0
def ER.st : ER → St | .mk _ _ st _ => st | .bad => ⟨fun _ => none, fun _ => none, 0⟩
def ER.ob : ER → Prop | .mk _ _ _ ob => ob | .bad => False
def evalOps (E : Env) (kn : Nat → Option Bool) (ops : List Oper) (rs : List (Nat × Nat)) : List Oper → Nat → St → (Nat → Value) → ER
  | [], i, st, _ => .mk [] i st True
  | o :: l, i, ⟨f, H, nx⟩, bs => match stepOp E kn ops rs i f H nx o (bs 0) with
    | some (st', ob) => match evalOps E kn ops rs l (i + 1) st' (fun n => bs (n + 1)) with
      | .mk r i' st'' ob' => .mk r i' st'' (ob ∧ ob')
      | .bad => .bad
    | none => .mk (o :: l) i ⟨f, H, nx⟩ True

/-! ### soundness -/
def EntOk (ops : Array Oper) (M : Mem) (tmps : Array Value) : Ent → Value → Prop
  | .u x, v => RA M x v
  | .gd j b x, v => (yielded ops tmps j = some b → RA M x v) ∧ (yielded ops tmps j ≠ some b → v = undef)

/-- What an activation has put by: marks of ranges over functions; what did not change at the start does not. -/
abbrev mark (D : Nat) : Deferred := { target := .collected D, args := #[] }
structure DK (mrk : Bool) (B : Nat) (M0 M : Mem) (a : Act) : Prop where
  df : ∃ Ds : List Nat, (mrk = false → Ds = []) ∧ Ds.Nodup ∧ a.defers = Ds.map mark ∧ ∀ D, D ∈ Ds → B ≤ D ∧ M D = some (.deferred (some []))
  kp : M0.le M
theorem DK.nil {mrk : Bool} {B : Nat} {M0 M : Mem} {a : Act} (h : a.defers = []) (hk : M0.le M) : DK mrk B M0 M a := ⟨⟨[], fun _ => rfl, List.nodup_nil, h, fun _ h => by cases h⟩, hk⟩
theorem DK.mono {mrk : Bool} {B : Nat} {M0 M M' : Mem} {a a' : Act} (h : DK mrk B M0 M a) (hM : M.le M') (ha : a'.defers = a.defers) : DK mrk B M0 M' a' := by
  refine ⟨?_, Mem.le_trans h.kp hM⟩
  obtain ⟨Ds, h0, h1, h2, h3⟩ := h.df
  exact ⟨Ds, h0, h1, by rw [ha]; exact h2, fun D hD => ⟨(h3 D hD).1, hM _ _ (h3 D hD).2⟩⟩
structure SatP (N : Nat) (mrk : Bool) (B : Nat) (W : World) (M0 : Mem) (ops : List Oper) (rs : List (Nat × Nat)) (S : Nat → Prop) (st : St) (M : Mem) (a : Act) (w : World) : Prop where
  h : SatH B W st.H M w
  old : ∀ k o, M k = some o → k < B → M0 k = some o
  d : DK mrk B M0 M a
  n : a.tmps.size = N
  f : ∀ s e, st.f s = some e → ∃ v, a.tmps[s]? = some v ∧ EntOk ops.toArray M a.tmps e v
  g : ∀ s j b x, st.f s = some (.gd j b x) → S j ∧ ∃ d, dstOf ops j = some d ∧ (j, d) ∈ rs
/-- In the text's own order: the operations ahead of number 'i' are done. -/
abbrev Sat (N : Nat) (mrk : Bool) (B : Nat) (W : World) (M0 : Mem) (ops : List Oper) (rs : List (Nat × Nat)) (i : Nat) (st : St) (M : Mem) (a : Act) (w : World) : Prop := SatP N mrk B W M0 ops rs (fun j => j < i) st M a w

section
variable {S S' : Nat → Prop} {P : Program} {w w' : World} {M M0 : Mem} {B : Nat} {W : World} {N : Nat} {mrk : Bool} {ops : List Oper} {rs : List (Nat × Nat)} {i : Nat} {st : St} {a : Act}

theorem yielded_eq {tmps : Array Value} {j d : Nat} (h : dstOf ops j = some d) : yielded ops.toArray tmps j = match tmps[d]? with | some (.bool b) => some b | _ => none := by
  unfold dstOf at h
  rw [nth_eq] at h
  cases ho : ops[j]? with
  | none => simp [ho] at h
  | some o => simp only [ho] at h; simp [yielded, ho, h]; rfl

theorem EntOk.mono {M' : Mem} (hM : M.le M') {tmps : Array Value} {e : Ent} {v : Value} (h : EntOk ops.toArray M tmps e v) : EntOk ops.toArray M' tmps e v := by
  cases e with
  | u x => exact RA.mono hM h
  | gd j b x => exact ⟨fun hy => (h.1 hy).mono hM, h.2⟩

theorem chain_ok (hS : SatP N mrk B W M0 ops rs S st M a w) : ∀ (n j : Nat) (b : Bool), yielded ops.toArray a.tmps j = some b → ∀ p ∈ chainE ops st.f n j b, yielded ops.toArray a.tmps p.1 = some p.2 := by
  intro n
  induction n with
  | zero => intro j b _ p hp; cases hp
  | succ n ih =>
    intro j b hy p hp
    simp only [chainE, List.mem_cons] at hp
    rcases hp with rfl | hp
    · exact hy
    · split at hp
      · rename_i d hd
        split at hp
        · rename_i j' b' x hf
          refine ih j' b' ?_ p hp
          obtain ⟨v, hv, h1, h2⟩ := hS.f _ _ hf
          rw [yielded_eq hd, hv] at hy
          cases hyy : decide (yielded ops.toArray a.tmps j' = some b') with
          | true => exact of_decide_eq_true hyy
          | false => rw [h2 (of_decide_eq_false hyy)] at hy; cases hy
        · cases hp
      · cases hp

theorem rdG_ok (hS : SatP N mrk B W M0 ops rs S st M a w) {Γ : List (Nat × Bool)} (hΓ : ∀ p ∈ Γ, yielded ops.toArray a.tmps p.1 = some p.2) : ∀ o x, rdG st.f Γ o = some x → RA M x (a.eval o) := by
  intro o x h
  cases o with
  | tmp t =>
    simp only [rdG] at h
    split at h
    · rename_i y hf; cases h
      obtain ⟨v, hv, hr⟩ := hS.f _ _ hf
      have : a.eval (.tmp t) = v := by simp [Act.eval, Array.getD_eq_getD_getElem?, hv]
      rw [this]; exact hr
    · rename_i j b y hf
      split at h
      · rename_i hm; cases h
        obtain ⟨v, hv, h1, h2⟩ := hS.f _ _ hf
        have : a.eval (.tmp t) = v := by simp [Act.eval, Array.getD_eq_getD_getElem?, hv]
        rw [this]; exact h1 (hΓ _ (mem2_mem hm))
      · cases h
    · cases h
  | const v => exact constA_ok h
  | func f => cases h; exact .c (.clo (by rfl) (by simp))
  | global g => cases h

theorem gobs_ok (hS : SatP N mrk B W M0 ops rs S st M a w) : ∀ (Γ : List (Nat × Bool)) (p q : Prop), gobs ops st.f Γ p = some q → q → (∀ x ∈ Γ, yielded ops.toArray a.tmps x.1 = some x.2) → p := by
  intro Γ
  induction Γ with
  | nil => intro p q h hq _; cases h; exact hq
  | cons x Γ ih =>
    intro p q h hq hy
    obtain ⟨j, b⟩ := x
    simp only [gobs] at h
    split at h
    · rename_i d hd
      split at h
      · rename_i e he
        split at h
        · rename_i g hg
          refine ih _ q h hq (fun x hx => hy x (List.mem_cons_of_mem _ hx)) ?_
          have hyj := hy (j, b) List.mem_cons_self
          simp only at hyj
          obtain ⟨v, hv, hr⟩ := hS.f _ _ he
          rw [yielded_eq hd, hv] at hyj
          unfold boolOf at hg
          split at hg
          · cases hg
            have := RA.val_inv hr; subst this
            simpa using hyj
          · rename_i j' b' g'
            cases hg
            obtain ⟨h1, h2⟩ := hr
            by_cases hyy : yielded ops.toArray a.tmps j' = some b'
            · have := (h1 hyy).val_inv; subst this
              simpa using hyj
            · rw [h2 hyy] at hyj; cases hyj
          · cases hg
        · cases h
      · cases h
    · cases h

theorem has2_mem {j d : Nat} : ∀ {l : List (Nat × Nat)}, has2 j d l = true → (j, d) ∈ l := by
  intro l
  induction l with
  | nil => intro h; cases h
  | cons x l ih =>
    intro h
    obtain ⟨j', d'⟩ := x
    simp only [has2, Bool.or_eq_true, Bool.and_eq_true, Nat.beq_eq] at h
    rcases h with ⟨rfl, rfl⟩ | h
    · exact List.mem_cons_self
    · exact List.mem_cons_of_mem _ (ih h)
theorem gfree_ok {i d : Nat} : ∀ {l : List (Nat × Nat)}, gfree i d l = true → ∀ j dj, (j, dj) ∈ l → dj = d → j = i := by
  intro l
  induction l with
  | nil => intro _ j dj h; cases h
  | cons x l ih =>
    intro h j dj hm e
    obtain ⟨j', d'⟩ := x
    simp only [gfree, Bool.and_eq_true, Bool.or_eq_true, Bool.not_eq_true', Nat.beq_eq] at h
    rcases List.mem_cons.1 hm with h1 | h1
    · cases h1
      rcases h.1 with h2 | h2
      · subst e; simp at h2
      · exact h2
    · exact ih h.2 j dj h1 e

theorem get_put {a : Act} {d s : Nat} {v : Value} : (a.put (some d) v).tmps[s]? = if s = d then (if d < a.tmps.size then some v else none) else a.tmps[s]? := by
  simp only [Act.put, Array.getElem?_setIfInBounds]
  by_cases h : d = s
  · subst h; simp
  · rw [if_neg h, if_neg (fun e => h e.symm)]

/-- THE SLOT WRITTEN: what is known goes on. -/
theorem SatP.put (hS : SatP N mrk B W M0 ops rs S st M a w) (hi : ¬ S i) (hSS : ∀ j, S j → S' j) {M' : Mem} {H' : Nat → Option HB} {nx' : Nat} {f' : Nat → Option Ent} {w' : World} {dst : Option Nat} {e : Option Ent} {v : Value} (hM : Mem.ext B M M') (hH : SatH B W H' M' w')
    (hp : putS N i rs st.f dst e = some f') (hdef : (a.put dst v).defers = a.defers)
    (he : ∀ e', e = some e' → EntOk ops.toArray M' (a.put dst v).tmps e' v) (hg : ∀ j b x, e = some (.gd j b x) → S j ∧ ∃ d, dstOf ops j = some d ∧ (j, d) ∈ rs) :
    SatP N mrk B W M0 ops rs S' ⟨f', H', nx'⟩ M' (a.put dst v) w' := by
  unfold putS at hp
  split at hp
  · cases hp
    exact ⟨hH, fun k o e hk => hS.old k o (hM.2 k o e hk) hk, hS.d.mono hM.1 hdef, hS.n, fun s e h => let ⟨v, h1, h2⟩ := hS.f s e h; ⟨v, h1, h2.mono hM.1⟩, fun s j b x h => let ⟨h1, h2⟩ := hS.g s j b x h; ⟨hSS _ h1, h2⟩⟩
  · rename_i d
    split at hp
    · rename_i hc; cases hp
      simp only [Bool.and_eq_true, Nat.blt_eq] at hc
      obtain ⟨hlt, hgf⟩ := hc
      have hyield : ∀ j dj, dstOf ops j = some dj → (j, dj) ∈ rs → S j → yielded ops.toArray (a.put (some d) v).tmps j = yielded ops.toArray a.tmps j := by
        intro j dj h1 h2 h3
        rw [yielded_eq h1, yielded_eq h1, get_put, if_neg]
        intro e; have := gfree_ok hgf j dj h2 e; subst this; exact hi h3
      refine ⟨hH, fun k o e hk => hS.old k o (hM.2 k o e hk) hk, hS.d.mono hM.1 hdef, by simp [Act.put, hS.n], fun s e0 h => ?_, fun s j b x h => ?_⟩
      · simp only [updF] at h
        split at h
        · rename_i hb; rw [Nat.beq_eq] at hb; subst hb
          refine ⟨v, by rw [get_put, if_pos rfl, if_pos (by rw [hS.n]; exact hlt)], he _ h⟩
        · rename_i hb
          have hne : s ≠ d := fun e => by subst e; simp at hb
          obtain ⟨u, h1, h2⟩ := hS.f s e0 h
          refine ⟨u, by rw [get_put, if_neg hne]; exact h1, ?_⟩
          cases e0 with
          | u x => exact RA.mono hM.1 h2
          | gd j b x =>
            obtain ⟨g1, dj, g2, g3⟩ := hS.g s j b x h
            refine ⟨fun hy => ?_, fun hy => ?_⟩
            · rw [hyield j dj g2 g3 g1] at hy; exact (h2.1 hy).mono hM.1
            · rw [hyield j dj g2 g3 g1] at hy; exact h2.2 hy
      · simp only [updF] at h
        split at h
        · obtain ⟨h1, h2⟩ := hg j b x h; exact ⟨hSS _ h1, h2⟩
        · obtain ⟨h1, h2⟩ := hS.g s j b x h; exact ⟨hSS _ h1, h2⟩
    · cases hp

theorem put_defers {a : Act} (d : Option Nat) (v : Value) : (a.put d v).defers = a.defers := by cases d <;> rfl
end
end Go.Mt

/-
  Mt, part P: the evaluator's steps say what the machine does.
-/
set_option linter.unusedSimpArgs false
set_option linter.unusedVariables false
namespace Go.Mt
open Go.RowKit
section
variable {S S' : Nat → Prop} {P : Program} {w w' : World} {M M0 : Mem} {B : Nat} {W : World} {N : Nat} {mrk : Bool} {ops : List Oper} {rs : List (Nat × Nat)} {i : Nat} {st : St} {a : Act} {E : Env}

theorem boolA_ok {x : A} {g : Bool} {v : Value} (h : boolA x = some g) (r : RA M x v) : v = .bool g := by
  unfold boolA at h
  split at h
  · cases h; exact r.val_inv
  · cases h

theorem rdP_ok (hS : SatP N mrk B W M0 ops rs S st M a w) {Γ : List (Nat × Bool)} (hΓ : ∀ p ∈ Γ, yielded ops.toArray a.tmps p.1 = some p.2) {tc : Nat} {want : Bool} (htc : a.eval (.tmp tc) = .bool want) :
    ∀ o x, rdP ops st.f Γ tc want o = some x → RA M x (a.eval o) := by
  intro o x h
  cases o with
  | tmp t =>
    simp only [rdP] at h
    split at h
    · rename_i y hf; cases h
      obtain ⟨v, hv, hr⟩ := hS.f _ _ hf
      have : a.eval (.tmp t) = v := by simp [Act.eval, Array.getD_eq_getD_getElem?, hv]
      rw [this]; exact hr
    · rename_i j b y hf
      split at h
      · rename_i hm; cases h
        obtain ⟨v, hv, h1, h2⟩ := hS.f _ _ hf
        have : a.eval (.tmp t) = v := by simp [Act.eval, Array.getD_eq_getD_getElem?, hv]
        rw [this]
        refine h1 ?_
        rw [Bool.or_eq_true, Bool.and_eq_true] at hm
        rcases hm with hm | ⟨hb, hd⟩
        · exact hΓ _ (mem2_mem hm)
        · have := beqB_eq hb; subst this
          cases hdj : dstOf ops j with
          | none => rw [hdj] at hd; cases hd
          | some d =>
            rw [hdj] at hd
            simp only [oeq, Nat.beq_eq] at hd; subst hd
            rw [yielded_eq hdj]
            simp only [Act.eval, Array.getD_eq_getD_getElem?] at htc
            cases ht : a.tmps[d]? with
            | none => rw [ht] at htc; simp [undef] at htc
            | some u => rw [ht] at htc; simp at htc; subst htc; rfl
      · cases h
    · cases h
  | const v => exact constA_ok h
  | func f => cases h
  | global g => cases h

theorem pickE_eq (t : Bool) (oa ob : Operand) (p q : Bool) : pickE t oa ob p q = some (bool (pickB t oa ob p q)) := by
  unfold pickE pickB; split <;> rfl
theorem pickOp_ok (hS : SatP N mrk B W M0 ops rs S st M a w) {Γ : List (Nat × Bool)} (hΓ : ∀ p ∈ Γ, yielded ops.toArray a.tmps p.1 = some p.2) {c oa ob : Operand} {x : A} (h : pickOp ops st.f Γ c oa ob = some x)
    {dst : Option Nat} {ty : TypeId} {pos : String} {after : Array Edge} {guard : Option (Nat × Bool)} :
    ∃ v, (execOp a.eval ⟨dst, .pick c oa ob, ty, pos, after, guard⟩).run P w = .ok (.value v) w ∧ RA M x v := by
  unfold pickOp at h
  split at h
  · rename_i tc oa' ob'
    split at h
    · rename_i cx hc
      split at h
      · rename_i t xa xb ht ha hb
        split at h
        · rename_i p q hp hq; rw [pickE_eq] at h; cases h
          have htc := boolA_ok ht (rdG_ok hS hΓ _ _ hc)
          refine ⟨if t then a.eval oa else a.eval ob, by simp [execOp, htc, asBool], ?_⟩
          cases t with
          | true =>
            have := boolA_ok hp (rdP_ok hS hΓ htc _ _ ha)
            have e : pickB true oa ob p q = p := by
              unfold pickB
              split
              · have hh : a.eval (.const (.bool true)) = .bool p := this
                cases hh; rfl
              · simp
              · rfl
            rw [e, if_pos rfl, this]; exact .c (.pv (.val rfl))
          | false =>
            have := boolA_ok hq (rdP_ok hS hΓ htc _ _ hb)
            have e : pickB false oa ob p q = q := by
              unfold pickB
              split
              · simp
              · have hh : a.eval (.const (.bool false)) = .bool q := this
                cases hh; rfl
              · rfl
            rw [e, if_neg (by simp), this]; exact .c (.pv (.val rfl))
        · cases h
      · cases h
    · cases h
  · cases h

theorem plain_ok (hT : TbOk P E.T) (hS : SatP N mrk B W M0 ops rs S st M a w) {Γ : List (Nat × Bool)} (hΓ : ∀ p ∈ Γ, yielded ops.toArray a.tmps p.1 = some p.2) {o : Oper} {x : A} {ob : Prop} (h : plainOp E ops Γ st.f st.H o = some (x, ob)) (hob : ob) :
    ∃ v, (execOp a.eval o).run P w = .ok (.value v) w ∧ RA M x v := by
  obtain ⟨dst, op, ty, pos, after, guard⟩ := o
  unfold plainOp at h
  split at h
  · rename_i c oa ob' hop
    simp only at hop; subst hop
    split at h
    · rename_i y hy; cases h
      exact pickOp_ok hS hΓ hy
    · cases h
  · exact pure_ok hT hS.h (rdG_ok hS hΓ) (fun _ => rfl) h hob

theorem pickF_ok (hS : SatP N mrk B W M0 ops rs S st M a w) {op : Op} {x : A} {ob : Prop} (h : pickF ops st.f op = some (x, ob)) (hob : ob) {dst : Option Nat} {ty : TypeId} {pos : String} {after : Array Edge} {guard : Option (Nat × Bool)} :
    ∃ v, (execOp a.eval ⟨dst, op, ty, pos, after, guard⟩).run P w = .ok (.value v) w ∧ RA M x v := by
  unfold pickF at h
  split at h
  · rename_i tc oa ob'
    split at h
    · rename_i cx hc
      split at h
      · rename_i t ht
        have htc := boolA_ok ht (rdG_ok hS (Γ := []) (by simp) _ _ hc)
        split at h
        · rename_i q ha hb; cases h
          subst hob
          obtain ⟨xb, hb, hq⟩ := boolO_some hb
          have := boolA_ok hq (rdP_ok hS (Γ := []) (by simp) htc _ _ hb)
          exact ⟨.bool q, by simp [execOp, htc, asBool, this], .c (.pv (.val rfl))⟩
        · rename_i q ha hb; cases h
          subst hob
          obtain ⟨xa, ha, hq⟩ := boolO_some ha
          have := boolA_ok hq (rdP_ok hS (Γ := []) (by simp) htc _ _ ha)
          exact ⟨.bool q, by simp [execOp, htc, asBool, this], .c (.pv (.val rfl))⟩
        · cases h
      · cases h
    · cases h
  · cases h

theorem stepU_okP (hT : TbOk P E.T) (hΨ : PsiOk P E) (hS : SatP E.N E.mrk B W M0 ops rs S st M a w) (hi : ¬ S i) (hSS : ∀ j, S j → S' j) {o : Oper} {K : Act → World → Prop} {Q : Exit → Act → World → Prop}
    (h : ∀ u, ∃ st' ob, stepU E ops rs i st.f st.H st.nx o u = some (st', ob) ∧ ob ∧ ∀ a' w' M', SatP E.N E.mrk B W M0 ops rs S' st' M' a' w' → K a' w') : o.wp P a w K Q := by
  cases hp : plainOp E ops [] st.f st.H o with
  | some r =>
    obtain ⟨x, ob⟩ := r
    obtain ⟨st', ob', h1, h2, h3⟩ := h undef
    simp only [stepU, hp] at h1
    split at h1
    · rename_i f hf; cases h1
      obtain ⟨v, g1, g2⟩ := plain_ok hT hS (by simp) hp h2
      exact wp_value g1 (h3 _ _ _ (hS.put hi hSS (Mem.ext_refl _ _) hS.h hf (put_defers _ _) (fun e' he => by cases he; exact g2) (by simp)))
    · cases h1
  | none =>
   cases hpf : pickF ops st.f o.op with
   | some r =>
    obtain ⟨x, ob⟩ := r
    obtain ⟨st', ob', h1, h2, h3⟩ := h undef
    simp only [stepU, hp, hpf] at h1
    split at h1
    · rename_i f hf; cases h1
      obtain ⟨dst, op, ty, pos, after, guard⟩ := o
      obtain ⟨v, g1, g2⟩ := pickF_ok hS hpf h2
      exact wp_value g1 (h3 _ _ _ (hS.put hi hSS (Mem.ext_refl _ _) hS.h hf (put_defers _ _) (fun e' he => by cases he; exact g2) (by simp)))
    · cases h1
   | none =>
    refine heap_ok hT hΨ hS.h (rdG_ok hS (Γ := []) (by simp)) (nx := st.nx) (fun u => ?_)
    obtain ⟨st', ob', h1, h2, h3⟩ := h u
    simp only [stepU, hp, hpf] at h1
    split at h1
    · rename_i x ob H nx hh
      split at h1
      · rename_i f hf; cases h1
        exact ⟨_, hh, h2, fun v w' M' hM hH hx => h3 _ _ _ (hS.put hi hSS hM hH hf (put_defers _ _) (fun e' he => by cases he; exact hx) (by simp))⟩
      · cases h1
    · cases h1

theorem stepOp_okP (hT : TbOk P E.T) (hΨ : PsiOk P E) {kn : Nat → Option Bool} (hS : SatP E.N E.mrk B W M0 ops rs S st M a w) (hi : ¬ S i) (hSS : ∀ j, S j → S' j) {o : Oper} (hgS : ∀ j b, o.guard = some (j, b) → S j) {K : Act → World → Prop} {Q : Exit → Act → World → Prop}
    (h : ∀ u, ∃ st' ob, stepOp E kn ops rs i st.f st.H st.nx o u = some (st', ob) ∧ ob ∧ ∀ a' w' M', SatP E.N E.mrk B W M0 ops rs S' st' M' a' w' → K a' w') :
    if Region.wanted o (yielded ops.toArray a.tmps) then o.wp P a w K Q else K (a.put o.dst undef) w := by
  cases hg : o.guard with
  | none =>
    rw [if_pos (by simp [Region.wanted, hg])]
    exact stepU_okP hT hΨ hS hi hSS (fun u => by
      obtain ⟨st', ob, h1, h2⟩ := h u
      simp only [stepOp, hg] at h1
      exact ⟨st', ob, h1, h2⟩)
  | some jb =>
    obtain ⟨j, b⟩ := jb
    have hwant : Region.wanted o (yielded ops.toArray a.tmps) = (yielded ops.toArray a.tmps j == some b) := by simp [Region.wanted, hg]
    obtain ⟨st0, ob0, h10, h20, h30⟩ := h undef
    have e0 := h10
    simp only [stepOp, hg] at e0
    split at e0
    · cases e0
    · rename_i dj hdj
      split at e0
      · rename_i k hjb hk
        have hjb0 := hjb
        simp only [Bool.and_eq_true, Nat.blt_eq] at hjb
        split at e0
        · rename_i c hc
          split at e0
          · rename_i g hgb
            obtain ⟨v, hv, hr⟩ := hS.f _ _ hc
            have hvb := boolA_ok hgb hr
            have hy : yielded ops.toArray a.tmps j = some g := by rw [yielded_eq hdj, hv, hvb]
            split at e0
            · rename_i hbk
              have := beqB_eq hbk; subst this
              split at e0
              · rename_i st' ob' hst; cases e0
                obtain ⟨rfl, _⟩ := h20
                rw [hwant, hy, if_pos (by simp)]
                exact stepU_okP hT hΨ hS hi hSS (fun u => by
                  obtain ⟨st', ob, h1, h2, h3⟩ := h u
                  simp only [stepOp, hg, hdj, hjb0, hk, hc, hgb, hbk] at h1
                  split at h1
                  · rename_i st'' ob'' hst'; cases h1
                    exact ⟨_, _, hst', h2.2, h3⟩
                  · cases h1)
              · cases e0
            · rename_i hbk
              split at e0
              · rename_i f hf; cases e0
                subst h20
                have hne : g ≠ b := by intro e; subst e; cases g <;> simp [beqB] at hbk
                rw [hwant, hy, if_neg (by simpa using hne)]
                exact h30 _ _ _ (hS.put hi hSS (Mem.ext_refl _ _) hS.h hf (put_defers _ _) (fun e' he => by cases he; exact undef_ok _) (by simp))
              · cases e0
          · split at e0
            · rename_i hund
              split at e0
              · rename_i f hf; cases e0
                obtain ⟨v, hv, hr⟩ := hS.f _ _ hc
                have hvu : ∃ us : Array Value, v = .tuple us := by
                  unfold isUnd at hund
                  split at hund
                  · have hr' : RA _ (.t []) v := hr
                    cases hr' with | t => exact ⟨_, rfl⟩
                  · cases hund
                obtain ⟨us, rfl⟩ := hvu
                have hy : yielded ops.toArray a.tmps j = none := by rw [yielded_eq hdj, hv]
                rw [hwant, hy, if_neg (by simp)]
                exact h30 _ _ _ (hS.put hi hSS (Mem.ext_refl _ _) hS.h hf (put_defers _ _) (fun e' he => by cases he; exact undef_ok _) (by simp))
              · cases e0
            · cases e0
        · cases e0
      · rename_i hjb hk
        simp only [Bool.and_eq_true, Nat.blt_eq] at hjb
        split at e0
        · rename_i x ob hp
          split at e0
          · rename_i ob' f hob hf; cases e0
            have hne : ∀ (d : Nat) v, o.dst = some d → yielded ops.toArray (a.put (some d) v).tmps j = yielded ops.toArray a.tmps j := by
              intro d v hd
              rw [yielded_eq hdj, yielded_eq hdj, get_put, if_neg]
              intro e
              rw [hd] at hf
              simp only [putS] at hf
              split at hf
              · rename_i hc
                simp only [Bool.and_eq_true] at hc
                have := gfree_ok hc.2 j dj (has2_mem hjb.2) e
                omega
              · cases hf
            have hne' : ∀ v, yielded ops.toArray (a.put o.dst v).tmps j = yielded ops.toArray a.tmps j := by
              intro v
              cases hd : o.dst with
              | none => rfl
              | some d => exact hne d v hd
            by_cases hy : yielded ops.toArray a.tmps j = some b
            · rw [hwant, hy, if_pos (by simp)]
              have hΓ := chain_ok hS 5 j b hy
              have hobb := gobs_ok hS _ _ _ hob h20 hΓ
              obtain ⟨v, g1, g2⟩ := plain_ok hT hS hΓ hp hobb
              exact wp_value g1 (h30 _ _ _ (hS.put hi hSS (Mem.ext_refl _ _) hS.h hf (put_defers _ _) (fun e' he => by
                cases he; exact ⟨fun _ => g2, fun hh => absurd ((hne' v).trans hy) hh⟩) (fun j' b' x' he => by cases he; exact ⟨hgS j b hg, dj, hdj, has2_mem hjb.2⟩)))
            · rw [hwant, if_neg (by simpa using hy)]
              exact h30 _ _ _ (hS.put hi hSS (Mem.ext_refl _ _) hS.h hf (put_defers _ _) (fun e' he => by
                cases he; exact ⟨fun hh => absurd ((hne' undef).symm.trans hh) hy, fun _ => rfl⟩) (fun j' b' x' he => by cases he; exact ⟨hgS j b hg, dj, hdj, has2_mem hjb.2⟩))
          · cases e0
        · cases e0
      · cases e0

theorem stepOp_ok (hT : TbOk P E.T) (hΨ : PsiOk P E) {kn : Nat → Option Bool} (hS : Sat E.N E.mrk B W M0 ops rs i st M a w) {o : Oper} {K : Act → World → Prop} {Q : Exit → Act → World → Prop}
    (h : ∀ u, ∃ st' ob, stepOp E kn ops rs i st.f st.H st.nx o u = some (st', ob) ∧ ob ∧ ∀ a' w' M', Sat E.N E.mrk B W M0 ops rs (i + 1) st' M' a' w' → K a' w') :
    if Region.wanted o (yielded ops.toArray a.tmps) then o.wp P a w K Q else K (a.put o.dst undef) w := by
  refine stepOp_okP hT hΨ hS (i := i) (S' := fun j => j < i + 1) (by omega) (fun j hj => by omega) (kn := kn) (fun j b hg => ?_) h
  obtain ⟨st', ob, h1, _⟩ := h undef
  simp only [stepOp, hg] at h1
  split at h1
  · cases h1
  · split at h1
    · rename_i hjb _; simp only [Bool.and_eq_true, Nat.blt_eq] at hjb; exact hjb.1
    · rename_i hjb _; simp only [Bool.and_eq_true, Nat.blt_eq] at hjb; exact hjb.1
    · cases h1

/-- The frame's make: a plain one (walked plainly; or so that it may call yield), or a round's. -/
def fce : Option Nat → Fence
  | none => Fence.wide
  | some 0 => Fence.wide
  | some (l + 1) => Fence.wide.inRound l
def lwp (ro : Option Nat) (P : Program) (ops : Array Oper) (Q : Exit → Act → World → Prop) (l : List Oper) (a : Act) (w : World) : Prop := match ro with
  | none => wpList P ops Q l a w
  | some r => (∀ o, o ∈ l → ∀ c, o.op ≠ .defer c) → wpListIn (fce (some r)) 0 P ops Q l a w
theorem fce_fn (r : Nat) (f : FuncId) : (fce (some r)).fn f := by cases r <;> trivial
theorem fce_depth (r : Nat) : (fce (some r)).depth = none := by cases r <;> rfl
theorem fce_calls {r n : Nat} {P : Program} {f : FuncId} {args : Array Value} {w : World} {R : Ending → World → Prop} (h : Calls P f args w R) : CallsIn (fce (some r)) n P f args w R := by
  cases r with
  | zero => exact callsIn_wide.2 h
  | succ l => exact CallsIn.inRound l (callsIn_wide.2 h)
theorem fce_steps {r : Nat} {P : Program} {m m' : Machine} (h : Steps P m m') : StepsIn (Machine.fenced P (fce (some r))) P m m' := by
  cases r with
  | zero => exact stepsIn_wide.2 h
  | succ l => exact stepsIn_wide.2 h
theorem opwp_in {o : Oper} {r : Nat} {K : Act → World → Prop} {Q : Exit → Act → World → Prop} (hnd : ∀ c, o.op ≠ .defer c) (h : o.wp P a w K Q) : o.wpIn (fce (some r)) 0 P a w K Q := by
  refine ⟨fun f _ => fce_fn r f, ?_⟩
  rw [Oper.semAt_eq _ _ _ hnd]
  unfold Oper.wp at h
  generalize (execOp a.eval o).run P w = res at h ⊢
  cases res with
  | ok x w' =>
    cases x with
    | value v => exact h
    | skip => exact h
    | defer d => exact h
    | enter f args => exact ⟨fun e => (by rw [fce_depth] at e; cases e), fce_calls h⟩
    | row row args => exact ⟨fun e => (by rw [fce_depth] at e; cases e), fun c cs _ => let ⟨v, w2, q1, q2⟩ := h c cs; ⟨v, w2, q1, fce_steps q2⟩⟩
    | _ => exact h.elim
  | halt x w' =>
    cases x with
    | panic v => exact h
    | _ => exact h.elim
theorem lwp_nil {ro : Option Nat} {Q : Exit → Act → World → Prop} {ops : Array Oper} (h : Q .normal a w) : lwp ro P ops Q [] a w := by
  cases ro with
  | none => exact wpList_nil (P := P) (ops := ops) h
  | some r => exact fun _ => wpListIn_nil (P := P) (ops := ops) h
theorem lwp_step {ro : Option Nat} {Q : Exit → Act → World → Prop} {ops : Array Oper} {o : Oper} {rest : List Oper}
    (h : ∀ K : Act → World → Prop, (∀ a w, lwp ro P ops Q rest a w → K a w) → if Region.wanted o (yielded ops a.tmps) then o.wp P a w K Q else K (a.put o.dst undef) w) : lwp ro P ops Q (o :: rest) a w := by
  cases ro with
  | none => exact wpList_step h
  | some r =>
    intro hnd
    refine wpListIn_step fun K hK => ?_
    have := h K (fun a w hl => hK a w (hl fun o ho => hnd o (List.mem_cons_of_mem _ ho)))
    split
    · rename_i hw; rw [if_pos hw] at this; exact opwp_in (hnd o (by simp)) this
    · rename_i hw; rw [if_neg hw] at this; exact ⟨fun f _ => fce_fn r f, this⟩

theorem evalOps_ok (hT : TbOk P E.T) (hΨ : PsiOk P E) {kn : Nat → Option Bool} {Q : Exit → Act → World → Prop} : ∀ (l : List Oper) (i : Nat) (st : St) (M : Mem) (a : Act) (w : World), Sat E.N E.mrk B W M0 ops rs i st M a w →
    (∀ bs, (evalOps E kn ops rs l i st bs).ob ∧ ∀ a' w' M', Sat E.N E.mrk B W M0 ops rs (evalOps E kn ops rs l i st bs).i (evalOps E kn ops rs l i st bs).st M' a' w' → lwp E.ro P ops.toArray Q (evalOps E kn ops rs l i st bs).rest a' w') →
    lwp E.ro P ops.toArray Q l a w := by
  intro l
  induction l with
  | nil =>
    intro i st M a w hS h
    exact (h (fun _ => undef)).2 a w M hS
  | cons o l ih =>
    intro i st M a w hS h
    obtain ⟨f, H, nx⟩ := st
    by_cases hex : ∃ u, stepOp E kn ops rs i f H nx o u = none
    · obtain ⟨u, hu⟩ := hex
      have := (h (fun _ => u)).2
      simp only [evalOps, hu] at this
      exact this a w M hS
    · refine lwp_step fun K hK => stepOp_ok hT hΨ hS (kn := kn) fun u => ?_
      cases hst : stepOp E kn ops rs i f H nx o u with
      | none => exact absurd ⟨u, hst⟩ hex
      | some r =>
        obtain ⟨st', ob⟩ := r
        have hb := fun bs : Nat → Value => h (fun n => match n with | 0 => u | n + 1 => bs n)
        simp only [evalOps, hst] at hb
        have hob : ob := by
          have := (hb (fun _ => undef)).1
          split at this
          · exact this.1
          · exact this.elim
        refine ⟨st', ob, rfl, hob, fun a' w' M' hS' => hK _ _ (ih (i + 1) st' M' a' w' hS' fun bs => ?_)⟩
        have := hb bs
        cases hr : evalOps E kn ops rs l (i + 1) st' bs with
        | mk r i' st'' ob' => rw [hr] at this; exact ⟨this.1.2, this.2⟩
        | bad => rw [hr] at this; exact this.1.elim
end
end Go.Mt
