/-
  Mt, part G: 'pure_ok'.
-/
import Derived.Test.YtnmomckmpknbkaaMtF
import Derived.Laws.StructEq
import Derived.ChangeKeysEq
import Derived.Laws.Cover3
import Derived.Laws.IdiomCopy
import Derived.Laws.CopyRow
set_option linter.unusedSimpArgs false
set_option linter.unusedVariables false
namespace Go.Mt
open Go.RowKit
section
variable {P : Program} {T : Tb} {w : World} {M : Mem} {B : Nat} {W : World} {H : Nat → Option HB}

theorem TyOk.some_und {t : TypeId} {i : TI} (h : TyOk P t i) : ∃ d, P.underlying t = some d := by
  have hu := h.und
  cases hkk : i.kind <;> rw [hkk] at hu <;> simp only at hu
  case strct => obtain ⟨f, hf, _⟩ := hu; exact ⟨_, hf⟩
  case other => cases hd : P.underlying t with
    | none => simp [hd] at hu
    | some d => exact ⟨d, rfl⟩
  case slc => exact ⟨_, hu.1⟩
  case arr => exact ⟨_, hu.1⟩
  all_goals exact ⟨_, hu⟩

theorem run_len_string {t ty : TypeId} (hu : P.underlying t = some .string) (s : ByteArray) : (Builtin.len_ #[t] ty #[.string s]).run P w = .ok (.int .i64 s.size) w := by
  simp [Builtin.len_, run_underlying hu, goInt]

theorem arr_get (us : Array Value) (i : Nat) (h : i < us.size) : ∃ u, us[i]? = some u := ⟨us[i], Array.getElem?_eq_getElem h⟩

def aggT : TypeDesc → Bool
  | .struct _ | .array _ _ => true
  | _ => false
theorem run_part1 {e : TypeId} {d : TypeDesc} (hu : P.underlying e = some d) (hd : aggT d = false) {xs : Array Value} {off : Nat} {v : Value} (hx : xs[off]? = some v) : (part e xs off).run P w = .ok v w := by
  have hi : (Go.isAgg e).run P w = .ok false w := by
    unfold Go.isAgg
    simp only [Sem.run_bind, run_underlying hu, Result.andThen_ok]
    cases d <;> first | rfl | (cases hd)
  simp [part, hi, hx]
theorem RCs.cell {M : Mem} {xs : List C} {c : C} {us : List Value} (h : RCs M (c :: xs) us) : ∃ u us', us = u :: us' ∧ RC M c u ∧ RCs M xs us' := by
  cases us with
  | nil => have := h.1; simp at this
  | cons u us => exact ⟨u, us, rfl, h.2 0 c u rfl rfl, by simpa using h.1, fun j c u' a b => h.2 (j + 1) c u' (by simpa using a) (by simpa using b)⟩
theorem eqFields_ok {M : Mem} (d : Nat) {us vs : Array Value} : ∀ {zs xs ys : List C} {j : Nat} {fs : List Field} {r : Bool}, eqFld P j zs fs = true → eqCs zs xs ys = some r → RCs M xs (us.toList.drop j) → RCs M ys (vs.toList.drop j) → (Op.eqFields (d + 1) us vs fs).run P w = .ok r w := by
  have arr : ∀ {us : Array Value} {j : Nat} {u : Value} {l : List Value}, us.toList.drop j = u :: l → us[j]? = some u ∧ us.toList.drop (j + 1) = l := by
    intro us j u l h
    refine ⟨?_, ?_⟩
    · have := congrArg (fun l => l[0]?) h
      simpa using this
    · have := congrArg List.tail h
      simpa [List.tail_drop] using this
  have key : ∀ {f : Field} {fs : List Field} {zs : List C} {a b : Value} {x y : Bool} {xs ys : List C} {ty : TypeDesc} {j : Nat}, P.underlying f.type = some ty → aggT ty = false → f.offset = j → f.name ≠ "_" →
      RCs M (.pv (.val a) :: xs) (us.toList.drop j) → RCs M (.pv (.val b) :: ys) (vs.toList.drop j) → (Op.equalIn (d + 1) f.type a b).run P w = .ok x w →
      (RCs M xs (us.toList.drop (j + 1)) → RCs M ys (vs.toList.drop (j + 1)) → (Op.eqFields (d + 1) us vs fs).run P w = .ok y w) → (Op.eqFields (d + 1) us vs (f :: fs)).run P w = .ok (x && y) w := by
    intro f fs zs a b x y xs ys ty j e1 e2 e3 e4 h3 h4 e7 ih
    obtain ⟨u, us', g1, g2, g3⟩ := h3.cell
    obtain ⟨v, vs', k1, k2, k3⟩ := h4.cell
    obtain ⟨g4, g5⟩ := arr g1
    obtain ⟨k4, k5⟩ := arr k1
    have hu : u = a := by cases g2 with | pv r => exact r.val_eq
    have hv : v = b := by cases k2 with | pv r => exact r.val_eq
    subst hu hv
    have hi := ih (by rw [g5]; exact g3) (by rw [k5]; exact k3)
    rw [← e3] at g4 k4
    have p1 := run_part1 (w := w) e1 e2 g4
    have p2 := run_part1 (w := w) e1 e2 k4
    simp only [Op.eqFields, if_pos e4, Sem.run_bind, p1, p2, Result.andThen_ok, e7]
    cases x with
    | true => simpa using hi
    | false => simp
  intro zs
  induction zs with
  | nil =>
    intro xs ys j fs r h1 h2 h3 h4
    cases fs with
    | cons => simp [eqFld] at h1
    | nil =>
      match xs, ys, h2 with
      | [], [], h2 => cases h2; simp [Op.eqFields]
  | cons z zs ih =>
    intro xs ys j fs r h1 h2 h3 h4
    cases fs with
    | nil =>
      exfalso
      unfold eqFld at h1
      split at h1 <;> simp_all
    | cons f fs =>
      unfold eqFld at h1
      split at h1
      · rename_i h _; cases h
      · rename_i j' k' n zs' f' fs' hz hf
        cases hz; cases hf
        simp only [Bool.and_eq_true, Nat.beq_eq, decide_eq_true_eq] at h1
        obtain ⟨⟨⟨q1, q2⟩, q3⟩, q4⟩ := h1
        unfold eqCs at h2
        split at h2
        · rename_i hq1 hq2 hq3; first | (cases hq1; done) | (cases hq2; done) | (cases hq3; done)
        · rename_i k a xs' k2 b ys' hz
          cases hz
          split at h2
          · rename_i r' hk hr'; cases h2
            have := ikeq_eq hk; subst this
            split at q3
            · rename_i k'' hu
              have h7 : (Op.equalIn (d + 1) f.type (.int k a) (.int k b)).run P w = .ok (decide (a = b)) w := by
                rw [run_equalIn_int w d f.type k k'' a b hu]; congr 1
              exact key (zs := zs) hu rfl q1 q2 h3 h4 h7 (fun a1 a2 => ih q4 hr' a1 a2)
            · cases q3
          · cases h2
        · rename_i h; cases h
        · rename_i h; cases h
        · cases h2
      · rename_i j' n zs' f' fs' hz hf
        cases hz; cases hf
        simp only [Bool.and_eq_true, Nat.beq_eq, decide_eq_true_eq] at h1
        obtain ⟨⟨⟨q1, q2⟩, q3⟩, q4⟩ := h1
        unfold eqCs at h2
        split at h2
        · rename_i hq1 hq2 hq3; first | (cases hq1; done) | (cases hq2; done) | (cases hq3; done)
        · rename_i h; cases h
        · rename_i a xs' b ys' hz
          cases hz
          split at h2
          · rename_i r' hr'; cases h2
            split at q3
            · rename_i hu
              have h7 : (Op.equalIn (d + 1) f.type (.bool a) (.bool b)).run P w = .ok (decide (a = b)) w := by
                rw [run_equalIn_bool' w d f.type a b hu]; congr 1
              exact key (zs := zs) hu rfl q1 q2 h3 h4 h7 (fun a1 a2 => ih q4 hr' a1 a2)
            · cases q3
          · cases h2
        · rename_i h; cases h
        · cases h2
      · rename_i j' n zs' f' fs' hz hf
        cases hz; cases hf
        simp only [Bool.and_eq_true, Nat.beq_eq, decide_eq_true_eq] at h1
        obtain ⟨⟨⟨q1, q2⟩, q3⟩, q4⟩ := h1
        unfold eqCs at h2
        split at h2
        · rename_i hq1 hq2 hq3; first | (cases hq1; done) | (cases hq2; done) | (cases hq3; done)
        · rename_i h; cases h
        · rename_i h; cases h
        · rename_i a xs' b ys' hz
          cases hz
          split at h2
          · rename_i r' hr'; cases h2
            split at q3
            · rename_i hu
              have h7 : (Op.equalIn (d + 1) f.type (.string ⟨⟨a⟩⟩) (.string ⟨⟨b⟩⟩)).run P w = .ok (decide (a = b)) w := by
                rw [run_equalIn_string w d f.type _ _ hu, ByteArray.toList_eq, ByteArray.toList_eq]; congr 1; rw [Bool.eq_iff_iff]; simp
              exact key (zs := zs) hu rfl q1 q2 h3 h4 h7 (fun a1 a2 => ih q4 hr' a1 a2)
            · cases q3
          · cases h2
        · cases h2
      · cases h1

theorem eqItems_ok {M : Mem} (d : Nat) {e : TypeId} {k' : IntKind} (he : P.underlying e = some (.int k')) {us vs : Array Value} : ∀ {zs xs ys : List C} {j : Nat} {r : Bool}, allI zs = true → eqCs zs xs ys = some r → RCs M xs (us.toList.drop j) → RCs M ys (vs.toList.drop j) → (Op.eqItems (d + 1) e 1 us vs (List.range' j zs.length)).run P w = .ok r w := by
  have arr : ∀ {us : Array Value} {j : Nat} {u : Value} {l : List Value}, us.toList.drop j = u :: l → us[j]? = some u ∧ us.toList.drop (j + 1) = l := by
    intro us j u l h
    refine ⟨?_, ?_⟩
    · have := congrArg (fun l => l[0]?) h
      simpa using this
    · have := congrArg List.tail h
      simpa [List.tail_drop] using this
  intro zs
  induction zs with
  | nil =>
    intro xs ys j r h1 h2 h3 h4
    match xs, ys, h2 with
    | [], [], h2 => cases h2; simp [Op.eqItems]
  | cons z zs ih =>
    intro xs ys j r h1 h2 h3 h4
    unfold allI at h1
    split at h1
    · rename_i h; cases h
    · rename_i kz nz zs' hz
      cases hz
      unfold eqCs at h2
      split at h2
      · rename_i hq1 hq2 hq3; first | (cases hq1; done) | (cases hq2; done) | (cases hq3; done)
      · rename_i k a xs' k2 b ys' hz
        cases hz
        split at h2
        · rename_i r' hk hr'; cases h2
          have := ikeq_eq hk; subst this
          obtain ⟨u, us', g1, g2, g3⟩ := h3.cell
          obtain ⟨v, vs', k1, k2, k3⟩ := h4.cell
          obtain ⟨g4, g5⟩ := arr g1
          obtain ⟨k4, k5⟩ := arr k1
          have hu : u = .int k a := by cases g2 with | pv r => exact r.val_eq
          have hv : v = .int k b := by cases k2 with | pv r => exact r.val_eq
          subst hu hv
          have hi := ih (j := j + 1) h1 hr' (by rw [g5]; exact g3) (by rw [k5]; exact k3)
          have p1 := run_part1 (w := w) he rfl g4
          have p2 := run_part1 (w := w) he rfl k4
          have h7 : (Op.equalIn (d + 1) e (.int k a) (.int k b)).run P w = .ok (decide (a = b)) w := by
            rw [run_equalIn_int w d e k k' a b he]; congr 1
          simp only [List.length_cons, List.range'_succ, Op.eqItems, Nat.mul_one, Sem.run_bind, p1, p2, Result.andThen_ok, h7]
          by_cases hab : a = b
          · simp [hab]; simpa using hi
          · simp [hab]
        · cases h2
      · rename_i h; cases h
      · rename_i h; cases h
      · cases h2
    · cases h1

theorem binT_ok (hT : TbOk P T) {t : TypeId} {op : BinOp} {M : Mem} {xa ya : A} {xv yv : Value} (hx : RA M xa xv) (hy : RA M ya yv) {x : A} {ob : Prop} (h : binT T t op xa ya = some (x, ob)) (hob : ob) (ox oy : Operand) :
    ∃ v, x = .c (.pv (.val v)) ∧ v.oneCell' = true ∧ (do eqGuard op t ox oy xv yv; Go.binOp op t xv yv : Sem Value).run P w = .ok v w := by
  unfold binT at h
  split at h
  · rename_i a b
    have ex := hx.val_inv; have ey := hy.val_inv
    subst ex ey
    split at h
    · rename_i hk
      have hu := (hT _ _ hk).und
      simp only at hu
      have he : (Op.equal t (.bool a) (.bool b)).run P w = .ok (a == b) w := by
        show (Op.equalIn (9999 + 1) t (.bool a) (.bool b)).run P w = _
        rw [Op.equalIn]
        simp [run_underlying hu]
      rw [Sem.run_bind, run_eqGuard_plain _ _ _ _ _ _ rfl]
      simp only [Result.andThen_ok]
      split at h
      · simp only [Option.some.injEq, Prod.mk.injEq] at h; obtain ⟨rfl, rfl⟩ := h
        exact ⟨_, rfl, rfl, by cases a <;> cases b <;> simp [Go.binOp, he]⟩
      · simp only [Option.some.injEq, Prod.mk.injEq] at h; obtain ⟨rfl, rfl⟩ := h
        exact ⟨_, rfl, rfl, by cases a <;> cases b <;> simp [Go.binOp, he]⟩
      · cases h
    · cases h
  · rename_i xs ys
    split at h
    · rename_i i hi
      split at h
      · rename_i r hab hr
        have heq := (hT _ _ hi).eq hab
        unfold eqOk at heq
        split at heq
        · rename_i fields hu
          simp only [Bool.and_eq_true, Bool.not_eq_true'] at heq
          obtain ⟨⟨q1, q2⟩, q3⟩ := heq
          obtain ⟨us, rfl, hus⟩ : ∃ us, xv = .agg us ∧ RCs M xs us.toList := by cases hx with | g h => exact ⟨_, rfl, h⟩
          obtain ⟨vs, rfl, hvs⟩ : ∃ us, yv = .agg us ∧ RCs M ys us.toList := by cases hy with | g h => exact ⟨_, rfl, h⟩
          have hf : P.fieldsOf t = fields := by unfold Program.fieldsOf; rw [hu]
          have he : (Op.equalIn 10000 t (.agg us) (.agg vs)).run P w = .ok r w := by
            rw [show (10000 : Nat) = 9999 + 1 from rfl, run_equalIn_struct w 9999 t us vs (by rw [hf]; exact hu) q2, hf]
            exact eqFields_ok 9998 q1 hr (by simpa using hus) (by simpa using hvs)
          rw [Sem.run_bind, run_eqGuard_agg w op t ox oy us vs q3]
          simp only [Result.andThen_ok]
          split at h
          · simp only [Option.some.injEq, Prod.mk.injEq] at h; obtain ⟨rfl, rfl⟩ := h
            exact ⟨_, rfl, rfl, by rw [run_eql_struct, he]; rfl⟩
          · simp only [Option.some.injEq, Prod.mk.injEq] at h; obtain ⟨rfl, rfl⟩ := h
            exact ⟨_, rfl, rfl, by rw [run_neq_struct, he]; rfl⟩
          · cases h
        · rename_i n e hu
          simp only [Bool.and_eq_true, Bool.not_eq_true', Nat.beq_eq] at heq
          obtain ⟨⟨⟨⟨q1, q2⟩, q3⟩, q4⟩, q5⟩ := heq
          obtain ⟨us, rfl, hus⟩ : ∃ us, xv = .agg us ∧ RCs M xs us.toList := by cases hx with | g h => exact ⟨_, rfl, h⟩
          obtain ⟨vs, rfl, hvs⟩ : ∃ us, yv = .agg us ∧ RCs M ys us.toList := by cases hy with | g h => exact ⟨_, rfl, h⟩
          split at q3
          · rename_i k' hek
            split at q4
            · rename_i ie hie
              rw [Nat.beq_eq] at q4
              have hc : P.cellsOf e = 1 := by simp [Program.cellsOf, hie, q4]
              have he : (Op.equalIn 10000 t (.agg us) (.agg vs)).run P w = .ok r w := by
                rw [show (10000 : Nat) = 9999 + 1 from rfl, run_equalIn_array w 9999 us vs hu hie, hc, List.range_eq_range', q2]
                exact eqItems_ok 9998 hek q1 hr (by simpa using hus) (by simpa using hvs)
              rw [Sem.run_bind, run_eqGuard_agg w op t ox oy us vs q5]
              simp only [Result.andThen_ok]
              split at h
              · simp only [Option.some.injEq, Prod.mk.injEq] at h; obtain ⟨rfl, rfl⟩ := h
                exact ⟨_, rfl, rfl, by rw [run_eql_struct, he]; rfl⟩
              · simp only [Option.some.injEq, Prod.mk.injEq] at h; obtain ⟨rfl, rfl⟩ := h
                exact ⟨_, rfl, rfl, by rw [run_neq_struct, he]; rfl⟩
              · cases h
            · cases q4
          · cases q3
        · cases heq
      · cases h
    · cases h
  · cases h

theorem celB_get {l : List UInt8} : ∀ {m i j : Nat} {y : PV}, (celB l i m)[j]? = some y → j < m ∧ y = .val (.int .u8 (l.getD (i + j) 0).toNat) := by
  intro m
  induction m with
  | zero => intro i j y h; simp [celB] at h
  | succ m ih =>
    intro i j y h
    cases j with
    | zero => simp [celB] at h; exact ⟨by omega, by simp [← h]⟩
    | succ j =>
      obtain ⟨h1, h2⟩ := ih (i := i + 1) (by simpa [celB] using h)
      exact ⟨by omega, by rw [h2, show i + 1 + j = i + (j + 1) from by omega]⟩
set_option maxHeartbeats 1000000 in
theorem pure_ok (hT : TbOk P T) (hS : SatH B W H M w) {rd : Operand → Option A} {ρ : Operand → Value} (hr : ∀ o x, rd o = some x → RA M x (ρ o)) (hc : ∀ v, ρ (.const v) = v) {wm : Bool}
    {dst : Option Tmp} {op : Op} {ty : TypeId} {pos : String} {after : Array Edge} {guard : Option (Nat × Bool)} {x : A} {ob : Prop} (h : pureOp T H wm rd ty op = some (x, ob)) (hob : ob) :
    ∃ v, (execOp ρ ⟨dst, op, ty, pos, after, guard⟩).run P w = .ok (.value v) w ∧ RA M x v := by
  unfold pureOp at h
  split at h
  · -- move
    split at h
    · rename_i a ha; cases h
      exact ⟨_, by simp [execOp], rdT_ok hr hc ha⟩
    · cases h
  · -- assign
    split at h
    · rename_i a ha; cases h
      exact ⟨_, by simp [execOp], rdT_ok hr hc ha⟩
    · cases h
  · -- binOp
    split at h
    · rename_i a b ha hb
      split at h
      · rename_i r hr'; cases h
        obtain ⟨v, rfl, h1, h2⟩ := bin_ok (hr _ _ ha) (hr _ _ hb) hr' hob _ _ _
        exact ⟨v, by simp only [execOp, Sem.run_bind] at h2 ⊢; rw [h2]; rfl, .c (.pv (.val h1))⟩
      · obtain ⟨v, rfl, h1, h2⟩ := binT_ok hT (hr _ _ ha) (hr _ _ hb) h hob _ _
        exact ⟨v, by simp only [execOp, Sem.run_bind] at h2 ⊢; rw [h2]; rfl, .c (.pv (.val h1))⟩
    · cases h
  · -- unOp
    split at h
    · rename_i b hb; cases h
      have := (hr _ _ hb).val_inv
      exact ⟨.bool (!b), by simp [execOp, this, Op.unary], .c (.pv (.val rfl))⟩
    · cases h
  · -- convert
    split at h
    · rename_i e _ s1 s2 z a hk ha
      split at h
      · rename_i s3 s4 z' he
        have hu := (hT _ _ hk).und
        simp only at hu
        obtain ⟨u, h1, h2⟩ := cnvB_ok hT hS (hr _ _ ha) h hob hu.1 ((hT _ _ he).und)
        exact ⟨u, by simp [execOp, h1], h2⟩
      · cases h
    · rename_i i a _ hk ha
      have hd := (hT _ _ hk).some_und
      obtain ⟨u, h1, h2⟩ := cnv_ok hT (hr _ _ ha) h hob hd
      exact ⟨u, by simp only [execOp, Sem.run_bind]; rw [h1]; rfl, h2⟩
    · cases h
  · -- extract
    split at h
    · rename_i xs hx
      split at h
      · rename_i a ha; cases h
        rw [nth_eq] at ha
        have h1 := hr _ _ hx
        generalize hρ : ρ _ = v at h1
        cases h1 with
        | t hs hh =>
          rename_i us
          have hlt := (List.getElem?_eq_some_iff.1 ha).1
          obtain ⟨u, hu⟩ := arr_get us _ (by rw [hs]; exact hlt)
          exact ⟨u, by simp [execOp, hρ, Instr.extract, hu], hh _ _ _ ha hu⟩
      · cases h
    · cases h
  · -- field
    split at h
    · rename_i fs s1 s2 z cs hk hx
      have h1 := hr _ _ hx
      generalize hρ : ρ _ = v at h1
      cases h1 with
      | g hg =>
        rename_i us
        split at h
        · rename_i off size hf; cases h
          obtain ⟨fields, fd, inf, d, e1, e2, e3, e4, e5, e6, e7⟩ := strct_field hT hk hf
          simp only at e3 e5 e7
          refine ⟨.agg (us.extract off (off + size)), ?_, .g ?_⟩
          · simp only [execOp, hρ, Instr.field, Sem.run_bind, run_underlying e1, Result.andThen_ok, e2]
            simp only [asAgg, part, Go.isAgg, Sem.run_bind, Sem.run_pure, Result.andThen_ok, run_underlying e6]
            cases d <;> simp at e7 <;> simp [Go.sizeOf, run_typeInfo e4, e3, e5]
          · refine ⟨?_, fun j c u h1 h2 => ?_⟩
            · have := hg.1
              simp [tke_eq, drp_eq] at this ⊢; omega
            · rw [tke_eq, drp_eq, List.getElem?_take] at h1
              split at h1
              · rename_i hj
                rw [List.getElem?_drop] at h1
                refine hg.2 _ c u h1 ?_
                simp only [Array.toList_extract, List.extract_eq_take_drop] at h2
                rw [List.getElem?_take, if_pos (by omega), List.getElem?_drop] at h2
                exact h2
              · cases h1
        · rename_i off size hf
          split at h
          · rename_i c rest hd; cases h
            obtain ⟨fields, fd, inf, d, e1, e2, e3, e4, e5, e6, e7⟩ := strct_field hT hk hf
            simp only at e3 e5 e7
            rw [drp_eq] at hd
            have hc0 : cs[off]? = some c := by
              have : (cs.drop off)[0]? = some c := by rw [hd]; rfl
              simpa [List.getElem?_drop] using this
            have hlt := (List.getElem?_eq_some_iff.1 hc0).1
            obtain ⟨u, hu⟩ := arr_get us off (by have := hg.1; simp at this; omega)
            refine ⟨u, ?_, .c (hg.2 off c _ hc0 (by simpa using hu))⟩
            simp only [execOp, hρ, Instr.field, Sem.run_bind, run_underlying e1, Result.andThen_ok, e2]
            simp only [asAgg, part, Go.isAgg, Sem.run_bind, Sem.run_pure, Result.andThen_ok, run_underlying e6]
            cases d <;> simp at e7 <;> simp [e3, hu]
          · cases h
        · cases h
    · cases h
  · -- fieldAddr
    rename_i sT xo fi
    split at h
    · rename_i fs s1 s2 z hk
      split at h
      · rename_i off size bb hf
        obtain ⟨fields, fd, inf, d, e1, e2, e3, e4, e5, e6, e7⟩ := strct_field hT hk hf
        simp only at e3 e5 e7
        have main : Nat.ble 1 size = true → ∀ b o, ρ xo = .pointer (some ⟨b, o, none⟩) → (execOp ρ ⟨dst, .fieldAddr sT xo fi, ty, pos, after, guard⟩).run P w = .ok (.value (.pointer (some ⟨b, o + off, none⟩))) w := by
          intro hb b o hv
          rw [Nat.ble_eq] at hb
          have hs : inf.size ≠ 0 := by omega
          simp [execOp, Instr.fieldAt, run_underlying e1, e2, hv, Instr.sureAddr, fieldPlace, Go.sizeOf, run_typeInfo e4, hs, Addr.add_lit, e3]
        split at h
        · rename_i n b o hb hx; cases h
          exact ⟨_, main hb _ _ (hr _ _ hx).ptr_inv, .c .ptr⟩
        · rename_i cs hb hx; cases h
          obtain ⟨b, o, hv, hcell⟩ := (hr _ _ hx).cel_inv
          refine ⟨_, main hb _ _ hv, RA.cel_mk fun j y hj => ?_⟩
          rw [drp_eq, List.getElem?_drop] at hj
          have := hcell _ _ hj
          rwa [← Nat.add_assoc] at this
        · rename_i n u i sz o hb hx; cases h
          refine ⟨_, main hb _ _ (hr _ _ hx).oel_inv, ?_⟩
          rw [Nat.add_assoc]
          exact .c .oel
        · cases h
      · cases h
    · cases h
  · -- indexAddr
    split at h
    · rename_i e k' s1 s2 z k l kk i hk hx hi
      split at h
      · rename_i hb; cases h
        rw [Nat.beq_eq] at hb
        have hu := (hT _ _ hk).und
        simp only at hu
        obtain ⟨hu, inf, hinf, hsz⟩ := hu
        have hiv := (hr _ _ hi).val_inv
        have h1 := hr _ _ hx
        generalize hρ : ρ _ = v at h1
        cases h1 with | c h1 => cases h1 with | pv h1 =>
        obtain ⟨a, c, b, o, rfl, g1, g2, g3, g4, g5⟩ := h1.lst_inv
        have hlt : i.toNat < l.length := by omega
        have := g3 (by intro e; subst e; simp at hlt); subst this
        refine ⟨.pointer (some ⟨b, o + i.toNat * k.sz, none⟩), ?_, RA.cel_mk fun j y hj => ?_⟩
        · simp [execOp, Instr.indexAt, hρ, hiv, asIntOf, run_underlying hu, hob.1, hob.2, Go.sizeOf, run_typeInfo hinf, hsz, hb, Addr.add_lit]
        · rw [List.getD, List.getElem?_eq_getElem hlt] at hj
          exact g5 _ _ _ _ (List.getElem?_eq_getElem hlt) hj
      · cases h
    · rename_i e k' s1 s2 z n u kk i hk hx hi
      split at h
      · rename_i v' ty' k l hn
        split at h
        · rename_i hb; cases h
          rw [Nat.beq_eq] at hb
          obtain ⟨rfl, ho1, ho2⟩ := hob
          have hu := (hT _ _ hk).und
          simp only at hu
          obtain ⟨hu, inf, hinf, hsz⟩ := hu
          have hiv := (hr _ _ hi).val_inv
          have hxv := (hr _ _ hx).own_inv
          rcases hS.ok _ _ hn with ⟨rfl, rfl⟩ | ⟨b, cap, us, rfl, h1, h2, h3, h4, h5, h6, h7⟩
          · simp at ho2; omega
          · refine ⟨.pointer (some ⟨b, i.toNat * k.sz, none⟩), ?_, ?_⟩
            · simp [execOp, Instr.indexAt, hxv, hiv, asIntOf, run_underlying hu, ho1, ho2, Go.sizeOf, run_typeInfo hinf, hsz, hb, Addr.add_lit]
            · exact .c (.oel (M := M) (v := .slice (some ⟨b, 0, none⟩) l.length cap) (o := 0))
        · cases h
      · cases h
    · cases h
  · -- load
    split at h
    · rename_i n b o hx
      split at h
      · rename_i b' ty' cs hn
        split at h
        · rename_i a ha; cases h
          subst hob
          obtain ⟨h1, h2, us, h3, h4⟩ := hS.ok _ _ hn
          obtain ⟨v, g1, g2⟩ := ldA_ok (w := w) (M := M) (b := b) (o := o) hT ha (fun j c hj => by
            rw [drp_eq, List.getElem?_drop] at hj
            have hlt := (List.getElem?_eq_some_iff.1 hj).1
            obtain ⟨u, hu⟩ := arr_get us (o + j) (by have := h4.1; simp at this; omega)
            exact ⟨u, by simp [World.cell?, h3, hu], h4.2 _ c _ hj (by simpa using hu)⟩)
          exact ⟨v, by simp [execOp, Instr.loadAt, (hr _ _ hx).ptr_inv, Instr.sureAddr, g1], g2⟩
        · cases h
      · rename_i v' ty' l hn
        split at h
        · rename_i N e s1 s2 z hk
          split at h
          · rename_i a hN ha; cases h
            obtain ⟨rfl, hlen⟩ := hob
            simp only [Bool.and_eq_true, Nat.beq_eq, Nat.ble_eq] at hN
            obtain ⟨rfl, hN⟩ := hN
            rcases hS.ok _ _ hn with ⟨rfl, rfl⟩ | ⟨b, cap, us, rfl, h1, h2, h3, h4, h5, h6, h7⟩
            · simp at hlen; omega
            · obtain ⟨v, g1, g2⟩ := ldA_ok (w := w) (M := M) (b := b) (o := 0) hT ha (fun j c hj => by
                rw [List.getElem?_map] at hj
                cases hy : (celB l 0 N)[j]? with
                | none => rw [hy] at hj; cases hj
                | some y =>
                  rw [hy] at hj; cases hj
                  obtain ⟨hjN, rfl⟩ := celB_get hy
                  have hjl : j < l.length := by omega
                  obtain ⟨u, hu, hru⟩ := h7 j l[j] 0 (.val (.int .u8 (l[j]).toNat)) (List.getElem?_eq_getElem hjl) rfl
                  simp only [LK.sz, Nat.mul_one, Nat.add_zero] at hu
                  refine ⟨u, by simp [World.cell?, h3, hu], .pv ?_⟩
                  simpa [List.getD, List.getElem?_eq_getElem hjl] using hru)
              exact ⟨v, by simp [execOp, Instr.loadAt, (hr _ _ hx).ptr_inv, Instr.sureAddr, Value.blk, Value.ownBlock, g1], g2⟩
          · cases h
        · cases h
      · cases h
    · rename_i cs hx
      split at h
      · rename_i a ha; cases h
        obtain ⟨b, o, hv, hcell⟩ := (hr _ _ hx).cel_inv
        obtain ⟨v, g1, g2⟩ := ldA_ok (w := w) (M := M) (b := b) (o := o) hT ha (fun j c hj => by
          rw [List.getElem?_map] at hj
          cases hy : cs[j]? with
          | none => simp [hy] at hj
          | some y =>
            simp [hy] at hj; subst hj
            obtain ⟨u, hu, hru⟩ := hcell j y hy
            exact ⟨u, Mem.cell_on hS.mem hu, .pv hru⟩)
        exact ⟨v, by simp [execOp, Instr.loadAt, hv, Instr.sureAddr, g1], g2⟩
      · cases h
    · rename_i n u i sz o hx
      split at h
      · rename_i v' ty' k l hn
        split at h
        · rename_i a ha; cases h
          obtain ⟨⟨rfl, rfl⟩, hlt⟩ := hob
          rcases hS.ok _ _ hn with ⟨rfl, rfl⟩ | ⟨b, cap, us, rfl, h1, h2, h3, h4, h5, h6, h7⟩
          · simp at hlt
          · obtain ⟨v, g1, g2⟩ := ldA_ok (w := w) (M := M) (b := b) (o := i * k.sz + o) hT ha (fun j c hj => by
              rw [drp_eq, List.getElem?_map, List.getElem?_drop] at hj
              cases hy : (k.enc (l.getD i k.dft))[o + j]? with
              | none => rw [hy] at hj; cases hj
              | some y =>
                rw [hy] at hj; simp at hj; subst hj
                rw [List.getD, List.getElem?_eq_getElem hlt] at hy
                obtain ⟨u, hu, hru⟩ := h7 i l[i] (o + j) y (List.getElem?_eq_getElem hlt) hy
                exact ⟨u, by simp [World.cell?, h3, Nat.add_assoc, hu], .pv hru⟩)
            exact ⟨v, by simp [execOp, Instr.loadAt, (hr _ _ hx).oel_inv, Instr.sureAddr, Value.blk, Value.ownBlock, g1], g2⟩
        · cases h
      · cases h
    · cases h
  · -- slice
    split at h
    · rename_i k l lo hi mx hx hlo hhi hmx
      split at h
      · rename_i e k' s1 s2 z hk
        split at h
        · rename_i lo' hi' ob' hb hs; cases h
          rw [Nat.beq_eq] at hb
          have hu := (hT _ _ hk).und
          simp only at hu
          obtain ⟨hu, inf, hinf, hsz⟩ := hu
          have h1 := hr _ _ hx
          generalize hρ : ρ _ = v at h1
          cases h1 with | c h1 => cases h1 with | pv h1 =>
          obtain ⟨a, c, b, o, rfl, g1, g2, g3, g4, g5⟩ := h1.lst_inv
          obtain ⟨q1, q2, q3, m, q4, q5, _, q6⟩ := subR_ok (P := P) (w := w) hr hlo hhi hmx hs hob (sl := true) g1
          have hlen : (((l.take hi'.toNat).drop lo'.toNat)).length = hi'.toNat - lo'.toNat := by simp; omega
          refine ⟨.slice (if m = lo'.toNat then a else a.map (·.add (lo'.toNat * inf.size))) (hi'.toNat - lo'.toNat) (m - lo'.toNat), ?_, ?_⟩
          · simp [execOp, Instr.sliceAt, hρ, run_underlying hu, Instr.slice, q6, Go.sizeOf, run_typeInfo hinf]
          · refine .c (.pv (R.lst_mk (b := b) (o := o + lo'.toNat * k.sz) hlen (by omega) (by omega) ?_ ?_ ?_))
            · intro hne
              have hne' : l ≠ [] := by intro e; subst e; simp at hne
              have hlt : lo'.toNat < hi'.toNat := by
                rcases Nat.lt_or_ge lo'.toNat hi'.toNat with h | h
                · exact h
                · exact absurd (List.length_eq_zero_iff.1 (by rw [hlen]; omega)) hne
              rw [if_neg (by omega), g3 hne']
              simp [Addr.add_lit, hsz, hb]
            · intro hnone
              split at hnone
              · rename_i e; omega
              · cases a with
                | none => have := g4 rfl; omega
                | some a => simp at hnone
            · intro i x j y e1 e2
              rw [List.getElem?_drop, List.getElem?_take] at e1
              split at e1
              · obtain ⟨u, hu, hru⟩ := g5 _ x j y e1 e2
                refine ⟨u, ?_, hru⟩
                rw [← hu]; congr 1; rw [Nat.add_mul]; omega
              · cases e1
        · cases h
      · cases h
    · rename_i l lo hi hx hlo hhi hmx
      split at h
      · rename_i s1 s2 z hk
        split at h
        · rename_i lo' hi' ob' hs; cases h
          have hu := (hT _ _ hk).und
          simp only at hu
          have hv := (hr _ _ hx).val_inv
          rename_i mx0 _ _ _ _ _
          rcases optA_ok hr hmx with ⟨rfl, _⟩ | ⟨_, _, _, e, _⟩
          · obtain ⟨q1, q2, q3, m, q4, q5, q7, q6⟩ := subR_ok (P := P) (w := w) hr hlo hhi (omx := none) rfl hs hob (sl := false) (Nat.le_refl _)
            refine ⟨.string ⟨((l.take hi'.toNat).drop lo'.toNat).toArray⟩, ?_, .c (.pv (.val rfl))⟩
            have hsize : (ByteArray.mk ⟨l⟩).size = l.length := rfl
            have hext : (ByteArray.mk ⟨l⟩).extract lo'.toNat hi'.toNat = ⟨((l.take hi'.toNat).drop lo'.toNat).toArray⟩ := by
              apply ByteArray.ext
              rw [ByteArray.data_extract]
              apply Array.ext'
              simp [List.extract_eq_take_drop, List.drop_take]
            simp only [Option.map_none] at q6
            simp [execOp, Instr.sliceAt, hv, run_underlying hu, Instr.slice, hsize, q6, hext]
          · cases e
        · cases h
      · cases h
    · cases h
  · -- build
    rename_i bt bps
    split at h
    · rename_i fs s1 s2 z hk
      split at h
      · rename_i ps hps
        split at h
        · rename_i cs hno hf; cases h
          obtain ⟨inf, zv, i1, i2, i3, i4, i5, i6⟩ := (hT _ _ hk).info
          have hu := (hT _ _ hk).und
          simp only at hu
          obtain ⟨fields, u1, u2, u3⟩ := hu
          let places : Array (Nat × Nat) := (fs.map fun x => (x.1, x.2.1)).toArray
          have hpl : ∀ (i : Nat) x, fs[i]? = some x → places[i]? = some (x.1, x.2.1) := by
            intro i x hx; simp [places, hx]
          have hmap : (fields.mapM fun f => do pure (f.offset, ← Go.sizeOf f.type) : Sem (Array (Nat × Nat))).run P w = .ok places w := by
            have gen : ∀ (fl : List Field) (xl : List (Nat × Nat × Bool)), fl.length = xl.length → (∀ (j : Nat) f x, fl[j]? = some f → xl[j]? = some x → f.offset = x.1 ∧ ∃ inf, P.info? f.type = some inf ∧ inf.size = x.2.1) →
                (fl.mapM fun f => do pure (f.offset, ← Go.sizeOf f.type) : Sem (List (Nat × Nat))).run P w = .ok (xl.map fun x => (x.1, x.2.1)) w := by
              intro fl
              induction fl with
              | nil => intro xl hl _; cases xl <;> simp at hl; simp
              | cons f fl ih =>
                intro xl hl hh
                cases xl with
                | nil => simp at hl
                | cons x xl =>
                  obtain ⟨e1, inf, e2, e3⟩ := hh 0 f x rfl rfl
                  have := ih xl (by simpa using hl) (fun j f x a b => hh (j + 1) f x (by simpa using a) (by simpa using b))
                  have hs : (Go.sizeOf f.type).run P w = .ok inf.size w := by simp [Go.sizeOf, run_typeInfo e2]
                  rw [List.mapM_cons]
                  simp only [Sem.run_bind]
                  rw [hs]
                  simp only [Result.andThen_ok, Sem.run_pure]
                  rw [this]
                  simp [e1, e3]
            have := gen fields.toList fs (by simpa using u2) (fun j f x a b => by
              obtain ⟨e1, inf, d, e2, e3, _⟩ := u3 j f x (by simpa using a) b
              exact ⟨e1, inf, e2, e3⟩)
            rw [Array.mapM_eq_mapM_toList, Sem.run_map, this]
            rfl
          obtain ⟨hp1, hp2⟩ := rdParts_ok (T := T) hr _ _ hps
          obtain ⟨us', k1, k2⟩ := fillC_ok hpl _ _ z cs zv.cells (i6 M) ⟨hp1, hp2⟩ hf
          refine ⟨.agg us', ?_, .g k2⟩
          have hzero : (zeroValue bt).run P w = .ok zv w := by simp [zeroValue, run_typeInfo i1, i4]
          simp only [execOp, Instr.build, Sem.run_bind, hzero, Result.andThen_ok, run_underlying u1, hmap]
          simp only [List.map_toArray]
          rw [k1]
          rfl
        · cases h
      · cases h
    · cases h
  · -- len
    split at h
    · rename_i l hx
      split at h
      · rename_i s1 s2 z hk; cases h
        have hu := (hT _ _ hk).und
        simp only at hu
        have hv := (hr _ _ hx).val_inv
        refine ⟨.int .i64 l.length, ?_, .c (.pv (.val rfl))⟩
        rw [run_builtin1 rfl (r := .ok (.int .i64 l.length) w)]
        · rfl
        · rw [hv]; exact run_len_string hu _
      · cases h
    · rename_i a _ hx
      split at h
      · rename_i k l ob' e k' s1 s2 z hl hk; cases h
        have hu := (hT _ _ hk).und
        simp only at hu
        obtain ⟨ad, c, b, o, hv, _⟩ := lkOf_ok hS (hr _ _ hx) hl hob
        refine ⟨.int .i64 l.length, ?_, .c (.pv (.val rfl))⟩
        rw [run_builtin1 rfl (r := .ok (.int .i64 l.length) w)]
        · rfl
        · simp [Builtin.len_, hv, run_underlying hu.1, goInt]
      · cases h
    · cases h
  · -- min
    split at h
    · rename_i k a k' b ha hb
      split at h
      · rename_i hk; cases h
        have e1 := (hr _ _ ha).val_inv
        have e2 := (hr _ _ hb).val_inv
        refine ⟨.int k (min a b), ?_, .c (.pv (.val rfl))⟩
        rw [run_builtin_min (r := .ok (.int k (min a b)) w)]
        · rfl
        · have : (if b < a then b else a) = min a b := by omega
          simp [Builtin.min_, e1, e2, Builtin.min2, this]
      · cases h
    · cases h
  · -- max
    split at h
    · rename_i k a k' b ha hb
      split at h
      · rename_i hk; cases h
        have e1 := (hr _ _ ha).val_inv
        have e2 := (hr _ _ hb).val_inv
        refine ⟨.int k (max a b), ?_, .c (.pv (.val rfl))⟩
        rw [run_builtin_max (r := .ok (.int k (max a b)) w)]
        · rfl
        · have : (if a < b then b else a) = max a b := by omega
          simp [Builtin.max_, e1, e2, Builtin.max2, this]
      · cases h
    · cases h
  · -- nilCheck
    split at h
    · rename_i n b o hx; cases h
      have := (hr _ _ hx).ptr_inv
      exact ⟨.pointer (some ⟨b, o, none⟩), by simp [execOp, this], .c .ptr⟩
    · rename_i cs hx; cases h
      obtain ⟨b, o, hv, _⟩ := (hr _ _ hx).cel_inv
      have h1 := hr _ _ hx
      rw [hv] at h1
      exact ⟨.pointer (some ⟨b, o, none⟩), by simp [execOp, hv], h1⟩
    · rename_i n u i sz o hx; cases h
      have := (hr _ _ hx).oel_inv
      exact ⟨_, by simp [execOp, this], .c .oel⟩
    · cases h
  · -- makeFunc
    split at h
    · rename_i f caps _ l hl
      split at h
      · rename_i cs hcs; cases h
        obtain ⟨g1, g2⟩ := rdAll_ok hr _ _ hl
        have := cellsOf_ok _ _ hcs; subst this
        refine ⟨.func (.func f) #[] (caps.map ρ).toArray, by simp [execOp, Instr.makeFunc], .c (.clo (by simpa using g1) ?_)⟩
        intro j c u h1 h2
        obtain ⟨o, e1, e2⟩ := g2 j (.c c) (by simp [h1])
        simp [e1] at h2; subst h2
        cases e2 with | c e2 => exact e2
      · cases h
    · cases h
  · -- index
    split at h
    · rename_i s1 s2 z l kk i hk hx hi
      cases h
      have hu := (hT _ _ hk).und
      simp only at hu
      have e1 := (hr _ _ hx).val_inv
      have e2 := (hr _ _ hi).val_inv
      have hlt : i.toNat < l.length := by omega
      refine ⟨.int .u8 (l.getD i.toNat 0).toNat, ?_, .c (.pv (.val rfl))⟩
      have hget : (ByteArray.mk ⟨l⟩)[i.toNat]? = some (l.getD i.toNat 0) := by
        have : i.toNat < (ByteArray.mk ⟨l⟩).size := hlt
        rw [getElem?_pos (ByteArray.mk ⟨l⟩) i.toNat this]
        simp [List.getD, List.getElem?_eq_getElem hlt]
        rfl
      simp [execOp, Instr.index, e1, e2, asIntOf, run_underlying hu, hob.1, hget]
    · cases h
  · -- sliceToArrayPointer
    split at h
    · rename_i N e s1 s2 z l hk hx
      split at h
      · rename_i hN; cases h
        rw [Nat.ble_eq] at hN
        have hu := (hT _ _ hk).und
        simp only at hu
        obtain ⟨a, c, b, o, hv, g1, g2, g3, g4, g5⟩ := R.lst_inv (by have := hr _ _ hx; cases this with | c h => cases h with | pv h => exact h)
        have hne : l ≠ [] := by intro e; subst e; simp at hob; omega
        have ha := g3 hne
        subst ha
        refine ⟨.pointer (some ⟨b, o, none⟩), ?_, .c (.cel b o (fun j => .int .u8 (l.getD j 0).toNat) (fun j y hj => ?_) (fun j y hj => ?_))⟩
        · simp only [execOp, hv, Sem.run_bind]
          rw [run_arrayAt _ _ _ _ _ _ _ hu.1 hob]; rfl
        · obtain ⟨hjN, rfl⟩ := celB_get hj
          have hjl : j < l.length := by omega
          obtain ⟨u, hu, hru⟩ := g5 j l[j] 0 (.val (.int .u8 (l[j]).toNat)) (List.getElem?_eq_getElem hjl) rfl
          have := hru.val_eq; subst this
          simp only [LK.sz, Nat.mul_one, Nat.add_zero] at hu
          rw [hu]; simp [List.getD, List.getElem?_eq_getElem hjl]
        · obtain ⟨hjN, rfl⟩ := celB_get hj
          simp only [Nat.zero_add]; exact .val rfl
      · cases h
    · cases h
  · cases h
end
end Go.Mt
