/-
  This claim's own program library, part 4: the letters MtZF to MtZS.
-/
import Derived.Test.YtgobmfkffhomaaaMtQ3
/-
  Mt, part ZF: what a row tells of a table.
-/
set_option linter.unusedSimpArgs false
set_option linter.unusedVariables false
namespace Go.Mt
open Go.RowKit Go.ChangeShapes Go.WideShapes
variable {P : Program}
theorem rd_tbl {t2 t3 e : TypeId} {g : Entry → Prop} (h2 : P.underlying t2 = some (.slice t3)) (c2 : P.cellsOf t3 = 1) (h3 : P.underlying t3 = some (.slice e)) (c3 : P.cellsOf e = 5)
    (he : Rds P e 5 (fun ys => ∃ x : Entry, LK.enc .ent x = ys ∧ g x)) : Rd P t2 (fun y => ∃ l : List (List Entry), y = .lst .tbl l ∧ l.length ≤ maxLen ∧ ∀ m ∈ l, m.length ≤ maxLen ∧ ∀ x ∈ m, g x) :=
  rd_slc (k := .tbl) (g := fun m : List Entry => m.length ≤ maxLen ∧ ∀ x ∈ m, g x) h2 c2 (rds_one (rd_slc (k := .ent) h3 c3 he) (fun y ⟨l, e, h1, h2⟩ => ⟨l, by rw [e]; rfl, h1, h2⟩))
theorem rds_tblS {t t2 t3 e : TypeId} {fs : Array Field} {g : Entry → Prop} (ht : P.underlying t = some (.struct fs)) (hb : strB P t fs 1 = true) (hf : fs.toList.map (·.type) = [t2]) (h2 : P.underlying t2 = some (.slice t3)) (c2 : P.cellsOf t3 = 1)
    (h3 : P.underlying t3 = some (.slice e)) (c3 : P.cellsOf e = 5) (he : Rds P e 5 (fun ys => ∃ x : Entry, LK.enc .ent x = ys ∧ g x)) :
    Rds P t 1 (fun ys => ∃ l : List (List Entry), [PV.lst .tbl l] = ys ∧ l.length ≤ maxLen ∧ ∀ m ∈ l, m.length ≤ maxLen ∧ ∀ x ∈ m, g x) := by
  have hr := rd_tbl h2 c2 h3 c3 he
  refine (rds_struct (gs := [(t2, fun y => ∃ l : List (List Entry), y = .lst .tbl l ∧ l.length ≤ maxLen ∧ ∀ m ∈ l, m.length ≤ maxLen ∧ ∀ x ∈ m, g x)]) ht hb (rdAllF_of (by simpa using hf) (fun p hp => ?_))).imp (fun ys hy => ?_)
  · simp at hp; subst hp; exact hr
  · match ys, hy with
    | [y], ⟨⟨l, e, h1, h2⟩, _⟩ => exact ⟨l, by rw [e], h1, h2⟩
end Go.Mt

/-
  Mt, part ZG: an array variable's block as a list of one's own.
-/
set_option linter.unusedSimpArgs false
set_option linter.unusedVariables false
namespace Go.Mt
open Go.RowKit
section
variable {P : Program} {E : Env} {B : Nat → Prop} {W : World} {M0 : Mem} {Q : Exit → Act → World → Prop} {k : List Itm} {st : St}

/-- An array of truth values: its block as a list. -/
theorem G_arr (n : Nat) {b : Nat} {ty : TypeId} (l : List Bool) (hn : st.H n = some (.blk b ty (l.map fun x => .pv (bv x)))) (hl : l.length ≤ maxLen)
    (hk : G P E B W M0 Q k ⟨st.f, updH st.H n (some (.own (.slice (some ⟨b, 0, none⟩) l.length l.length) ty .bls l)), st.nx⟩) : G P E B W M0 Q k st := by
  intro M a w hS
  have hSH : SatH B W (updH st.H n (some (.own (.slice (some ⟨b, 0, none⟩) l.length l.length) ty .bls l))) M w := by
    refine ⟨hS.h.below, hS.h.base, hS.h.mem, fun q x hx => ?_, fun q q' x x' c hq e1 e2 hb => ?_⟩
    · by_cases e : q = n
      · subst e; rw [updH_same] at hx; cases hx
        obtain ⟨q1, q2, us, q3, q4⟩ := hS.h.ok _ _ hn
        refine .inr ⟨b, l.length, us, rfl, q1, q2, q3, Nat.le_refl _, hl, ?_, fun i x j y e1 e2 => ?_⟩
        · have := q4.1; simp at this; show us.size = l.length * 1; omega
        · have hj : j = 0 := by
            have := (List.getElem?_eq_some_iff.1 e2).1; simp only [LK.enc, List.length_singleton] at this; omega
          subst hj
          simp only [LK.enc, List.getElem?_cons_zero, Option.some.injEq] at e2
          subst e2
          have hlt := (List.getElem?_eq_some_iff.1 e1).1
          obtain ⟨u, hu⟩ := arr_get us i (by have := q4.1; simp at this; omega)
          have := q4.2 i (.pv (bv x)) u (by rw [List.getElem?_map, e1]; rfl) (by simpa using hu)
          refine ⟨u, by show us[i * 1 + 0]? = some u; simpa using hu, ?_⟩
          cases this with
          | pv h => exact h
      · rw [updH_ne _ _ e] at hx; exact hS.h.ok q x hx
    · have key : ∀ q x, updH st.H n (some (.own (.slice (some ⟨b, 0, none⟩) l.length l.length) ty .bls l)) q = some x → ∃ y, st.H q = some y ∧ y.block = x.block := by
        intro q x hx
        by_cases e : q = n
        · subst e; rw [updH_same] at hx; cases hx; exact ⟨_, hn, rfl⟩
        · rw [updH_ne _ _ e] at hx; exact ⟨x, hx, rfl⟩
      obtain ⟨y, y1, y2⟩ := key q x e1
      obtain ⟨y', y1', y2'⟩ := key q' x' e2
      rw [← y2'] ; exact hS.h.inj q q' y y' c hq y1 y1' (by rw [y2]; exact hb)
  exact hk M a w ⟨hSH, hS.old, hS.d, hS.n, hS.f, hS.g⟩
/-- An array of truth values as it is made. -/
theorem G_arrF (n N : Nat) {b : Nat} {ty : TypeId} (hn : st.H n = some (.blk b ty (List.replicate N (.pv (bv false))))) (hl : N ≤ maxLen)
    (hk : G P E B W M0 Q k ⟨st.f, updH st.H n (some (.own (.slice (some ⟨b, 0, none⟩) N N) ty .bls (List.replicate N false))), st.nx⟩) : G P E B W M0 Q k st := by
  refine G_arr n (b := b) (ty := ty) (List.replicate N false) (by rw [List.map_replicate]; exact hn) (by rw [List.length_replicate]; exact hl) ?_
  rw [List.length_replicate]; exact hk
end
end Go.Mt

/-
  Mt, part ZH: functions that are lent blocks and hand them back turned; all else of memory stays.
-/
set_option linter.unusedSimpArgs false
set_option linter.unusedVariables false
namespace Go.Mt
open Go.RowKit
section
variable {P : Program} {E : Env} {B : Nat → Prop} {W : World} {M0 M F : Mem} {Q : Exit → Act → World → Prop} {k : List Itm} {st : St} {a : Act} {w w' : World} {N : Nat} {mrk : Bool} {H : Nat → Option HB}

theorem rdAll_RAs {rd : Operand → Option A} (hr : ∀ o x, rd o = some x → RA M x (a.eval o)) : ∀ (os : List Operand) (as : List A), rdAll rd os = some as → RAs M as (os.map a.eval).toArray := by
  intro os
  induction os with
  | nil => intro as h; cases h; exact ⟨rfl, by simp⟩
  | cons o os ih =>
    intro as h
    simp only [rdAll] at h
    split at h
    · rename_i x xs h1 h2; cases h
      obtain ⟨i1, i2⟩ := ih _ h2
      refine ⟨by simpa using i1, fun j c v e1 e2 => ?_⟩
      cases j with
      | zero => simp at e1 e2; subst e1 e2; exact hr _ _ h1
      | succ j => simp at e1 e2; exact i2 j c v e1 (by simpa using e2)
    · cases h
theorem RAs.le {M' : Mem} (h : M.le M') {as : List A} {vs : Array Value} (r : RAs M as vs) : RAs M' as vs := ⟨r.1, fun j x v e1 e2 => (r.2 j x v e1 e2).mono h⟩
theorem RAs.ren {σ : Nat → Nat} {as : List A} {vs : Array Value} (r : RAs M as vs) : RAs M (as.map (renA σ)) vs := by
  refine ⟨by rw [List.length_map]; exact r.1, fun j c v e1 e2 => ?_⟩
  rw [List.getElem?_map] at e1
  cases hx : as[j]? with
  | none => rw [hx] at e1; cases e1
  | some x => rw [hx] at e1; cases e1; exact renA_ok (r.2 j x v hx e2)

/-- An operation that is done. -/
def Wanted (all : List Oper) (f : Nat → Option Ent) (o : Oper) : Prop := match o.guard with
  | none => True
  | some (j, b) => ∃ dj, dstOf all j = some dj ∧ f dj = some (.u (bool b))
theorem wanted_ok {all : List Oper} {o : Oper} {ops : List Oper} {rs : List (Nat × Nat)} {S : Nat → Prop} (hS : SatP N mrk B W M0 ops rs S st M a w) (h : Wanted all st.f o) : Region.wanted o (yielded all.toArray a.tmps) = true := by
  unfold Wanted at h
  unfold Region.wanted
  split at h
  · rename_i hg; rw [hg]
  · rename_i j b hg
    rw [hg]
    obtain ⟨dj, h1, h2⟩ := h
    obtain ⟨u, u1, u2⟩ := hS.f _ _ h2
    have := RA.val_inv u2; subst this
    simp [yielded_eq h1, u1]
/-- A CALL OF A FUNCTION THAT IS LENT THE NAMES 'ns'. -/
theorem G_callH {X : Type} {all : List Oper} {i : Nat} {o : Oper} {fo : Operand} {args : List Operand} {tys : List TypeId} {f : Nat} {caps : List C} {as as' : List A} {hs : List HB} {ok : X → Prop} {rx : X → A} {hs' : X → List HB} {f' : X → Nat → Option Ent} (ns : List Nat) (σ : Nat → Nat)
    (hc : CtrH P f as hs ok rx hs') (hd : drp i all = o :: drp (i + 1) all) (hg : Wanted all st.f o) (ho : o.op = .call ⟨.value fo, ⟨args⟩, ⟨tys⟩⟩) (hfo : rdG st.f [] fo = some (.c (.clo f caps)))
    (ha : rdAll (rdG st.f []) args = some as') (hren : (as' ++ caps.map A.c).map (renA σ) = as) (hn : ns.Nodup) (hnx' : allB (fun n => Nat.blt n st.nx) ns = true) (hl : ns.map (fun n => (st.H n).map (renH σ)) = hs.map some)
    (hf : ∀ x, putS E.N i (refsOf all all) st.f o.dst (some (.u (renA (tauH ns st.nx) (rx x)))) = some (f' x))
    (hk : ∀ x, ok x → G P E B W M0 Q (.ops all (i + 1) :: k) ⟨f' x, putHs (clrHs st.H ns) (tauH ns st.nx) (hs' x) 0, st.nx + len (hs' x)⟩) : G P E B W M0 Q (.ops all i :: k) st := by
  intro M a w hS
  show lwp E.ro P all.toArray (after E.ro P Q k) (drp i all) a w
  rw [hd]
  refine lwp_step fun K hK => ?_
  have hw : Region.wanted o (yielded all.toArray a.tmps) = true := wanted_ok hS hg
  rw [if_pos hw]
  obtain ⟨dst, op, ty, pos, aft, guard⟩ := o
  simp only at ho hf; subst ho
  have hr := rdG_ok hS (Γ := []) (by simp)
  have k1 := rdAll_RAs hr _ _ ha
  obtain ⟨hS1, hback⟩ := lend hS.h (hs := hs) hn hl
  obtain ⟨us, hfv, hus⟩ : ∃ us : List Value, a.eval fo = .func (.func f) #[] us.toArray ∧ RCs M caps us := by
    have := hr _ _ hfo
    cases this with | c h =>
    generalize a.eval fo = v at h
    cases h with
    | @clo _ _ us hs hh => exact ⟨us.toList, by simp, by simpa using hs, fun j c u e1 e2 => hh j c u e1 (by simpa using e2)⟩
  have k3 : RAs M (caps.map A.c) us.toArray := by
    refine ⟨by simpa using hus.1, fun j c u e1 e2 => ?_⟩
    rw [List.getElem?_map] at e1
    cases hc : caps[j]? with
    | none => rw [hc] at e1; cases e1
    | some x => rw [hc] at e1; cases e1; exact .c (hus.2 j x u hc (by simpa using e2))
  have k2 : RAs M as ((args.map a.eval).toArray ++ us.toArray) := by rw [← hren]; exact (k1.app k3).ren
  obtain ⟨⟨fn, q1, q2, q3⟩, hcall⟩ := hc
  have hrun : (execOp a.eval ⟨dst, .call ⟨.value fo, ⟨args⟩, ⟨tys⟩⟩, ty, pos, aft, guard⟩).run P w = .ok (.enter f ((args.map a.eval).toArray ++ us.toArray)) w := by
    have e3' : fn.name ≠ "runtime.NumGoroutine" := by simpa using q3
    have e2' : fn.body ≠ none := by intro e; rw [e] at q2; cases q2
    simp [execOp, resolve, invoke, hfv, Deferred.ofValue, callFunc, q1, e2', e3']
  unfold Oper.wp
  rw [hrun, Oper.upon_enter]
  refine (hcall M w _ hS1 k2).mono fun e w' ⟨v, M', x, he, hM', hok, hv, hS'⟩ => ?_
  subst he
  obtain ⟨hA, hE⟩ := hback M' w' (hs' x) (tauH ns st.nx) hM' hS'
  refine hK _ _ (hk x hok M' _ w' (SatP.put hS (S' := fun j => j < i + 1) (Nat.lt_irrefl i) (fun j hj => Nat.lt_succ_of_lt hj) hE hA (hf x) (put_defers _ _) (fun e' he => ?_) (by simp)))
  cases he
  exact renA_ok hv

/-! ### the contract's own proof -/
def FnPostH {X : Type} (M0 : Mem) (W : World) (hs : List HB) (ok : X → Prop) (rx : X → A) (hs' : X → List HB) : Ending → World → Prop :=
  fun e w' => ∃ v M' x, e = .returned v ∧ Mem.ext (frn W hs) M0 M' ∧ ok x ∧ RA M' (rx x) v ∧ SatH (frn W hs) W (nth (hs' x)) M' w'
def oneA (as : List A) : A := match as with
  | [x] => x
  | xs => .t xs
theorem sat_names {X : Type} {hs' : List HB} {ms : List Nat} {σ : Nat → Nat} (hS : SatH B W H M w) (hm : ms.Nodup) (hl : ms.map (fun n => (H n).map (renH σ)) = hs'.map some) : SatH B W (nth hs') M w := by
  have hlen : ms.length = hs'.length := by have := congrArg List.length hl; simpa using this
  have hget : ∀ (j : Nat) (y : HB), hs'[j]? = some y → ∃ n x, ms[j]? = some n ∧ H n = some x ∧ y = renH σ x := by
    intro j y e
    have hlt := (List.getElem?_eq_some_iff.1 e).1
    have hn' : ms[j]? = some ms[j] := List.getElem?_eq_getElem (by omega)
    have := congrArg (fun l => l[j]?) hl
    simp only [List.getElem?_map, hn', e, Option.map_some, Option.some.injEq] at this
    cases hx : H ms[j] with
    | none => rw [hx] at this; cases this
    | some x => rw [hx] at this; cases this; exact ⟨_, x, hn', hx, rfl⟩
  refine ⟨hS.below, hS.base, hS.mem, fun j y hy => ?_, fun j j' y y' b hj h1 h2 hb => ?_⟩
  · rw [nth_eq] at hy
    obtain ⟨n, x, _, hx, rfl⟩ := hget j y hy
    exact renH_ok (hS.ok n x hx)
  · rw [nth_eq] at h1 h2
    obtain ⟨n, x, e1, hx, rfl⟩ := hget j y h1
    obtain ⟨n', x', e2, hx', rfl⟩ := hget j' y' h2
    rw [renH_block] at hb ⊢
    exact hS.inj n n' x x' b (fun e => by subst e; exact hj (nodup_get hm e1 e2)) hx hx' hb
theorem ret_coreH {X : Type} (hmk : E.mrk = false) (hT : TbOk P E.T) {fn : Func} {ops : List Oper} {rs : List (Nat × Nat)} {j : Nat} (hj : j = 0) (hops : ops = []) (hrs : rs = []) {hs : List HB} (hS : Sat E.N E.mrk (frn W hs) W M0 ops rs j st M a w) {as : List A} {ob : Prop} (h : resAll E.T st.f st.H fn.results.toList = some (as, ob)) (hob : ob)
    {ok : X → Prop} {rx : X → A} {hs' : X → List HB} (x : X) (hok : ok x) (ms : List Nat) (σ : Nat → Nat) (hr : renA σ (oneA as) = rx x) (hm : ms.Nodup) (hl : ms.map (fun n => (st.H n).map (renH σ)) = (hs' x).map some) :
    LeavesInM Fence.wide 0 P fn a.tmps (FnPostH M0 W hs ok rx hs') a.defers .returning w := by
  subst hj hops hrs
  rw [hS.nodef hmk]
  obtain ⟨vs, h1, h2, h2', h3⟩ := resAll_ok hT hS (g := fun | .tmp t => pure (a.tmps.getD t undef) | .cell t ty => do loadVar ty (← asAddr (a.tmps.getD t undef))) (fun _ => rfl) (fun _ _ => rfl) h hob
  have hres : (results fn a.tmps).run P w = .ok (if hh : vs.toArray.size = 1 then vs.toArray[0] else .tuple vs.toArray) w := by
    unfold results
    rw [Array.mapM_eq_mapM_toList]
    simp only [Sem.run_bind, Sem.run_map]
    exact congrArg (fun r : Result (List Value) => (r.andThen fun a w' => Result.ok a.toArray w').andThen fun a w' => Sem.run P (pure (if h : a.size = 1 then a[0] else Value.tuple a)) w') h1
  refine ⟨_, hres, _, M, x, rfl, ⟨hS.d.kp, hS.old⟩, hok, ?_, sat_names (X := X) hS.h hm hl⟩
  rw [← hr]
  refine renA_ok ?_
  match as, vs, h2, h3 with
  | [y], [v], _, h3 => exact h3 0 y v rfl rfl
  | [], [], _, _ => exact .t rfl (by simp)
  | y :: y' :: ys, v :: v' :: vs, h2, h3 => exact .t (by simpa using h2) (fun j c u e1 e2 => h3 j c u e1 (by simpa using e2))
theorem G_retH {X : Type} {hs : List HB} (hmk : E.mrk = false) (hT : TbOk P E.T) {fn : Func} {c : Code} (hc : isRet c = true) {as : List A} {ob : Prop} (h : resAll E.T st.f st.H fn.results.toList = some (as, ob)) (hob : ob)
    {ok : X → Prop} {rx : X → A} {hs' : X → List HB} (x : X) (hok : ok x) (ms : List Nat) (σ : Nat → Nat) (hr : renA σ (oneA as) = rx x) (hm : ms.Nodup) (hl : ms.map (fun n => (st.H n).map (renH σ)) = (hs' x).map some) :
    G P E (frn W hs) W M0 (bpost P fn (FnPostH M0 W hs ok rx hs')) (.code c :: k) st := by
  intro M a w hS
  cases c <;> simp only [isRet, Bool.false_eq_true] at hc
  simp only [after]
  exact wpIn_ret (after_ret (ret_coreH hmk hT rfl rfl rfl hS h hob x hok ms σ hr hm hl))
theorem G_endH {X : Type} {hs : List HB} (hmk : E.mrk = false) (hT : TbOk P E.T) {fn : Func} {as : List A} {ob : Prop} (h : resAll E.T st.f st.H fn.results.toList = some (as, ob)) (hob : ob)
    {ok : X → Prop} {rx : X → A} {hs' : X → List HB} (x : X) (hok : ok x) (ms : List Nat) (σ : Nat → Nat) (hr : renA σ (oneA as) = rx x) (hm : ms.Nodup) (hl : ms.map (fun n => (st.H n).map (renH σ)) = (hs' x).map some) :
    G P E (frn W hs) W M0 (bpost P fn (FnPostH M0 W hs ok rx hs')) [] st :=
  fun M a w hS => ret_coreH hmk hT rfl rfl rfl hS h hob x hok ms σ hr hm hl
def initH (args : List A) (hs : List HB) : St := ⟨fun s => match nth args s with
  | some x => some (.u x)
  | none => none, nth hs, len hs⟩
theorem CtrH_intro {X : Type} {f : FuncId} {fn : Func} {args : List A} {hs : List HB} {ok : X → Prop} {rx : X → A} {hs' : X → List HB} (hf : P.funcs[f]? = some fn) (hb : fn.body.isNone = false) (hnm : (fn.name == "runtime.NumGoroutine") = false) (hN : fn.ntmps = E.N) (hl : Nat.ble (len args) E.N = true)
    (h : ∀ M0 W, M0.on W → G P E (frn W hs) W M0 (bpost P fn (FnPostH M0 W hs ok rx hs')) [.code (fbody fn)] (initH args hs)) (hro : E.ro = none := by rfl) : CtrH P f args hs ok rx hs' := by
  refine ⟨⟨fn, hf, hb, hnm⟩, fun M0 w vs hS0 hra => ?_⟩
  cases hbd : fn.body with
  | none => rw [hbd] at hb; cases hb
  | some c =>
    rw [Nat.ble_eq, len_eq] at hl
    refine (callsIn_wide (n := 0)).1 (callsIn_of_wp_marks hf hbd trivial ?_)
    have hg := h M0 w hS0.mem M0 ⟨vs ++ Array.replicate (fn.ntmps - vs.size) undef, []⟩ w ⟨hS0, fun _ _ e _ => e, .nil rfl (Mem.le_refl _), by simp [hra.1]; omega, fun s e he => ?_, fun s j b x hx => ?_⟩
    · have hfb : fbody fn = c := by simp [fbody, hbd]
      have hg2 : cwp E.ro P (fbody fn) (after E.ro P (bpost P fn (FnPostH M0 w hs ok rx hs')) []) _ w := hg
      rw [hfb, hro] at hg2
      exact wpIn_mono hg2 (fun e a w q => q)
    · simp only [initH, nth_eq] at he
      split at he
      · rename_i x hx; cases he
        have hlt : s < vs.size := by rw [hra.1]; exact (List.getElem?_eq_some_iff.1 hx).1
        obtain ⟨u, hu⟩ := arr_get vs s hlt
        exact ⟨u, by simp [Array.getElem?_append_left hlt, hu], hra.2 s x u hx hu⟩
      · cases he
    · simp only [initH, nth_eq] at hx
      split at hx <;> cases hx
end
end Go.Mt

/-
  Mt, part ZI: structs within structs compared.
-/
set_option linter.unusedSimpArgs false
set_option linter.unusedVariables false
namespace Go.Mt
open Go.RowKit
section
variable {P : Program} {E : Env} {B : Nat → Prop} {W : World} {M0 M F : Mem} {Q : Exit → Act → World → Prop} {k : List Itm} {st : St} {a : Act} {w w' : World}

/-- What a comparison of two structs comes to. -/
def EqS (P : Program) (t : TypeId) (xs ys : List C) (b : Bool) : Prop := P.eqGuardType P.depth t = false ∧ ∀ (M : Mem) (w : World) (us vs : Array Value), RCs M xs us.toList → RCs M ys vs.toList → (Op.equalIn 10000 t (.agg us) (.agg vs)).run P w = .ok b w
theorem G_eqS {all : List Oper} {i : Nat} {o : Oper} {t t2 : TypeId} {x y : Operand} {xs ys : List C} {b : Bool} {f' : Nat → Option Ent}
    (he : EqS P t xs ys b) (hd : drp i all = o :: drp (i + 1) all) (hg : o.guard = none) (ho : o.op = .binOp .eql t x y t2) (hx : rdG st.f [] x = some (.g xs)) (hy : rdG st.f [] y = some (.g ys))
    (hf : putS E.N i (refsOf all all) st.f o.dst (some (.u (bool b))) = some f') (hk : G P E B W M0 Q (.ops all (i + 1) :: k) ⟨f', st.H, st.nx⟩) : G P E B W M0 Q (.ops all i :: k) st := by
  intro M a w hS
  show lwp E.ro P all.toArray (after E.ro P Q k) (drp i all) a w
  rw [hd]
  refine lwp_step fun K hK => ?_
  have hw : Region.wanted o (yielded all.toArray a.tmps) = true := by unfold Region.wanted; rw [hg]
  rw [if_pos hw]
  obtain ⟨dst, op, ty, pos, aft, guard⟩ := o
  simp only at ho hg hf; subst ho hg
  have hr := rdG_ok hS (Γ := []) (by simp)
  obtain ⟨us, e1, hus⟩ : ∃ us, a.eval x = .agg us ∧ RCs M xs us.toList := by
    have := hr _ _ hx
    generalize a.eval x = v at this
    cases this with | g h => exact ⟨_, rfl, h⟩
  obtain ⟨vs, e2, hvs⟩ : ∃ us, a.eval y = .agg us ∧ RCs M ys us.toList := by
    have := hr _ _ hy
    generalize a.eval y = v at this
    cases this with | g h => exact ⟨_, rfl, h⟩
  have hrun : (execOp a.eval ⟨dst, .binOp .eql t x y t2, ty, pos, aft, none⟩).run P w = .ok (.value (.bool b)) w := by
    simp only [execOp, Sem.run_bind, e1, e2, run_eqGuard_agg w .eql t x y us vs he.1, Result.andThen_ok, run_eql_struct, he.2 M w us vs hus hvs]
    rfl
  refine wp_value hrun (hK _ _ (hk M _ w (SatP.put hS (S' := fun j => j < i + 1) (Nat.lt_irrefl i) (fun j hj => Nat.lt_succ_of_lt hj) (Mem.ext_refl _ _) hS.h hf (put_defers _ _) (fun e' he => ?_) (by simp))))
  cases he
  exact .c (.pv (.val rfl))
/-- A number, and a flat struct behind it. -/
theorem EqS_two {t t0 t1 : TypeId} {k : IntKind} {f0 f1 : Field} {fs2 : Array Field} {zs ys' xs' : List C} {a b : Int} {r : Bool} {m : Nat}
    (hg : P.eqGuardType P.depth t = false) (hu : P.underlying t = some (.struct #[f0, f1])) (hp : P.stoodInHeld t = false)
    (u0 : P.underlying f0.type = some (.int k)) (o0 : f0.offset = 0) (n0 : f0.name ≠ "_")
    (u1 : P.underlying f1.type = some (.struct fs2)) (o1 : f1.offset = 1) (n1 : f1.name ≠ "_") (p1 : P.stoodInHeld f1.type = false) {inf : TypeInfo} (c1 : P.info? f1.type = some inf) (cm : inf.size = m)
    (hq : eqFld P 0 zs fs2.toList = true) (hr : eqCs zs xs' ys' = some r) (lx : xs'.length = m) (ly : ys'.length = m) :
    EqS P t (.pv (.val (.int k a)) :: xs') (.pv (.val (.int k b)) :: ys') (decide (a = b) && r) := by
  refine ⟨hg, fun M w us vs hus hvs => ?_⟩
  have hf : P.fieldsOf t = #[f0, f1] := by unfold Program.fieldsOf; rw [hu]
  have hf1 : P.fieldsOf f1.type = fs2 := by unfold Program.fieldsOf; rw [u1]
  rw [show (10000 : Nat) = 9999 + 1 from rfl, run_equalIn_struct w 9999 t us vs (by rw [hf]; exact hu) hp, hf]
  obtain ⟨x0, us', g1, g2, g3⟩ := hus.cell
  obtain ⟨y0, vs', k1, k2, k3⟩ := hvs.cell
  have hx0 : x0 = .int k a := by cases g2 with | pv r => exact r.val_eq
  have hy0 : y0 = .int k b := by cases k2 with | pv r => exact r.val_eq
  subst hx0 hy0
  have gu : us[0]? = some (.int k a) := by have := congrArg (fun l => l[0]?) g1; simpa using this
  have gv : vs[0]? = some (.int k b) := by have := congrArg (fun l => l[0]?) k1; simpa using this
  have su : us.size = m + 1 := by have := hus.1; simp at this; omega
  have sv : vs.size = m + 1 := by have := hvs.1; simp at this; omega
  have q1 := run_part1 (w := w) (P := P) u0 rfl (xs := us) (off := f0.offset) (v := .int k a) (by rw [o0]; exact gu)
  have q2 := run_part1 (w := w) (P := P) u0 rfl (xs := vs) (off := f0.offset) (v := .int k b) (by rw [o0]; exact gv)
  have pt : ∀ zs : Array Value, (part f1.type zs f1.offset).run P w = .ok (.agg (zs.extract 1 (1 + m))) w := by
    intro zs
    have hi : (Go.isAgg f1.type).run P w = .ok true w := by
      unfold Go.isAgg
      simp only [Sem.run_bind, run_underlying u1, Result.andThen_ok]; rfl
    have hs : (Go.sizeOf f1.type).run P w = .ok m w := by
      simp [Go.sizeOf, run_typeInfo c1, cm]
    simp [part, hi, hs, o1]
  have sub : ∀ {zs : Array Value} {l : List Value} {z : Value}, zs.toList = z :: l → zs.size = m + 1 → (zs.extract 1 (1 + m)).toList = l := by
    intro zs l z h1 h2
    have hl : l.length = m := by have := congrArg List.length h1; simp at this; omega
    rw [Array.toList_extract, h1]
    simp only [List.extract, List.drop_succ_cons, List.drop_zero, Nat.add_sub_cancel_left]
    exact List.take_of_length_le (by omega)
  have e1 : (Op.equalIn (9998 + 1) f1.type (.agg (us.extract 1 (1 + m))) (.agg (vs.extract 1 (1 + m)))).run P w = .ok r w := by
    rw [run_equalIn_struct w 9998 f1.type _ _ (by rw [hf1]; exact u1) p1, hf1]
    exact eqFields_ok 9997 hq hr (by rw [List.drop_zero, sub g1 su]; exact g3) (by rw [List.drop_zero, sub k1 sv]; exact k3)
  have e0 : (Op.equalIn (9998 + 1) f0.type (.int k a) (.int k b)).run P w = .ok (decide (a = b)) w := by
    rw [run_equalIn_int w 9998 f0.type k k a b u0]; congr 1
  show (Op.eqFields (9998 + 1) us vs [f0, f1]).run P w = _
  simp only [Op.eqFields, if_pos n0, if_pos n1, Sem.run_bind, q1, q2, Result.andThen_ok, e0, pt us, pt vs, e1]
  have e2 : (Op.equalIn 9999 f1.type (.agg (us.extract 1 (1 + m))) (.agg (vs.extract 1 (1 + m)))).run P w = .ok r w := e1
  cases hab : decide (a = b) <;> cases r <;> simp [pt us, pt vs, e2]
end
end Go.Mt

/-
  Mt, part ZJ: a list of one's own by its block: cut, laid over itself, cleared behind its end.
-/
set_option linter.unusedSimpArgs false
set_option linter.unusedVariables false
namespace Go.Mt
open Go.RowKit
section
variable {P : Program} {E : Env} {B : Nat → Prop} {W : World} {M0 M F : Mem} {Q : Exit → Act → World → Prop} {k : List Itm} {st : St} {a : Act} {w w' : World} {H : Nat → Option HB}

theorem SatH.rehb (hS : SatH B W H M w) {n : Nat} {x x' : HB} (hn : H n = some x) (hx : HBok M B w x → HBok M B w x') (hb : ∀ b, x'.block = some b → x.block = some b) : SatH B W (updH H n (some x')) M w := by
  refine ⟨hS.below, hS.base, hS.mem, fun q y hy => ?_, fun q q' y y' c hq e1 e2 hc => ?_⟩
  · by_cases e : q = n
    · subst e; rw [updH_same] at hy; cases hy; exact hx (hS.ok _ _ hn)
    · rw [updH_ne _ _ e] at hy; exact hS.ok q y hy
  · have key : ∀ q y, updH H n (some x') q = some y → ∃ z, H q = some z ∧ ∀ b, y.block = some b → z.block = some b := by
      intro q y hy
      by_cases e : q = n
      · subst e; rw [updH_same] at hy; cases hy; exact ⟨_, hn, hb⟩
      · rw [updH_ne _ _ e] at hy; exact ⟨y, hy, fun _ h => h⟩
    obtain ⟨z, z1, z2⟩ := key q y e1
    obtain ⟨z', z1', z2'⟩ := key q' y' e2
    exact fun h => hS.inj q q' z z' c hq z1 z1' (z2 c hc) (z2' c h)
/-- A list of one's own: nil, or from the head of a block on. -/
theorem G_unown (n : Nat) {v : Value} {ty : TypeId} {lk : LK} {l : List lk.T} (hn : st.H n = some (.own v ty lk l)) (h0 : l = [] → v = .slice none 0 0 → G P E B W M0 Q k st)
    (h1 : ∀ b cap, v = .slice (some ⟨b, 0, none⟩) l.length cap → l.length ≤ cap → cap ≤ maxLen → G P E B W M0 Q k st) : G P E B W M0 Q k st := by
  intro M a w hS
  rcases hS.h.ok n _ hn with ⟨h2, h3⟩ | ⟨b, cap, us, h2, _, _, _, h3, h4, _⟩
  · exact h0 h3 h2 M a w hS
  · exact h1 b cap h2 h3 h4 M a w hS
/-- A slice in a variable's cell of which a name knows. -/
theorem G_linkB (n j m : Nat) {b : Nat} {ty ty' : TypeId} {cs : List C} {v : Value} {lk : LK} {l : List lk.T} (hn : st.H n = some (.blk b ty cs)) (hj : nth cs j = some (.pv (.val v))) (hm : st.H m = some (.own v ty' lk l))
    (hk : G P E B W M0 Q k ⟨st.f, updH st.H n (some (.blk b ty (cs.set j (.own m v)))), st.nx⟩) : G P E B W M0 Q k st := by
  intro M a w hS
  have hv : v.oneCell' = true := OwnSl.one (hS.h.ok _ _ hm)
  refine hk M a w ⟨hS.h.rehb hn (fun h => ?_) (fun c hc => hc), hS.old, hS.d, hS.n, hS.f, hS.g⟩
  obtain ⟨h1, h2, us, h3, h4⟩ := h
  refine ⟨h1, h2, us, h3, by rw [List.length_set]; exact h4.1, fun q c u e1 e2 => ?_⟩
  rw [List.getElem?_set] at e1
  split at e1
  · rename_i hq; subst hq
    split at e1
    · cases e1
      have := h4.2 j _ u (by rw [← nth_eq]; exact hj) e2
      cases this with
      | pv h => have := h.val_eq; subst this; exact .own hv
    · cases e1
  · exact h4.2 q c u e1 e2
theorem Lies.take {lk : LK} {l : List lk.T} {us : List Value} (h : Lies M lk l us) (i : Nat) (hi : i ≤ l.length) : Lies M lk (l.take i) (us.take (i * lk.sz)) := by
  refine ⟨by rw [List.length_take, List.length_take, h.1, Nat.min_eq_left hi, Nat.min_eq_left (Nat.mul_le_mul_right _ hi)], fun q x j y e1 e2 => ?_⟩
  rw [List.getElem?_take] at e1
  split at e1
  · rename_i hq
    obtain ⟨u, hu, hr⟩ := h.2 q x j y e1 e2
    have := enc_lt e2
    refine ⟨u, ?_, hr⟩
    rw [List.getElem?_take, if_pos]; exact hu
    calc q * lk.sz + j < q * lk.sz + lk.sz := by omega
      _ = (q + 1) * lk.sz := by rw [Nat.add_mul]; omega
      _ ≤ i * lk.sz := Nat.mul_le_mul_right _ hq
  · cases e1
theorem Lies.drop {lk : LK} {l : List lk.T} {us : List Value} (h : Lies M lk l us) (i : Nat) : Lies M lk (l.drop i) (us.drop (i * lk.sz)) := by
  refine ⟨by rw [List.length_drop, List.length_drop, h.1, Nat.sub_mul], fun q x j y e1 e2 => ?_⟩
  rw [List.getElem?_drop] at e1
  obtain ⟨u, hu, hr⟩ := h.2 _ x j y e1 e2
  refine ⟨u, ?_, hr⟩
  rw [List.getElem?_drop, ← hu]; congr 1; rw [Nat.add_mul]; omega
/-- A list of one's own, shorter. -/
theorem G_trunc (n m : Nat) {b N cap : Nat} {ty : TypeId} {lk : LK} {l : List lk.T} (hn : st.H n = some (.own (.slice (some ⟨b, 0, none⟩) N cap) ty lk l)) (hm : m ≤ l.length)
    (hk : G P E B W M0 Q k ⟨st.f, updH st.H n (some (.own (.slice (some ⟨b, 0, none⟩) m cap) ty lk (l.take m))), st.nx⟩) : G P E B W M0 Q k st := by
  intro M a w hS
  refine hk M a w ⟨hS.h.rehb hn (fun h => ?_) (fun c hc => hc), hS.old, hS.d, hS.n, hS.f, hS.g⟩
  rcases h with ⟨h, _⟩ | ⟨b', cap', us, h, h1, h2, h3, h4, h5, h6, h7⟩
  · cases h
  · cases h
    have hl : (l.take m).length = m := by rw [List.length_take]; omega
    refine .inr ⟨b, cap, us, by rw [hl], h1, h2, h3, by omega, h5, h6, fun i x j y e1 e2 => ?_⟩
    rw [List.getElem?_take] at e1
    split at e1
    · exact h7 i x j y e1 e2
    · cases e1
/-- A list of one's own laid over itself: what stands from 'j' on follows the first 'i0'. -/
theorem G_appRaw {all : List Oper} {i : Nat} {o : Oper} {s1 s2 : Operand} {t : TypeId} (n : Nat) {b N cap i0 j sz z1 z2 : Nat} {z : List C} {ty : TypeId} {lk lk' : LK} {l : List lk.T} {f' : Nat → Option Ent}
    (hT : TbOk P E.T) (hd : drp i all = o :: drp (i + 1) all) (hg : o.guard = none) (ho : o.op = .call ⟨.builtin .append, ⟨[s1, s2]⟩, ⟨[t, t]⟩⟩) (ht : E.T t = some ⟨.slc ty lk', z1, z2, z⟩) (hsz : lk'.sz = lk.sz) (hsz' : lk'.sz = sz)
    (hn : st.H n = some (.own (.slice (some ⟨b, 0, none⟩) N cap) ty lk l)) (h1 : rdG st.f [] s1 = some (pv (.val (sli b 0 0 i0 cap sz)))) (h2 : rdG st.f [] s2 = some (pv (.val (sli b 0 j N cap sz)))) (hN : l.length = N) (hij : i0 ≤ j) (hj : j ≤ l.length)
    (hf : putS E.N i (refsOf all all) st.f o.dst (some (.u (pv (.val (.slice (some ⟨b, 0, none⟩) (i0 + (N - j)) cap))))) = some f')
    (hk : G P E B W M0 Q (.ops all (i + 1) :: k) ⟨f', updH st.H n (some (.own (.slice (some ⟨b, 0, none⟩) (i0 + (N - j)) cap) ty lk (l.take i0 ++ l.drop j))), st.nx⟩) : G P E B W M0 Q (.ops all i :: k) st := by
  subst hN
  intro M a w hS
  show lwp E.ro P all.toArray (after E.ro P Q k) (drp i all) a w
  rw [hd]
  refine lwp_step fun K hK => ?_
  have hw : Region.wanted o (yielded all.toArray a.tmps) = true := by unfold Region.wanted; rw [hg]
  rw [if_pos hw]
  obtain ⟨dst, op, tyo, pos, aft, guard⟩ := o
  simp only at ho hg hf; subst ho hg
  have hr := rdG_ok hS (Γ := []) (by simp)
  have v1 := (hr _ _ h1).val_inv
  have v2 := (hr _ _ h2).val_inv
  have hu := (hT _ _ ht).und
  simp only at hu
  obtain ⟨hu, inf, hinf, hs3⟩ := hu
  have hsz3 : inf.size = lk.sz := by rw [hs3, hsz]
  subst hsz'
  rw [hsz] at v1 v2
  rcases hS.h.ok n _ hn with ⟨h, _⟩ | ⟨b', cap', us, h, g1, g2, g3, g4, g5, g6, g7⟩
  · cases h
  · cases h
    have hL := OwnSl.lies (b := b) g4 g6 g7
    have hLt := hL.take i0 (by omega)
    have hLd := hL.drop j
    rw [List.take_take, Nat.min_eq_left (Nat.mul_le_mul_right _ (by omega))] at hLt
    obtain ⟨news, hnews⟩ : ∃ news, news = (us.toList.take (l.length * lk.sz)).drop (j * lk.sz) := ⟨_, rfl⟩
    rw [← hnews] at hLd
    have hnl : news.length = (l.length - j) * lk.sz := by rw [hLd.1, List.length_drop]
    have hfit : i0 * inf.size + news.length ≤ us.size := by
      rw [hsz3, hnl, g6, ← Nat.add_mul]; exact Nat.mul_le_mul_right _ (by omega)
    have hrun := run_append_room (P := P) w t tyo ty inf hu hinf b i0 cap us g3 ⟨b, if cap = j then 0 else 0 + j * lk.sz, none⟩ (l.length - j) (cap - j) news (by rw [hsz3]; exact hnl)
      (fun q u hq => by
        have hlt := (List.getElem?_eq_some_iff.1 hq).1
        have hne : cap ≠ j := fun e => by
          have : l.length - j = 0 := by omega
          rw [hnl, this] at hlt; omega
        rw [if_neg hne]
        subst hnews
        rw [List.getElem?_drop, List.getElem?_take] at hq
        split at hq
        · have : (⟨b, 0 + j * lk.sz, none⟩ : Addr).add q = ⟨b, j * lk.sz + q, none⟩ := by rw [Addr.add_lit]; simp
          rw [this]; simp only [World.cell?, g3]; simpa using hq
        · cases hq) hLd.one (by omega) hfit
    have ev1 : a.eval s1 = .slice (some ⟨b, 0, none⟩) i0 cap := by rw [v1]; simp [sli]
    have ev2 : a.eval s2 = .slice (some ⟨b, if cap = j then 0 else 0 + j * lk.sz, none⟩) (l.length - j) (cap - j) := by rw [v2]; rfl
    rw [← ev1, ← ev2] at hrun
    have hrun2 := run_builtin_append (P := P) (w := w) (ρ := a.eval) (x := s1) (y := s2) (ts := #[t, t]) (dst := dst) (ty := tyo) (pos := pos) (after := aft) (guard := none) hrun
    rw [Result.andThen_ok] at hrun2
    have hlen : (l.take i0 ++ l.drop j).length = i0 + (l.length - j) := by simp; omega
    have hok : HBok M B (w.setRow b (us.toList.take (i0 * inf.size) ++ news ++ us.toList.drop (i0 * inf.size + news.length)).toArray) (.own (.slice (some ⟨b, 0, none⟩) (i0 + (l.length - j)) cap) ty lk (l.take i0 ++ l.drop j)) := by
      show OwnSl M B _ _ ty lk _
      rw [← hlen, hsz3]
      have hLL := hLt.append hLd
      refine OwnSl.mk g1 g2 (setRow_heap w b us _ ty _ g3) (by rw [hlen]; omega) g5 ?_ ?_
      · rw [hsz3] at hfit
        simp only [List.size_toArray, List.length_append, List.length_take, List.length_drop, Array.length_toList]
        omega
      · rw [List.toList_toArray, List.take_left' hLL.1]
        exact hLL
    refine wp_value hrun2 (hK _ _ (hk M _ _ (SatP.put hS (S' := fun j => j < i + 1) (Nat.lt_irrefl i) (fun j hj => Nat.lt_succ_of_lt hj) (Mem.ext_refl _ _) ?_ hf (put_defers _ _) (fun e' he => ?_) (by simp))))
    · refine hS.h.step (row := some b) (grownBy_setRow w b _) (fun b' hb' => by cases hb'; exact ⟨g1, g2⟩) (nn := n) (fun m x hm hx => ?_) (updH_same _ _ _) hok (fun b' hb' => .inr hb')
      rw [updH_ne _ _ hm] at hx
      exact ⟨hx, fun b' hb' => by cases hb'; exact hS.h.inj n m _ x b (fun e => hm e.symm) hn hx rfl⟩
    · cases he
      exact .c (.pv (.val rfl))
theorem zero_one {ty : TypeId} {ie : TI} (h : TyOk P ty ie) : ∃ inf z, P.info? ty = some inf ∧ inf.size = ie.size ∧ inf.zero = some z ∧ z.cells.size = ie.size ∧ ∀ u ∈ z.cells.toList, u.oneCell' = true := by
  obtain ⟨inf, z, i1, i2, i3, i4, i5, i6⟩ := h.info
  exact ⟨inf, z, i1, i2, i4, i5, (i6 (fun _ => none)).one⟩
theorem zeroCells_one {z : Array Value} (hz : ∀ u ∈ z.toList, u.oneCell' = true) (hp : 0 < z.size) (n : Nat) : ∀ u ∈ (Builtin.zeroCells z n).toList, u.oneCell' = true := by
  intro u hu
  simp only [Builtin.zeroCells, Array.toList_map, List.mem_map] at hu
  obtain ⟨i, _, rfl⟩ := hu
  have hlt := Nat.mod_lt i hp
  rw [getElem!_pos z _ hlt]
  exact hz _ (by simp)
theorem run_builtin_clear {ρ : Operand → Value} {x : Operand} {ts : Array TypeId} {dst : Option Tmp} {ty : TypeId} {pos : String} {after : Array Edge} {guard : Option (Nat × Bool)} {r : Result Value}
    (h : (Builtin.clear_ ts ty #[ρ x]).run P w = r) :
    (execOp ρ ⟨dst, .call ⟨.builtin .clear, #[x], ts⟩, ty, pos, after, guard⟩).run P w = r.andThen fun v w' => .ok (.value v) w' := by
  simp [execOp, resolve, invoke, Go.builtin, h]
/-- What stands behind a list's end is cleared. -/
theorem G_clearRaw {all : List Oper} {i : Nat} {o : Oper} {s1 : Operand} {t : TypeId} (n : Nat) {b N cap lo hi sz z1 z2 : Nat} {z : List C} {ty : TypeId} {ie : TI} {lk lk' : LK} {l : List lk.T} {f' : Nat → Option Ent}
    (hT : TbOk P E.T) (hd : drp i all = o :: drp (i + 1) all) (hg : o.guard = none) (ho : o.op = .call ⟨.builtin .clear, ⟨[s1]⟩, ⟨[t]⟩⟩) (ht : E.T t = some ⟨.slc ty lk', z1, z2, z⟩) (hte : E.T ty = some ie) (hsz : lk'.sz = lk.sz) (hsz' : lk'.sz = sz)
    (hn : st.H n = some (.own (.slice (some ⟨b, 0, none⟩) N cap) ty lk l)) (h1 : rdG st.f [] s1 = some (pv (.val (sli b 0 lo hi cap sz)))) (hlo : l.length ≤ lo) (hhi : hi ≤ cap)
    (hf : putS E.N i (refsOf all all) st.f o.dst (some (.u (.t []))) = some f')
    (hk : G P E B W M0 Q (.ops all (i + 1) :: k) ⟨f', st.H, st.nx⟩) : G P E B W M0 Q (.ops all i :: k) st := by
  intro M a w hS
  show lwp E.ro P all.toArray (after E.ro P Q k) (drp i all) a w
  rw [hd]
  refine lwp_step fun K hK => ?_
  have hw : Region.wanted o (yielded all.toArray a.tmps) = true := by unfold Region.wanted; rw [hg]
  rw [if_pos hw]
  obtain ⟨dst, op, tyo, pos, aft, guard⟩ := o
  simp only at ho hg hf; subst ho hg
  have hr := rdG_ok hS (Γ := []) (by simp)
  have v1 := (hr _ _ h1).val_inv
  have hu := (hT _ _ ht).und
  simp only at hu
  obtain ⟨hu, inf, hinf, hs3⟩ := hu
  subst hsz'
  rw [hsz] at v1
  obtain ⟨inf', zv, i1, i2, i4, i5, i6⟩ := zero_one (hT _ _ hte)
  have : inf' = inf := by rw [hinf] at i1; cases i1; rfl
  subst this
  have hzs : zv.cells.size = lk.sz := by rw [i5, ← i2, hs3, hsz]
  have post : ∀ w', SatH B W st.H M w' → K (({ a with } : Act).put dst (.tuple #[])) w' := fun w' hA =>
    hK _ _ (hk M _ w' (SatP.put hS (S' := fun j => j < i + 1) (Nat.lt_irrefl i) (fun j hj => Nat.lt_succ_of_lt hj) (Mem.ext_refl _ _) hA hf (put_defers _ _) (fun e' he => by cases he; exact .t rfl (by simp)) (by simp)))
  have ev1 : a.eval s1 = .slice (some ⟨b, if cap = lo then 0 else 0 + lo * lk.sz, none⟩) (hi - lo) (cap - lo) := by rw [v1]; rfl
  by_cases hz : hi - lo = 0
  · have hrun : (execOp a.eval ⟨dst, .call ⟨.builtin .clear, #[s1], #[t]⟩, tyo, pos, aft, none⟩).run P w = .ok (.value (.tuple #[])) w := by
      rw [run_builtin_clear (r := .ok (.tuple #[]) w)]
      · rfl
      · simp [Builtin.clear_, run_underlying hu, ev1, hz]
    exact wp_value hrun (post w hS.h)
  · rcases hS.h.ok n _ hn with ⟨h, _⟩ | ⟨b', cap', us, h, g1, g2, g3, g4, g5, g6, g7⟩
    · cases h
    · cases h
      have hne : cap ≠ lo := by omega
      rw [if_neg hne] at ev1
      obtain ⟨zs, hzs'⟩ : ∃ zs, zs = (Builtin.zeroCells zv.cells (hi - lo)).toList := ⟨_, rfl⟩
      have hzl : zs.length = (hi - lo) * lk.sz := by rw [hzs', Array.length_toList, size_zeroCells, hzs]
      have hfit : lo * lk.sz + zs.length ≤ us.size := by
        rw [hzl, g6, ← Nat.add_mul]; exact Nat.mul_le_mul_right _ (by omega)
      have hst := run_storeCells_at P b (lo * lk.sz) ty zs 0 us w g3 (by simpa using hfit) (by rw [hzs']; exact zeroCells_one i6 (by rw [hzs]; exact lk.sz_pos) _)
      simp only [Nat.add_zero] at hst
      have hrun : (execOp a.eval ⟨dst, .call ⟨.builtin .clear, #[s1], #[t]⟩, tyo, pos, aft, none⟩).run P w = .ok (.value (.tuple #[])) (w.setRow b (us.toList.take (lo * lk.sz) ++ zs ++ us.toList.drop (lo * lk.sz + zs.length)).toArray) := by
        have hzv : (zeroValue ty).run P w = .ok zv w := by simp [zeroValue, run_typeInfo hinf, i4]
        have hc : (Builtin.clear_ #[t] tyo #[.slice (some ⟨b, 0 + lo * lk.sz, none⟩) (hi - lo) (cap - lo)]).run P w = .ok (.tuple #[]) (w.setRow b (us.toList.take (lo * lk.sz) ++ zs ++ us.toList.drop (lo * lk.sz + zs.length)).toArray) := by
          obtain ⟨q, hq⟩ : ∃ q, hi - lo = q + 1 := ⟨hi - lo - 1, by omega⟩
          rw [hq] at hzs' ⊢
          simp [Builtin.clear_, run_underlying hu, hzv, ← hzs', hst]
        rw [← ev1] at hc
        rw [run_builtin_clear hc]; rfl
      refine wp_value hrun (post _ ?_)
      refine hS.h.step (row := some b) (grownBy_setRow w b _) (fun b' hb' => by cases hb'; exact ⟨g1, g2⟩) (nn := n) (fun m x hm hx => ⟨hx, fun b' hb' => by cases hb'; exact hS.h.inj n m _ x b (fun e => hm e.symm) hn hx rfl⟩) hn ?_ (fun b' hb' => .inr hb')
      refine .inr ⟨b, cap, _, rfl, g1, g2, setRow_heap w b us _ ty _ g3, g4, g5, ?_, fun q x j y e1 e2 => ?_⟩
      · simp only [List.size_toArray, List.length_append, List.length_take, List.length_drop, Array.length_toList]
        omega
      · obtain ⟨u, u1, u2⟩ := g7 q x j y e1 e2
        have hq := (List.getElem?_eq_some_iff.1 e1).1
        have hjs := enc_lt e2
        have hlt : q * lk.sz + j < lo * lk.sz := by
          calc q * lk.sz + j < q * lk.sz + lk.sz := by omega
            _ = (q + 1) * lk.sz := by rw [Nat.add_mul]; omega
            _ ≤ lo * lk.sz := Nat.mul_le_mul_right _ (by omega)
        refine ⟨u, ?_, u2⟩
        have hlu := (Array.getElem?_eq_some_iff.1 u1).1
        rw [List.getElem?_toArray, List.append_assoc, List.getElem?_append_left (by simp only [List.length_take, Array.length_toList]; omega), List.getElem?_take, if_pos hlt]
        simpa using u1
end
end Go.Mt

/-
  Mt, part ZK: lists: the first that is so, without those that are so.
-/
set_option linter.unusedSimpArgs false
set_option linter.unusedVariables false
namespace Go.Mt
section
variable {α : Type}
/-- The first of 'k' elements that is so; -1: none. -/
def ixP (p : α → Bool) (d : α) (l : List α) : Nat → Int
  | 0 => -1
  | k + 1 => match decide (0 ≤ ixP p d l k) with
    | true => ixP p d l k
    | false => match p (l.getD k d) with
      | true => k
      | false => -1
theorem ixP_keep {p : α → Bool} {d : α} {l : List α} {i j : Nat} (h : 0 ≤ ixP p d l i) (hj : i ≤ j) : ixP p d l j = ixP p d l i := by
  induction j with
  | zero => have : i = 0 := by omega
            subst this; rfl
  | succ j ih =>
    by_cases e : i = j + 1
    · subst e; rfl
    · have := ih (by omega)
      simp only [ixP, this, decide_eq_true h]
theorem ixP_lt (p : α → Bool) (d : α) (l : List α) : ∀ k, -1 ≤ ixP p d l k ∧ ixP p d l k < k + 1 ∧ (0 ≤ ixP p d l k → ixP p d l k < k) := by
  intro k
  induction k with
  | zero => simp [ixP]
  | succ k ih =>
    simp only [ixP]
    split
    · rename_i h; have := of_decide_eq_true h; omega
    · split <;> omega
theorem ixP_spec (p : α → Bool) (d : α) (l : List α) : ∀ k, (ixP p d l k = -1 ∧ ∀ q, q < k → p (l.getD q d) = false) ∨ ∃ i : Nat, i < k ∧ ixP p d l k = i ∧ p (l.getD i d) = true ∧ ∀ q, q < i → p (l.getD q d) = false := by
  intro k
  induction k with
  | zero => exact .inl ⟨rfl, fun q h => by omega⟩
  | succ k ih =>
    rcases ih with ⟨h1, h2⟩ | ⟨i, h1, h2, h3, h4⟩
    · simp only [ixP, h1]
      cases hp : p (l.getD k d) with
      | true => exact .inr ⟨k, by omega, rfl, hp, h2⟩
      | false => exact .inl ⟨rfl, fun q hq => by
          by_cases e : q = k
          · subst e; exact hp
          · exact h2 q (by omega)⟩
    · refine .inr ⟨i, by omega, ?_, h3, h4⟩
      simp only [ixP, h2]
      simp
theorem getD_take {l : List α} {i q : Nat} {d : α} (h : q < i) : (l.take i).getD q d = l.getD q d := by
  simp [List.getD, List.getElem?_take, h]
theorem filter_take {p : α → Bool} {d : α} {l : List α} {i : Nat} (h : ∀ q, q < i → p (l.getD q d) = false) : (l.take i).filter (fun x => !p x) = l.take i := by
  rw [List.filter_eq_self]
  intro x hx
  obtain ⟨q, hq⟩ := List.getElem?_of_mem hx
  have hlt := (List.getElem?_eq_some_iff.1 hq).1
  rw [List.length_take] at hlt
  have hqi : q < i := by omega
  have := h q hqi
  rw [List.getElem?_take, if_pos hqi] at hq
  simp only [List.getD, hq, Option.getD_some] at this
  simp [this]
theorem take_succ_getD {l : List α} {i : Nat} {d : α} (h : i < l.length) : l.take (i + 1) = l.take i ++ [l.getD i d] := by
  rw [List.take_add_one]; simp [List.getD, List.getElem?_eq_getElem h]
theorem getD_of_drop {l m : List α} {i q : Nat} {d : α} (h : l.drop i = m.drop i) (hq : i ≤ q) : l.getD q d = m.getD q d := by
  have := congrArg (fun x => x.getD (q - i) d) h
  simp only [List.getD, List.getElem?_drop] at this
  rw [show i + (q - i) = q by omega] at this
  exact this
theorem take_set_self {l : List α} {i : Nat} {x : α} (h : i < l.length) : (l.set i x).take (i + 1) = l.take i ++ [x] := by
  apply List.ext_getElem?
  intro q
  rw [List.getElem?_take, List.getElem?_set, List.getElem?_append, List.length_take]
  split
  · split
    · rename_i h1 h2; subst h2; rw [if_neg (by omega)]; simp [Nat.min_eq_left (Nat.le_of_lt h)]
    · rename_i h1 h2; rw [if_pos (by omega), List.getElem?_take, if_pos (by omega)]
  · rename_i h1; rw [if_neg (by omega)]; rw [List.getElem?_eq_none (by simp; omega)]
theorem drop_set_lt {l : List α} {i j : Nat} {x : α} (h : i < j) : (l.set i x).drop j = l.drop j := by
  rw [List.drop_set, if_pos h]
end
end Go.Mt
namespace Go.Mt
section
variable {α : Type}
/-- The first 'i' elements turned by 'f'. -/
def mapAt (f : α → α) (l : List α) (i : Nat) : List α := (l.take i).map f ++ l.drop i
theorem mapAt_zero (f : α → α) (l : List α) : mapAt f l 0 = l := by simp [mapAt]
theorem mapAt_all (f : α → α) (l : List α) : mapAt f l l.length = l.map f := by simp [mapAt]
theorem mapAt_len (f : α → α) (l : List α) (i : Nat) : (mapAt f l i).length = l.length := by simp [mapAt]; omega
theorem mapAt_get (f : α → α) {l : List α} {i : Nat} (d : α) (h : i < l.length) : (mapAt f l i).getD i d = l.getD i d := by
  have hl : (List.map f (List.take i l)).length = i := by simp; omega
  simp only [mapAt, List.getD]
  rw [List.getElem?_append_right (by omega), hl, Nat.sub_self, List.getElem?_drop, Nat.add_zero]
theorem mapAt_succ (f : α → α) {l : List α} {i : Nat} (d : α) (h : i < l.length) : mapAt f l (i + 1) = (l.take i).map f ++ f (l.getD i d) :: l.drop (i + 1) := by
  simp only [mapAt]
  rw [take_succ_getD (d := d) h, List.map_append, List.append_assoc]; rfl
theorem mapAt_eq (f : α → α) {l : List α} {i : Nat} (d : α) (h : i < l.length) : mapAt f l i = (l.take i).map f ++ l.getD i d :: l.drop (i + 1) := by
  simp only [mapAt]
  rw [List.drop_eq_getElem_cons h]; simp [List.getD, List.getElem?_eq_getElem h]
theorem mapAt_set (f : α → α) {l : List α} {i : Nat} (d x : α) (h : i < l.length) (hx : x = f (l.getD i d)) : (mapAt f l i).set i x = mapAt f l (i + 1) := by
  have hl : (List.map f (List.take i l)).length = i := by simp; omega
  rw [mapAt_eq f d h, mapAt_succ f d h, List.set_append_right _ _ (by omega), hl, Nat.sub_self, hx]; rfl
theorem mapAt_skip (f : α → α) {l : List α} {i : Nat} (d : α) (h : i < l.length) (hx : f (l.getD i d) = l.getD i d) : mapAt f l i = mapAt f l (i + 1) := by
  rw [mapAt_eq f d h, mapAt_succ f d h, hx]
theorem mem_getD {l : List α} {i : Nat} (d : α) (h : i < l.length) : l.getD i d ∈ l := by
  simp only [List.getD, List.getElem?_eq_getElem h, Option.getD_some]; exact List.getElem_mem h
end
end Go.Mt

/-
  Mt, part ZL: arguments with bitmaps, shots.
-/
set_option linter.unusedSimpArgs false
set_option linter.unusedVariables false
namespace Go.Mt
open Go.RowKit Go.ChangeShapes Go.WideShapes
variable {P : Program}
def BitmapIn (x : Bitmap) : Prop := x.name.length ≤ maxLen ∧ x.l.length ≤ maxLen ∧ ∀ s ∈ x.l, SpanIn s
theorem rds_bms {t t0 t1 t2 e : TypeId} {fs : Array Field} (ht : P.underlying t = some (.struct fs)) (hb : strB P t fs 3 = true) (hf : fs.toList.map (·.type) = [t0, t1, t2]) (h0 : P.underlying t0 = some .string) (h1 : P.underlying t1 = some .bool)
    (h2 : P.underlying t2 = some (.slice e)) (c2 : P.cellsOf e = 2) (he : Rds P e 2 (fun ys => ∃ x : Span, LK.enc .spn x = ys ∧ SpanIn x)) : Rds P t (LK.sz .bms) (fun ys => ∃ x : Bitmap, LK.enc .bms x = ys ∧ BitmapIn x) := by
  refine (rds_struct (n := 3) (gs := [(t0, fun y => ∃ s : List UInt8, y = .val (.string ⟨⟨s⟩⟩) ∧ s.length ≤ maxLen), (t1, fun y => ∃ b, y = .val (.bool b)), (t2, fun y => ∃ l : List Span, y = .lst .spn l ∧ l.length ≤ maxLen ∧ ∀ x ∈ l, SpanIn x)]) ht hb (rdAllF_of (by simpa using hf) (fun p hp => ?_))).imp (fun ys hy => ?_)
  · simp only [List.mem_cons, List.not_mem_nil, or_false] at hp
    rcases hp with rfl | rfl | rfl
    · exact rd_str h0
    · exact rd_bool h1
    · exact rd_slc (k := .spn) h2 c2 he
  · match ys, hy with
    | [a, b, c], ⟨⟨s, e1, g1⟩, ⟨x, e2⟩, ⟨l, e3, g2, g3⟩, _⟩ => exact ⟨⟨s, x, l⟩, by rw [e1, e2, e3]; rfl, g1, g2, g3⟩
def TblIn (l : List (List Entry)) : Prop := l.length ≤ maxLen ∧ ∀ m ∈ l, m.length ≤ maxLen ∧ ∀ x ∈ m, EntryIn x
theorem rd_tblF {t t2 t3 e : TypeId} {fs : Array Field} (ht : P.underlying t = some (.struct fs)) (hb : strB P t fs 1 = true) (hf : fs.toList.map (·.type) = [t2]) (h2 : P.underlying t2 = some (.slice t3)) (c2 : P.cellsOf t3 = 1)
    (h3 : P.underlying t3 = some (.slice e)) (c3 : P.cellsOf e = 5) (he : Rds P e 5 (fun ys => ∃ x : Entry, LK.enc .ent x = ys ∧ EntryIn x)) : Rd P t (fun y => ∃ l : List (List Entry), y = .lst .tbl l ∧ TblIn l) :=
  rd_one (rds_tblS ht hb hf h2 c2 h3 c3 he) (fun y ⟨l, e, h⟩ => ⟨l, (List.cons.inj e).1.symm, h⟩)
def ShotIn (x : Shot) : Prop := x.name.length ≤ maxLen ∧ inR .i64 x.size ∧ TblIn x.t
def gI64 (y : PV) : Prop := ∃ n, y = .val (.int .i64 n) ∧ inR .i64 n
theorem rds_sht {t t0 t1 t2 : TypeId} {fs : Array Field} (ht : P.underlying t = some (.struct fs)) (hb : strB P t fs 3 = true) (hf : fs.toList.map (·.type) = [t0, t1, t2]) (h0 : P.underlying t0 = some .string) (h1 : P.underlying t1 = some (.int .i64))
    (h2 : Rd P t2 (fun y => ∃ l : List (List Entry), y = .lst .tbl l ∧ TblIn l)) : Rds P t (LK.sz .sht) (fun ys => ∃ x : Shot, LK.enc .sht x = ys ∧ ShotIn x) := by
  refine (rds_struct (n := 3) (gs := [(t0, fun y => ∃ s : List UInt8, y = .val (.string ⟨⟨s⟩⟩) ∧ s.length ≤ maxLen), (t1, gI64), (t2, fun y => ∃ l : List (List Entry), y = .lst .tbl l ∧ TblIn l)]) ht hb (rdAllF_of (by simpa using hf) (fun p hp => ?_))).imp (fun ys hy => ?_)
  · rcases List.mem_cons.1 hp with rfl | hp
    · exact rd_str h0
    · rcases List.mem_cons.1 hp with rfl | hp
      · exact rd_int h1
      · rcases List.mem_cons.1 hp with rfl | hp
        · exact h2
        · cases hp
  · cases ys with
    | nil => exact hy.elim
    | cons a ys =>
      obtain ⟨⟨s, e1, g1⟩, hy⟩ := hy
      cases ys with
      | nil => exact hy.elim
      | cons b ys =>
        obtain ⟨⟨n, e2, g2⟩, hy⟩ := hy
        cases ys with
        | nil => exact hy.elim
        | cons c ys =>
          obtain ⟨⟨l, e3, g3⟩, hy⟩ := hy
          cases ys with
          | nil => exact ⟨⟨s, n, l⟩, by rw [e1, e2, e3]; rfl, g1, g2, g3⟩
          | cons d ys => exact hy.elim
end Go.Mt

/-
  Mt, part ZM: arguments of type api.Meta.
-/
set_option linter.unusedSimpArgs false
set_option linter.unusedVariables false
namespace Go.Mt
open Go.RowKit Go.ChangeShapes Go.WideShapes
variable {P : Program}
structure MetaV where
  cl : Int
  sz : Int
  bk : List UInt8
  t : List (List Entry)
  sh : List Shot
  mp : List Bitmap
  ct : List Int
abbrev MetaV.pvs (m : MetaV) : List PV := [i64 m.cl, i64 m.sz, .val (.string ⟨⟨m.bk⟩⟩), .lst .tbl m.t, .lst .sht m.sh, .lst .bms m.mp, .lst (.ints .i64) m.ct]
structure MetaIn (m : MetaV) : Prop where
  cl : inR .i64 m.cl
  sz : inR .i64 m.sz
  bk : m.bk.length ≤ maxLen
  t : TblIn m.t
  sh : m.sh.length ≤ maxLen ∧ ∀ x ∈ m.sh, ShotIn x
  mp : m.mp.length ≤ maxLen ∧ ∀ x ∈ m.mp, BitmapIn x
  ct : m.ct.length ≤ maxLen ∧ ∀ x ∈ m.ct, inR .i64 x
theorem rds_meta {t t0 t1 t2 t3 t4 t5 t6 e4 e5 e6 : TypeId} {fs : Array Field} (ht : P.underlying t = some (.struct fs)) (hb : strB P t fs 7 = true) (hf : fs.toList.map (·.type) = [t0, t1, t2, t3, t4, t5, t6]) (h0 : P.underlying t0 = some (.int .i64)) (h1 : P.underlying t1 = some (.int .i64)) (h2 : P.underlying t2 = some .string)
    (h3 : Rd P t3 (fun y => ∃ l : List (List Entry), y = .lst .tbl l ∧ TblIn l)) (h4 : P.underlying t4 = some (.slice e4)) (c4 : P.cellsOf e4 = 3) (r4 : Rds P e4 (LK.sz .sht) (fun ys => ∃ x : Shot, LK.enc .sht x = ys ∧ ShotIn x))
    (h5 : P.underlying t5 = some (.slice e5)) (c5 : P.cellsOf e5 = 3) (r5 : Rds P e5 (LK.sz .bms) (fun ys => ∃ x : Bitmap, LK.enc .bms x = ys ∧ BitmapIn x)) (h6 : P.underlying t6 = some (.slice e6)) (c6 : P.cellsOf e6 = 1) (r6 : Rds P e6 (LK.sz (.ints .i64)) (fun ys => ∃ x : Int, LK.enc (.ints .i64) x = ys ∧ inR .i64 x)) :
    Rds P t 7 (fun ys => ∃ x : MetaV, x.pvs = ys ∧ MetaIn x) := by
  refine (rds_struct (n := 7) (gs := [(t0, gI64), (t1, gI64), (t2, fun y => ∃ s : List UInt8, y = .val (.string ⟨⟨s⟩⟩) ∧ s.length ≤ maxLen), (t3, fun y => ∃ l : List (List Entry), y = .lst .tbl l ∧ TblIn l), (t4, fun y => ∃ l : List Shot, y = .lst .sht l ∧ l.length ≤ maxLen ∧ ∀ x ∈ l, ShotIn x),
    (t5, fun y => ∃ l : List Bitmap, y = .lst .bms l ∧ l.length ≤ maxLen ∧ ∀ x ∈ l, BitmapIn x), (t6, fun y => ∃ l : List Int, y = .lst (.ints .i64) l ∧ l.length ≤ maxLen ∧ ∀ x ∈ l, inR .i64 x)]) ht hb (rdAllF_of (by simpa using hf) (fun p hp => ?_))).imp (fun ys hy => ?_)
  · rcases List.mem_cons.1 hp with rfl | hp
    · exact rd_int h0
    rcases List.mem_cons.1 hp with rfl | hp
    · exact rd_int h1
    rcases List.mem_cons.1 hp with rfl | hp
    · exact rd_str h2
    rcases List.mem_cons.1 hp with rfl | hp
    · exact h3
    rcases List.mem_cons.1 hp with rfl | hp
    · exact rd_slc (k := .sht) h4 c4 r4
    rcases List.mem_cons.1 hp with rfl | hp
    · exact rd_slc (k := .bms) h5 c5 r5
    rcases List.mem_cons.1 hp with rfl | hp
    · exact rd_slc (k := .ints .i64) h6 c6 r6
    cases hp
  · have nx : ∀ {q : TypeId × (PV → Prop)} {gs : List (TypeId × (PV → Prop))} {ys : List PV}, goods (q :: gs) ys → ∃ a zs, ys = a :: zs ∧ q.2 a ∧ goods gs zs := by
      intro q gs ys h
      cases ys with
      | nil => exact h.elim
      | cons a zs => exact ⟨a, zs, rfl, h.1, h.2⟩
    obtain ⟨y0, ys, rfl, ⟨n0, e0, g0⟩, hy⟩ := nx hy
    obtain ⟨y1, ys, rfl, ⟨n1, e1, g1⟩, hy⟩ := nx hy
    obtain ⟨y2, ys, rfl, ⟨n2, e2, g2⟩, hy⟩ := nx hy
    obtain ⟨y3, ys, rfl, ⟨n3, e3, g3⟩, hy⟩ := nx hy
    obtain ⟨y4, ys, rfl, ⟨n4, e4, g4⟩, hy⟩ := nx hy
    obtain ⟨y5, ys, rfl, ⟨n5, e5, g5⟩, hy⟩ := nx hy
    obtain ⟨y6, ys, rfl, ⟨n6, e6, g6⟩, hy⟩ := nx hy
    cases ys with
    | nil => exact ⟨⟨n0, n1, n2, n3, n4, n5, n6⟩, by rw [e0, e1, e2, e3, e4, e5, e6], g0, g1, g2, g3, g4, g5, g6⟩
    | cons d ys => exact hy.elim
end Go.Mt

/-
  Mt, part ZN: arguments whose elements are the statements' own steps and acts.
-/
set_option linter.unusedSimpArgs false
set_option linter.unusedVariables false
namespace Go.Mt
open Go.RowKit Go.ChangeShapes Go.WideShapes
variable {P : Program}
def StpIn (x : Stp) : Prop := inR .i64 x.act ∧ inR .u8 x.fr ∧ inR .u8 x.to
theorem rds_stp {t t0 t1 t2 t3 : TypeId} {fs : Array Field} (ht : P.underlying t = some (.struct fs)) (hb : strB P t fs 4 = true) (hf : fs.toList.map (·.type) = [t0, t1, t2, t3]) (h0 : P.underlying t0 = some (.int .i64)) (h1 : P.underlying t1 = some .bool)
    (h2 : P.underlying t2 = some (.int .u8)) (h3 : P.underlying t3 = some (.int .u8)) : Rds P t (LK.sz .stp) (fun ys => ∃ x : Stp, LK.enc .stp x = ys ∧ StpIn x) := by
  refine (rds_struct (n := 4) (gs := [(t0, gI .i64), (t1, fun y => ∃ b, y = .val (.bool b)), (t2, gI .u8), (t3, gI .u8)]) ht hb (rdAllF_of (by simpa using hf) (fun p hp => ?_))).imp (fun ys hy => ?_)
  · rcases List.mem_cons.1 hp with rfl | hp
    · exact rd_int h0
    rcases List.mem_cons.1 hp with rfl | hp
    · exact rd_bool h1
    rcases List.mem_cons.1 hp with rfl | hp
    · exact rd_int h2
    rcases List.mem_cons.1 hp with rfl | hp
    · exact rd_int h3
    cases hp
  · have nx : ∀ {q : TypeId × (PV → Prop)} {gs : List (TypeId × (PV → Prop))} {ys : List PV}, goods (q :: gs) ys → ∃ a zs, ys = a :: zs ∧ q.2 a ∧ goods gs zs := by
      intro q gs ys h
      cases ys with
      | nil => exact h.elim
      | cons a zs => exact ⟨a, zs, rfl, h.1, h.2⟩
    obtain ⟨y0, ys, rfl, ⟨n, e1, g1⟩, hy⟩ := nx hy
    obtain ⟨y1, ys, rfl, ⟨x, e2⟩, hy⟩ := nx hy
    obtain ⟨y2, ys, rfl, ⟨l, e3, g3⟩, hy⟩ := nx hy
    obtain ⟨y3, ys, rfl, ⟨q, e4, g4⟩, hy⟩ := nx hy
    cases ys with
    | nil => exact ⟨⟨n, x, l, q⟩, by rw [e1, e2, e3, e4]; rfl, g1, g3, g4⟩
    | cons d ys => exact hy.elim

/-! ### structs with structs within -/
abbrev Fd := TypeId × Nat × (List PV → Prop)
def fldsN (P : Program) : Nat → List Field → List (TypeId × Nat) → Bool
  | _, [], [] => true
  | j, f :: fs, (t, n) :: gs => Nat.beq f.offset j && Nat.beq f.type t && Nat.beq (P.cellsOf f.type) n && fldsN P (j + n) fs gs
  | _, _, _ => false
def goodsN : List Fd → List PV → Prop
  | [], ys => ys = []
  | (_, n, g) :: gs, ys => ∃ a b, ys = a ++ b ∧ a.length = n ∧ g a ∧ goodsN gs b
def sizeN : List Fd → Nat
  | [] => 0
  | (_, n, _) :: gs => n + sizeN gs
theorem rds_structN {t : TypeId} {fs : Array Field} {gs : List Fd} (ht : P.underlying t = some (.struct fs)) (hb : fldsN P 0 fs.toList (gs.map fun g => (g.1, g.2.1)) = true) (hc : P.cellsOf t = sizeN gs) (hr : ∀ g ∈ gs, Rds P g.1 g.2.1 g.2.2) : Rds P t (sizeN gs) (goodsN gs) := by
  intro H enc w fuel cs x h
  obtain ⟨xs, m, _, _, hl, _, hf⟩ := DataW.trod_struct ht h
  have key : ∀ (fl : List Field) (gs : List Fd) (i0 o : Nat), fldsN P o fl (gs.map fun g => (g.1, g.2.1)) = true → (∀ g ∈ gs, Rds P g.1 g.2.1 g.2.2) →
      (∀ (i : Nat) (f : Field), fl[i]? = some f → ∃ x, DataW.trod enc P w 0 (fun _ => true) true m f.type ((cs.drop f.offset).take (P.cellsOf f.type)) = some x) →
      ∃ ys : List PV, goodsN gs ys ∧ ys.length = sizeN gs ∧ ∀ (i : Nat) (y : PV), ys[i]? = some y → ∃ c, cs[o + i]? = some c ∧ R (Mem.all w) y c := by
    intro fl
    induction fl with
    | nil =>
      intro gs i0 o hb _ _
      cases gs with
      | nil => exact ⟨[], rfl, rfl, by simp⟩
      | cons => cases hb
    | cons f fl ih =>
      intro gs i0 o hb hr hh
      cases gs with
      | nil => cases hb
      | cons g gs =>
        obtain ⟨tt, n, g⟩ := g
        simp only [List.map_cons, fldsN, Bool.and_eq_true, Nat.beq_eq] at hb
        obtain ⟨⟨⟨b1, b2⟩, b3⟩, b4⟩ := hb
        obtain ⟨x0, o3⟩ := hh 0 f rfl
        rw [b1, b3, b2] at o3
        obtain ⟨a, ga, la, lc, hR⟩ := hr _ (List.mem_cons_self) _ enc w m _ _ o3
        obtain ⟨ys, q1, q2, q3⟩ := ih gs (i0 + 1) (o + n) b4 (fun g hg => hr g (List.mem_cons_of_mem _ hg)) (fun i f' hf' => hh (i + 1) f' (by simpa using hf'))
        simp only at la lc hR
        refine ⟨a ++ ys, ⟨a, ys, rfl, la, ga, q1⟩, by simp only [List.length_append, la, q2, sizeN], fun i z hz => ?_⟩
        by_cases hi : i < n
        · rw [List.getElem?_append_left (by omega)] at hz
          obtain ⟨c, e1, e2⟩ := hR i z hz
          refine ⟨c, ?_, e2⟩
          rw [List.getElem?_take, if_pos hi, List.getElem?_drop] at e1
          exact e1
        · rw [List.getElem?_append_right (by omega), la] at hz
          obtain ⟨c, e1, e2⟩ := q3 _ z hz
          exact ⟨c, by rw [show o + i = o + n + (i - n) from by omega]; exact e1, e2⟩
  obtain ⟨ys, q1, q2, q3⟩ := key fs.toList gs 0 0 hb hr (fun i f hi => by
    have := hf i f (by simpa using hi)
    have hlt : i < fs.toList.length := (List.getElem?_eq_some_iff.1 hi).1
    have hx : i < xs.length := by simp at hlt; omega
    rw [List.getElem?_eq_getElem hx] at this
    exact ⟨_, this⟩)
  exact ⟨ys, q1, q2, by rw [hl, hc], fun j y hy => by simpa using q3 j y hy⟩
def DeedIn (x : Deed) : Prop := inR .i64 x.act ∧ x.b.length ≤ maxLen ∧ EntryIn x.e
theorem rds_act {t t0 t1 t2 e : TypeId} {fs : Array Field} (ht : P.underlying t = some (.struct fs)) (h0 : P.underlying t0 = some (.int .i64)) (h1 : P.underlying t1 = some (.slice e)) (c1 : P.cellsOf e = 1) (he : P.underlying e = some (.int .u8))
    (h2 : Rds P t2 (LK.sz .ent) (fun ys => ∃ x : Entry, LK.enc .ent x = ys ∧ EntryIn x))
    (hb : fldsN P 0 fs.toList [(t0, 1), (t1, 1), (t2, 5)] = true) (hc : P.cellsOf t = 7) : Rds P t (LK.sz .act) (fun ys => ∃ x : Deed, LK.enc .act x = ys ∧ DeedIn x) := by
  refine (rds_structN (gs := [(t0, 1, fun ys => ∃ n, ys = [.val (.int .i64 n)] ∧ inR .i64 n), (t1, 1, fun ys => ∃ l : List UInt8, ys = [.lst .byt l] ∧ l.length ≤ maxLen), (t2, 5, fun ys => ∃ x : Entry, LK.enc .ent x = ys ∧ EntryIn x)]) ht hb hc (fun g hg => ?_)).imp (fun ys hy => ?_)
  · simp only [List.mem_cons, List.not_mem_nil, or_false] at hg
    rcases hg with rfl | rfl | rfl
    · exact rds_one (rd_int h0) (fun y ⟨n, e, h⟩ => ⟨n, by rw [e], h⟩)
    · exact rds_one (rd_slc (k := .byt) h1 c1 (rds_byt he)) (fun y ⟨l, e, h, _⟩ => ⟨l, by rw [e], h⟩)
    · exact h2
  · obtain ⟨a, ys, rfl, _, ⟨n, rfl, g1⟩, b, ys, rfl, _, ⟨l, rfl, g2⟩, c, ys, rfl, _, ⟨x, rfl, g3⟩, rfl⟩ := hy
    exact ⟨⟨n, l, x⟩, rfl, g1, g2, g3⟩
end Go.Mt

/-
  Mt, part ZO: a region that draws its order, gone through in every order (for regions of few operations, with calls that are lent names).
-/
set_option linter.unusedSimpArgs false
set_option linter.unusedVariables false
namespace Go.Mt
open Go.RowKit

def allM (l : List Nat) : List Nat → Bool
  | [] => true
  | x :: xs => memN x l && allM l xs
/-- What may come next. -/
def rdL (l : List Nat) : List Oper → Nat → List Nat
  | [], _ => []
  | o :: os, j => match !memN j l && allM l (edgesM .any o.after.toList) with
    | true => j :: rdL l os (j + 1)
    | false => rdL l os (j + 1)
structure Listed (n : Nat) (l : List Nat) (listed : Array Bool) : Prop where
  sz : listed.size = n
  on : ∀ j, don listed j = true ↔ memN j l = true
theorem allM_ok {l : List Nat} : ∀ {xs : List Nat}, allM l xs = true ↔ ∀ x ∈ xs, memN x l = true := by
  intro xs
  induction xs with
  | nil => simp [allM]
  | cons x xs ih => simp [allM, ih]
theorem rdL_iff {l : List Nat} {j : Nat} : ∀ {os : List Oper} {i : Nat}, j ∈ rdL l os i ↔ ∃ o, i ≤ j ∧ os[j - i]? = some o ∧ memN j l = false ∧ allM l (edgesM .any o.after.toList) = true := by
  intro os
  induction os with
  | nil => intro i; simp [rdL]
  | cons x os ih =>
    intro i
    have key : (∃ o, i ≤ j ∧ (x :: os)[j - i]? = some o ∧ memN j l = false ∧ allM l (edgesM .any o.after.toList) = true) ↔ (j = i ∧ memN i l = false ∧ allM l (edgesM .any x.after.toList) = true) ∨ (∃ o, i + 1 ≤ j ∧ os[j - (i + 1)]? = some o ∧ memN j l = false ∧ allM l (edgesM .any o.after.toList) = true) := by
      constructor
      · rintro ⟨o, h1, h2, h3, h4⟩
        by_cases e : j = i
        · subst e
          simp at h2; subst h2
          exact .inl ⟨rfl, h3, h4⟩
        · refine .inr ⟨o, by omega, ?_, h3, h4⟩
          rw [show j - i = (j - (i + 1)) + 1 from by omega] at h2
          simpa using h2
      · rintro (⟨rfl, h3, h4⟩ | ⟨o, h1, h2, h3, h4⟩)
        · exact ⟨x, Nat.le_refl _, by simp, h3, h4⟩
        · refine ⟨o, by omega, ?_, h3, h4⟩
          rw [show j - i = (j - (i + 1)) + 1 from by omega]
          simpa using h2
    rw [key, ← ih]
    simp only [rdL]
    split
    · rename_i h
      simp only [Bool.and_eq_true, Bool.not_eq_true'] at h
      simp only [List.mem_cons, h.1, h.2, and_self, and_true]
    · rename_i h
      constructor
      · exact .inr
      · rintro (⟨rfl, h3, h4⟩ | h')
        · rw [h3, h4] at h; cases h
        · exact h'

section
variable {P : Program} {E : Env} {kn : Nat → Option Bool} {ops : List Oper} {B : Nat → Prop} {W : World} {M0 : Mem} {Q : Exit → Act → World → Prop} {k : List Itm} {st : St} {l : List Nat} {r i : Nat}

/-- Nothing panics. -/
def noP (Q : Exit → Act → World → Prop) : Exit → Act → World → Prop := fun e a w => match e with
  | .panic _ => False
  | e => Q e a w
theorem noP_le {Q : Exit → Act → World → Prop} : ∀ e a w, noP Q e a w → Q e a w := by
  intro e a w h
  cases e <;> first | exact h | exact h.elim
theorem Oper.wp_Qmono {o : Oper} {a : Act} {w : World} {K : Act → World → Prop} {Q Q' : Exit → Act → World → Prop} (h : ∀ e a w, Q e a w → Q' e a w) (hh : o.wp P a w K Q) : o.wp P a w K Q' := by
  unfold Oper.wp at *
  generalize (execOp a.eval o).run P w = r at *
  cases r with
  | ok n w' =>
    cases n <;> simp only [Oper.upon] at hh ⊢ <;>
      first
        | exact hh
        | exact Calls.mono hh (fun e w'' he => by
            cases e with
            | returned v => exact he
            | panicked c => exact h _ _ _ he
            | outgrown => obtain ⟨a, w, he⟩ := he; exact ⟨a, w, h _ _ _ he⟩)
        | exact Rows.mono hh (fun _ _ he => he)
  | halt x w' => cases x <;> simp only [Oper.upon] at hh ⊢ <;> first | exact hh | exact h _ _ _ hh
theorem wpOp_Qmono {ops : Array Oper} {i : Nat} {a : Act} {w : World} {K K' : Act → World → Prop} {Q Q' : Exit → Act → World → Prop} (h : ∀ e a w, Q e a w → Q' e a w) (hK : ∀ a w, K a w → K' a w) (hh : wpOp P ops Q i K a w) : wpOp P ops Q' i K' a w := by
  refine wpOp_mono hK ?_
  unfold wpOp at *
  split
  · rename_i ho; simpa [ho] using hh
  · rename_i o ho
    simp only [ho] at hh
    split
    · rename_i hw
      rw [if_pos hw] at hh
      rcases hh with hh | ⟨h1, a, w, h2⟩
      · exact .inl (Oper.wp_Qmono h hh)
      · exact .inr ⟨h1, a, w, h _ _ _ h2⟩
    · rename_i hw
      rw [if_neg hw] at hh
      exact hh
theorem wpAny_Qmono {ops : Array Oper} {Q Q' : Exit → Act → World → Prop} (h : ∀ e a w, Q e a w → Q' e a w) : ∀ {r : Nat} {listed : Array Bool} {a : Act} {w : World}, wpAny P .any ops Q r listed a w → wpAny P .any ops Q' r listed a w := by
  intro r
  induction r with
  | zero => intro listed a w hh; exact ⟨hh.1, h _ _ _ hh.2⟩
  | succ r ih => intro listed a w hh; exact ⟨fun h0 => h _ _ _ (hh.1 h0), fun i hi => wpOp_Qmono h (fun a w hk => ih hk) (hh.2 i hi)⟩

def GA (P : Program) (E : Env) (B : Nat → Prop) (W : World) (M0 : Mem) (Q : Exit → Act → World → Prop) (k : List Itm) (ops : List Oper) (r : Nat) (l : List Nat) (st : St) : Prop :=
  ∀ (M : Mem) (a : Act) (w : World) (listed : Array Bool), Listed ops.length l listed → SatP E.N E.mrk B W M0 ops (refsOf ops ops) (fun j => memN j l = true) st M a w → wpAny P .any ops.toArray (noP (after none P Q k)) r listed a w
def GO (P : Program) (E : Env) (B : Nat → Prop) (W : World) (M0 : Mem) (Q : Exit → Act → World → Prop) (k : List Itm) (ops : List Oper) (r : Nat) (l : List Nat) (st : St) (i : Nat) : Prop :=
  ∀ (M : Mem) (a : Act) (w : World) (listed : Array Bool), Listed ops.length l listed → SatP E.N E.mrk B W M0 ops (refsOf ops ops) (fun j => memN j l = true) st M a w → wpOp P ops.toArray (noP (after none P Q k)) i (wpAny P .any ops.toArray (noP (after none P Q k)) r (listed.setIfInBounds i true)) a w
def GOs (P : Program) (E : Env) (B : Nat → Prop) (W : World) (M0 : Mem) (Q : Exit → Act → World → Prop) (k : List Itm) (ops : List Oper) (r : Nat) (l : List Nat) (st : St) : List Nat → Prop
  | [] => True
  | i :: is => GO P E B W M0 Q k ops r l st i ∧ GOs P E B W M0 Q k ops r l st is
theorem GOs_mem : ∀ {is : List Nat}, GOs P E B W M0 Q k ops r l st is → ∀ i ∈ is, GO P E B W M0 Q k ops r l st i := by
  intro is
  induction is with
  | nil => intro _ i h; cases h
  | cons x xs ih =>
    intro h i hi
    rcases List.mem_cons.1 hi with rfl | hi
    · exact h.1
    · exact ih h.2 i hi
theorem ready_iff {listed : Array Bool} (hl : Listed ops.length l listed) {j : Nat} : j ∈ Region.ready .any ops.toArray listed ↔ j ∈ rdL l ops 0 := by
  rw [mem_ready, rdL_iff]
  constructor
  · rintro ⟨h1, o, h2, h3⟩
    have hj : j < ops.length := by simpa using (Array.getElem?_eq_some_iff.1 h2).1
    refine ⟨o, Nat.zero_le _, by simpa using h2, ?_, allM_ok.2 fun x hx => ?_⟩
    · cases hm : memN j l with
      | false => rfl
      | true =>
        have := (hl.on j).2 hm
        have hls : j < listed.size := by rw [hl.sz]; exact hj
        unfold don at this
        simp [hls] at h1 this
        rw [h1] at this; cases this
    · obtain ⟨e, e1, e2, rfl⟩ := mem_edgesM hx
      exact (hl.on _).1 (h3 e (by simpa using e1) e2)
  · rintro ⟨o, _, h2, h3, h4⟩
    have hj : j < ops.length := by simpa using (List.getElem?_eq_some_iff.1 h2).1
    have hls : j < listed.size := by rw [hl.sz]; exact hj
    refine ⟨?_, o, by simpa using h2, fun e he hb => (hl.on _).2 (allM_ok.1 h4 _ (edgesM_mem (by simpa using he) hb))⟩
    have : don listed j = false := by
      cases hd : don listed j with
      | false => rfl
      | true => rw [(hl.on j).1 hd] at h3; cases h3
    unfold don at this
    simp [hls] at this ⊢
    exact this
theorem GA_all (rs : List Nat) (h : rdL l ops 0 = rs) (hne : rs ≠ []) (hk : GOs P E B W M0 Q k ops r l st rs) : GA P E B W M0 Q k ops (r + 1) l st := by
  intro M a w listed hl hS
  refine ⟨fun h0 => ?_, fun j hj => GOs_mem hk j (h ▸ (ready_iff hl).1 hj) M a w listed hl hS⟩
  cases rs with
  | nil => exact absurd rfl hne
  | cons x xs =>
    have : x ∈ Region.ready .any ops.toArray listed := (ready_iff hl).2 (by rw [h]; exact List.mem_cons_self)
    rw [h0] at this; cases this
theorem GA_done (h : rdL l ops 0 = []) (hk : G P E B W M0 Q (.ops ops (len ops) :: k) st) (hro : E.ro = none := by rfl) : GA P E B W M0 Q k ops r l st := by
  intro M a w listed hl hS
  have hr : Region.ready .any ops.toArray listed = [] := List.eq_nil_iff_forall_not_mem.2 fun j hj => by
    have := (ready_iff hl).1 hj
    rw [h] at this; cases this
  refine wpAny_done hr ?_ r
  have h1 := hk M a w ⟨hS.h, hS.old, hS.d, hS.n, hS.f, fun s j b x hx => ?_⟩
  · rw [hro] at h1
    have h2 : wpList P ops.toArray (after none P Q k) (drp (len ops) ops) a w := h1
    rw [drp_eq, len_eq, List.drop_length] at h2
    exact h2
  · obtain ⟨g1, g2⟩ := hS.g s j b x hx
    refine ⟨?_, g2⟩
    have := (hl.on j).2 g1
    show j < len ops
    rw [len_eq, ← hl.sz]
    rcases Nat.lt_or_ge j listed.size with h' | h'
    · exact h'
    · unfold don at this; simp [Array.getElem?_eq_none h'] at this
theorem Listed.set {n : Nat} {listed : Array Bool} (hl : Listed n l listed) (hi : i < n) : Listed n (i :: l) (listed.setIfInBounds i true) := by
  refine ⟨by simp [hl.sz], fun j => ?_⟩
  rw [don_set (by rw [hl.sz]; exact hi), Bool.or_eq_true, hl.on j]
  simp only [memN, Bool.or_eq_true]
  rw [Nat.beq_eq, Nat.beq_eq, or_comm]
  constructor <;> (rintro (h | h)) <;> first | exact .inl h.symm | exact .inr h
def gdB (l : List Nat) : Option (Nat × Bool) → Bool
  | some (j, _) => memN j l
  | none => true
theorem GO_op (hT : TbOk P E.T) (hΨ : PsiOk P E) (kn : Nat → Option Bool) {o : Oper} (ho : nth ops i = some o) (hi : memN i l = false) (hg : gdB l o.guard = true) {st' : Value → St} {ob : Value → Prop}
    (h : ∀ u, stepOp E kn ops (refsOf ops ops) i st.f st.H st.nx o u = some (st' u, ob u)) (hob : ∀ u, ob u) (hk : ∀ u, GA P E B W M0 Q k ops r (i :: l) (st' u)) : GO P E B W M0 Q k ops r l st i := by
  intro M a w listed hl hS
  rw [nth_eq] at ho
  have hlt : i < ops.length := (List.getElem?_eq_some_iff.1 ho).1
  have hgS : ∀ j b, o.guard = some (j, b) → memN j l = true := fun j b e => by rw [e] at hg; exact hg
  have main := stepOp_okP (S' := fun j => memN j (i :: l) = true) hT hΨ (kn := kn) hS (i := i) (by rw [hi]; simp) (fun j hj => by simp only [memN, Bool.or_eq_true]; exact .inr hj) hgS (K := wpAny P .any ops.toArray (noP (after none P Q k)) r (listed.setIfInBounds i true)) (Q := noP (after none P Q k))
    (fun u => ⟨st' u, ob u, h u, hob u, fun a' w' M' hS' => hk u M' a' w' _ (hl.set hlt) hS'⟩)
  unfold wpOp
  have ho' : ops.toArray[i]? = some o := by simpa using ho
  simp only [ho']
  split
  · rename_i hw; rw [if_pos hw] at main; exact .inl main
  · rename_i hw; rw [if_neg hw] at main; exact main
theorem GO_callH {X : Type} {o : Oper} {fo : Operand} {args : List Operand} {tys : List TypeId} {f : Nat} {caps : List C} {as as' : List A} {hs : List HB} {ok : X → Prop} {rx : X → A} {hs' : X → List HB} {f' : X → Nat → Option Ent} (ns : List Nat) (σ : Nat → Nat)
    (hc : CtrH P f as hs ok rx hs') (hnth : nth ops i = some o) (hi : memN i l = false) (hg : Wanted ops st.f o) (ho : o.op = .call ⟨.value fo, ⟨args⟩, ⟨tys⟩⟩) (hfo : rdG st.f [] fo = some (.c (.clo f caps)))
    (ha : rdAll (rdG st.f []) args = some as') (hren : (as' ++ caps.map A.c).map (renA σ) = as) (hn : ns.Nodup) (hnx' : allB (fun n => Nat.blt n st.nx) ns = true) (hl : ns.map (fun n => (st.H n).map (renH σ)) = hs.map some)
    (hf : ∀ x, putS E.N i (refsOf ops ops) st.f o.dst (some (.u (renA (tauH ns st.nx) (rx x)))) = some (f' x))
    (hk : ∀ x, ok x → GA P E B W M0 Q k ops r (i :: l) ⟨f' x, putHs (clrHs st.H ns) (tauH ns st.nx) (hs' x) 0, st.nx + len (hs' x)⟩) : GO P E B W M0 Q k ops r l st i := by
  intro M a w listed hls hS
  rw [nth_eq] at hnth
  have hlt : i < ops.length := (List.getElem?_eq_some_iff.1 hnth).1
  have hw : Region.wanted o (yielded ops.toArray a.tmps) = true := wanted_ok hS hg
  unfold wpOp
  have ho' : ops.toArray[i]? = some o := by simpa using hnth
  simp only [ho']
  rw [if_pos hw]
  refine .inl ?_
  obtain ⟨dst, op, ty, pos, aft, guard⟩ := o
  simp only at ho hf; subst ho
  have hr := rdG_ok hS (Γ := []) (by simp)
  have k1 := rdAll_RAs hr _ _ ha
  obtain ⟨hS1, hback⟩ := lend hS.h (hs := hs) hn hl
  obtain ⟨us, hfv, hus⟩ : ∃ us : List Value, a.eval fo = .func (.func f) #[] us.toArray ∧ RCs M caps us := by
    have := hr _ _ hfo
    cases this with | c h =>
    generalize a.eval fo = v at h
    cases h with
    | @clo _ _ us hs hh => exact ⟨us.toList, by simp, by simpa using hs, fun j c u e1 e2 => hh j c u e1 (by simpa using e2)⟩
  have k3 : RAs M (caps.map A.c) us.toArray := by
    refine ⟨by simpa using hus.1, fun j c u e1 e2 => ?_⟩
    rw [List.getElem?_map] at e1
    cases hc : caps[j]? with
    | none => rw [hc] at e1; cases e1
    | some x => rw [hc] at e1; cases e1; exact .c (hus.2 j x u hc (by simpa using e2))
  have k2 : RAs M as ((args.map a.eval).toArray ++ us.toArray) := by rw [← hren]; exact (k1.app k3).ren
  obtain ⟨⟨fn, q1, q2, q3⟩, hcall⟩ := hc
  have hrun : (execOp a.eval ⟨dst, .call ⟨.value fo, ⟨args⟩, ⟨tys⟩⟩, ty, pos, aft, guard⟩).run P w = .ok (.enter f ((args.map a.eval).toArray ++ us.toArray)) w := by
    have e3' : fn.name ≠ "runtime.NumGoroutine" := by simpa using q3
    have e2' : fn.body ≠ none := by intro e; rw [e] at q2; cases q2
    simp [execOp, resolve, invoke, hfv, Deferred.ofValue, callFunc, q1, e2', e3']
  unfold Oper.wp
  rw [hrun, Oper.upon_enter]
  refine (hcall M w _ hS1 k2).mono fun e w' ⟨v, M', x, he, hM', hok, hv, hS'⟩ => ?_
  subst he
  obtain ⟨hA, hE⟩ := hback M' w' (hs' x) (tauH ns st.nx) hM' hS'
  refine hk x hok M' _ w' _ (hls.set hlt) (SatP.put hS (S' := fun j => memN j (i :: l) = true) (by rw [hi]; simp) (fun j hj => by simp only [memN, Bool.or_eq_true]; exact .inr hj) hE hA (hf x) (put_defers _ _) (fun e' he => ?_) (by simp))
  cases he
  exact renA_ok hv
theorem memN_in {d : Nat} : ∀ {l : List Nat}, memN d l = true → d ∈ l := by
  intro l
  induction l with
  | nil => intro h; cases h
  | cons x l ih =>
    intro h
    simp only [memN, Bool.or_eq_true, Nat.beq_eq] at h
    rcases h with rfl | h
    · exact List.mem_cons_self
    · exact List.mem_cons_of_mem _ (ih h)
/-- Is an operation apart from all that are still to come, but those that wait for it? -/
def frB (all : List Oper) (l : List Nat) (oi : Oper) (i : Nat) : List Oper → Nat → Bool
  | [], _ => true
  | o :: os, j => (Nat.beq j i || memN j l || memN i (edgesM .any o.after.toList) || oi.apart all.toArray o) && frB all l oi i os (j + 1)
theorem frB_ok {all : List Oper} {oi : Oper} : ∀ {os : List Oper} {s : Nat}, frB all l oi i os s = true → ∀ (j : Nat) (o : Oper), os[j]? = some o → s + j ≠ i → memN (s + j) l = false → i ∉ edgesM .any o.after.toList → oi.apart all.toArray o = true := by
  intro os
  induction os with
  | nil => intro s _ j o h; simp at h
  | cons x os ih =>
    intro s h j o hj h1 h2 h3
    simp only [frB, Bool.and_eq_true] at h
    cases j with
    | zero =>
      simp at hj; subst hj
      have h4 := h.1
      simp only [Bool.or_eq_true] at h4
      rcases h4 with ((h4 | h4) | h4) | h4
      · rw [Nat.beq_eq] at h4; exact absurd h4 h1
      · rw [Nat.add_zero] at h2; rw [h2] at h4; cases h4
      · exact absurd (memN_in h4) h3
      · exact h4
    | succ j => exact ih h.2 j o (by simpa using hj) (by omega) (by rw [← h2]; congr 1; omega) h3
/-- An operation upon slots alone may as well be the first. -/
theorem GA_take (i : Nat) {o : Oper} {f' : Nat → Option Ent} (x : A) (hnth : nth ops i = some o) (hi : memN i l = false) (hsel : Region.noSelect ops.toArray = true) (hrd : allM l (edgesM .any o.after.toList) = true) (hfr : frB ops l o i ops 0 = true) (hg : o.guard = none)
    (hy : ∀ (M : Mem) (a : Act) (w : World), SatP E.N E.mrk B W M0 ops (refsOf ops ops) (fun j => memN j l = true) st M a w → ∃ v, RA M x v ∧ ∀ w, (execOp a.eval o).run P w = .ok (.value v) w)
    (hf : putS E.N i (refsOf ops ops) st.f o.dst (some (.u x)) = some f') (hk : GA P E B W M0 Q k ops r (i :: l) ⟨f', st.H, st.nx⟩) : GA P E B W M0 Q k ops (r + 1) l st := by
  intro M a w listed hl hS
  obtain ⟨v, hv, hrun⟩ := hy M a w hS
  rw [nth_eq] at hnth
  have hlt : i < ops.length := (List.getElem?_eq_some_iff.1 hnth).1
  have ho' : ops.toArray[i]? = some o := by simpa using hnth
  have hmem : i ∈ Region.ready .any ops.toArray listed := (ready_iff hl).2 (rdL_iff.2 ⟨o, Nat.zero_le _, by simpa using hnth, hi, hrd⟩)
  refine wpAny_first ho' (Region.noSelect_spec hsel) (fun c a w h => h) r listed a w (fun j oj hj hji hun hno => ?_) hmem (.inl ⟨by unfold Region.wanted; rw [hg], hrun⟩) (hk M _ w _ (hl.set hlt) (SatP.put hS (S' := fun j => memN j (i :: l) = true) (by rw [hi]; simp) (fun j hj => by simp only [memN, Bool.or_eq_true]; exact .inr hj) (Mem.ext_refl _ _) hS.h hf (put_defers _ _) (fun e' he => by cases he; exact hv) (by simp)))
  have hj' : ops[j]? = some oj := by simpa using hj
  have hjl : j < ops.length := (List.getElem?_eq_some_iff.1 hj').1
  refine frB_ok hfr j oj hj' (by omega) ?_ (fun hm => ?_)
  · rw [Nat.zero_add]
    cases hm : memN j l with
    | false => rfl
    | true =>
      have := (hl.on j).2 hm
      have hls : j < listed.size := by rw [hl.sz]; exact hjl
      unfold don at this
      simp [hls] at hun this
      rw [hun] at this; cases this
  · obtain ⟨e, e1, e2, e3⟩ := mem_edgesM hm
    exact hno e (by simpa using e1) e2 e3
theorem GA_move (i : Nat) {o : Oper} {y : Operand} {f' : Nat → Option Ent} {x : A} (hnth : nth ops i = some o) (ho : o.op = .move y) (hx : rdG st.f [] y = some x) (hi : memN i l = false) (hsel : Region.noSelect ops.toArray = true) (hrd : allM l (edgesM .any o.after.toList) = true) (hfr : frB ops l o i ops 0 = true) (hg : o.guard = none)
    (hf : putS E.N i (refsOf ops ops) st.f o.dst (some (.u x)) = some f') (hk : GA P E B W M0 Q k ops r (i :: l) ⟨f', st.H, st.nx⟩) : GA P E B W M0 Q k ops (r + 1) l st :=
  GA_take i x hnth hi hsel hrd hfr hg (fun M a w hS => by
    obtain ⟨dst, op, ty, pos, aft, guard⟩ := o
    simp only at ho; subst ho
    exact ⟨a.eval y, rdG_ok hS (Γ := []) (by simp) _ _ hx, fun w => by simp [execOp]⟩) hf hk
theorem GA_nilc (i : Nat) {o : Oper} {y : Operand} {f' : Nat → Option Ent} {n b q : Nat} (hnth : nth ops i = some o) (ho : o.op = .nilCheck y) (hx : rdG st.f [] y = some (.c (.ptr n b q))) (hi : memN i l = false) (hsel : Region.noSelect ops.toArray = true) (hrd : allM l (edgesM .any o.after.toList) = true) (hfr : frB ops l o i ops 0 = true) (hg : o.guard = none)
    (hf : putS E.N i (refsOf ops ops) st.f o.dst (some (.u (.c (.ptr n b q)))) = some f') (hk : GA P E B W M0 Q k ops r (i :: l) ⟨f', st.H, st.nx⟩) : GA P E B W M0 Q k ops (r + 1) l st :=
  GA_take i _ hnth hi hsel hrd hfr hg (fun M a w hS => by
    obtain ⟨dst, op, ty, pos, aft, guard⟩ := o
    simp only at ho; subst ho
    have := (rdG_ok hS (Γ := []) (by simp) _ _ hx).ptr_inv
    exact ⟨.pointer (some ⟨b, q, none⟩), .c .ptr, fun w => by simp [execOp, this]⟩) hf hk
theorem GA_fld (i : Nat) (hT : TbOk P E.T) {o : Oper} {y : Operand} {f' : Nat → Option Ent} {n b q sT fi off size s1 s2 : Nat} {bb : Bool} {z : List C} {fs : List (Nat × Nat × Bool)} (hnth : nth ops i = some o) (ho : o.op = .fieldAddr sT y fi) (hx : rdG st.f [] y = some (.c (.ptr n b q)))
    (ht : E.T sT = some ⟨.strct fs, s1, s2, z⟩) (hfd : nth fs fi = some (off, size, bb)) (hsz : Nat.ble 1 size = true) (hi : memN i l = false) (hsel : Region.noSelect ops.toArray = true) (hrd : allM l (edgesM .any o.after.toList) = true) (hfr : frB ops l o i ops 0 = true) (hg : o.guard = none)
    (hf : putS E.N i (refsOf ops ops) st.f o.dst (some (.u (.c (.ptr n b (q + off))))) = some f') (hk : GA P E B W M0 Q k ops r (i :: l) ⟨f', st.H, st.nx⟩) : GA P E B W M0 Q k ops (r + 1) l st :=
  GA_take i _ hnth hi hsel hrd hfr hg (fun M a w hS => by
    obtain ⟨dst, op, ty, pos, aft, guard⟩ := o
    simp only at ho; subst ho
    have hv := (rdG_ok hS (Γ := []) (by simp) _ _ hx).ptr_inv
    obtain ⟨fields, fd, inf, d, e1, e2, e3, e4, e5, e6, e7⟩ := strct_field hT ht hfd
    simp only at e3 e5 e7
    rw [Nat.ble_eq] at hsz
    have hs : inf.size ≠ 0 := by omega
    exact ⟨.pointer (some ⟨b, q + off, none⟩), .c .ptr, fun w => by simp [execOp, Instr.fieldAt, run_underlying e1, e2, hv, Instr.sureAddr, fieldPlace, Go.sizeOf, run_typeInfo e4, hs, Addr.add_lit, e3]⟩) hf hk
/-- EVERY ORDER. -/
theorem G_any (hm : P.follows .mixedOrders = true) {c : Code} (hd : isDraw c = true) (ops : List Oper) (he : opsOf c = ops) (n : Nat) (hn : len ops = n) (hk : GA P E B W M0 Q k ops n [] st) (hro : E.ro = none := by rfl) : G P E B W M0 Q (.code c :: k) st := by
  intro M a w hS
  cases c <;> simp only [isDraw, Bool.false_eq_true] at hd
  rename_i id ops0 dr
  cases dr <;> simp only [isDraw, Bool.false_eq_true] at hd
  obtain ⟨ops0⟩ := ops0
  simp only [opsOf] at he
  subst he
  refine wpIn_wide.2 ?_ |> fun (h : cwp none P (Code.region id ops0.toArray true) (after none P Q k) a w) => (by simp only [after, hro]; exact h)
  refine wp_region_any hm ?_
  have hS1 := Sat.drawn (show Sat E.N E.mrk B W M0 [] [] 0 st M a w from hS) (w.drawn + 1)
  have hnone : ∀ j, don (Array.replicate ops0.toArray.size false) j = false := by
    intro j
    unfold don
    simp only [Array.getD_eq_getD_getElem?, Array.getElem?_replicate]
    split <;> rfl
  have := hk M a _ (Array.replicate ops0.toArray.size false) ⟨by simp, fun j => by rw [hnone j]; simp [memN]⟩ ⟨hS1.h, hS1.old, hS1.d, hS1.n, fun s e he => ?_, fun s j b x hx => ?_⟩
  · rw [← hn, len_eq] at this
    exact wpAny_Qmono noP_le (by simpa using this)
  · cases e with
    | u x => exact hS1.f s _ he
    | gd j b x => have := (hS1.g s j b x he).1; simp at this
  · have := (hS1.g s j b x hx).1; simp at this
theorem GA_one (i : Nat) (hT : TbOk P E.T) (hΨ : PsiOk P E) (kn : Nat → Option Bool) {o : Oper} (h1 : rdL l ops 0 = [i]) (ho : nth ops i = some o) (hi : memN i l = false) (hg : gdB l o.guard = true) {st' : Value → St} {ob : Value → Prop}
    (h : ∀ u, stepOp E kn ops (refsOf ops ops) i st.f st.H st.nx o u = some (st' u, ob u)) (hob : ∀ u, ob u) (hk : ∀ u, GA P E B W M0 Q k ops r (i :: l) (st' u)) : GA P E B W M0 Q k ops (r + 1) l st :=
  GA_all [i] h1 (by simp) ⟨GO_op hT hΨ kn ho hi hg h hob hk, trivial⟩
theorem GA_two (i j : Nat) (h1 : rdL l ops 0 = [i, j]) (hi : GO P E B W M0 Q k ops r l st i) (hj : GO P E B W M0 Q k ops r l st j) : GA P E B W M0 Q k ops (r + 1) l st :=
  GA_all [i, j] h1 (by simp) ⟨hi, hj, trivial⟩
theorem GA_oneH (i : Nat) (h1 : rdL l ops 0 = [i]) (hi : GO P E B W M0 Q k ops r l st i) : GA P E B W M0 Q k ops (r + 1) l st :=
  GA_all [i] h1 (by simp) ⟨hi, trivial⟩
/-- A list of one's own that nothing turns any more, within a region. -/
theorem GA_freeze (n : Nat) (ss : List Nat) {v : Value} {ty : TypeId} {lk : LK} {lt : List lk.T} (hn : st.H n = some (.own v ty lk lt)) (hs : allOwn st n v ss)
    (hk : GA P E B W M0 Q k ops r l ⟨updAll st.f (lst lk lt) ss, updH st.H n none, st.nx⟩) : GA P E B W M0 Q k ops r l st := by
  intro M a w listed hl hS
  obtain ⟨M', h1, h2, h3⟩ := hS.h.freeze hn (H' := updH st.H n none) (fun m x hm => by
    by_cases e : m = n
    · subst e; rw [updH_same] at hm; cases hm
    · rw [updH_ne _ _ e] at hm; exact ⟨e, hm⟩)
  refine hk M' a w listed hl ⟨h2, fun k o e hk => hS.old k o (h1.2 k o e hk) hk, hS.d.mono h1.1 rfl, hS.n, fun s e he => ?_, fun s j b x hx => ?_⟩
  · rcases updAll_ok he with ⟨q1, rfl⟩ | q
    · obtain ⟨m, hm⟩ := allOwn_ok hs s q1
      obtain ⟨u, u1, u2⟩ := hS.f s _ hm
      have := RA.own_inv u2; subst this
      exact ⟨_, u1, .c (.pv h3)⟩
    · obtain ⟨u, u1, u2⟩ := hS.f s _ q
      exact ⟨u, u1, u2.mono h1.1⟩
  · rcases updAll_ok hx with ⟨_, e⟩ | q
    · cases e
    · exact hS.g s j b x q
end
end Go.Mt

/-
  Mt, part ZP: arrays built; a part of an array of arrays made anew.
-/
set_option linter.unusedSimpArgs false
set_option linter.unusedVariables false
namespace Go.Mt
open Go.RowKit
section
variable {P : Program} {E : Env} {B : Nat → Prop} {W : World} {M0 M F : Mem} {Q : Exit → Act → World → Prop} {k : List Itm} {st : St} {a : Act} {w w' : World}

theorem fill_mono {g g' : Nat → Option (Nat × Nat)} (h : ∀ i x, g i = some x → g' i = some x) : ∀ {vs : List (Nat × Value)} {us us' : Array Value}, Instr.fill g us vs = some us' → Instr.fill g' us vs = some us' := by
  intro vs
  induction vs with
  | nil => intro us us' e; exact e
  | cons v vs ih =>
    intro us us' e
    obtain ⟨i, v⟩ := v
    simp only [Instr.fill] at e ⊢
    cases hg : g i with
    | none => rw [hg] at e; cases e
    | some x =>
      obtain ⟨off, size⟩ := x
      rw [hg] at e
      rw [h i _ hg]
      simp only at e ⊢
      split at e
      · cases e
      · rename_i hc
        rw [if_neg hc]
        exact ih e
def arrFs (s : Nat) : Nat → Nat → List (Nat × Nat × Bool)
  | _, 0 => []
  | i, n + 1 => (i * s, s, false) :: arrFs s (i + 1) n
theorem arrFs_get (s : Nat) : ∀ (n i j : Nat) x, (arrFs s i n)[j]? = some x → x = ((i + j) * s, s, false) := by
  intro n
  induction n with
  | zero => intro i j x h; simp [arrFs] at h
  | succ n ih =>
    intro i j x h
    cases j with
    | zero => simp [arrFs] at h; rw [← h]; rfl
    | succ j =>
      have := ih (i + 1) j x (by simpa [arrFs] using h)
      rw [this, show i + 1 + j = i + (j + 1) from by omega]
theorem G_buildA {all : List Oper} {i : Nat} {o : Oper} {t e : TypeId} {N s1 s2 : Nat} {z cs : List C} {ie : TI} {ps : List (Nat × Operand)} {parts : List (Nat × A)} {f' : Nat → Option Ent} (hT : TbOk P E.T)
    (hd : drp i all = o :: drp (i + 1) all) (hg : o.guard = none) (ho : o.op = .build t ⟨ps⟩) (ht : E.T t = some ⟨.arr N e, s1, s2, z⟩) (he : E.T e = some ie) (hp : rdParts E.T (rdG st.f []) ps = some parts) (hc : fillC (arrFs ie.size 0 N) z parts = some cs)
    (hf : putS E.N i (refsOf all all) st.f o.dst (some (.u (.g cs))) = some f') (hk : G P E B W M0 Q (.ops all (i + 1) :: k) ⟨f', st.H, st.nx⟩) : G P E B W M0 Q (.ops all i :: k) st := by
  intro M a w hS
  show lwp E.ro P all.toArray (after E.ro P Q k) (drp i all) a w
  rw [hd]
  refine lwp_step fun K hK => ?_
  have hw : Region.wanted o (yielded all.toArray a.tmps) = true := by unfold Region.wanted; rw [hg]
  rw [if_pos hw]
  obtain ⟨dst, op, ty, pos, aft, guard⟩ := o
  simp only at ho hg hf; subst ho hg
  have hr := rdG_ok hS (Γ := []) (by simp)
  obtain ⟨inf, zv, i1, i2, i3, i4, i5, i6⟩ := (hT _ _ ht).info
  have hu := (hT _ _ ht).und
  simp only at hu
  obtain ⟨inf2, _, j1, j2, _⟩ := (hT _ _ he).info
  let places : Array (Nat × Nat) := ((arrFs ie.size 0 N).map fun x => (x.1, x.2.1)).toArray
  have hpl : ∀ (i : Nat) x, (arrFs ie.size 0 N)[i]? = some x → places[i]? = some (x.1, x.2.1) := by
    intro i x hx; simp [places, hx]
  obtain ⟨hp1, hp2⟩ := rdParts_ok (T := E.T) hr _ _ hp
  obtain ⟨us', k1, k2⟩ := fillC_ok hpl _ _ z cs zv.cells (i6 M) ⟨hp1, hp2⟩ hc
  have k3 := fill_mono (g' := fun i => some (i * ie.size, ie.size)) (fun i x hx => by
    simp only [places, List.getElem?_toArray, List.getElem?_map] at hx
    cases hq : (arrFs ie.size 0 N)[i]? with
    | none => rw [hq] at hx; cases hx
    | some q =>
      have := arrFs_get ie.size N 0 i q hq
      rw [hq] at hx; cases hx
      rw [this, Nat.zero_add]) k1
  have hzero : (zeroValue t).run P w = .ok zv w := by simp [zeroValue, run_typeInfo i1, i4]
  have hrun : (execOp a.eval ⟨dst, .build t ⟨ps⟩, ty, pos, aft, none⟩).run P w = .ok (.value (.agg us')) w := by
    simp only [execOp, Instr.build, Sem.run_bind, hzero, Result.andThen_ok, run_underlying hu.1, (hT _ _ he).sizeOf]
    simp only [List.map_toArray]
    rw [k3]
    rfl
  refine wp_value hrun (hK _ _ (hk M _ w (SatP.put hS (S' := fun j => j < i + 1) (Nat.lt_irrefl i) (fun j hj => Nat.lt_succ_of_lt hj) (Mem.ext_refl _ _) hS.h hf (put_defers _ _) (fun e' he => ?_) (by simp))))
  cases he
  exact .g k2
theorem G_clrA {all : List Oper} {i : Nat} {o : Oper} {t ty0 : TypeId} {p x : Operand} {n q sz m N cap b : Nat} {v : Value} {l : List Bool} {ie : TI} {f' : Nat → Option Ent} (hT : TbOk P E.T)
    (hd : drp i all = o :: drp (i + 1) all) (hg : o.guard = none) (ho : o.op = .store t p x) (hp : rdG st.f [] p = some (.c (.oel n v q sz 0))) (hx : rdG st.f [] x = some (.g (List.replicate m (.pv (bv false)))))
    (ht : E.T t = some ie) (hm : ie.size = m) (hn : st.H n = some (.own (.slice (some ⟨b, 0, none⟩) N cap) ty0 .bls l)) (hv : v = .slice (some ⟨b, 0, none⟩) N cap) (hle : q * sz + m ≤ l.length)
    (hf : putS E.N i (refsOf all all) st.f o.dst (some (.u (.t []))) = some f')
    (hk : G P E B W M0 Q (.ops all (i + 1) :: k) ⟨f', updH st.H n (some (.own (.slice (some ⟨b, 0, none⟩) N cap) ty0 .bls (l.take (q * sz) ++ List.replicate m false ++ l.drop (q * sz + m)))), st.nx⟩) : G P E B W M0 Q (.ops all i :: k) st := by
  intro M a w hS
  show lwp E.ro P all.toArray (after E.ro P Q k) (drp i all) a w
  rw [hd]
  refine lwp_step fun K hK => ?_
  have hw : Region.wanted o (yielded all.toArray a.tmps) = true := by unfold Region.wanted; rw [hg]
  rw [if_pos hw]
  obtain ⟨dst, op, ty, pos, aft, guard⟩ := o
  simp only at ho hg hf; subst ho hg hv
  have hr := rdG_ok hS (Γ := []) (by simp)
  have hpv : a.eval p = .pointer (some ⟨b, q * sz + 0, none⟩) := (hr _ _ hp).oel_inv
  have hxv := hr _ _ hx
  obtain ⟨vs, e1, hvs⟩ : ∃ vs, a.eval x = .agg vs ∧ RCs M (List.replicate m (.pv (bv false))) vs.toList := by
    generalize a.eval x = v at hxv
    cases hxv with | g h => exact ⟨_, rfl, h⟩
  have hvl : vs.toList.length = m := by rw [hvs.1, List.length_replicate]
  have hvv : ∀ j, j < m → vs.toList[j]? = some (.bool false) := by
    intro j hj
    obtain ⟨u, hu, hr⟩ := hvs.at (j := j) (x := bv false) (by rw [List.getElem?_replicate, if_pos hj])
    rw [hu, hr.val_eq]
  obtain ⟨us, g1, g2, g3, gl, g4, g5, g6, g7⟩ : ∃ us : Array Value, ¬ B b ∧ M b = none ∧ w.heap[b]? = some (.cells us ty0 (0, 0)) ∧ N = l.length ∧ l.length ≤ cap ∧ cap ≤ maxLen ∧ us.size = cap * 1 ∧ ∀ i x j y, l[i]? = some x → (LK.bls.enc x)[j]? = some y → ∃ u, us[i * 1 + j]? = some u ∧ R M y u := by
    rcases hS.h.ok _ _ hn with ⟨h1, _⟩ | ⟨b', cap', us, h1, g1, g2, g3, g4, g5, g6, g7⟩
    · cases h1
    · cases h1
      exact ⟨us, g1, g2, g3, rfl, g4, g5, g6, g7⟩
  have hul : us.toList.length = us.size := by simp
  have hst := run_storeCells_at P b (q * sz) ty0 vs.toList 0 us w g3 (by rw [hvl]; omega) (fun u hu => by
    obtain ⟨j, hj⟩ := List.getElem?_of_mem hu
    have hjl := (List.getElem?_eq_some_iff.1 hj).1
    rw [hvv j (by omega)] at hj; cases hj; rfl)
  simp only [Nat.add_zero] at hst
  have hrun : (execOp a.eval ⟨dst, .store t p x, ty, pos, aft, none⟩).run P w = .ok .skip (w.setRow b (us.toList.take (q * sz) ++ vs.toList ++ us.toList.drop (q * sz + vs.toList.length)).toArray) := by
    have hsz : vs.size = ie.size := by rw [← Array.length_toList, hvl, hm]
    simp only [execOp, Instr.storeAt, hpv, e1, Instr.sureAddr, storeVar, Sem.run_bind, Sem.run_pure, Result.andThen_ok, (hT _ _ ht).sizeOf, Nat.add_zero, Value.cells]
    rw [if_neg (by simp [hsz])]
    rw [hst]; rfl
  have hH : SatH B W (updH st.H n (some (.own (.slice (some ⟨b, 0, none⟩) N cap) ty0 .bls (l.take (q * sz) ++ List.replicate m false ++ l.drop (q * sz + m))))) M (w.setRow b (us.toList.take (q * sz) ++ vs.toList ++ us.toList.drop (q * sz + vs.toList.length)).toArray) := by
    refine hS.h.step (nn := n) (xx := .own _ ty0 .bls _) (grownBy_setRow w b _) (fun c hc => by cases hc; exact ⟨g1, g2⟩) (fun m' y hm' hy => ?_) (updH_same _ _ _) ?_ (fun c hc => .inr hc)
    · have hy' : updH st.H n _ m' = some y := hy
      rw [updH_ne _ _ hm'] at hy'
      replace hy := hy'
      exact ⟨hy, fun c hc => by cases hc; exact hS.h.inj n m' _ y b (fun e => hm' e.symm) hn hy rfl⟩
    · have hlen : (l.take (q * sz) ++ List.replicate m false ++ l.drop (q * sz + m)).length = l.length := by simp; omega
      refine .inr ⟨b, cap, _, by rw [hlen, gl], g1, g2, setRow_heap w b us _ ty0 _ g3, by rw [hlen]; exact g4, g5, ?_, fun i x j y e1 e2 => ?_⟩
      · simp only [List.size_toArray, List.length_append, List.length_take, List.length_drop, hul, hvl]
        show _ = cap * 1
        omega
      · have hj : j = 0 := by
          have := (List.getElem?_eq_some_iff.1 e2).1; simp only [LK.enc, List.length_singleton] at this; omega
        subst hj
        simp only [LK.enc, List.getElem?_cons_zero, Option.some.injEq] at e2
        subst e2
        show ∃ u, (us.toList.take (q * sz) ++ vs.toList ++ us.toList.drop (q * sz + vs.toList.length)).toArray[i * 1 + 0]? = some u ∧ _
        simp only [Nat.mul_one, Nat.add_zero, List.getElem?_toArray]
        rw [List.append_assoc] at e1 ⊢
        by_cases h1 : i < q * sz
        · rw [List.getElem?_append_left (by simp; omega), List.getElem?_take, if_pos h1] at e1
          rw [List.getElem?_append_left (by simp; omega), List.getElem?_take, if_pos h1]
          obtain ⟨u, u1, u2⟩ := g7 i x 0 _ e1 rfl
          exact ⟨u, by simpa using u1, u2⟩
        · have l1 : (l.take (q * sz)).length = q * sz := by simp; omega
          have l2 : (us.toList.take (q * sz)).length = q * sz := by simp; omega
          rw [List.getElem?_append_right (by omega), l1] at e1
          rw [List.getElem?_append_right (by omega), l2]
          by_cases h2 : i - q * sz < m
          · rw [List.getElem?_append_left (by simp; omega), List.getElem?_replicate, if_pos h2] at e1
            cases e1
            rw [List.getElem?_append_left (by omega), hvv _ h2]
            exact ⟨_, rfl, .val rfl⟩
          · rw [List.getElem?_append_right (by simp; omega), List.length_replicate, List.getElem?_drop] at e1
            rw [List.getElem?_append_right (by omega), List.getElem?_drop, hvl]
            obtain ⟨u, u1, u2⟩ := g7 _ x 0 _ e1 rfl
            exact ⟨u, by simpa using u1, u2⟩
  refine wp_skip' hrun (hK _ _ (hk M _ _ (SatP.put hS (S' := fun j => j < i + 1) (Nat.lt_irrefl i) (fun j hj => Nat.lt_succ_of_lt hj) (Mem.ext_refl _ _) hH hf (put_defers _ _) (fun e' he => ?_) (by simp))))
  cases he
  exact undef_ok M
end
end Go.Mt

/-
  Mt, part ZQ: a slot that holds a list of one's own, by its raw value.
-/
set_option linter.unusedSimpArgs false
set_option linter.unusedVariables false
namespace Go.Mt
open Go.RowKit
section
variable {P : Program} {E : Env} {B : Nat → Prop} {W : World} {M0 : Mem} {Q : Exit → Act → World → Prop} {k : List Itm} {st : St}

theorem G_rawS (s n : Nat) {m : Nat} {v : Value} {ty : TypeId} {lk : LK} {l : List lk.T} (h : st.f s = some (.u (.c (.own m v)))) (hn : st.H n = some (.own v ty lk l)) (hk : G P E B W M0 Q k ⟨updF st.f s (some (.u (pv (.val v)))), st.H, st.nx⟩) : G P E B W M0 Q k st := by
  intro M a w hS
  have h1 : v.oneCell' = true := OwnSl.one (hS.h.ok n _ hn)
  exact G_slot s h (fun M u hr => by rw [hr.own_inv]; exact .c (.pv (.val h1))) hk M a w hS
theorem G_wkBV {ns : List Nat} {fs : Nat → Value → List (Nat × A)} {hs : Nat → Value → List HB} (b : Nat) (v : Value) (h0 : hdI k = 0) (h : Wk st ns (fs b v) (hs b v)) (hk : ∀ b v, G P E B W M0 Q k (mk (fs b v) (hs b v))) : G P E B W M0 Q k st :=
  G_wk h0 h (hk b v)
theorem G_wkBVV {ns : List Nat} {fs : Nat → Value → Value → List (Nat × A)} {hs : Nat → Value → Value → List HB} (b : Nat) (v v' : Value) (h0 : hdI k = 0) (h : Wk st ns (fs b v v') (hs b v v')) (hk : ∀ b v v', G P E B W M0 Q k (mk (fs b v v') (hs b v v'))) : G P E B W M0 Q k st :=
  G_wk h0 h (hk b v v')
end
end Go.Mt

/-
  Mt, part ZR: families of lists of one's own (names from 40 on), functions that hand them back; a pure call with arguments that only the world knows.
-/
set_option linter.unusedSimpArgs false
set_option linter.unusedVariables false
namespace Go.Mt
open Go.RowKit

/-- Names below 40 by a list, from 40 on by a function. -/
def famH (hs : List HB) (L : Nat → Option HB) (n : Nat) : Option HB := match Nat.ble 40 n with
  | true => L (n - 40)
  | false => nth hs n
def mkF (fs : List (Nat × A)) (hs : List HB) (L : Nat → Option HB) : St := ⟨fun s => match look s fs with
  | some x => some (.u x)
  | none => none, fun n => famH hs L n, len hs⟩
/-- What is known of 'st' is enough for the lists and the family. -/
structure WkF (st : St) (ns : List Nat) (τ : Nat → Nat) (fs : List (Nat × A)) (hs : List HB) (L : Nat → Option HB) : Prop where
  wk : Wk st ns fs hs
  fam : ∀ i y, L i = some y → st.H (τ i) = some y
  dis : ∀ i y, L i = some y → memN (τ i) ns = false
  inj : ∀ i j y z, L i = some y → L j = some z → τ i = τ j → i = j
theorem ble40 {n : Nat} : Nat.ble 40 n = true ↔ 40 ≤ n := by rw [Nat.ble_eq]

section
variable {P : Program} {E : Env} {B : Nat → Prop} {W : World} {M0 M F : Mem} {Q : Exit → Act → World → Prop} {k : List Itm} {st : St} {a : Act} {w w' : World} {N : Nat} {mrk : Bool} {H : Nat → Option HB}

theorem memN_false {d : Nat} {l : List Nat} (h : memN d l = false) : d ∉ l := fun hm => by rw [memN_mem hm] at h; cases h
theorem WkF_sat {ns : List Nat} {τ : Nat → Nat} {fs : List (Nat × A)} {hs : List HB} {L : Nat → Option HB} (h : WkF st ns τ fs hs L) {ops rs i} (hS : Sat N mrk B W M0 ops rs i st M a w) : Sat N mrk B W M0 [] [] 0 (mkF fs hs L) M a w := by
  have h0 := h.wk.sat hS
  obtain ⟨g1, g2⟩ := wkH_ok h.wk.2.2
  have small : ∀ n x, 40 ≤ n ∨ (mkF fs hs L).H n = some x → (mkF fs hs L).H n = some x → (n < 40 ∧ (mk fs hs).H n = some x) ∨ (40 ≤ n ∧ L (n - 40) = some x) := by
    intro n x _ hn
    simp only [mkF, famH] at hn
    by_cases h40 : 40 ≤ n
    · rw [ble40.2 h40] at hn; exact .inr ⟨h40, hn⟩
    · have : Nat.ble 40 n = false := by
        cases hb : Nat.ble 40 n with
        | false => rfl
        | true => exact absurd (ble40.1 hb) h40
      rw [this] at hn
      exact .inl ⟨by omega, hn⟩
  have src : ∀ n x, (mkF fs hs L).H n = some x → (n < 40 ∧ (mk fs hs).H n = some x) ∨ (40 ≤ n ∧ L (n - 40) = some x) := fun n x hn => small n x (.inr hn) hn
  have far : ∀ (n n' : Nat) (x x' : HB) (b : Nat), n < 40 → (mk fs hs).H n = some x → L n' = some x' → x.block = some b → x'.block ≠ some b := by
    intro n n' x x' b _ e1 e2 hb
    simp only [mk, nth_eq] at e1
    obtain ⟨m, y, q1, q2, q3⟩ := g2 n x e1
    have b1 := (simH_ok q3 (hS.h.ok m y q2)).2
    rw [b1] at hb
    refine hS.h.inj m (τ n') y x' b (fun e => ?_) q2 (h.fam n' x' e2) hb
    exact memN_false (h.dis n' x' e2) (by rw [← e]; exact List.mem_of_getElem? q1)
  refine ⟨⟨hS.h.below, hS.h.base, hS.h.mem, fun n x hn => ?_, fun n n' x x' b hnn e1 e2 hb => ?_⟩, hS.old, hS.d, hS.n, h0.f, h0.g⟩
  · rcases src n x hn with ⟨_, hn⟩ | ⟨_, hn⟩
    · exact h0.h.ok n x hn
    · exact hS.h.ok _ x (h.fam _ x hn)
  · rcases src n x e1 with ⟨l1, e1⟩ | ⟨l1, e1⟩ <;> rcases src n' x' e2 with ⟨l2, e2⟩ | ⟨l2, e2⟩
    · exact h0.h.inj n n' x x' b hnn e1 e2 hb
    · exact far n _ x x' b l1 e1 e2 hb
    · intro hb'; exact far n' _ x' x b l2 e2 e1 hb' hb
    · refine hS.h.inj _ _ x x' b (fun e => hnn ?_) (h.fam _ x e1) (h.fam _ x' e2) hb
      have := h.inj _ _ x x' e1 e2 e
      omega
theorem G_wkF {ns : List Nat} (τ : Nat → Nat) {fs : List (Nat × A)} {hs : List HB} {L : Nat → Option HB} (h0 : hdI k = 0) (h : WkF st ns τ fs hs L) (hk : G P E B W M0 Q k (mkF fs hs L)) : G P E B W M0 Q k st :=
  fun M a w hS => hk M a w ((WkF_sat h hS).hd h0)
/-- What a round, or a way, must come to. -/
def LJF {X : Type} (E : Env) (B : Nat → Prop) (W : World) (M0 : Mem) (F : X → List (Nat × A)) (H : X → List HB) (L : X → Nat → Option HB) (ok : X → Prop) : Act → World → Prop :=
  fun a w => ∃ x M, ok x ∧ Sat E.N E.mrk B W M0 [] [] 0 (mkF (F x) (H x) (L x)) M a w
theorem G_lpF {X : Type} {F : X → List (Nat × A)} {H : X → List HB} {L : X → Nat → Option HB} {ok : X → Prop} (ns : List Nat) (τ : Nat → Nat) (x : X) (hx : ok x) (h : WkF st ns τ (F x) (H x) (L x)) : G P E B W M0 Q (.lp (LJF E B W M0 F H L ok) :: k) st :=
  fun M a w hS => ⟨x, M, hx, WkF_sat h hS⟩
theorem G_cutF {X : Type} (F : X → List (Nat × A)) (H : X → List HB) (L : X → Nat → Option HB) (ok : X → Prop) {c : Code} (h0 : hdI k = 0) (h1 : G P E B W M0 Q (.code c :: .lp (LJF E B W M0 F H L ok) :: k) st) (h2 : ∀ x, ok x → G P E B W M0 Q k (mkF (F x) (H x) (L x))) :
    G P E B W M0 Q (.code c :: k) st := by
  intro M a w hS
  have := h1 M a w hS
  simp only [after] at this ⊢
  refine wpIn_mono this (after_mono fun a w hJ => ?_)
  obtain ⟨x, M', hx, hS'⟩ := hJ
  exact h2 x hx M' a w (hS'.hd h0)
/-- A loop with a family. -/
theorem G_loopF {X : Type} (F : X → List (Nat × A)) (H : X → List HB) (L : X → Nat → Option HB) (ok : X → Prop) (μ : X → Nat) {c : Code} (hc : isLoop c = true) (ns : List Nat) (τ : Nat → Nat) (x0 : X) (hx0 : ok x0) (hw : WkF st ns τ (F x0) (H x0) (L x0))
    (body : ∀ x, ok x → G P E B W M0 Q (.code (bod c) :: .lp (LJF E B W M0 F H L (fun y => ok y ∧ μ y < μ x)) :: k) (mkF (F x) (H x) (L x))) : G P E B W M0 Q (.code c :: k) st := by
  intro M a w hS
  cases c <;> simp only [isLoop, Bool.false_eq_true] at hc
  rename_i c
  simp only [after]
  let I : Act → World → Prop := fun a w => ∃ x M, ok x ∧ Sat E.N E.mrk B W M0 [] [] 0 (mkF (F x) (H x) (L x)) M a w
  have hI0 : I a w := ⟨x0, M, hx0, WkF_sat hw hS⟩
  let p : Act → World → Nat → Prop := fun a w n => ∃ x M, ok x ∧ μ x = n ∧ Sat E.N E.mrk B W M0 [] [] 0 (mkF (F x) (H x) (L x)) M a w
  let ν : Act → World → Nat := fun a w => open Classical in if h : ∃ n, p a w n then Classical.choose (exists_min (p a w) h) else 0
  have hν0 : ∀ a w (h : ∃ n, p a w n), p a w (ν a w) ∧ ∀ m, p a w m → ν a w ≤ m := by
    intro a w h
    simp only [ν, dif_pos h]
    exact Classical.choose_spec (exists_min (p a w) h)
  have hν : ∀ a w, I a w → ∃ x M, ok x ∧ μ x = ν a w ∧ Sat E.N E.mrk B W M0 [] [] 0 (mkF (F x) (H x) (L x)) M a w :=
    fun a w ⟨x, M, h1, h2⟩ => (hν0 a w ⟨_, x, M, h1, rfl, h2⟩).1
  have hle : ∀ a w x M, ok x → Sat E.N E.mrk B W M0 [] [] 0 (mkF (F x) (H x) (L x)) M a w → ν a w ≤ μ x :=
    fun a w x M h1 h2 => (hν0 a w ⟨_, x, M, h1, rfl, h2⟩).2 _ ⟨x, M, h1, rfl, h2⟩
  refine wpIn_loop I ν hI0 fun a w hI => ?_
  obtain ⟨x, M, h1, h2, h3⟩ := hν a w hI
  have := body x h1 M a w h3
  simp only [after, bod] at this
  refine wpIn_mono this fun e a' w' q => ?_
  cases e with
  | normal =>
    obtain ⟨y, M', ⟨y1, y2⟩, y3⟩ := q
    exact ⟨⟨y, M', y1, y3⟩, Nat.lt_of_le_of_lt (hle _ _ y M' y1 y3) (by rw [← h2]; exact y2)⟩
  | _ => exact q

/-! ### functions that hand families back -/
def FnPostF {X : Type} (M0 : Mem) (W : World) (hs : List HB) (ok : X → Prop) (rx : X → A) (hs' : X → List HB) (L : X → Nat → Option HB) : Ending → World → Prop :=
  fun e w' => ∃ v M' x, e = .returned v ∧ Mem.ext (frn W hs) M0 M' ∧ ok x ∧ RA M' (rx x) v ∧ SatH (frn W hs) W (famH (hs' x) (L x)) M' w'
def CtrF (P : Program) (f : FuncId) {X : Type} (as : List A) (hs : List HB) (ok : X → Prop) (rx : X → A) (hs' : X → List HB) (L : X → Nat → Option HB) : Prop :=
  Enters P f ∧ ∀ (M : Mem) (w : World) (vs : Array Value), SatH (frn w hs) w (nth hs) M w → RAs M as vs → Calls P f vs w (FnPostF M w hs ok rx hs' L)
theorem sat_namesF {hs' : List HB} {L : Nat → Option HB} {ms : List Nat} {τ σ : Nat → Nat} (hS : SatH B W H M w) (hm : ms.Nodup) (hl : ms.map (fun n => (H n).map (renH σ)) = hs'.map some)
    (fam : ∀ i y, L i = some y → ∃ z, H (τ i) = some z ∧ y = renH σ z) (dis : ∀ i y, L i = some y → memN (τ i) ms = false) (inj : ∀ i j y z, L i = some y → L j = some z → τ i = τ j → i = j) : SatH B W (famH hs' L) M w := by
  have h0 := sat_names (X := Unit) hS hm hl
  have hlen : ms.length = hs'.length := by have := congrArg List.length hl; simpa using this
  have hget : ∀ (j : Nat) (y : HB), hs'[j]? = some y → ∃ n x, ms[j]? = some n ∧ H n = some x ∧ y = renH σ x := by
    intro j y e
    have hlt := (List.getElem?_eq_some_iff.1 e).1
    have hn' : ms[j]? = some ms[j] := List.getElem?_eq_getElem (by omega)
    have := congrArg (fun l => l[j]?) hl
    simp only [List.getElem?_map, hn', e, Option.map_some, Option.some.injEq] at this
    cases hx : H ms[j] with
    | none => rw [hx] at this; cases this
    | some x => rw [hx] at this; cases this; exact ⟨_, x, hn', hx, rfl⟩
  have src : ∀ n x, famH hs' L n = some x → (n < 40 ∧ nth hs' n = some x) ∨ (40 ≤ n ∧ L (n - 40) = some x) := by
    intro n x hn
    simp only [famH] at hn
    by_cases h40 : 40 ≤ n
    · rw [ble40.2 h40] at hn; exact .inr ⟨h40, hn⟩
    · have : Nat.ble 40 n = false := by
        cases hb : Nat.ble 40 n with
        | false => rfl
        | true => exact absurd (ble40.1 hb) h40
      rw [this] at hn
      exact .inl ⟨by omega, hn⟩
  have far : ∀ (n n' : Nat) (x x' : HB) (b : Nat), nth hs' n = some x → L n' = some x' → x.block = some b → x'.block ≠ some b := by
    intro n n' x x' b e1 e2 hb
    rw [nth_eq] at e1
    obtain ⟨m, y, q1, q2, rfl⟩ := hget n x e1
    obtain ⟨z, z1, rfl⟩ := fam n' x' e2
    rw [renH_block] at hb ⊢
    refine hS.inj m (τ n') y z b (fun e => ?_) q2 z1 hb
    exact memN_false (dis n' _ e2) (by rw [← e]; exact List.mem_of_getElem? q1)
  refine ⟨hS.below, hS.base, hS.mem, fun n x hn => ?_, fun n n' x x' b hnn e1 e2 hb => ?_⟩
  · rcases src n x hn with ⟨_, hn⟩ | ⟨_, hn⟩
    · exact h0.ok n x hn
    · obtain ⟨z, z1, rfl⟩ := fam _ x hn
      exact renH_ok (hS.ok _ z z1)
  · rcases src n x e1 with ⟨l1, e1⟩ | ⟨l1, e1⟩ <;> rcases src n' x' e2 with ⟨l2, e2⟩ | ⟨l2, e2⟩
    · exact h0.inj n n' x x' b hnn e1 e2 hb
    · exact far n _ x x' b e1 e2 hb
    · intro hb'; exact far n' _ x' x b e2 e1 hb' hb
    · obtain ⟨z, z1, q1⟩ := fam _ x e1
      obtain ⟨z', z1', q1'⟩ := fam _ x' e2
      have hij := fun e => inj _ _ x x' e1 e2 e
      subst q1 q1'
      rw [renH_block] at hb ⊢
      refine hS.inj _ _ z z' b (fun e => hnn ?_) z1 z1' hb
      have := hij e
      omega
theorem ret_coreF {X : Type} (hmk : E.mrk = false) (hT : TbOk P E.T) {fn : Func} {ops : List Oper} {rs : List (Nat × Nat)} {j : Nat} (hj : j = 0) (hops : ops = []) (hrs : rs = []) {hs : List HB} (hS : Sat E.N E.mrk (frn W hs) W M0 ops rs j st M a w) {as : List A} {ob : Prop} (h : resAll E.T st.f st.H fn.results.toList = some (as, ob)) (hob : ob)
    {ok : X → Prop} {rx : X → A} {hs' : X → List HB} {L : X → Nat → Option HB} (x : X) (hok : ok x) (ms : List Nat) (τ σ : Nat → Nat) (hr : renA σ (oneA as) = rx x) (hm : ms.Nodup) (hl : ms.map (fun n => (st.H n).map (renH σ)) = (hs' x).map some)
    (fam : ∀ i y, L x i = some y → ∃ z, st.H (τ i) = some z ∧ y = renH σ z) (dis : ∀ i y, L x i = some y → memN (τ i) ms = false) (inj : ∀ i j y z, L x i = some y → L x j = some z → τ i = τ j → i = j) :
    LeavesInM Fence.wide 0 P fn a.tmps (FnPostF M0 W hs ok rx hs' L) a.defers .returning w := by
  subst hj hops hrs
  rw [hS.nodef hmk]
  obtain ⟨vs, h1, h2, h2', h3⟩ := resAll_ok hT hS (g := fun | .tmp t => pure (a.tmps.getD t undef) | .cell t ty => do loadVar ty (← asAddr (a.tmps.getD t undef))) (fun _ => rfl) (fun _ _ => rfl) h hob
  have hres : (results fn a.tmps).run P w = .ok (if hh : vs.toArray.size = 1 then vs.toArray[0] else .tuple vs.toArray) w := by
    unfold results
    rw [Array.mapM_eq_mapM_toList]
    simp only [Sem.run_bind, Sem.run_map]
    exact congrArg (fun r : Result (List Value) => (r.andThen fun a w' => Result.ok a.toArray w').andThen fun a w' => Sem.run P (pure (if h : a.size = 1 then a[0] else Value.tuple a)) w') h1
  refine ⟨_, hres, _, M, x, rfl, ⟨hS.d.kp, hS.old⟩, hok, ?_, sat_namesF hS.h hm hl fam dis inj⟩
  rw [← hr]
  refine renA_ok ?_
  match as, vs, h2, h3 with
  | [y], [v], _, h3 => exact h3 0 y v rfl rfl
  | [], [], _, _ => exact .t rfl (by simp)
  | y :: y' :: ys, v :: v' :: vs, h2, h3 => exact .t (by simpa using h2) (fun j c u e1 e2 => h3 j c u e1 (by simpa using e2))
theorem G_retF {X : Type} {hs : List HB} (hmk : E.mrk = false) (hT : TbOk P E.T) {fn : Func} {c : Code} (hc : isRet c = true) {as : List A} {ob : Prop} (h : resAll E.T st.f st.H fn.results.toList = some (as, ob)) (hob : ob)
    {ok : X → Prop} {rx : X → A} {hs' : X → List HB} {L : X → Nat → Option HB} (x : X) (hok : ok x) (ms : List Nat) (τ σ : Nat → Nat) (hr : renA σ (oneA as) = rx x) (hm : ms.Nodup) (hl : ms.map (fun n => (st.H n).map (renH σ)) = (hs' x).map some)
    (fam : ∀ i y, L x i = some y → ∃ z, st.H (τ i) = some z ∧ y = renH σ z) (dis : ∀ i y, L x i = some y → memN (τ i) ms = false) (inj : ∀ i j y z, L x i = some y → L x j = some z → τ i = τ j → i = j) :
    G P E (frn W hs) W M0 (bpost P fn (FnPostF M0 W hs ok rx hs' L)) (.code c :: k) st := by
  intro M a w hS
  cases c <;> simp only [isRet, Bool.false_eq_true] at hc
  simp only [after]
  exact wpIn_ret (after_ret (ret_coreF hmk hT rfl rfl rfl hS h hob x hok ms τ σ hr hm hl fam dis inj))
theorem CtrF_intro {X : Type} {f : FuncId} {fn : Func} {args : List A} {hs : List HB} {ok : X → Prop} {rx : X → A} {hs' : X → List HB} {L : X → Nat → Option HB} (hf : P.funcs[f]? = some fn) (hb : fn.body.isNone = false) (hnm : (fn.name == "runtime.NumGoroutine") = false) (hN : fn.ntmps = E.N) (hl : Nat.ble (len args) E.N = true)
    (h : ∀ M0 W, M0.on W → G P E (frn W hs) W M0 (bpost P fn (FnPostF M0 W hs ok rx hs' L)) [.code (fbody fn)] (initH args hs)) (hro : E.ro = none := by rfl) : CtrF P f args hs ok rx hs' L := by
  refine ⟨⟨fn, hf, hb, hnm⟩, fun M0 w vs hS0 hra => ?_⟩
  cases hbd : fn.body with
  | none => rw [hbd] at hb; cases hb
  | some c =>
    rw [Nat.ble_eq, len_eq] at hl
    refine (callsIn_wide (n := 0)).1 (callsIn_of_wp_marks hf hbd trivial ?_)
    have hg := h M0 w hS0.mem M0 ⟨vs ++ Array.replicate (fn.ntmps - vs.size) undef, []⟩ w ⟨hS0, fun _ _ e _ => e, .nil rfl (Mem.le_refl _), by simp [hra.1]; omega, fun s e he => ?_, fun s j b x hx => ?_⟩
    · have hfb : fbody fn = c := by simp [fbody, hbd]
      have hg2 : cwp E.ro P (fbody fn) (after E.ro P (bpost P fn (FnPostF M0 w hs ok rx hs' L)) []) _ w := hg
      rw [hfb, hro] at hg2
      exact wpIn_mono hg2 (fun e a w q => q)
    · simp only [initH, nth_eq] at he
      split at he
      · rename_i x hx; cases he
        have hlt : s < vs.size := by rw [hra.1]; exact (List.getElem?_eq_some_iff.1 hx).1
        obtain ⟨u, hu⟩ := arr_get vs s hlt
        exact ⟨u, by simp [Array.getElem?_append_left hlt, hu], hra.2 s x u hx hu⟩
      · cases he
    · simp only [initH, nth_eq] at hx
      split at hx <;> cases hx
/-! ### a call of such a function -/
theorem lendF (hS : SatH B W H M w) {hs : List HB} {ns : List Nat} {σ : Nat → Nat} (hn : ns.Nodup) (hl : ns.map (fun n => (H n).map (renH σ)) = hs.map some) :
    SatH (frn w hs) w (nth hs) M w ∧ ∀ (M' : Mem) (w' : World) (K G : Nat → Option HB) (τ ρ : Nat → Nat), Mem.ext (frn w hs) M M' → SatH (frn w hs) w K M' w' → (∀ n y, G n = some y → (∃ j h, K j = some h ∧ n = τ j ∧ y = renH ρ h) ∨ clrHs H ns n = some y) → SatH B W G M' w' ∧ Mem.ext B M M' := by
  have hlen : ns.length = hs.length := by have := congrArg List.length hl; simpa using this
  have hget : ∀ (j : Nat) (y : HB), hs[j]? = some y → ∃ n x, ns[j]? = some n ∧ H n = some x ∧ y = renH σ x := by
    intro j y e
    have hlt := (List.getElem?_eq_some_iff.1 e).1
    have hn' : ns[j]? = some ns[j] := List.getElem?_eq_getElem (by omega)
    have := congrArg (fun l => l[j]?) hl
    simp only [List.getElem?_map, hn', e, Option.map_some, Option.some.injEq] at this
    cases hx : H ns[j] with
    | none => rw [hx] at this; cases this
    | some x => rw [hx] at this; cases this; exact ⟨_, x, hn', hx, rfl⟩
  have hlent : ∀ (j : Nat) (y : HB) (b : Nat), hs[j]? = some y → y.block = some b → ¬ B b := by
    intro j y b e hb
    obtain ⟨n, x, _, hx, rfl⟩ := hget j y e
    rw [renH_block] at hb
    exact (HB.block_lt (hS.ok n x hx) hb).1
  have hsub : ∀ k, B k → frn w hs k := fun k hk => ⟨hS.base k hk, fun j y e hb => hlent j y k e hb hk⟩
  have hfar : ∀ n, n ∉ ns → ∀ y, H n = some y → ∀ b, y.block = some b → frn w hs b := by
    intro n hnn y hy b hb
    refine ⟨(HB.block_lt (hS.ok n y hy) hb).2.1, fun j z e hz => ?_⟩
    obtain ⟨m, x, hm, hx, rfl⟩ := hget j z e
    rw [renH_block] at hz
    exact hS.inj n m y x b (fun e => hnn (by rw [e]; exact List.mem_of_getElem? hm)) hy hx hb hz
  refine ⟨(lend hS hn hl).1, fun M' w' K G τ ρ hM' hS' hG => ⟨⟨hS.below.trans (hS'.below.mono hsub), fun k hk => Nat.lt_of_lt_of_le (hS.base k hk) hS'.below.size, hS'.mem, fun n y hy => ?_, fun n n' y y' b hnn h1 h2 hb => ?_⟩, hM'.1, fun k o e hk => hM'.2 k o e (hsub k hk)⟩⟩
  · rcases hG n y hy with ⟨j, h, e1, e2, rfl⟩ | hy
    · have hok := hS'.ok j h e1
      exact renH_ok (hok.reB (fun b hb hB => (HB.block_lt hok hb).1 (hsub b hB)))
    · obtain ⟨g1, g2⟩ := clrHs_inv _ _ hy
      have hok := hS.ok n y g2
      refine hok.keep hM'.1 (fun b hb => ?_) (fun b hb => hS'.below.block b (hfar n g1 y g2 b hb))
      cases hq : M' b with
      | none => rfl
      | some o => have := hM'.2 b o hq (hfar n g1 y g2 b hb); rw [(HB.block_lt hok hb).2.2] at this; cases this
  · have hold : ∀ (m : Nat) (z : HB) (j : Nat) (h : HB), clrHs H ns m = some z → K j = some h → z.block = some b → h.block ≠ some b := by
      intro m z j h hz e hzb hhb
      obtain ⟨g1, g2⟩ := clrHs_inv _ _ hz
      exact (HB.block_lt (hS'.ok j h e) hhb).1 (hfar m g1 z g2 b hzb)
    rcases hG _ _ h1 with ⟨j, h, e1, e2, rfl⟩ | h1
    · rw [renH_block] at hb
      rcases hG _ _ h2 with ⟨j', h', e1', e2', rfl⟩ | h2
      · rw [renH_block]
        exact hS'.inj j j' h h' b (fun e => hnn (by rw [e2, e2', e])) e1 e1' hb
      · exact fun hb' => hold n' y' j h h2 e1 hb' hb
    · rcases hG _ _ h2 with ⟨j', h', e1', e2', rfl⟩ | h2
      · rw [renH_block]; exact hold n y j' h' h1 e1' hb
      · exact hS.inj n n' y y' b hnn (clrHs_inv _ _ h1).2 (clrHs_inv _ _ h2).2 hb
def callHF (H : Nat → Option HB) (ns : List Nat) (nx : Nat) (hs' : List HB) (L : Nat → Option HB) (n : Nat) : Option HB := match Nat.ble 40 n with
  | true => L (n - 40)
  | false => putHs (clrHs H ns) (tauH ns nx) hs' 0 n
/-- Names of lists of one's own alone. -/
def OwnF (L : Nat → Option HB) : Prop := ∀ i y, L i = some y → ∀ ρ, renH ρ y = y
/-- A CALL OF A FUNCTION THAT HANDS BACK A FAMILY. -/
theorem G_callF {X : Type} {all : List Oper} {i : Nat} {o : Oper} {fo : Operand} {args : List Operand} {tys : List TypeId} {f : Nat} {caps : List C} {as as' : List A} {hs : List HB} {ok : X → Prop} {rx : X → A} {hs' : X → List HB} {L : X → Nat → Option HB} {f' : X → Nat → Option Ent} (ns : List Nat) (σ : Nat → Nat)
    (hc : CtrF P f as hs ok rx hs' L) (hL : ∀ x, OwnF (L x)) (hd : drp i all = o :: drp (i + 1) all) (hg : Wanted all st.f o) (ho : o.op = .call ⟨.value fo, ⟨args⟩, ⟨tys⟩⟩) (hfo : rdG st.f [] fo = some (.c (.clo f caps)))
    (ha : rdAll (rdG st.f []) args = some as') (hren : (as' ++ caps.map A.c).map (renA σ) = as) (hn : ns.Nodup) (hl : ns.map (fun n => (st.H n).map (renH σ)) = hs.map some) (hlen : ∀ x, Nat.ble (len (hs' x)) 40 = true)
    (hf : ∀ x, putS E.N i (refsOf all all) st.f o.dst (some (.u (renA (tauH ns st.nx) (rx x)))) = some (f' x))
    (hk : ∀ x, ok x → G P E B W M0 Q (.ops all (i + 1) :: k) ⟨f' x, callHF st.H ns st.nx (hs' x) (L x), st.nx + len (hs' x)⟩) : G P E B W M0 Q (.ops all i :: k) st := by
  intro M a w hS
  show lwp E.ro P all.toArray (after E.ro P Q k) (drp i all) a w
  rw [hd]
  refine lwp_step fun K hK => ?_
  have hw : Region.wanted o (yielded all.toArray a.tmps) = true := wanted_ok hS hg
  rw [if_pos hw]
  obtain ⟨dst, op, ty, pos, aft, guard⟩ := o
  simp only at ho hf; subst ho
  have hr := rdG_ok hS (Γ := []) (by simp)
  have k1 := rdAll_RAs hr _ _ ha
  obtain ⟨hS1, hback⟩ := lendF hS.h (hs := hs) hn hl
  obtain ⟨us, hfv, hus⟩ : ∃ us : List Value, a.eval fo = .func (.func f) #[] us.toArray ∧ RCs M caps us := by
    have := hr _ _ hfo
    cases this with | c h =>
    generalize a.eval fo = v at h
    cases h with
    | @clo _ _ us hs hh => exact ⟨us.toList, by simp, by simpa using hs, fun j c u e1 e2 => hh j c u e1 (by simpa using e2)⟩
  have k3 : RAs M (caps.map A.c) us.toArray := by
    refine ⟨by simpa using hus.1, fun j c u e1 e2 => ?_⟩
    rw [List.getElem?_map] at e1
    cases hc : caps[j]? with
    | none => rw [hc] at e1; cases e1
    | some x => rw [hc] at e1; cases e1; exact .c (hus.2 j x u hc (by simpa using e2))
  have k2 : RAs M as ((args.map a.eval).toArray ++ us.toArray) := by rw [← hren]; exact (k1.app k3).ren
  obtain ⟨⟨fn, q1, q2, q3⟩, hcall⟩ := hc
  have hrun : (execOp a.eval ⟨dst, .call ⟨.value fo, ⟨args⟩, ⟨tys⟩⟩, ty, pos, aft, guard⟩).run P w = .ok (.enter f ((args.map a.eval).toArray ++ us.toArray)) w := by
    have e3' : fn.name ≠ "runtime.NumGoroutine" := by simpa using q3
    have e2' : fn.body ≠ none := by intro e; rw [e] at q2; cases q2
    simp [execOp, resolve, invoke, hfv, Deferred.ofValue, callFunc, q1, e2', e3']
  unfold Oper.wp
  rw [hrun, Oper.upon_enter]
  refine (hcall M w _ hS1 k2).mono fun e w' ⟨v, M', x, he, hM', hok, hv, hS'⟩ => ?_
  subst he
  obtain ⟨hA, hE⟩ := hback M' w' _ (callHF st.H ns st.nx (hs' x) (L x)) (fun j => match Nat.ble 40 j with | true => j | false => tauH ns st.nx j) (tauH ns st.nx) hM' hS' (fun n y hy => by
    unfold callHF at hy
    cases h40 : Nat.ble 40 n with
    | true =>
      rw [h40] at hy
      refine .inl ⟨n, y, ?_, by simp only [h40], ?_⟩
      · unfold famH; rw [h40]; exact hy
      · exact (hL x _ y hy _).symm
    | false =>
      rw [h40] at hy
      rcases putHs_inv _ _ _ hy with ⟨j, h, e1, e2, e3⟩ | hy
      · have hj := (List.getElem?_eq_some_iff.1 e1).1
        have := hlen x
        rw [Nat.ble_eq, len_eq] at this
        have hj40 : Nat.ble 40 j = false := by
          cases hb : Nat.ble 40 j with
          | false => rfl
          | true => have := ble40.1 hb; omega
        refine .inl ⟨j, h, ?_, ?_, e3⟩
        · unfold famH; rw [hj40, nth_eq]; exact e1
        · rw [e2, hj40, Nat.zero_add]
      · exact .inr hy)
  refine hK _ _ (hk x hok M' _ w' (SatP.put hS (S' := fun j => j < i + 1) (Nat.lt_irrefl i) (fun j hj => Nat.lt_succ_of_lt hj) hE hA (hf x) (put_defers _ _) (fun e' he => ?_) (by simp)))
  cases he
  exact renA_ok hv

/-! ### a call that turns nothing, with arguments of which only the world knows -/
theorem callK {ops : List Oper} {S S' : Nat → Prop} {i : Nat} {o : Oper} {fo : Operand} {args : List Operand} {tys : List TypeId} {f : Nat} {as : List A} {r : RX} {f' : Nat → Option Ent} {K : Act → World → Prop}
    (hS : SatP E.N E.mrk B W M0 ops (refsOf ops ops) S st M a w) (hi : ¬ S i) (hSS : ∀ j, S j → S' j) (hc : Ctr P f false as (.x r)) (ho : o.op = .call ⟨.value fo, ⟨args⟩, ⟨tys⟩⟩) (hfo : rdG st.f [] fo = some (.c (.clo f [])))
    (ha : RAs (Mem.all w) as (args.map a.eval).toArray) (hf : putS E.N i (refsOf ops ops) st.f o.dst (some (.u (instX r))) = some f')
    (hK : ∀ M' a' w', SatP E.N E.mrk B W M0 ops (refsOf ops ops) S' ⟨f', st.H, st.nx⟩ M' a' w' → K a' w') : o.wp P a w K Q := by
  obtain ⟨dst, op, ty, pos, aft, guard⟩ := o
  simp only at ho hf; subst ho
  have hr := rdG_ok hS (Γ := []) (by simp)
  have hfv : a.eval fo = .func (.func f) #[] #[] := by
    have := hr _ _ hfo
    cases this with | c h =>
    generalize a.eval fo = v at h
    cases h with
    | @clo _ _ us hs hh => simp at hs; subst hs; rfl
  obtain ⟨⟨fn, q1, q2, q3⟩, hcall⟩ := hc
  have hrun : (execOp a.eval ⟨dst, .call ⟨.value fo, ⟨args⟩, ⟨tys⟩⟩, ty, pos, aft, guard⟩).run P w = .ok (.enter f (args.map a.eval).toArray) w := by
    have e3' : fn.name ≠ "runtime.NumGoroutine" := by simpa using q3
    have e2' : fn.body ≠ none := by intro e; rw [e] at q2; cases q2
    simp [execOp, resolve, invoke, hfv, Deferred.ofValue, callFunc, q1, e2', e3']
  unfold Oper.wp
  rw [hrun, Oper.upon_enter]
  refine (hcall (Mem.all w) w _ (Mem.all_on w) ha).mono fun e w' ⟨v, F, he, hb, hF, hv⟩ => ?_
  subst he
  refine hK _ _ _ (SatP.put hS hi hSS (Mem.ext_or hS.h.mem hS.h.base hF) (hS.h.call hb hF) hf (put_defers _ _) (fun e' he => ?_) (by simp))
  cases he
  exact (instX_ok hv).mono Mem.or_le
theorem GO_callK {ops : List Oper} {l : List Nat} {n i : Nat} {o : Oper} {fo : Operand} {args : List Operand} {tys : List TypeId} {f : Nat} {as : List A} {r : RX} {f' : Nat → Option Ent}
    (hc : Ctr P f false as (.x r)) (hnth : nth ops i = some o) (hi : memN i l = false) (hg : Wanted ops st.f o) (ho : o.op = .call ⟨.value fo, ⟨args⟩, ⟨tys⟩⟩) (hfo : rdG st.f [] fo = some (.c (.clo f [])))
    (ha : ∀ M a w, SatP E.N E.mrk B W M0 ops (refsOf ops ops) (fun j => memN j l = true) st M a w → RAs (Mem.all w) as (args.map a.eval).toArray) (hf : putS E.N i (refsOf ops ops) st.f o.dst (some (.u (instX r))) = some f')
    (hk : GA P E B W M0 Q k ops n (i :: l) ⟨f', st.H, st.nx⟩) : GO P E B W M0 Q k ops n l st i := by
  intro M a w listed hls hS
  rw [nth_eq] at hnth
  have hlt : i < ops.length := (List.getElem?_eq_some_iff.1 hnth).1
  have hw : Region.wanted o (yielded ops.toArray a.tmps) = true := wanted_ok hS hg
  unfold wpOp
  have ho' : ops.toArray[i]? = some o := by simpa using hnth
  simp only [ho']
  rw [if_pos hw]
  refine .inl (callK hS (S' := fun j => memN j (i :: l) = true) (by rw [hi]; simp) (fun j hj => by simp only [memN, Bool.or_eq_true]; exact .inr hj) hc ho hfo (ha M a w hS) hf fun M' a' w' hS' => hk M' a' w' _ (hls.set hlt) hS')

/-! ### operations upon slots, passed or not -/
theorem GA_takeW {ops : List Oper} {l : List Nat} {n : Nat} (i : Nat) {o : Oper} {f' : Nat → Option Ent} (x : A) (hnth : nth ops i = some o) (hi : memN i l = false) (hsel : Region.noSelect ops.toArray = true) (hrd : allM l (edgesM .any o.after.toList) = true) (hfr : frB ops l o i ops 0 = true) (hg : Wanted ops st.f o)
    (hy : ∀ (M : Mem) (a : Act) (w : World), SatP E.N E.mrk B W M0 ops (refsOf ops ops) (fun j => memN j l = true) st M a w → ∃ v, RA M x v ∧ ∀ w, (execOp a.eval o).run P w = .ok (.value v) w)
    (hf : putS E.N i (refsOf ops ops) st.f o.dst (some (.u x)) = some f') (hk : GA P E B W M0 Q k ops n (i :: l) ⟨f', st.H, st.nx⟩) : GA P E B W M0 Q k ops (n + 1) l st := by
  intro M a w listed hl hS
  obtain ⟨v, hv, hrun⟩ := hy M a w hS
  rw [nth_eq] at hnth
  have hlt : i < ops.length := (List.getElem?_eq_some_iff.1 hnth).1
  have ho' : ops.toArray[i]? = some o := by simpa using hnth
  have hmem : i ∈ Region.ready .any ops.toArray listed := (ready_iff hl).2 (rdL_iff.2 ⟨o, Nat.zero_le _, by simpa using hnth, hi, hrd⟩)
  refine wpAny_first ho' (Region.noSelect_spec hsel) (fun c a w h => h) n listed a w (fun j oj hj hji hun hno => ?_) hmem (.inl ⟨wanted_ok hS hg, hrun⟩) (hk M _ w _ (hl.set hlt) (SatP.put hS (S' := fun j => memN j (i :: l) = true) (by rw [hi]; simp) (fun j hj => by simp only [memN, Bool.or_eq_true]; exact .inr hj) (Mem.ext_refl _ _) hS.h hf (put_defers _ _) (fun e' he => by cases he; exact hv) (by simp)))
  have hj' : ops[j]? = some oj := by simpa using hj
  have hjl : j < ops.length := (List.getElem?_eq_some_iff.1 hj').1
  refine frB_ok hfr j oj hj' (by omega) ?_ (fun hm => ?_)
  · rw [Nat.zero_add]
    cases hm : memN j l with
    | false => rfl
    | true =>
      have := (hl.on j).2 hm
      have hls : j < listed.size := by rw [hl.sz]; exact hjl
      unfold don at this
      simp [hls] at hun this
      rw [hun] at this; cases this
  · obtain ⟨e, e1, e2, e3⟩ := mem_edgesM hm
    exact hno e (by simpa using e1) e2 e3
theorem GA_moveW {ops : List Oper} {l : List Nat} {n : Nat} (i : Nat) {o : Oper} {y : Operand} {f' : Nat → Option Ent} {x : A} (hnth : nth ops i = some o) (ho : o.op = .move y) (hx : rdG st.f [] y = some x) (hi : memN i l = false) (hsel : Region.noSelect ops.toArray = true) (hrd : allM l (edgesM .any o.after.toList) = true) (hfr : frB ops l o i ops 0 = true) (hg : Wanted ops st.f o)
    (hf : putS E.N i (refsOf ops ops) st.f o.dst (some (.u x)) = some f') (hk : GA P E B W M0 Q k ops n (i :: l) ⟨f', st.H, st.nx⟩) : GA P E B W M0 Q k ops (n + 1) l st :=
  GA_takeW i x hnth hi hsel hrd hfr hg (fun M a w hS => by
    obtain ⟨dst, op, ty, pos, aft, guard⟩ := o
    simp only at ho; subst ho
    exact ⟨a.eval y, rdG_ok hS (Γ := []) (by simp) _ _ hx, fun w => by simp [execOp]⟩) hf hk
/-- What reads as a value. -/
def rdV (rd : Operand → Option A) (o : Operand) : Option A := match rd o with
  | some (.c (.pv (.val v))) => some (.c (.pv (.val v)))
  | _ => none
theorem satNone (w : World) : SatH (fun _ => False) w (fun _ => none) (fun _ => none) w :=
  ⟨BelowF.refl _ _, fun _ h => h.elim, (fun _ _ e => by cases e), (fun _ _ e => by cases e), (fun _ _ _ _ _ _ e => by cases e)⟩
theorem GA_val {ops : List Oper} {l : List Nat} {n : Nat} (i : Nat) (hT : TbOk P E.T) {o : Oper} {f' : Nat → Option Ent} {v : Value} {ob : Prop} (hnth : nth ops i = some o) (hp : pureOp E.T (fun _ => none) false (rdV (rdG st.f [])) o.type o.op = some (pv (.val v), ob)) (hob : ob) (hi : memN i l = false) (hsel : Region.noSelect ops.toArray = true) (hrd : allM l (edgesM .any o.after.toList) = true) (hfr : frB ops l o i ops 0 = true) (hg : Wanted ops st.f o)
    (hf : putS E.N i (refsOf ops ops) st.f o.dst (some (.u (pv (.val v)))) = some f') (hk : GA P E B W M0 Q k ops n (i :: l) ⟨f', st.H, st.nx⟩) : GA P E B W M0 Q k ops (n + 1) l st :=
  GA_takeW i _ hnth hi hsel hrd hfr hg (fun M a w hS => by
    obtain ⟨dst, op, ty, pos, aft, guard⟩ := o
    have hr : ∀ o x, rdV (rdG st.f []) o = some x → RA (fun _ => none) x (a.eval o) := by
      intro o x h
      unfold rdV at h
      split at h
      · rename_i v hv; cases h
        have h1 := rdG_ok hS (Γ := []) (by simp) _ _ hv
        cases h1 with | c h1 => cases h1 with | pv h1 =>
        rw [h1.val_eq]
        exact .c (.pv (.val (h1.val_eq ▸ h1.one)))
      · cases h
    have key := fun w' => pure_ok (dst := dst) (pos := pos) (after := aft) (guard := guard) hT (satNone w') hr (fun _ => rfl) hp hob
    obtain ⟨v1, g1, g2⟩ := key w
    have e1 := g2.val_inv; subst e1
    refine ⟨v1, g2.mono (fun _ _ e => by cases e), fun w' => ?_⟩
    obtain ⟨v2, g1', g2'⟩ := key w'
    have e2 := g2'.val_inv; subst e2
    exact g1') hf hk
theorem GA_sliceL {ops : List Oper} {l : List Nat} {n : Nat} (i : Nat) (hT : TbOk P E.T) {o : Oper} {f' : Nat → Option Ent} {t : TypeId} {y olo ohi : Operand} {e s1 s2 : Nat} {z : List C} {k0 k' : LK} {L : List k0.T} {ka kb : IntKind} {lo up : Int} (hnth : nth ops i = some o) (ho : o.op = .slice t y (some olo) (some ohi) none) (hy : rdG st.f [] y = some (lst k0 L)) (hlo : rdG st.f [] olo = some (int ka lo)) (hhi : rdG st.f [] ohi = some (int kb up))
    (hk0 : E.T t = some ⟨.slc e k', s1, s2, z⟩) (hsz : Nat.beq k'.sz k0.sz = true) (hb : (0 ≤ lo ∧ lo ≤ up) ∧ up ≤ L.length) (hi : memN i l = false) (hsel : Region.noSelect ops.toArray = true) (hrd : allM l (edgesM .any o.after.toList) = true) (hfr : frB ops l o i ops 0 = true) (hg : Wanted ops st.f o)
    (hf : putS E.N i (refsOf ops ops) st.f o.dst (some (.u (lst k0 ((L.take up.toNat).drop lo.toNat)))) = some f') (hk : GA P E B W M0 Q k ops n (i :: l) ⟨f', st.H, st.nx⟩) : GA P E B W M0 Q k ops (n + 1) l st :=
  GA_takeW i _ hnth hi hsel hrd hfr hg (fun M a w hS => by
    obtain ⟨dst, op, ty, pos, aft, guard⟩ := o
    simp only at ho; subst ho
    have hr := rdG_ok hS (Γ := []) (by simp)
    have hp : pureOp E.T st.H false (rdG st.f []) ty (.slice t y (some olo) (some ohi) none) = some (lst k0 ((L.take up.toNat).drop lo.toNat), (0 ≤ lo ∧ lo ≤ up) ∧ up ≤ L.length) := by
      have hy' : rdG st.f [] y = some (.c (.pv (.lst k0 L))) := hy
      simp only [pureOp, hy', optA, hlo, hhi, hk0, hsz, subR, intOf?]
    obtain ⟨v, g1, g2⟩ := pure_ok (dst := dst) (pos := pos) (after := aft) (guard := guard) hT hS.h hr (fun _ => rfl) hp hb
    refine ⟨v, g2, fun w' => ?_⟩
    have hu := (hT _ _ hk0).und
    simp only at hu
    obtain ⟨hu, inf, hinf, hsz'⟩ := hu
    have h1 := hr _ _ hy
    cases h1 with | c h1 => cases h1 with | pv h1 =>
    obtain ⟨ad, c, b, o, hv, q1, q2, q3, q4, q5⟩ := h1.lst_inv
    have hs : subR L.length (some (int ka lo)) (some (int kb up)) none = some (lo, up, (0 ≤ lo ∧ lo ≤ up) ∧ up ≤ L.length) := rfl
    have key : ∀ w' : World, (execOp a.eval ⟨dst, .slice t y (some olo) (some ohi) none, ty, pos, aft, guard⟩).run P w' = .ok (.value (.slice (if c = lo.toNat then ad else ad.map (·.add (lo.toNat * inf.size))) (up.toNat - lo.toNat) (c - lo.toNat))) w' := by
      intro w'
      obtain ⟨_, _, _, m, q6, q7, q8, q9⟩ := subR_ok (P := P) (w := w') hr (rd := rdG st.f []) (olo := some olo) (ohi := some ohi) (omx := none) (lo := some (int ka lo)) (hi := some (int kb up)) (mx := none) (by simp only [optA, hlo]) (by simp only [optA, hhi]) rfl hs hb (sl := true) q1
      have := q8 rfl; subst this
      simp only [Option.map_some, Option.map_none] at q9
      simp [execOp, Instr.sliceAt, hv, run_underlying hu, Instr.slice, q9, Go.sizeOf, run_typeInfo hinf]
    have e1 := key w
    rw [g1] at e1
    cases e1
    exact key w') hf hk
/-! ### bitmaps with leaves -/
def stayH (b : Bitmap) : BmH := ⟨b.name, b.on, .l b.l⟩
theorem G_bmsH (n : Nat) {v : Value} {ty : TypeId} {l : List Bitmap} (hn : st.H n = some (.own v ty .bms l))
    (hk : G P E B W M0 Q k ⟨st.f, updH st.H n (some (.own v ty .bmh (l.map stayH))), st.nx⟩) : G P E B W M0 Q k st := by
  intro M a w hS
  refine hk M a w ⟨hS.h.reown hn (OwnSl.conv (by simp) rfl (fun i x' j y' e1 e2 => ?_)), hS.old, hS.d, hS.n, hS.f, hS.g⟩
  have e1' : (l.map stayH)[i]? = some x' := e1
  rw [List.getElem?_map] at e1'
  cases hl : l[i]? with
  | none => rw [hl] at e1'; cases e1'
  | some x => rw [hl] at e1'; cases e1'; exact ⟨x, y', rfl, e2, fun us u _ _ r => r⟩
/-- A contract that hands a list of one's own back, as one that lends nothing. -/
theorem Ctr.toH {f : Nat} {sh : Bool} {as : List A} {e : TypeId} {lk : LK} {l : List lk.T} (h : Ctr P f sh as (.o e lk l)) : CtrH P f as [] (fun _ : Value => True) (fun u => .c (.own 0 u)) (fun u => [.own u e lk l]) := by
  refine ⟨h.1, fun M w vs hS hra => (h.2 M w vs hS.mem hra).mono fun en w' ⟨v, F, he, hb, hF, hv⟩ => ?_⟩
  have hv' : OwnSl (shM sh M F) (low w.heap.size) w' v e lk l := hv
  have hle : (shM sh M F).le (M.or F) := by
    cases sh with
    | true => exact Mem.le_refl _
    | false => exact Mem.or_le
  have hS' := hS.call hb hF
  have ho : OwnSl (M.or F) (frn w []) w' v e lk l ∧ v.oneCell' = true := by
    rcases hv' with ⟨rfl, rfl⟩ | ⟨b, cap, us, rfl, q1, q2, q3, q4, q5, q6, q7⟩
    · exact ⟨.inl ⟨rfl, rfl⟩, rfl⟩
    · refine ⟨.inr ⟨b, cap, us, rfl, fun h => q1 (hS.base _ h), ?_, q3, q4, q5, q6, fun i x j y a1 a2 => let ⟨u, b1, b2⟩ := q7 i x j y a1 a2; ⟨u, b1, b2.mono hle⟩⟩, rfl⟩
      unfold Mem.or
      have hMb := Mem.none_of_size hS.mem (Nat.le_of_not_lt q1)
      cases hFb : F b with
      | none => exact hMb
      | some o =>
        exfalso
        cases sh with
        | true => simp [shM, Mem.or, hFb] at q2
        | false => simp [shM, hFb] at q2
  refine ⟨v, M.or F, v, he, Mem.ext_or hS.mem hS.base hF, trivial, .c (.own ho.2), hS'.below, hS'.base, hS'.mem, fun n x hx => ?_, fun n n' x x' b hnn h1 h2 => ?_⟩
  · match n, hx with
    | 0, hx => cases hx; exact ho.1
  · match n, n', hnn, h1, h2 with
    | 0, 0, hnn, _, _ => exact absurd rfl hnn
/-- One contract put aside. -/
def psiOff (f : FuncId) (Ψ : FuncId → Option FSpec) : FuncId → Option FSpec := fun g => match Nat.beq g f with
  | true => none
  | false => Ψ g
theorem psiOff_ok {f : FuncId} {Ψ : FuncId → Option FSpec} (h : PsiFn P Ψ) : PsiFn P (psiOff f Ψ) := by
  intro g s e
  unfold psiOff at e
  split at e
  · cases e
  · exact h g s e
/-! ### within a region of every order: elements of lists of one's own -/
theorem GA_nilcO {ops : List Oper} {l : List Nat} {r : Nat} (i : Nat) {o : Oper} {y : Operand} {f' : Nat → Option Ent} {n q sz d : Nat} {v : Value} (hnth : nth ops i = some o) (ho : o.op = .nilCheck y) (hx : rdG st.f [] y = some (.c (.oel n v q sz d))) (hi : memN i l = false) (hsel : Region.noSelect ops.toArray = true) (hrd : allM l (edgesM .any o.after.toList) = true) (hfr : frB ops l o i ops 0 = true) (hg : Wanted ops st.f o)
    (hf : putS E.N i (refsOf ops ops) st.f o.dst (some (.u (.c (.oel n v q sz d)))) = some f') (hk : GA P E B W M0 Q k ops r (i :: l) ⟨f', st.H, st.nx⟩) : GA P E B W M0 Q k ops (r + 1) l st :=
  GA_takeW i _ hnth hi hsel hrd hfr hg (fun M a w hS => by
    obtain ⟨dst, op, ty, pos, aft, guard⟩ := o
    simp only at ho; subst ho
    have h1 := rdG_ok hS (Γ := []) (by simp) _ _ hx
    have hv : a.eval y = .pointer (some ⟨v.blk, q * sz + d, none⟩) := by
      cases h1 with | c h1 => generalize a.eval y = u at h1; cases h1 with | oel => rfl
    exact ⟨.pointer (some ⟨v.blk, q * sz + d, none⟩), .c .oel, fun w => by simp [execOp, hv]⟩) hf hk
theorem GA_fldO {ops : List Oper} {l : List Nat} {r : Nat} (i : Nat) (hT : TbOk P E.T) {o : Oper} {y : Operand} {f' : Nat → Option Ent} {n q sz d sT fi off size s1 s2 : Nat} {v : Value} {bb : Bool} {z : List C} {fs : List (Nat × Nat × Bool)} (hnth : nth ops i = some o) (ho : o.op = .fieldAddr sT y fi) (hx : rdG st.f [] y = some (.c (.oel n v q sz d)))
    (ht : E.T sT = some ⟨.strct fs, s1, s2, z⟩) (hfd : nth fs fi = some (off, size, bb)) (hsz : Nat.ble 1 size = true) (hi : memN i l = false) (hsel : Region.noSelect ops.toArray = true) (hrd : allM l (edgesM .any o.after.toList) = true) (hfr : frB ops l o i ops 0 = true) (hg : Wanted ops st.f o)
    (hf : putS E.N i (refsOf ops ops) st.f o.dst (some (.u (.c (.oel n v q sz (d + off))))) = some f') (hk : GA P E B W M0 Q k ops r (i :: l) ⟨f', st.H, st.nx⟩) : GA P E B W M0 Q k ops (r + 1) l st :=
  GA_takeW i _ hnth hi hsel hrd hfr hg (fun M a w hS => by
    obtain ⟨dst, op, ty, pos, aft, guard⟩ := o
    simp only at ho; subst ho
    have h1 := rdG_ok hS (Γ := []) (by simp) _ _ hx
    have hv : a.eval y = .pointer (some ⟨v.blk, q * sz + d, none⟩) := by
      cases h1 with | c h1 => generalize a.eval y = u at h1; cases h1 with | oel => rfl
    obtain ⟨fields, fd, inf, dd, e1, e2, e3, e4, e5, e6, e7⟩ := strct_field hT ht hfd
    simp only at e3 e5 e7
    rw [Nat.ble_eq] at hsz
    have hs : inf.size ≠ 0 := by omega
    refine ⟨.pointer (some ⟨v.blk, q * sz + (d + off), none⟩), .c .oel, fun w => ?_⟩
    simp [execOp, Instr.fieldAt, run_underlying e1, e2, hv, Instr.sureAddr, fieldPlace, Go.sizeOf, run_typeInfo e4, hs, Addr.add_lit, e3, Nat.add_assoc]) hf hk
theorem GA_slot {ops : List Oper} {l : List Nat} {r : Nat} (s : Nat) {x y : A} (h : st.f s = some (.u x)) (e : ∀ M v, RA M x v → RA M y v) (hk : GA P E B W M0 Q k ops r l ⟨updF st.f s (some (.u y)), st.H, st.nx⟩) : GA P E B W M0 Q k ops r l st := by
  intro M a w listed hl hS
  refine hk M a w listed hl ⟨hS.h, hS.old, hS.d, hS.n, fun s' e' he => ?_, fun s' j b z hx => ?_⟩
  · simp only [updF] at he
    split at he
    · rename_i hb; rw [Nat.beq_eq] at hb; subst hb; cases he
      obtain ⟨u, u1, u2⟩ := hS.f _ _ h
      exact ⟨u, u1, e M u u2⟩
    · exact hS.f s' e' he
  · simp only [updF] at hx
    split at hx
    · cases hx
    · exact hS.g s' j b z hx
/-- A slot whose value a name knows. -/
theorem GA_link {ops : List Oper} {l : List Nat} {r : Nat} (s m : Nat) {x : PV} {v : Value} (h : st.f s = some (.u (.c (.pv x)))) (hx : x = .val v)
    (hk : GA P E B W M0 Q k ops r l ⟨updF st.f s (some (.u (.c (.own m v)))), st.H, st.nx⟩) : GA P E B W M0 Q k ops r l st := by
  subst hx
  refine GA_slot s h (fun M u hr => ?_) hk
  cases hr with
  | c hr => cases hr with
    | pv hr =>
      have := hr.val_eq
      subst this
      exact .c (.own hr.one)
/-- From here on with other contracts. -/
theorem G_env (E' : Env) (hN : E.N = E'.N) (hm : E.mrk = E'.mrk) (hr : E.ro = E'.ro) (hk : G P E' B W M0 Q k st) : G P E B W M0 Q k st := by
  intro M a w hS
  rw [hr]
  exact hk M a w (by rw [← hN, ← hm]; exact hS)
/-- A name, otherwise. -/
theorem G_moveH (n : Nat) {x : HB} (h : st.H n = some x) (hk : G P E B W M0 Q k ⟨st.f, updH (updH st.H n none) st.nx (some x), st.nx + 1⟩) : G P E B W M0 Q k st := by
  intro M a w hS
  have src : ∀ m y, updH (updH st.H n none) st.nx (some x) m = some y → (m = st.nx ∧ y = x) ∨ (m ≠ st.nx ∧ m ≠ n ∧ st.H m = some y) := by
    intro m y hm
    by_cases e : m = st.nx
    · subst e; rw [updH_same] at hm; cases hm; exact .inl ⟨rfl, rfl⟩
    · rw [updH_ne _ _ e] at hm
      by_cases e2 : m = n
      · subst e2; rw [updH_same] at hm; cases hm
      · rw [updH_ne _ _ e2] at hm; exact .inr ⟨e, e2, hm⟩
  refine hk M a w ⟨⟨hS.h.below, hS.h.base, hS.h.mem, fun m y hm => ?_, fun m m' y y' b hmm e1 e2 hb => ?_⟩, hS.old, hS.d, hS.n, hS.f, hS.g⟩
  · rcases src m y hm with ⟨_, rfl⟩ | ⟨_, _, hm⟩
    · exact hS.h.ok n _ h
    · exact hS.h.ok m y hm
  · rcases src m y e1 with ⟨q1, g⟩ | ⟨q1, q2, g⟩ <;> rcases src m' y' e2 with ⟨q1', g'⟩ | ⟨q1', q2', g'⟩
    · exact absurd (q1.trans q1'.symm) hmm
    · subst g; exact hS.h.inj n m' _ y' b (fun e => q2' e.symm) h g' hb
    · subst g'; exact hS.h.inj m n y _ b q2 g h hb
    · exact hS.h.inj m m' y y' b hmm g g' hb
/-! ### the first operations of a region -/
theorem evalOps_pre (hT : TbOk P E.T) (hΨ : PsiOk P E) {kn : Nat → Option Bool} {ops : List Oper} {rs : List (Nat × Nat)} {Q : Exit → Act → World → Prop} {r : List Oper} : ∀ (l : List Oper) (i : Nat) (st : St) (M : Mem) (a : Act) (w : World), Sat E.N E.mrk B W M0 ops rs i st M a w →
    (∀ bs, (evalOps E kn ops rs l i st bs).rest = [] ∧ (evalOps E kn ops rs l i st bs).ob ∧ ∀ a' w' M', Sat E.N E.mrk B W M0 ops rs (evalOps E kn ops rs l i st bs).i (evalOps E kn ops rs l i st bs).st M' a' w' → lwp E.ro P ops.toArray Q r a' w') →
    lwp E.ro P ops.toArray Q (l ++ r) a w := by
  intro l
  induction l with
  | nil =>
    intro i st M a w hS h
    exact (h (fun _ => undef)).2.2 a w M hS
  | cons o l ih =>
    intro i st M a w hS h
    obtain ⟨f, H, nx⟩ := st
    by_cases hex : ∃ u, stepOp E kn ops rs i f H nx o u = none
    · obtain ⟨u, hu⟩ := hex
      have := (h (fun _ => u)).1
      simp only [evalOps, hu] at this
      cases this
    · refine lwp_step fun K hK => stepOp_ok hT hΨ hS (kn := kn) fun u => ?_
      cases hst : stepOp E kn ops rs i f H nx o u with
      | none => exact absurd ⟨u, hst⟩ hex
      | some r' =>
        obtain ⟨st', ob⟩ := r'
        have hb := fun bs : Nat → Value => h (fun n => match n with | 0 => u | n + 1 => bs n)
        simp only [evalOps, hst] at hb
        have hob : ob := by
          have := (hb (fun _ => undef)).2.1
          split at this
          · exact this.1
          · exact this.elim
        refine ⟨st', ob, rfl, hob, fun a' w' M' hS' => hK _ _ (ih (i + 1) st' M' a' w' hS' fun bs => ?_)⟩
        have := hb bs
        cases hr : evalOps E kn ops rs l (i + 1) st' bs with
        | mk r2 i' st'' ob' => rw [hr] at this; exact ⟨this.1, this.2.1.2, this.2.2⟩
        | bad => rw [hr] at this; exact absurd this.2.1 (fun h => h)
theorem G_ops (hT : TbOk P E.T) (hΨ : PsiOk P E) (m : Nat) (kn : Nat → Option Bool) {all l r : List Oper} {i : Nat} {st' : (Nat → Value) → St} {ob : (Nat → Value) → Prop} (hl : tke m (drp i all) = l) (hd : drp i all = l ++ r) (hr : drp (i + m) all = r)
    (h : ∀ bs, evalOps E kn all (refsOf all all) l i st bs = .mk [] (i + m) (st' bs) (ob bs)) (ho : ∀ bs, ob bs) (hk : ∀ bs, G P E B W M0 Q (.ops all (i + m) :: k) (st' bs)) : G P E B W M0 Q (.ops all i :: k) st := by
  intro M a w hS
  show lwp E.ro P all.toArray (after E.ro P Q k) (drp i all) a w
  rw [hd]
  refine evalOps_pre hT hΨ (kn := kn) (rs := refsOf all all) l i st M a w hS fun bs => ?_
  rw [h bs]
  refine ⟨rfl, ho bs, fun a' w' M' hS' => ?_⟩
  have := hk bs M' a' w' hS'
  have h2 : lwp E.ro P all.toArray (after E.ro P Q k) (drp (i + m) all) a' w' := this
  rw [hr] at h2
  exact h2
/-- An operation that is passed over. -/
theorem GA_skip {ops : List Oper} {l : List Nat} {r : Nat} (i j dj : Nat) (b : Bool) {o : Oper} {f' : Nat → Option Ent} (hnth : nth ops i = some o) (hi : memN i l = false) (hsel : Region.noSelect ops.toArray = true) (hrd : allM l (edgesM .any o.after.toList) = true) (hfr : frB ops l o i ops 0 = true) (hg : o.guard = some (j, b)) (hdj : dstOf ops j = some dj) (hfj : st.f dj = some (.u (bool (!b))))
    (hf : putS E.N i (refsOf ops ops) st.f o.dst (some (.u und0)) = some f') (hk : GA P E B W M0 Q k ops r (i :: l) ⟨f', st.H, st.nx⟩) : GA P E B W M0 Q k ops (r + 1) l st := by
  intro M a w listed hl hS
  rw [nth_eq] at hnth
  have hlt : i < ops.length := (List.getElem?_eq_some_iff.1 hnth).1
  have ho' : ops.toArray[i]? = some o := by simpa using hnth
  have hmem : i ∈ Region.ready .any ops.toArray listed := (ready_iff hl).2 (rdL_iff.2 ⟨o, Nat.zero_le _, by simpa using hnth, hi, hrd⟩)
  have hnw : Region.wanted o (yielded ops.toArray a.tmps) = false := by
    obtain ⟨u, u1, u2⟩ := hS.f _ _ hfj
    have := RA.val_inv u2; subst this
    unfold Region.wanted
    rw [hg]
    cases b <;> simp [yielded_eq hdj, u1]
  refine wpAny_first ho' (Region.noSelect_spec hsel) (fun c a w h => h) r listed a w (fun j oj hj hji hun hno => ?_) hmem (.inr ⟨hnw, rfl⟩) (hk M _ w _ (hl.set hlt) (SatP.put hS (S' := fun j => memN j (i :: l) = true) (by rw [hi]; simp) (fun j hj => by simp only [memN, Bool.or_eq_true]; exact .inr hj) (Mem.ext_refl _ _) hS.h hf (put_defers _ _) (fun e' he => by cases he; exact .t rfl (by simp)) (by simp)))
  have hj' : ops[j]? = some oj := by simpa using hj
  have hjl : j < ops.length := (List.getElem?_eq_some_iff.1 hj').1
  refine frB_ok hfr j oj hj' (by omega) ?_ (fun hm => ?_)
  · rw [Nat.zero_add]
    cases hm : memN j l with
    | false => rfl
    | true =>
      have := (hl.on j).2 hm
      have hls : j < listed.size := by rw [hl.sz]; exact hjl
      unfold don at this
      simp [hls] at hun this
      rw [hun] at this; cases this
  · obtain ⟨e, e1, e2, e3⟩ := mem_edgesM hm
    exact hno e (by simpa using e1) e2 e3
/-- One bitmap of a list of one's own, its leaf known by itself, as the world knows it. -/
theorem bms_one {b N cap i : Nat} {ty ty' : TypeId} {Lh : List BmH} {L : List Span} {nm : List UInt8} {on : Bool} {u : Value} (h : OwnSl M B w (.slice (some ⟨b, 0, none⟩) N cap) ty .bmh Lh) (hi : i < Lh.length) (hx : Lh.getD i LK.bmh.dft = ⟨nm, on, .v u⟩) (hu : OwnSl M B w u ty' .spn L) (hM : M.on w) :
    RA (Mem.all w) (lst .bms [(⟨nm, on, L⟩ : Bitmap)]) (sli b 0 i (i + 1) cap 3) := by
  rcases h with ⟨h, _⟩ | ⟨b', cap', us, h, g1, g2, g3, g4, g5, g6, g7⟩
  · cases h
  · cases h
    have hne : ¬ cap = i := by omega
    have hg : Lh[i]? = some ⟨nm, on, .v u⟩ := by rw [← hx]; simp [List.getD, List.getElem?_eq_getElem hi]
    have cell : ∀ (o : Nat) (v : Value), us[o]? = some v → (Mem.all w).cell b o = some v := by
      intro o v hv
      simp only [Mem.cell, Mem.all, g3]
      exact hv
    unfold sli
    rw [if_neg hne]
    refine .c (.pv (R.lst_mk (b := b) (o := 0 + i * 3) (by simp) (by omega) (by omega) (fun _ => rfl) (fun e => by cases e) (fun q x j y h1 h2 => ?_)))
    have hq : q = 0 := by have := (List.getElem?_eq_some_iff.1 h1).1; simp at this; omega
    subst hq
    cases h1
    have hj := enc_lt h2
    simp only [LK.sz] at hj ⊢
    match j, hj, h2 with
    | 0, _, h2 =>
      cases h2
      obtain ⟨z, z1, z2⟩ := g7 i _ 0 (sv nm) hg rfl
      exact ⟨z, cell _ _ (by simpa [LK.sz] using z1), z2.mono hM⟩
    | 1, _, h2 =>
      cases h2
      obtain ⟨z, z1, z2⟩ := g7 i _ 1 (bv on) hg rfl
      exact ⟨z, cell _ _ (by simpa [LK.sz] using z1), z2.mono hM⟩
    | 2, _, h2 =>
      cases h2
      obtain ⟨z, z1, z2⟩ := g7 i _ 2 (.val u) hg rfl
      have := z2.val_eq; subst this
      exact ⟨z, cell _ _ (by simpa [LK.sz] using z1), own_lst hu hM⟩
end
end Go.Mt

/-
  Mt, part ZS: names put aside for a while: what they know stays, for nothing that is not one's own is turned.
-/
set_option linter.unusedSimpArgs false
set_option linter.unusedVariables false
namespace Go.Mt
open Go.RowKit

/-- What was put aside, and when. -/
structure HidOk (B : Nat → Prop) (W : World) (M0 : Mem) (w1 : World) (M1 : Mem) (B1 : Nat → Prop) (Hh : Nat → Option HB) : Prop where
  below : BelowF B W w1
  sub : ∀ b, B b → B1 b
  ext : Mem.ext B M0 M1
  ok : ∀ n x, Hh n = some x → HBok M1 B w1 x
  inB : ∀ n x b, Hh n = some x → x.block = some b → B1 b
  inj : ∀ n n' x x' b, n ≠ n' → Hh n = some x → Hh n' = some x' → x.block = some b → x'.block ≠ some b

/-- A list's kind, otherwise. -/
def tbSw (t : TypeId) (k : LK) (T : Tb) : Tb := fun t' => match Nat.beq t' t with
  | true => match T t with
    | some ⟨.slc e _, s, b, z⟩ => some ⟨.slc e k, s, b, z⟩
    | x => x
  | false => T t'
theorem tbSw_ok {P : Program} {t : TypeId} {k : LK} {T : Tb} (h : TbOk P T) (hk : ∀ e k0 s b z, T t = some ⟨.slc e k0, s, b, z⟩ → k.sz = k0.sz) : TbOk P (tbSw t k T) := by
  intro t' i hi
  unfold tbSw at hi
  split at hi
  · rename_i hb
    rw [Nat.beq_eq] at hb; subst hb
    split at hi
    · rename_i e k0 s b z he; cases hi
      obtain ⟨h1, h2, h3⟩ := h _ _ he
      simp only at h3
      obtain ⟨g1, inf, g2, g3⟩ := h3
      exact ⟨fun hh => by simp [eqab] at hh, h2, by simp only; exact ⟨g1, inf, g2, by rw [g3, hk _ _ _ _ _ he]⟩⟩
    · rename_i x he; exact h _ _ hi
  · exact h _ _ hi
section
variable {P : Program} {E : Env} {B : Nat → Prop} {W : World} {M0 M F : Mem} {Q : Exit → Act → World → Prop} {k : List Itm} {st : St} {a : Act} {w w' : World} {N : Nat} {mrk : Bool} {H : Nat → Option HB}

theorem G_hide (hmk : E.mrk = false) (H' Hh : Nat → Option HB) (h0 : hdI k = 0) (hH' : ∀ n x, H' n = some x → st.H n = some x) (hHh : ∀ n x, Hh n = some x → st.H n = some x) (hd : ∀ n x y, H' n = some x → Hh n = some y → False)
    (hk : ∀ (w1 : World) (M1 : Mem) (B1 : Nat → Prop), HidOk B W M0 w1 M1 B1 Hh → G P E B1 w1 M1 Q k ⟨st.f, H', st.nx⟩) : G P E B W M0 Q k st := by
  intro M a w hS
  have far : ∀ n x b, H' n = some x → x.block = some b → ¬ (B b ∨ ∃ m y, Hh m = some y ∧ y.block = some b) := by
    rintro n x b hx hb (hB | ⟨m, y, hy, hyb⟩)
    · exact (HB.block_lt (hS.h.ok n x (hH' n x hx)) hb).1 hB
    · exact hS.h.inj m n y x b (fun e => by subst e; exact hd m x y hx hy) (hHh m y hy) (hH' n x hx) hyb hb
  refine hk w M (fun b => B b ∨ ∃ m y, Hh m = some y ∧ y.block = some b) ⟨hS.h.below, fun b hb => .inl hb, ⟨hS.d.kp, hS.old⟩, fun n x hx => hS.h.ok n x (hHh n x hx), fun n x b hx hb => .inr ⟨n, x, hx, hb⟩, fun n n' x x' b hn h1 h2 => hS.h.inj n n' x x' b hn (hHh n x h1) (hHh n' x' h2)⟩ M a w
    ⟨⟨BelowF.refl _ _, ?_, hS.h.mem, fun n x hx => (hS.h.ok n x (hH' n x hx)).reB (fun b hb hB => far n x b hx hb hB), fun n n' x x' b hn h1 h2 => hS.h.inj n n' x x' b hn (hH' n x h1) (hH' n' x' h2)⟩, fun k o e _ => e, .nil (hS.nodef hmk) (Mem.le_refl _), hS.n, hS.f, hS.g⟩
  rintro b (hB | ⟨m, y, hy, hyb⟩)
  · exact hS.h.base b hB
  · exact (HB.block_lt (hS.h.ok m y (hHh m y hy)) hyb).2.1
/-- What was put aside, as it is now. -/
theorem HidOk.now {w1 : World} {M1 : Mem} {B1 : Nat → Prop} {Hh : Nat → Option HB} (h : HidOk B W M0 w1 M1 B1 Hh) (hb : BelowF B1 w1 w) (hM : Mem.ext B1 M1 M) {n : Nat} {x : HB} (hx : Hh n = some x) : HBok M B w x := by
  have hok := h.ok n x hx
  refine hok.keep hM.1 (fun b hb' => ?_) (fun b hb' => hb.block b (h.inB n x b hx hb'))
  cases hq : M b with
  | none => rfl
  | some o => have := hM.2 b o hq (h.inB n x b hx hb'); rw [(HB.block_lt hok hb').2.2] at this; cases this
theorem G_unhide (hmk : E.mrk = false) {w1 : World} {M1 : Mem} {B1 : Nat → Prop} {Hh : Nat → Option HB} (h : HidOk B W M0 w1 M1 B1 Hh) (Hc : Nat → Option HB) (h0 : hdI k = 0) (hc : ∀ n x, Hc n = some x → st.H n = some x ∨ Hh n = some x)
    (hk : G P E B W M0 Q k ⟨st.f, Hc, st.nx⟩) : G P E B1 w1 M1 Q k st := by
  intro M a w hS
  have hM : Mem.ext B1 M1 M := ⟨hS.d.kp, hS.old⟩
  have mix : ∀ n n' x x' b, st.H n = some x → Hh n' = some x' → x.block = some b → x'.block ≠ some b := by
    intro n n' x x' b h1 h2 hb hb'
    exact (HB.block_lt (hS.h.ok n x h1) hb).1 (h.inB n' x' b h2 hb')
  refine hk M a w ⟨⟨h.below.trans (hS.h.below.mono h.sub), fun k hk => hS.h.base k (h.sub k hk), hS.h.mem, fun n x hx => ?_, fun n n' x x' b hn h1 h2 hb => ?_⟩, fun k o e hB => h.ext.2 k o (hS.old k o e (h.sub k hB)) hB, .nil (hS.nodef hmk) (Mem.le_trans h.ext.1 hS.d.kp), hS.n, hS.f, hS.g⟩
  · rcases hc n x hx with hx | hx
    · exact (hS.h.ok n x hx).reB (fun b hb hB => (HB.block_lt (hS.h.ok n x hx) hb).1 (h.sub b hB))
    · exact h.now hS.h.below hM hx
  · rcases hc n x h1 with h1 | h1 <;> rcases hc n' x' h2 with h2 | h2
    · exact hS.h.inj n n' x x' b hn h1 h2 hb
    · exact mix n n' x x' b h1 h2 hb
    · intro hb'; exact mix n' n x' x b h2 h1 hb' hb
    · exact h.inj n n' x x' b hn h1 h2 hb
/-! ### tables whose leaves are known by name, read as tables -/
theorem R.val_any {K : Mem} {x v : Value} (h : R M (.val x) v) : R K (.val x) v := by
  have h1 := h.val_eq
  subst h1
  exact .val h.one
theorem ent_R {u : Value} {ty : TypeId} {l : List Entry} {Bi : Nat → Prop} {Mi K : Mem} (h : OwnSl Mi Bi w u ty .ent l) (hK : ∀ b, u.ownBlock = some b → K b = w.heap[b]?) : R K (.lst .ent l) u := by
  rcases h with ⟨rfl, rfl⟩ | ⟨b, cap, us, rfl, g1, g2, g3, g4, g5, g6, g7⟩
  · exact R.lst_nil _ _
  · refine R.lst_mk (b := b) (o := 0) rfl g4 g5 (fun _ => rfl) (fun e => by cases e) (fun i x j y h1 h2 => ?_)
    obtain ⟨z, z1, z2⟩ := g7 i x j y h1 h2
    have hc : K.cell b (0 + i * LK.sz .ent + j) = some z := by
      simp only [Mem.cell, hK b rfl, g3, Nat.zero_add]
      exact z1
    refine ⟨z, hc, ?_⟩
    have hj := enc_lt h2
    simp only [LK.sz] at hj
    match j, hj, h2 with
    | 0, _, h2 => cases h2; exact z2.val_any
    | 1, _, h2 => cases h2; exact z2.val_any
    | 2, _, h2 => cases h2; exact z2.val_any
    | 3, _, h2 => cases h2; exact z2.val_any
    | 4, _, h2 => cases h2; exact z2.val_any
/-- A table of one's own, its leaves known by name. -/
def LeafOk (w : World) (Lh : List TE) (t : List (List Entry)) : Prop := t.length = Lh.length ∧ ∀ i, i < t.length → ∃ u ty Mi Bi, Lh[i]? = some (.v u) ∧ OwnSl Mi Bi w u ty .ent (t.getD i [])
theorem tbl_R {v : Value} {ty : TypeId} {Lh : List TE} {t : List (List Entry)} {Bi : Nat → Prop} {Mi K : Mem} (h : OwnSl Mi Bi w v ty .tbh Lh) (hl : LeafOk w Lh t)
    (hK : ∀ b, (v.ownBlock = some b ∨ ∃ (i : Nat) (u : Value), Lh[i]? = some (.v u) ∧ u.ownBlock = some b) → K b = w.heap[b]?) : R K (.lst .tbl t) v := by
  obtain ⟨hl, leaf⟩ := hl
  rcases h with ⟨rfl, rfl⟩ | ⟨b, cap, us, rfl, g1, g2, g3, g4, g5, g6, g7⟩
  · have : t = [] := List.length_eq_zero_iff.1 hl
    subst this
    exact R.lst_nil _ _
  · refine R.lst_mk (b := b) (o := 0) hl g4 g5 (fun _ => rfl) (fun e => by cases e) (fun i x j y h1 h2 => ?_)
    have hj := enc_lt h2
    simp only [LK.sz] at hj
    have hj0 : j = 0 := by omega
    subst hj0
    cases h2
    have hi := (List.getElem?_eq_some_iff.1 h1).1
    obtain ⟨u, ty', M2, B2, e1, e2⟩ := leaf i hi
    have ex : t.getD i [] = x := by simp [List.getD, h1]
    rw [ex] at e2
    obtain ⟨z, z1, z2⟩ := g7 i (.v u) 0 (.val u) e1 rfl
    have := z2.val_eq; subst this
    refine ⟨z, ?_, ent_R e2 (fun b' hb' => hK b' (.inr ⟨i, z, e1, hb'⟩))⟩
    simp only [Mem.cell, hK b (.inl rfl), g3, Nat.zero_add]
    exact z1
/-- The blocks of a table and of its leaves. -/
def tblB (v : Value) (Lh : List TE) (b : Nat) : Prop := v.ownBlock = some b ∨ ∃ (i : Nat) (u : Value), Lh[i]? = some (.v u) ∧ u.ownBlock = some b
theorem SatH.freezeT (hS : SatH B W H M w) {n : Nat} {v : Value} {ty ty' : TypeId} {Lh : List TE} {t : List (List Entry)} (τ : Nat → Nat) {H' : Nat → Option HB} (hn : H n = some (.own v ty .tbh Lh)) (hl : t.length = Lh.length)
    (leaf : ∀ i, i < t.length → ∃ u, Lh[i]? = some (.v u) ∧ H (τ i) = some (.own u ty' .ent (t.getD i []))) (hH : ∀ m x, H' m = some x → H m = some x ∧ m ≠ n ∧ ∀ i, i < t.length → m ≠ τ i) :
    ∃ M', Mem.ext B M M' ∧ SatH B W H' M' w ∧ R M' (.lst .tbl t) v := by
  classical
  have lf : ∀ (i : Nat) (u : Value), Lh[i]? = some (.v u) → H (τ i) = some (.own u ty' .ent (t.getD i [])) ∧ i < t.length := by
    intro i u hu
    have hi : i < t.length := by rw [hl]; exact (List.getElem?_eq_some_iff.1 hu).1
    obtain ⟨u', e1, e2⟩ := leaf i hi
    rw [hu] at e1; cases e1
    exact ⟨e2, hi⟩
  have own : ∀ b, tblB v Lh b → ∃ m x, H m = some x ∧ x.block = some b ∧ (m = n ∨ ∃ i, i < t.length ∧ m = τ i) := by
    rintro b (hb | ⟨i, u, hu, hb⟩)
    · exact ⟨n, _, hn, hb, .inl rfl⟩
    · obtain ⟨q1, q2⟩ := lf i u hu
      exact ⟨τ i, _, q1, hb, .inr ⟨i, q2, rfl⟩⟩
  let M' : Mem := fun b => if tblB v Lh b then w.heap[b]? else M b
  have hno : ∀ b, tblB v Lh b → ¬ B b ∧ M b = none := fun b hb => by
    obtain ⟨m, x, h1, h2, _⟩ := own b hb
    have := HB.block_lt (hS.ok m x h1) h2
    exact ⟨this.1, this.2.2⟩
  have hle : M.le M' := by
    intro b o e
    by_cases hb : tblB v Lh b
    · rw [(hno b hb).2] at e; cases e
    · simp [M', hb, e]
  refine ⟨M', ⟨hle, fun b o e hB => ?_⟩, ⟨hS.below, hS.base, fun b o e => ?_, fun m x hm => ?_, fun m m' x x' b hmm h1 h2 => hS.inj m m' x x' b hmm (hH m x h1).1 (hH m' x' h2).1⟩, ?_⟩
  · by_cases hb : tblB v Lh b
    · exact absurd hB (hno b hb).1
    · simpa [M', hb] using e
  · by_cases hb : tblB v Lh b
    · simpa [M', hb] using e
    · exact hS.mem b o (by simpa [M', hb] using e)
  · obtain ⟨h1, h2, h3⟩ := hH m x hm
    refine (hS.ok m x h1).keep hle (fun b hb => ?_) (fun _ _ => rfl)
    have hnb : ¬ tblB v Lh b := fun ht => by
      obtain ⟨m2, x2, q1, q2, q3⟩ := own b ht
      have hne : m ≠ m2 := by
        rcases q3 with rfl | ⟨i, hi, rfl⟩
        · exact h2
        · exact h3 i hi
      exact hS.inj m m2 x x2 b hne h1 q1 hb q2
    simp only [M', hnb, if_false]
    exact (HB.block_lt (hS.ok m x h1) hb).2.2
  · refine tbl_R (Bi := B) (Mi := M) (hS.ok n _ hn) ⟨hl, fun i hi => ?_⟩ (fun b hb => by simp only [M', show tblB v Lh b from hb, if_true])
    obtain ⟨u, e1, e2⟩ := leaf i hi
    exact ⟨u, ty', M, B, e1, hS.ok _ _ e2⟩
/-- A table in a variable's cell that nothing turns any more. -/
theorem G_freezeT (m j n : Nat) (τ : Nat → Nat) {b : Nat} {tb ty ty' : TypeId} {cs : List C} {v : Value} {Lh : List TE} {t : List (List Entry)} (H' : Nat → Option HB) (hm : st.H m = some (.blk b tb cs)) (hj : nth cs j = some (.own n v)) (hn : st.H n = some (.own v ty .tbh Lh)) (hl : t.length = Lh.length)
    (leaf : ∀ i, i < t.length → ∃ u, Lh[i]? = some (.v u) ∧ st.H (τ i) = some (.own u ty' .ent (t.getD i []))) (hH : ∀ q x, H' q = some x → (q = m ∧ x = .blk b tb (cs.set j (.pv (.lst .tbl t)))) ∨ (q ≠ m ∧ st.H q = some x ∧ q ≠ n ∧ ∀ i, i < t.length → q ≠ τ i))
    (hk : G P E B W M0 Q k ⟨st.f, H', st.nx⟩) : G P E B W M0 Q k st := by
  intro M a w hS
  have hmn : m ≠ n := fun e => by subst e; rw [hm] at hn; cases hn
  have hmt : ∀ i, i < t.length → m ≠ τ i := fun i hi e => by
    obtain ⟨u, _, e2⟩ := leaf i hi
    rw [← e, hm] at e2; cases e2
  have hnm : ∀ q x, (fun q => if q = m then some (.blk b tb cs) else H' q) q = some x → st.H q = some x ∧ q ≠ n ∧ ∀ i, i < t.length → q ≠ τ i := by
    intro q x hq
    by_cases e : q = m
    · subst e; simp at hq; subst hq; exact ⟨hm, hmn, hmt⟩
    · simp only [if_neg e] at hq
      rcases hH q x hq with ⟨h, _⟩ | ⟨_, h1, h2, h3⟩
      · exact absurd h e
      · exact ⟨h1, h2, h3⟩
  obtain ⟨M', h1, h2, h3⟩ := hS.h.freezeT τ hn hl leaf (H' := fun q => if q = m then some (.blk b tb cs) else H' q) hnm
  have ho : OwnSl M B w v ty .tbh Lh := hS.h.ok n _ hn
  have hv : v.oneCell' = true := ho.one
  have hokm : HBok M' B w (.blk b tb (cs.set j (.pv (.lst .tbl t)))) := by
    obtain ⟨g1, g2, us, g3, g4⟩ := h2.ok m (.blk b tb cs) (by simp)
    refine ⟨g1, g2, us, g3, by rw [List.length_set]; exact g4.1, fun q c u e1 e2 => ?_⟩
    rw [List.getElem?_set] at e1
    split at e1
    · rename_i hq; subst hq
      split at e1
      · cases e1
        have := g4.2 j _ u (by rw [← nth_eq]; exact hj) e2
        cases this with
        | own _ => exact .pv h3
      · cases e1
    · exact g4.2 q c u e1 e2
  refine hk M' a w ⟨⟨h2.below, h2.base, h2.mem, fun q x hq => ?_, fun q q' x x' c hqq e1 e2 hc => ?_⟩, fun k o e hk => hS.old k o (h1.2 k o e hk) hk, hS.d.mono h1.1 rfl, hS.n, fun s e he => ?_, hS.g⟩
  · rcases hH q x hq with ⟨rfl, rfl⟩ | ⟨e, _⟩
    · exact hokm
    · exact h2.ok q x (by simp only [if_neg e]; exact hq)
  · have key : ∀ q x, H' q = some x → ∃ y, (fun q => if q = m then some (.blk b tb cs) else H' q) q = some y ∧ y.block = x.block := by
      intro q x hq
      rcases hH q x hq with ⟨rfl, rfl⟩ | ⟨e, _⟩
      · exact ⟨.blk b tb cs, by simp, rfl⟩
      · exact ⟨x, by simp only [if_neg e]; exact hq, rfl⟩
    obtain ⟨y, y1, y2⟩ := key q x e1
    obtain ⟨y', y1', y2'⟩ := key q' x' e2
    rw [← y2']; exact h2.inj q q' y y' c hqq y1 y1' (by rw [y2]; exact hc)
  · obtain ⟨u, u1, u2⟩ := hS.f s e he
    exact ⟨u, u1, u2.mono h1.1⟩
/-- A function that hands back a table of its own, its leaves known by name: what it hands back is all new. -/
theorem CtrF.toC {X : Type} {f : FuncId} {as : List A} {ok : X → Prop} {v : X → Value} {Lh : X → List TE} {L : X → Nat → Option HB} {ty ty' : TypeId} {t : List (List Entry)}
    (h : CtrF P f as [] ok (fun x => .g [.own 0 (v x)]) (fun x => [.own (v x) ty .tbh (Lh x)]) L)
    (hl : ∀ x, ok x → t.length = (Lh x).length ∧ ∀ i, i < t.length → ∃ u, (Lh x)[i]? = some (.v u) ∧ L x i = some (.own u ty' .ent (t.getD i []))) : Ctr P f false as (.x (.g [.lst .tbl t])) := by
  classical
  refine ⟨h.1, fun M w vs hM hra => (h.2 M w vs ⟨BelowF.refl _ _, fun b hb => hb.1, hM, (fun n x hx => by cases n <;> cases hx), (fun n n' x x' b _ hx => by cases n <;> cases hx)⟩ hra).mono ?_⟩
  rintro e w' ⟨r, M', x, rfl, hM', hok, hr, hS⟩
  obtain ⟨hlen, leaf⟩ := hl x hok
  have hfr : ∀ b, frn w [] b ↔ b < w.heap.size := fun b => ⟨fun h => h.1, fun h => ⟨h, fun j y e => by simp at e⟩⟩
  have lf : ∀ (i : Nat) (u : Value), (Lh x)[i]? = some (.v u) → famH [HB.own (v x) ty .tbh (Lh x)] (L x) (i + 40) = some (.own u ty' .ent (t.getD i [])) ∧ i < t.length := by
    intro i u hu
    have hi : i < t.length := by rw [hlen]; exact (List.getElem?_eq_some_iff.1 hu).1
    obtain ⟨u', e1, e2⟩ := leaf i hi
    rw [hu] at e1; cases e1
    refine ⟨?_, hi⟩
    unfold famH
    rw [ble40.2 (by omega), show i + 40 - 40 = i by omega]
    exact e2
  have own : ∀ b, tblB (v x) (Lh x) b → ¬ frn w [] b ∧ b < w'.heap.size := by
    rintro b (hb | ⟨i, u, hu, hb⟩)
    · have := HB.block_lt (hS.ok 0 _ rfl) hb
      exact ⟨this.1, this.2.1⟩
    · have := HB.block_lt (hS.ok (i + 40) _ (lf i u hu).1) hb
      exact ⟨this.1, this.2.1⟩
  let F : Mem := fun b => if tblB (v x) (Lh x) b then w'.heap[b]? else none
  refine ⟨r, F, rfl, ⟨hS.below.os, hS.below.tape, hS.below.output, hS.below.size, fun i hi => hS.below.block i ((hfr i).2 hi)⟩, fun b o e => ?_, ?_⟩
  · by_cases hb : tblB (v x) (Lh x) b
    · refine ⟨Nat.le_of_not_lt fun h => (own b hb).1 ((hfr b).2 h), by simpa [F, hb] using e⟩
    · simp [F, hb] at e
  · have hR : R F (.lst .tbl t) (v x) := tbl_R (hS.ok 0 _ rfl) ⟨hlen, fun i hi => by
      obtain ⟨u, e1, e2⟩ := leaf i hi
      exact ⟨u, ty', M', _, e1, hS.ok (i + 40) _ (lf i u e1).1⟩⟩ (fun b hb => by simp only [F, show tblB (v x) (Lh x) b from hb, if_true])
    show RXok F (.g [.lst .tbl t]) r
    cases hr with
    | @g _ us hr =>
      refine ⟨us, rfl, by simpa using hr.1, fun j y u e1 e2 => ?_⟩
      have hj : j = 0 := by have := (List.getElem?_eq_some_iff.1 e1).1; simp at this; exact this
      subst hj
      cases e1
      have := hr.2 0 _ u rfl (by simpa using e2)
      cases this with
      | own _ => exact hR
/-! ### one list and a family put aside, under the names 39, 40 .. -/
def hidH (C : HB) (L : Nat → Option HB) (m : Nat) : Option HB := match Nat.ble 40 m with
  | true => L (m - 40)
  | false => match Nat.beq m 39 with
    | true => some C
    | false => none
theorem hidH_cases {C : HB} {L : Nat → Option HB} {m : Nat} {x : HB} (h : hidH C L m = some x) : (m = 39 ∧ x = C) ∨ (40 ≤ m ∧ L (m - 40) = some x) := by
  unfold hidH at h
  split at h
  · rename_i hb; exact .inr ⟨ble40.1 hb, h⟩
  · split at h
    · rename_i hb; rw [Nat.beq_eq] at hb; cases h; exact .inl ⟨hb, rfl⟩
    · cases h
theorem G_nxTo (m : Nat) (hk : G P E B W M0 Q k ⟨st.f, st.H, m⟩) : G P E B W M0 Q k st :=
  fun M a w hS => hk M a w ⟨hS.h, hS.old, hS.d, hS.n, hS.f, hS.g⟩
theorem wkF_congr {st' : St} (h : st'.f = st.f) : ∀ {fs : List (Nat × A)}, wkF st fs → wkF st' fs := by
  intro fs
  induction fs with
  | nil => intro _; trivial
  | cons p fs ih =>
    obtain ⟨s, x⟩ := p
    intro hw
    exact ⟨by rw [h]; exact hw.1, ih hw.2⟩
theorem wkH_congr {st' : St} : ∀ {ms : List Nat} {hs : List HB}, (∀ m ∈ ms, st'.H m = st.H m) → wkH st ms hs → wkH st' ms hs := by
  intro ms
  induction ms with
  | nil => intro hs _ h; cases hs with
    | nil => trivial
    | cons => exact h.elim
  | cons m ms ih =>
    intro hs hm h
    cases hs with
    | nil => exact h.elim
    | cons x xs => exact ⟨by rw [hm m List.mem_cons_self]; exact h.1, ih (fun q hq => hm q (List.mem_cons_of_mem _ hq)) h.2⟩
theorem G_hideT (hmk : E.mrk = false) (ns : List Nat) {fs : List (Nat × A)} {hs : List HB} {C : HB} {L : Nat → Option HB} (h0 : hdI k = 0) (hw : Wk st ns fs hs) (h39 : st.H 39 = some C) (hns : allB (fun n => Nat.blt n 39) ns = true) (hL : ∀ i x, L i = some x → st.H (i + 40) = some x)
    (hk : ∀ (w1 : World) (M1 : Mem) (B1 : Nat → Prop), HidOk B W M0 w1 M1 B1 (hidH C L) → G P E B1 w1 M1 Q k (mk fs hs)) : G P E B W M0 Q k st := by
  have lt : ∀ m, memN m ns = true → m < 39 := fun m hm => by
    obtain ⟨i, hi⟩ := List.getElem?_of_mem (memN_in hm)
    have := allB_get hns hi
    rwa [Nat.blt_eq] at this
  refine G_hide hmk (fun n => match memN n ns with | true => st.H n | false => none) (hidH C L) h0 (fun n x hx => ?_) (fun n x hx => ?_) (fun n x y hx hy => ?_) (fun w1 M1 B1 hh => G_wk (ns := ns) h0 ?_ (hk w1 M1 B1 hh))
  · split at hx
    · exact hx
    · cases hx
  · rcases hidH_cases hx with ⟨rfl, rfl⟩ | ⟨h1, h2⟩
    · exact h39
    · have := hL _ x h2
      rwa [show n - 40 + 40 = n by omega] at this
  · split at hx
    · rename_i hm
      have := lt n hm
      rcases hidH_cases hy with ⟨h, _⟩ | ⟨h, _⟩ <;> omega
    · cases hx
  · obtain ⟨g1, g2, g3⟩ := hw
    refine ⟨g1, ?_, ?_⟩
    · have := wkF_congr (st := st) (st' := ⟨st.f, fun n => match memN n ns with | true => st.H n | false => none, st.nx⟩) rfl g2
      exact this
    · exact wkH_congr (st := st) (fun m hm => by simp only [memN_mem hm]) g3
theorem G_unhideT (hmk : E.mrk = false) {w1 : World} {M1 : Mem} {B1 : Nat → Prop} {C : HB} {L : Nat → Option HB} (h : HidOk B W M0 w1 M1 B1 (hidH C L)) (h0 : hdI k = 0)
    (hk : G P E B W M0 Q k ⟨st.f, fun m => match Nat.ble 40 m with | true => L (m - 40) | false => (match Nat.beq m 39 with | true => some C | false => st.H m), st.nx⟩) : G P E B1 w1 M1 Q k st := by
  refine G_unhide hmk h _ h0 (fun n x hx => ?_) hk
  unfold hidH
  split at hx
  · rename_i hb; exact .inr hx
  · split at hx
    · exact .inr hx
    · exact .inl hx
theorem G_wkFB2 {ns : List Nat} (τ : Nat → Nat) {fs : Nat → Nat → List (Nat × A)} {hs : Nat → Nat → List HB} {L : Nat → Option HB} (b c : Nat) (h0 : hdI k = 0) (h : WkF st ns τ (fs b c) (hs b c) L) (hk : ∀ b c, G P E B W M0 Q k (mkF (fs b c) (hs b c) L)) : G P E B W M0 Q k st :=
  G_wkF τ h0 h (hk b c)
/-! ### ways through a region that meet again -/
theorem allM_sub {l l' : List Nat} (h : allM l l' = true) {j : Nat} (hj : memN j l' = true) : memN j l = true := allM_ok.1 h j (memN_in hj)
theorem GA_wk {ops : List Oper} {l : List Nat} {r : Nat} (ns : List Nat) {fs : List (Nat × A)} {hs : List HB} (l' : List Nat) (h1 : allM l l' = true) (h2 : allM l' l = true) (h : Wk st ns fs hs) (hk : GA P E B W M0 Q k ops r l' (mk fs hs)) : GA P E B W M0 Q k ops r l st := by
  intro M a w listed hl hS
  have hm : ∀ j, memN j l = true ↔ memN j l' = true := fun j => ⟨fun h => allM_sub h2 h, fun h => allM_sub h1 h⟩
  obtain ⟨g1, g2, g3⟩ := h
  obtain ⟨q1, q2⟩ := wkH_ok g3
  have hH : ∀ n x, (mk fs hs).H n = some x → ∃ m y, ns[n]? = some m ∧ st.H m = some y ∧ simH y x := by
    intro n x hn
    simp only [mk, nth_eq] at hn
    exact q2 n x hn
  refine hk M a w listed ⟨hl.sz, fun j => (hl.on j).trans (hm j)⟩ ⟨⟨hS.h.below, hS.h.base, hS.h.mem, fun n x hn => ?_, fun n n' x x' b hnn e1 e2 hb => ?_⟩, hS.old, hS.d, hS.n, fun s e he => ?_, fun s j b x hx => ?_⟩
  · obtain ⟨m, y, p1, p2, p3⟩ := hH n x hn
    exact (simH_ok p3 (hS.h.ok m y p2)).1
  · obtain ⟨m, y, p1, p2, p3⟩ := hH n x e1
    obtain ⟨m', y', p1', p2', p3'⟩ := hH n' x' e2
    have b1 := (simH_ok p3 (hS.h.ok m y p2)).2
    have b2 := (simH_ok p3' (hS.h.ok m' y' p2')).2
    rw [b1] at hb; rw [b2]
    refine hS.h.inj m m' y y' b (fun e => hnn ?_) p2 p2' hb
    subst e
    exact nodupB_inj g1 n n' m p1 p1'
  · simp only [mk] at he
    split at he
    · rename_i x hx; cases he
      obtain ⟨y, p1, p2⟩ := wkF_ok g2 s x hx
      obtain ⟨u, u1, u2⟩ := hS.f s _ p1
      exact ⟨u, u1, simA_ok p2 u2⟩
    · cases he
  · simp only [mk] at hx
    split at hx <;> cases hx
/-- A struct of one cell, a table whose leaves the world knows. -/
theorem RA.tblG {K M : Mem} {n : Nat} {v : Value} {t : List (List Entry)} {u : Value} (h : RA M (.g [.own n v]) u) (hR : R K (.lst .tbl t) v) : RA K (.g [.pv (.lst .tbl t)]) u := by
  cases h with
  | @g _ us hr =>
    refine .g ⟨by simpa using hr.1, fun j c u e1 e2 => ?_⟩
    have hj : j = 0 := by have := (List.getElem?_eq_some_iff.1 e1).1; simp at this; exact this
    subst hj
    cases e1
    have := hr.2 0 _ u rfl e2
    cases this with
    | own _ => exact .pv hR
/-- Behind a region's last operation. -/
theorem G_wk0 {ops : List Oper} {ns : List Nat} {fs : List (Nat × A)} {hs : List HB} (h : Wk st ns fs hs) (hk : G P E B W M0 Q (.ops ops (len ops) :: k) (mk fs hs)) : G P E B W M0 Q (.ops ops (len ops) :: k) st := by
  intro M a w hS
  have h0 := h.sat hS
  refine hk M a w ⟨h0.h, h0.old, h0.d, h0.n, fun s e he => ?_, fun s j b x hx => ?_⟩
  · obtain ⟨u, u1, u2⟩ := h0.f s e he
    cases e with
    | u x => exact ⟨u, u1, u2⟩
    | gd j b x =>
      simp only [mk] at he
      split at he <;> cases he
  · simp only [mk] at hx
    split at hx <;> cases hx
theorem G_wkFB3 {ns : List Nat} (τ : Nat → Nat) {fs : Nat → Nat → Nat → List (Nat × A)} {hs : Nat → Nat → Nat → List HB} {L : Nat → Option HB} (b c d : Nat) (h0 : hdI k = 0) (h : WkF st ns τ (fs b c d) (hs b c d) L) (hk : ∀ b c d, G P E B W M0 Q k (mkF (fs b c d) (hs b c d) L)) : G P E B W M0 Q k st :=
  G_wkF τ h0 h (hk b c d)
/-- A call that turns nothing, with arguments of which only the world knows. -/
theorem G_callK {all : List Oper} {i : Nat} {o : Oper} {fo : Operand} {args : List Operand} {tys : List TypeId} {f : Nat} {as : List A} {r : RX} {f' : Nat → Option Ent}
    (hc : Ctr P f false as (.x r)) (hd : drp i all = o :: drp (i + 1) all) (hg : Wanted all st.f o) (ho : o.op = .call ⟨.value fo, ⟨args⟩, ⟨tys⟩⟩) (hfo : rdG st.f [] fo = some (.c (.clo f [])))
    (ha : ∀ M a w, Sat E.N E.mrk B W M0 all (refsOf all all) i st M a w → RAs (Mem.all w) as (args.map a.eval).toArray) (hf : putS E.N i (refsOf all all) st.f o.dst (some (.u (instX r))) = some f')
    (hk : G P E B W M0 Q (.ops all (i + 1) :: k) ⟨f', st.H, st.nx⟩) : G P E B W M0 Q (.ops all i :: k) st := by
  intro M a w hS
  show lwp E.ro P all.toArray (after E.ro P Q k) (drp i all) a w
  rw [hd]
  refine lwp_step fun K hK => ?_
  rw [if_pos (wanted_ok hS hg)]
  exact callK hS (S' := fun j => j < i + 1) (Nat.lt_irrefl i) (fun j hj => Nat.lt_succ_of_lt hj) hc ho hfo (ha M a w hS) hf fun M' a' w' hS' => hK _ _ (hk M' a' w' hS')
end
end Go.Mt
