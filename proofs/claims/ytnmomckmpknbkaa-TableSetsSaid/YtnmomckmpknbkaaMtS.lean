/-
  Mt, part S: a function's beginning and its end.
-/
import Derived.Test.YtnmomckmpknbkaaMtR
set_option linter.unusedSimpArgs false
set_option linter.unusedVariables false
namespace Go.Mt
open Go.RowKit

def resA (T : Tb) (f : Nat → Option Ent) (H : Nat → Option HB) : ResultVar → Option (A × Prop)
  | .tmp t => match f t with
    | some (.u x) => some (x, True)
    | _ => none
  | .cell t ty => match f t with
    | some (.u (.c (.ptr n b o))) => match H n with
      | some (.blk b' _ cs) => match ldA T ty (drp o cs) with
        | some a => some (a, b = b')
        | none => none
      | _ => none
    | _ => none
def resAll (T : Tb) (f : Nat → Option Ent) (H : Nat → Option HB) : List ResultVar → Option (List A × Prop)
  | [] => some ([], True)
  | r :: rs => match resA T f H r, resAll T f H rs with
    | some (x, ob), some (xs, ob') => some (x :: xs, ob ∧ ob')
    | _, _ => none
def flatPV : PV → Bool
  | .val _ => true
  | _ => false
def LK.flat : LK → Bool
  | .rcd | .tbl | .bms | .sht | .tbh => false
  | _ => true
def outPV (sh : Bool) (x y : PV) : Prop := match sh, flatPV x with
  | false, false => False
  | _, _ => simPV x y
def outCs (sh : Bool) : List C → List PV → Prop
  | [], [] => True
  | .pv x :: xs, y :: ys => outPV sh x y ∧ outCs sh xs ys
  | _, _ => False
def outX (sh : Bool) : A → RX → Prop
  | .c (.pv x), .c y => outPV sh x y
  | .g cs, .g ys => outCs sh cs ys
  | .c (.clo f [.cel cs]), .cl f' cs' => sh = true ∧ f = f' ∧ cs = cs'
  | _, _ => False
def outXs (sh : Bool) : List A → List RX → Prop
  | [], [] => True
  | a :: as, r :: rs => outX sh a r ∧ outXs sh as rs
  | _, _ => False
def outO (sh : Bool) (H : Nat → Option HB) (e : TypeId) (k : LK) (l : List k.T) : A → Prop
  | .c (.own n v) => match H n with
    | some (.own v' ty k' l') => (sh || k.flat) = true ∧ v = v' ∧ ty = e ∧ (⟨k', l'⟩ : (k : LK) × List k.T) = ⟨k, l⟩
    | _ => False
  | .c (.pv (.nil _)) => l = []
  | _ => False
def out (sh : Bool) (H : Nat → Option HB) : RV → List A → Prop
  | .x r, [a] => outX sh a r
  | .o e k l, [a] => outO sh H e k l a
  | .ot e k l (r :: rest), a :: as => outO sh H e k l a ∧ outXs sh as (r :: rest)
  | .t [], [] => True
  | .t (r :: r' :: rest), as => outXs sh as (r :: r' :: rest)
  | _, _ => False

def FnPost (sh : Bool) (M0 : Mem) (W : World) (rv : RV) : Ending → World → Prop :=
  fun e w' => ∃ v F, e = .returned v ∧ Below W.heap.size W w' ∧ Fresh F W.heap.size w' ∧ RVok (shM sh M0 F) W.heap.size w' rv v
def init (args : List A) : St := ⟨fun s => match nth args s with
  | some x => some (.u x)
  | none => none, fun _ => none, 0⟩
def isRet : Code → Bool | .ret => true | _ => false

section
variable {P : Program} {E : Env} {B : Nat} {W : World} {M0 M F : Mem} {Q : Exit → Act → World → Prop} {k : List Itm} {st : St} {a : Act} {w : World} {N : Nat} {mrk : Bool} {sh : Bool}

theorem after_ret {ro : Option Nat} : ∀ {k : List Itm}, Q .ret a w → after ro P Q k .ret a w := by
  intro k
  induction k with
  | nil => intro h; exact h
  | cons x k ih => intro h; cases x <;> exact ih h

theorem enc_flat {k : LK} (h : k.flat = true) {x : k.T} {j : Nat} {y : PV} (hy : (k.enc x)[j]? = some y) : ∃ v, y = .val v := by
  have hm := List.mem_of_getElem? hy
  cases k <;> simp [LK.flat] at h <;> simp [LK.enc] at hm
  all_goals (first | exact ⟨_, hm⟩ | (rcases hm with rfl | rfl | rfl | rfl | rfl | rfl <;> exact ⟨_, rfl⟩) | (rcases hm with rfl | rfl | rfl | rfl | rfl <;> exact ⟨_, rfl⟩) | (rcases hm with rfl | rfl | rfl | rfl <;> exact ⟨_, rfl⟩) | (rcases hm with rfl | rfl | rfl <;> exact ⟨_, rfl⟩) | (rcases hm with rfl | rfl <;> exact ⟨_, rfl⟩))

theorem outPV_ok (hle : sh = true → M.le F) {x y : PV} (h : outPV sh x y) {v : Value} (r : R M x v) : R F y v := by
  cases sh with
  | true =>
    have h' : simPV x y := by simpa [outPV] using h
    exact (simPV_ok h' r).mono (hle rfl)
  | false =>
    cases x with
    | val u =>
      have h' : simPV (.val u) y := by simpa [outPV, flatPV] using h
      have := r.val_eq; subst this
      exact simPV_ok h' (.val r.one)
    | nil => simp [outPV, flatPV] at h
    | lst => simp [outPV, flatPV] at h

theorem outCs_ok (hle : sh = true → M.le F) : ∀ {cs : List C} {ys : List PV} {us : List Value}, outCs sh cs ys → RCs M cs us → us.length = ys.length ∧ ∀ (j : Nat) (y : PV) (u : Value), ys[j]? = some y → us[j]? = some u → R F y u := by
  intro cs
  induction cs with
  | nil => intro ys us h r; cases ys with
    | nil => exact ⟨r.1, by simp⟩
    | cons => simp [outCs] at h
  | cons c cs ih =>
    intro ys us h r
    cases ys with
    | nil => cases c <;> simp [outCs] at h
    | cons y ys =>
      cases c <;> simp only [outCs] at h
      rename_i x
      obtain ⟨h1, h2⟩ := h
      cases us with
      | nil => have := r.1; simp at this
      | cons u us =>
        obtain ⟨i1, i2⟩ := ih h2 (us := us) ⟨by simpa using r.1, fun j c u' a b => r.2 (j + 1) c u' (by simpa using a) (by simpa using b)⟩
        refine ⟨by simp [i1], fun j y' u' a b => ?_⟩
        cases j with
        | zero =>
          simp at a b; subst a b
          have := r.2 0 _ u rfl rfl
          cases this with | pv rr => exact outPV_ok hle h1 rr
        | succ j => exact i2 j y' u' (by simpa using a) (by simpa using b)

theorem outX_ok (hle : sh = true → M.le F) {x : A} {r : RX} (h : outX sh x r) {v : Value} (hr : RA M x v) : RXok F r v := by
  unfold outX at h
  split at h
  · cases hr with | c hr => cases hr with | pv hr => exact outPV_ok hle h hr
  · cases hr with
    | g hr =>
      obtain ⟨h1, h2⟩ := outCs_ok hle h hr
      exact ⟨_, rfl, by simpa using h1, fun j x u a b => h2 j x u a (by simpa using b)⟩
  · obtain ⟨e1, rfl, rfl⟩ := h
    cases hr with | c hr => exact RC.mono (hle e1) hr
  · cases h

theorem outXs_ok (hle : sh = true → M.le F) : ∀ {as : List A} {rs : List RX}, outXs sh as rs → as.length = rs.length ∧ ∀ (j : Nat) (x : A) (r : RX), as[j]? = some x → rs[j]? = some r → outX sh x r := by
  intro as
  induction as with
  | nil => intro rs h; cases rs with
    | nil => exact ⟨rfl, by simp⟩
    | cons => simp [outXs] at h
  | cons x as ih =>
    intro rs h
    cases rs with
    | nil => simp [outXs] at h
    | cons r rs =>
      obtain ⟨h1, h2⟩ := h
      obtain ⟨i1, i2⟩ := ih h2
      refine ⟨by simp [i1], fun j y r' a b => ?_⟩
      cases j with
      | zero => simp at a b; subst a b; exact h1
      | succ j => exact i2 j y r' (by simpa using a) (by simpa using b)

theorem outO_ok {H : Nat → Option HB} (hS : SatH B W H M w) (hle : sh = true → M.le F) (hno : ∀ b, B ≤ b → M b = none → F b = none) {x : A} {e : TypeId} {k : LK} {l : List k.T} (h : outO sh H e k l x) {v : Value} (hr : RA M x v) : OwnSl F B w v e k l := by
  unfold outO at h
  split at h
  · split at h
    · rename_i hn
      obtain ⟨h0, rfl, rfl, h3⟩ := h
      cases h3
      have := hr.own_inv; subst this
      rcases hS.ok _ _ hn with ⟨rfl, rfl⟩ | ⟨b, cap, us, rfl, h1, h2, h3, h4, h5, h6, h7⟩
      · exact .inl ⟨rfl, rfl⟩
      · refine .inr ⟨b, cap, us, rfl, h1, hno b h1 h2, h3, h4, h5, h6, fun i x j y e1 e2 => ?_⟩
        obtain ⟨u, u1, u2⟩ := h7 i x j y e1 e2
        refine ⟨u, u1, ?_⟩
        cases sh with
        | true => exact u2.mono (hle rfl)
        | false =>
          obtain ⟨z, rfl⟩ := enc_flat (by simpa using h0) e2
          have := u2.val_eq; subst this
          exact .val u2.one
    · cases h
  · subst h
    have := RA.nil_inv hr; subst this
    exact .inl ⟨rfl, rfl⟩
  · cases h

theorem resAll_ok (hT : TbOk P E.T) (hS : Sat N mrk B W M0 [] [] 0 st M a w) {g : ResultVar → Sem Value} (hg1 : ∀ t, g (.tmp t) = pure (a.tmps.getD t undef)) (hg2 : ∀ t ty, g (.cell t ty) = do loadVar ty (← asAddr (a.tmps.getD t undef))) {rs : List ResultVar} {as : List A} {ob : Prop} (h : resAll E.T st.f st.H rs = some (as, ob)) (hob : ob) :
    ∃ vs : List Value, (rs.mapM g).run P w = .ok vs w ∧ vs.length = as.length ∧ rs.length = as.length ∧ ∀ (j : Nat) x v, as[j]? = some x → vs[j]? = some v → RA M x v := by
  induction rs generalizing as ob with
  | nil => cases h; exact ⟨[], by simp, rfl, rfl, by simp⟩
  | cons r rs ih =>
    simp only [resAll] at h
    split at h
    · rename_i x obx xs obxs h1 h2; cases h
      obtain ⟨vs, i1, i2, i2', i3⟩ := ih h2 hob.2
      have hone : ∃ v, (g r).run P w = .ok v w ∧ RA M x v := by
        cases r with
        | tmp t =>
          simp only [resA] at h1
          split at h1
          · rename_i y hf; cases h1
            obtain ⟨u, u1, u2⟩ := hS.f _ _ hf
            exact ⟨u, by rw [hg1]; simp [Array.getD_eq_getD_getElem?, u1], u2⟩
          · cases h1
        | cell t ty =>
          simp only [resA] at h1
          split at h1
          · rename_i n b o hf
            split at h1
            · rename_i b' ty' cs hn
              split at h1
              · rename_i y hy; cases h1
                have hb : b = b' := hob.1
                subst hb
                obtain ⟨u, u1, u2⟩ := hS.f _ _ hf
                have := RA.ptr_inv u2; subst this
                obtain ⟨g1, g2, us, g3, g4⟩ := hS.h.ok _ _ hn
                obtain ⟨v, q1, q2⟩ := ldA_ok (w := w) (M := M) (b := b) (o := o) hT hy (fun j c hj => by
                  rw [drp_eq, List.getElem?_drop] at hj
                  have hlt := (List.getElem?_eq_some_iff.1 hj).1
                  obtain ⟨u, hu⟩ := arr_get us (o + j) (by have := g4.1; simp at this; omega)
                  exact ⟨u, by simp [World.cell?, g3, hu], g4.2 _ c _ hj (by simpa using hu)⟩)
                exact ⟨v, by rw [hg2]; simp [Array.getD_eq_getD_getElem?, u1, asAddr, q1], q2⟩
              · cases h1
            · cases h1
          · cases h1
      obtain ⟨v, v1, v2⟩ := hone
      refine ⟨v :: vs, ?_, by simp [i2], by simp [i2'], fun j y u e1 e2 => ?_⟩
      · rw [List.mapM_cons]
        simp only [Sem.run_bind]
        rw [v1]
        simp only [Result.andThen_ok]
        rw [i1]
        rfl
      · cases j with
        | zero => simp at e1 e2; subst e1 e2; exact v2
        | succ j => exact i3 j y u (by simpa using e1) (by simpa using e2)
    · cases h

/-! ### blocks that are no cells may turn -/
def Mem.cle (M M' : Mem) : Prop := ∀ b o v, M.cell b o = some v → M'.cell b o = some v
theorem R.cmono {M M' : Mem} (h : Mem.cle M M') {x : PV} {v : Value} (r : R M x v) : R M' x v := by
  induction r with
  | val h => exact .val h
  | nil => exact .nil
  | lst hc hm b o us ha hn hcell hR ih => exact .lst hc hm b o us ha hn (fun i x j y h1 h2 => h _ _ _ (hcell i x j y h1 h2)) ih
theorem RC.cmono {M M' : Mem} (h : Mem.cle M M') {x : C} {v : Value} (r : RC M x v) : RC M' x v := by
  induction r with
  | pv r => exact .pv (R.cmono h r)
  | ptr => exact .ptr
  | own h => exact .own h
  | cel b o us hc hR => exact .cel b o us (fun j y e => h _ _ _ (hc j y e)) (fun j y e => R.cmono h (hR j y e))
  | oel => exact .oel
  | clo hs _ ih => exact .clo hs ih
theorem RCs.cmono {M M' : Mem} (h : Mem.cle M M') {xs : List C} {us : List Value} (r : RCs M xs us) : RCs M' xs us := ⟨r.1, fun j c u a b => RC.cmono h (r.2 j c u a b)⟩
theorem RA.cmono {M M' : Mem} (h : Mem.cle M M') {x : A} {v : Value} (r : RA M x v) : RA M' x v := by
  induction r with
  | c r => exact .c (RC.cmono h r)
  | g r => exact .g (RCs.cmono h r)
  | t hs _ ih => exact .t hs ih
def Mem.put (M : Mem) (l : Nat) (o : Obj) : Mem := fun k => if k = l then some o else M k
theorem Mem.put_same (M : Mem) (l : Nat) (o : Obj) : M.put l o l = some o := if_pos rfl
theorem Mem.put_ne (M : Mem) {l k : Nat} (o : Obj) (h : k ≠ l) : M.put l o k = M k := if_neg h
theorem Mem.put_cle {M : Mem} {l : Nat} {o' : Obj} (h : ∀ o, M l = some o → o.isCells = false) : Mem.cle M (M.put l o') := by
  intro b o v e
  unfold Mem.cell at *
  by_cases hb : b = l
  · subst hb
    cases hm : M b with
    | none => rw [hm] at e; cases e
    | some x =>
      have := h x hm
      rw [hm] at e
      cases x <;> simp [Obj.isCells] at this e
  · rw [Mem.put_ne _ _ hb]; exact e
theorem Below.putObj {B l : Nat} {w : World} (o : Obj) (h : B ≤ l) : Below B w (w.putObj l o) :=
  ⟨rfl, rfl, rfl, by simp, fun k hk => World.putObj_heap_other (by omega)⟩
/-- No cells: nothing reads it. -/
theorem cle_put {M : Mem} {w : World} (hm : M.on w) {l : Nat} {o o' : Obj} (hl : w.heap[l]? = some o) (ho : o.isCells = false) : Mem.cle M (M.put l o') :=
  Mem.put_cle fun x hx => by have := hm l x hx; rw [hl] at this; cases this; exact ho
theorem OwnSl.putObj {l : Nat} {o o' : Obj} (hm : M.on w) {v : Value} {e : TypeId} {k : LK} {xs : List k.T} (hl : w.heap[l]? = some o) (ho : o.isCells = false) (h : OwnSl M B w v e k xs) : OwnSl (M.put l o') B (w.putObj l o') v e k xs := by
  rcases h with h | ⟨b, cap, us, rfl, h1, h2, h3, h4, h5, h6, h7⟩
  · exact .inl h
  · have hne : b ≠ l := by
      intro e; subst e; rw [hl] at h3; cases h3; simp [Obj.isCells] at ho
    refine .inr ⟨b, cap, us, rfl, h1, by rw [Mem.put_ne _ _ hne]; exact h2, by rw [World.putObj_heap_other hne]; exact h3, h4, h5, h6, fun i x j y e1 e2 => ?_⟩
    obtain ⟨u, u1, u2⟩ := h7 i x j y e1 e2
    exact ⟨u, u1, R.cmono (cle_put hm hl ho) u2⟩
theorem SatH.putObj {H : Nat → Option HB} {l : Nat} {o o' : Obj} (hS : SatH B W H M w) (hl : w.heap[l]? = some o) (ho : o.isCells = false) (hB : B ≤ l) : SatH B W H (M.put l o') (w.putObj l o') := by
  refine ⟨hS.below.trans (Below.putObj o' hB), by simp; exact hS.base, fun k x hk => ?_, fun n x hx => ?_, hS.inj⟩
  · by_cases e : k = l
    · subst e; rw [Mem.put_same] at hk; cases hk; exact World.putObj_heap_same (Array.getElem?_eq_some_iff.1 hl).1
    · rw [Mem.put_ne _ _ e] at hk; rw [World.putObj_heap_other e]; exact hS.mem k x hk
  · have h := hS.ok n x hx
    cases x with
    | blk b ty cs =>
      obtain ⟨h1, h2, us, h3, h4⟩ := h
      have hne : b ≠ l := by
        intro e; subst e; rw [hl] at h3; cases h3; simp [Obj.isCells] at ho
      exact ⟨h1, by rw [Mem.put_ne _ _ hne]; exact h2, us, by rw [World.putObj_heap_other hne]; exact h3, RCs.cmono (cle_put hS.mem hl ho) h4⟩
    | own v ty k l => exact OwnSl.putObj hS.mem hl ho h
/-- A block that is no cells turns; what has been put by may. -/
theorem Sat.turn (hS : Sat N mrk B W M0 [] [] 0 st M a w) {l : Nat} {o o' : Obj} (hl : w.heap[l]? = some o) (ho : o.isCells = false) (hB : B ≤ l) {M0' : Mem} (hold : ∀ k o, M k = some o → k < B → M0' k = some o) {a' : Act} (ha : a'.tmps = a.tmps)
    (hd : DK mrk B M0' (M.put l o') a') : Sat N mrk B W M0' [] [] 0 st (M.put l o') a' (w.putObj l o') := by
  refine ⟨hS.h.putObj hl ho hB, fun k x hk hlt => ?_, hd, by rw [ha]; exact hS.n, fun s e he => ?_, hS.g⟩
  · rw [Mem.put_ne _ _ (by omega)] at hk; exact hold k x hk hlt
  · obtain ⟨v, h1, h2⟩ := hS.f s e he
    refine ⟨v, by rw [ha]; exact h1, ?_⟩
    cases e with
    | u x => exact RA.cmono (cle_put hS.h.mem hl ho) h2
    | gd j b x =>
      have := (hS.g s j b x he).1; omega

theorem ret_core (hT : TbOk P E.T) {fn : Func} {rv : RV} (hS : Sat N mrk W.heap.size W M0 [] [] 0 st M a w) (hM0 : M0.on W) {as : List A} {ob : Prop} (h : resAll E.T st.f st.H fn.results.toList = some (as, ob)) (hob : ob) (ho : out sh st.H rv as) :
    ∃ v, (results fn a.tmps).run P w = .ok v w ∧ FnPost sh M0 W rv (.returned v) w := by
  obtain ⟨vs, h1, h2, h2', h3⟩ := resAll_ok hT hS (g := fun | .tmp t => pure (a.tmps.getD t undef) | .cell t ty => do loadVar ty (← asAddr (a.tmps.getD t undef))) (fun _ => rfl) (fun _ _ => rfl) h hob
  have hres : (results fn a.tmps).run P w = .ok (if hh : vs.toArray.size = 1 then vs.toArray[0] else .tuple vs.toArray) w := by
    unfold results
    rw [Array.mapM_eq_mapM_toList]
    simp only [Sem.run_bind, Sem.run_map]
    exact congrArg (fun r : Result (List Value) => (r.andThen fun a w' => Result.ok a.toArray w').andThen fun a w' => Sem.run P (pure (if h : a.size = 1 then a[0] else Value.tuple a)) w') h1
  -- the part of what does not change that is new
  let F : Mem := fun k => if W.heap.size ≤ k then M k else none
  have hF : Fresh F W.heap.size w := by
    intro k o e
    simp only [F] at e
    split at e
    · rename_i hk; exact ⟨hk, hS.h.mem k o e⟩
    · cases e
  have hle : sh = true → M.le (shM sh M0 F) := by
    intro e; subst e
    intro k o hk
    simp only [shM, Mem.or, F]
    by_cases hlt : W.heap.size ≤ k
    · simp [hlt, hk]
    · simp only [if_neg hlt]; exact hS.old k o hk (by omega)
  have hno : ∀ b, W.heap.size ≤ b → M b = none → (shM sh M0 F) b = none := by
    intro b hb hMb
    have hFb : F b = none := by simp [F, hMb]
    cases sh with
    | true => simp only [shM, Mem.or, hFb]; exact Mem.none_of_size hM0 hb
    | false => exact hFb
  refine ⟨_, hres, _, F, rfl, hS.h.below, hF, ?_⟩
  cases rv with
  | x r =>
    match as, ho, h2, h3 with
    | [x], ho, h2, h3 =>
      match vs, h2, h3 with
      | [v], h2, h3 => exact outX_ok hle ho (h3 0 x v rfl rfl)
  | o e k l =>
    match as, ho, h2, h3 with
    | [x], ho, h2, h3 =>
      match vs, h2, h3 with
      | [v], h2, h3 => exact outO_ok hS.h hle hno ho (h3 0 x v rfl rfl)
  | ot e k l rest =>
    match rest, as, ho, h2, h3 with
    | r :: rest, x :: as, ho, h2, h3 =>
      obtain ⟨o1, o2⟩ := ho
      obtain ⟨q1, q2⟩ := outXs_ok hle o2
      match vs, h2, h3 with
      | v :: vs, h2, h3 =>
        simp at h2 q1
        have hne : ¬ (v :: vs).toArray.size = 1 := by simp; intro e; subst e; simp at h2; omega
        rw [dif_neg hne]
        refine ⟨_, rfl, by simp; omega, ⟨v, rfl, outO_ok hS.h hle hno o1 (h3 0 x v rfl rfl)⟩, fun j r' u a b => ?_⟩
        have hj : j < as.length := by rw [q1]; have := (List.getElem?_eq_some_iff.1 a).1; simpa using this
        exact outX_ok hle (q2 j _ r' (List.getElem?_eq_getElem hj) a) (h3 (j + 1) _ u (by simp [List.getElem?_eq_getElem hj]) (by simpa using b))
  | t rest =>
    match rest, as, ho, h2, h3 with
    | [], [], _, h2, h3 =>
      have : vs = [] := List.eq_nil_of_length_eq_zero h2
      subst this
      exact ⟨_, rfl, rfl, by simp⟩
    | r :: r' :: rest, as, ho, h2, h3 =>
      obtain ⟨q1, q2⟩ := outXs_ok hle ho
      have hne : ¬ vs.toArray.size = 1 := by simp at q1 ⊢; omega
      rw [dif_neg hne]
      refine ⟨_, rfl, by simp at q1 ⊢; omega, fun j r'' u a b => ?_⟩
      have hj : j < as.length := by rw [q1]; exact (List.getElem?_eq_some_iff.1 a).1
      exact outX_ok hle (q2 j _ r'' (List.getElem?_eq_getElem hj) a) (h3 j _ u (List.getElem?_eq_getElem hj) (by simpa using b))

/-- What a body must come to: a mark may stand. -/
def bpost (P : Program) (fn : Func) (R : Ending → World → Prop) : Exit → Act → World → Prop := bodyPostM Fence.wide 0 P fn R
theorem ret_post (hT : TbOk P E.T) {fn : Func} {rv : RV} (hM0 : M0.on W) {as : List A} {ob : Prop} (h : resAll E.T st.f st.H fn.results.toList = some (as, ob)) (hob : ob) (ho : out sh st.H rv as) :
    ∀ {M : Mem} {a : Act} {w : World}, Sat N mrk W.heap.size W M0 [] [] 0 st M a w → LeavesInM Fence.wide 0 P fn a.tmps (FnPost sh M0 W rv) a.defers .returning w := by
  have key : ∀ (Ds : List Nat) {M : Mem} {a : Act} {w : World}, Sat N mrk W.heap.size W M0 [] [] 0 st M a w → Ds.Nodup → a.defers = Ds.map mark → (mrk = false → Ds = []) → (∀ D, D ∈ Ds → W.heap.size ≤ D ∧ M D = some (.deferred (some []))) →
      LeavesInM Fence.wide 0 P fn a.tmps (FnPost sh M0 W rv) a.defers .returning w := by
    intro Ds
    induction Ds with
    | nil => intro M a w hS _ e _ _; rw [e]; exact ret_core hT hS hM0 h hob ho
    | cons D Ds ih =>
      intro M a w hS hn e hmk hD
      rw [e]
      obtain ⟨hB, hm⟩ := hD D (by simp)
      have hl := hS.h.mem D _ hm
      refine ⟨by simp, .inl ⟨D, _, rfl, run_takeDeferred hl, ?_⟩⟩
      have hd' : ∀ D', D' ∈ Ds → W.heap.size ≤ D' ∧ (M.put D (.deferred none)) D' = some (.deferred (some [])) := fun D' h' => by
        have := hD D' (List.mem_cons_of_mem _ h')
        refine ⟨this.1, ?_⟩
        rw [Mem.put_ne _ _ (fun e => by subst e; exact (List.nodup_cons.1 hn).1 h')]; exact this.2
      have hk : M0.le (M.put D (.deferred none)) := fun k o hk => by
        have hlt := (Array.getElem?_eq_some_iff.1 (hM0 k o hk)).1
        rw [Mem.put_ne _ _ (by omega)]; exact hS.d.kp k o hk
      have hS' : Sat N mrk W.heap.size W M0 [] [] 0 st (M.put D (.deferred none)) ⟨a.tmps, Ds.map mark⟩ (w.putObj D (.deferred none)) :=
        Sat.turn hS hl rfl hB hS.old rfl ⟨⟨Ds, fun e => (by have := hmk e; cases this), (List.nodup_cons.1 hn).2, rfl, hd'⟩, hk⟩
      exact ih hS' (List.nodup_cons.1 hn).2 rfl (fun e => (by have := hmk e; cases this)) hd'
  intro M a w hS
  obtain ⟨Ds, h0, h1, h2, h3⟩ := hS.d.df
  exact key Ds hS h1 h2 h0 h3

theorem G_ret (hT : TbOk P E.T) {fn : Func} {rv : RV} {c : Code} (hM0 : M0.on W) (hc : isRet c = true) {as : List A} {ob : Prop} (h : resAll E.T st.f st.H fn.results.toList = some (as, ob)) (hob : ob) (ho : out sh st.H rv as) :
    G P E W.heap.size W M0 (bpost P fn (FnPost sh M0 W rv)) (.code c :: k) st := by
  intro M a w hS
  cases c <;> simp only [isRet, Bool.false_eq_true] at hc
  simp only [after]
  exact wpIn_ret (after_ret (ret_post hT hM0 h hob ho hS))

theorem G_end (hT : TbOk P E.T) {fn : Func} {rv : RV} (hM0 : M0.on W) {as : List A} {ob : Prop} (h : resAll E.T st.f st.H fn.results.toList = some (as, ob)) (hob : ob) (ho : out sh st.H rv as) :
    G P E W.heap.size W M0 (bpost P fn (FnPost sh M0 W rv)) [] st :=
  fun M a w hS => ret_post hT hM0 h hob ho hS

theorem Ctr_intro {f : FuncId} {fn : Func} {args : List A} {rv : RV} (hf : P.funcs[f]? = some fn) (hb : fn.body.isNone = false) (hnm : (fn.name == "runtime.NumGoroutine") = false) (hN : fn.ntmps = E.N) (hl : Nat.ble (len args) E.N = true)
    (h : ∀ M0 W, M0.on W → G P E W.heap.size W M0 (bpost P fn (FnPost sh M0 W rv)) [.code (fbody fn)] (init args)) (hro : E.ro = none := by rfl) : Ctr P f sh args rv := by
  refine ⟨⟨fn, hf, hb, hnm⟩, fun M0 w vs hM0 hra => ?_⟩
  cases hbd : fn.body with
  | none => rw [hbd] at hb; cases hb
  | some c =>
    rw [Nat.ble_eq, len_eq] at hl
    refine (callsIn_wide (n := 0)).1 (callsIn_of_wp_marks hf hbd trivial ?_)
    have hg := h M0 w hM0 M0 ⟨vs ++ Array.replicate (fn.ntmps - vs.size) undef, []⟩ w ⟨⟨Below.refl _ _, Nat.le_refl _, hM0, by simp [init], by simp [init]⟩, fun _ _ e _ => e, .nil rfl (Mem.le_refl _), by simp [hra.1]; omega, fun s e he => ?_, fun s j b x hx => ?_⟩
    · have hfb : fbody fn = c := by simp [fbody, hbd]
      have hg2 : cwp E.ro P (fbody fn) (after E.ro P (bpost P fn (FnPost sh M0 w rv)) []) _ w := hg
      rw [hfb, hro] at hg2
      exact wpIn_mono hg2 (fun e a w q => q)
    · simp only [init, nth_eq] at he
      split at he
      · rename_i x hx; cases he
        have hlt : s < vs.size := by rw [hra.1]; exact (List.getElem?_eq_some_iff.1 hx).1
        obtain ⟨u, hu⟩ := arr_get vs s hlt
        exact ⟨u, by simp [Array.getElem?_append_left hlt, hu], hra.2 s x u hx hu⟩
      · cases he
    · simp only [init, nth_eq] at hx
      split at hx <;> cases hx
end
end Go.Mt
