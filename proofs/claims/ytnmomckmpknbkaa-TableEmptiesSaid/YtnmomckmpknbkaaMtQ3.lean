/-
  This claim's own program library, part 3: the letters MtQ to MtZ.
-/
import Derived.Test.YtnmomckmpknbkaaMtQ2
/-
  Mt, part Q: control.
-/
set_option linter.unusedSimpArgs false
set_option linter.unusedVariables false
namespace Go.Mt
open Go.RowKit

/-! ### code by its place -/
def lft : Code → Code | .seq x _ => x | _ => .skip
def rgt : Code → Code | .seq _ y => y | _ => .skip
def bod : Code → Code | .block _ c => c | .loop c => c | .scope c => c | _ => .skip
def thn : Code → Code | .cond _ x _ => x | _ => .skip
def els : Code → Code | .cond _ _ y => y | _ => .skip
def cnd : Code → Option Operand | .cond c _ _ => some c | _ => none
def opsOf : Code → List Oper | .region _ ops _ => ops.toList | _ => []
def fbody (f : Func) : Code := f.body.getD .skip

inductive Itm where
  | code (c : Code)
  | ops (all : List Oper) (i : Nat)
  | blk (id : Nat)
  | lp (J : Act → World → Prop)

/-- Code in a frame of either make. -/
def cwp (ro : Option Nat) (P : Program) (c : Code) (Q : Exit → Act → World → Prop) (a : Act) (w : World) : Prop := c.wpIn (fce ro) 0 P Q a w
def isDef : Op → Bool
  | .defer _ => true
  | _ => false
def ndB : List Oper → Bool
  | [] => true
  | o :: l => match isDef o.op with
    | true => false
    | false => ndB l
theorem ndB_ok {l : List Oper} (h : ndB l = true) : ∀ o, o ∈ l → ∀ c, o.op ≠ .defer c := by
  induction l with
  | nil => intro o ho; cases ho
  | cons o l ih =>
    intro o' ho c
    simp only [ndB] at h
    cases hd : isDef o.op with
    | true => rw [hd] at h; cases h
    | false =>
      rw [hd] at h
      rcases List.mem_cons.1 ho with rfl | ho
      · intro e; rw [e] at hd; cases hd
      · exact ih h o' ho c
theorem cwp_region {ro : Option Nat} {P : Program} {Q : Exit → Act → World → Prop} {a : Act} {w : World} {id : Nat} {l : List Oper} (hnd : ro = none ∨ ndB l = true) (h : lwp ro P l.toArray Q l a w) : cwp ro P (Code.region id l.toArray false) Q a w := by
  cases ro with
  | none => exact wpIn_wide.2 (wp_region_lit h)
  | some r => exact wpIn_region_lit (h (ndB_ok (hnd.resolve_left (by simp))))

def after (ro : Option Nat) (P : Program) (Q : Exit → Act → World → Prop) : List Itm → Exit → Act → World → Prop
  | [], e, a, w => Q e a w
  | .code c :: k, e, a, w => match e with
    | .normal => cwp ro P c (after ro P Q k) a w
    | e => after ro P Q k e a w
  | .ops all i :: k, e, a, w => match e with
    | .normal => lwp ro P all.toArray (after ro P Q k) (drp i all) a w
    | e => after ro P Q k e a w
  | .blk id :: k, e, a, w => match e with
    | .exit id' => if id' = id then after ro P Q k .normal a w else after ro P Q k (.exit id') a w
    | e => after ro P Q k e a w
  | .lp J :: k, e, a, w => match e with
    | .normal => J a w
    | e => after ro P Q k e a w

def popTo (id : Nat) : List Itm → Option (List Itm)
  | [] => none
  | .blk id' :: k => match Nat.beq id id' with
    | true => some k
    | false => popTo id k
  | _ :: k => popTo id k

def St.strip (st : St) : St := match st with
  | ⟨f, H, nx⟩ => ⟨fun s => match f s with
    | some (.u x) => some (.u x)
    | _ => none, H, nx⟩

inductive RS where
  | mk (k : List Itm) (st : St) (ob : Prop)
  | bad
def RS.k : RS → List Itm | .mk k _ _ => k | .bad => []
def RS.st : RS → St | .mk _ st _ => st | .bad => ⟨fun _ => none, fun _ => none, 0⟩
def RS.ob : RS → Prop | .mk _ _ ob => ob | .bad => False
def run (E : Env) (kn : Nat → Option Bool) : Nat → List Itm → St → (Nat → Nat → Value) → RS
  | 0, k, st, _ => RS.mk k st True
  | _ + 1, [], st, _ => RS.mk [] st True
  | _ + 1, .lp J :: k, st, _ => RS.mk (.lp J :: k) st True
  | n + 1, .blk _ :: k, st, bs => run E kn n k st bs
  | n + 1, .ops all i :: k, st, bs => match evalOps E kn all (refsOf all all) (drp i all) i st (bs 0) with
    | .mk rest i' st' ob => match rest with
      | [] => match run E kn n k st'.strip (fun m => bs (m + 1)) with
        | .mk k' st'' ob' => .mk k' st'' (ob ∧ ob')
        | .bad => .bad
      | _ :: _ => .mk (.ops all i' :: k) st' ob
    | .bad => .bad
  | n + 1, .code c :: k, st, bs => match c with
    | .skip => run E kn n k st bs
    | .seq _ _ => run E kn n (.code (lft c) :: .code (rgt c) :: k) st bs
    | .block id _ => run E kn n (.code (bod c) :: .blk id :: k) st bs
    | .region _ _ false => match E.ro with
      | none => run E kn n (.ops (opsOf c) 0 :: k) st bs
      | some _ => match ndB (opsOf c) with
        | true => run E kn n (.ops (opsOf c) 0 :: k) st bs
        | false => RS.mk (.code c :: k) st True
    | .exit id => match popTo id k with
      | some k' => run E kn n k' st bs
      | none => RS.mk (.code c :: k) st True
    | .label _ => run E kn n k st bs
    | _ => RS.mk (.code c :: k) st True

def hdOps : List Itm → List Oper
  | .ops all _ :: _ => all
  | _ => []
def hdI : List Itm → Nat
  | .ops _ i :: _ => i
  | _ => 0
/-- THE JUDGEMENT. -/
def G (P : Program) (E : Env) (B : Nat) (W : World) (M0 : Mem) (Q : Exit → Act → World → Prop) (k : List Itm) (st : St) : Prop :=
  ∀ M a w, Sat E.N E.mrk B W M0 (hdOps k) (refsOf (hdOps k) (hdOps k)) (hdI k) st M a w → after E.ro P Q k .normal a w

section
variable {P : Program} {E : Env} {B : Nat} {W : World} {M0 : Mem} {Q : Exit → Act → World → Prop} {k : List Itm} {st : St} {M : Mem} {a : Act} {w : World} {N : Nat} {mrk : Bool}

theorem evalOps_rest {kn : Nat → Option Bool} {ops : List Oper} {rs : List (Nat × Nat)} : ∀ (l : List Oper) (i : Nat) (st : St) (bs : Nat → Value), l = drp i ops → (evalOps E kn ops rs l i st bs).rest = drp (evalOps E kn ops rs l i st bs).i ops := by
  intro l
  induction l with
  | nil => intro i st bs h; exact h
  | cons o l ih =>
    intro i st bs h
    obtain ⟨f, H, nx⟩ := st
    simp only [evalOps]
    cases hs : stepOp E kn ops rs i f H nx o (bs 0) with
    | none => exact h
    | some r =>
      obtain ⟨st', ob⟩ := r
      have := ih (i + 1) st' (fun n => bs (n + 1)) (by
        rw [drp_eq] at h ⊢
        have := congrArg List.tail h
        simpa [List.tail_drop] using this)
      simp only
      cases hr : evalOps E kn ops rs l (i + 1) st' (fun n => bs (n + 1)) with
      | mk r i' st'' ob' => rw [hr] at this; exact this
      | bad => rw [hr] at this; exact this

theorem Sat.strip {ops : List Oper} {rs : List (Nat × Nat)} {i : Nat} (hS : Sat N mrk B W M0 ops rs i st M a w) : Sat N mrk B W M0 [] [] 0 st.strip M a w := by
  obtain ⟨f, H, nx⟩ := st
  refine ⟨hS.h, hS.old, hS.d, hS.n, fun s e h => ?_, fun s j b x h => ?_⟩
  · simp only [St.strip] at h
    split at h
    · rename_i x hx; cases h
      exact hS.f s _ hx
    · cases h
  · simp only [St.strip] at h
    split at h <;> cases h

/-- Outside regions no guard is left. -/
theorem Sat.to (hS : Sat N mrk B W M0 [] [] 0 st M a w) (ops : List Oper) (rs : List (Nat × Nat)) : Sat N mrk B W M0 ops rs 0 st M a w := by
  refine ⟨hS.h, hS.old, hS.d, hS.n, fun s e h => ?_, fun s j b x h => ?_⟩
  · cases e with
    | u x => exact hS.f s _ h
    | gd j b x => have := (hS.g s j b x h).1; omega
  · have := (hS.g s j b x h).1; omega

theorem Sat.hd (hS : Sat N mrk B W M0 [] [] 0 st M a w) (hk : hdI k = 0) : Sat N mrk B W M0 (hdOps k) (refsOf (hdOps k) (hdOps k)) (hdI k) st M a w := by
  rw [hk]; exact hS.to _ _

theorem popTo_ok {id : Nat} : ∀ {k k' : List Itm}, popTo id k = some k' → after E.ro P Q k' .normal a w → after E.ro P Q k (.exit id) a w := by
  intro k
  induction k with
  | nil => intro k' h; cases h
  | cons x k ih =>
    intro k' h hk
    cases x with
    | code c => exact ih h hk
    | ops all i => exact ih h hk
    | lp J => exact ih h hk
    | blk id' =>
      simp only [popTo] at h
      split at h
      · rename_i hb; cases h
        rw [Nat.beq_eq] at hb; subst hb
        simpa [after] using hk
      · rename_i hb
        have hne : id ≠ id' := fun e => by subst e; simp at hb
        simp only [after, if_neg hne]
        exact ih h hk

/-- Behind a region a state bears no guard. -/
def noG (k : List Itm) (st : St) : Prop := hdI k = 0 ∨ True

theorem run_ok (hT : TbOk P E.T) (hΨ : PsiOk P E) {kn : Nat → Option Bool} : ∀ (n : Nat) (k : List Itm) (st : St),
    (∀ bs, (run E kn n k st bs).ob ∧ G P E B W M0 Q (run E kn n k st bs).k (run E kn n k st bs).st) → G P E B W M0 Q k st := by
  intro n
  induction n with
  | zero => intro k st h; exact (h (fun _ _ => undef)).2
  | succ n ih =>
    intro k st h
    cases k with
    | nil => exact (h (fun _ _ => undef)).2
    | cons x k =>
      -- going on with items whose head is no region half done
      have go : ∀ (k' : List Itm), (∀ bs, (run E kn n k' st bs).ob ∧ G P E B W M0 Q (run E kn n k' st bs).k (run E kn n k' st bs).st) → hdI k' = 0 → ∀ M a w, Sat E.N E.mrk B W M0 [] [] 0 st M a w → after E.ro P Q k' .normal a w :=
        fun k' hk' h0 M a w hS => ih k' st hk' M a w (hS.hd h0)
      cases x with
      | lp J => exact (h (fun _ _ => undef)).2
      | blk id =>
        intro M a w hS
        have h1 : ∀ bs, (run E kn n k st bs).ob ∧ G P E B W M0 Q (run E kn n k st bs).k (run E kn n k st bs).st := fun bs => by simpa only [run] using h bs
        simp only [after]
        by_cases h0 : hdI k = 0
        · exact go k h1 h0 M a w hS
        · -- a region half done never stands below another item
          cases k with
          | nil => exact absurd rfl h0
          | cons y k =>
            cases y with
            | ops all i =>
              refine ih _ st h1 M a w ?_
              refine ⟨hS.h, hS.old, hS.d, hS.n, fun s e he => ?_, fun s j b x hx => ?_⟩
              · cases e with
                | u x => exact hS.f s _ he
                | gd j b x => have := (hS.g s j b x he).1; simp [hdI] at this
              · have := (hS.g s j b x hx).1; simp [hdI] at this
            | _ => exact absurd rfl h0
      | ops all i =>
        intro M a w hS
        simp only [after]
        have hS1 : Sat E.N E.mrk B W M0 all (refsOf all all) i st M a w := hS
        refine evalOps_ok hT hΨ (kn := kn) (drp i all) i st M a w hS1 fun bs0 => ?_
        have hrest := evalOps_rest (E := E) (kn := kn) (ops := all) (rs := refsOf all all) (drp i all) i st bs0 rfl
        have hb := fun bs : Nat → Nat → Value => h (fun m => match m with | 0 => bs0 | m + 1 => bs m)
        simp only [run] at hb
        generalize hr : evalOps E kn all (refsOf all all) (drp i all) i st bs0 = r at hb hrest ⊢
        cases r with
        | bad => exact (hb (fun _ _ => undef)).1.elim
        | mk rest i' st' ob =>
        simp only [ER.rest, ER.i, ER.st, ER.ob] at hb hrest ⊢
        cases rest with
        | cons o l =>
          simp only at hb
          have h2 := hb (fun _ _ => undef)
          refine ⟨h2.1, fun a' w' M' hS' => ?_⟩
          have := h2.2 M' a' w' hS'
          simpa only [RS.k, after, hrest] using this
        | nil =>
          simp only at hb
          have hob : ob := by
            have := (hb (fun _ _ => undef)).1
            cases hr2 : run E kn n k st'.strip (fun m => (fun _ _ => undef : Nat → Nat → Value) m) with
            | mk k2 st2 ob2 => rw [hr2] at this; exact this.1
            | bad => rw [hr2] at this; exact this.elim
          refine ⟨hob, fun a' w' M' hS' => ?_⟩
          refine lwp_nil ?_
          have hgo := ih k st'.strip (fun bs => by
            have := hb bs
            cases hr2 : run E kn n k st'.strip bs with
            | mk k2 st2 ob2 => rw [hr2] at this; exact ⟨this.1.2, this.2⟩
            | bad => rw [hr2] at this; exact this.1.elim)
          have hSs := hS'.strip
          refine hgo M' a' w' ?_
          by_cases h0 : hdI k = 0
          · exact hSs.hd h0
          · cases k with
            | nil => exact absurd rfl h0
            | cons y k =>
              cases y with
              | ops all' i2 =>
                refine ⟨hSs.h, hSs.old, hSs.d, hSs.n, fun s e he => ?_, fun s j b x hx => ?_⟩
                · cases e with
                  | u x => exact hSs.f s _ he
                  | gd j b x => have := (hSs.g s j b x he).1; simp at this
                · have := (hSs.g s j b x hx).1; simp at this
              | _ => exact absurd rfl h0
      | code c =>
        intro M a w hS
        have hS0 : Sat E.N E.mrk B W M0 [] [] 0 st M a w := hS
        have toK : ∀ (k' : List Itm), (∀ bs, (run E kn n k' st bs).ob ∧ G P E B W M0 Q (run E kn n k' st bs).k (run E kn n k' st bs).st) → ∀ a' w', a' = a → w' = w → after E.ro P Q k' .normal a' w' := by
          intro k' h1 a' w' ea ew
          subst ea ew
          by_cases h0 : hdI k' = 0
          · exact go k' h1 h0 M a' w' hS0
          · cases k' with
            | nil => exact absurd rfl h0
            | cons y k' =>
              cases y with
              | ops all' i2 =>
                refine ih _ st h1 M a' w' ?_
                refine ⟨hS0.h, hS0.old, hS0.d, hS0.n, fun s e he => ?_, fun s j b x hx => ?_⟩
                · cases e with
                  | u x => exact hS0.f s _ he
                  | gd j b x => have := (hS0.g s j b x he).1; simp at this
                · have := (hS0.g s j b x hx).1; simp at this
              | _ => exact absurd rfl h0
        simp only [after]
        cases c with
        | skip => exact wpIn_skip (toK k (fun bs => by simpa only [run] using h bs) a w rfl rfl)
        | label l => exact wpIn_label (toK k (fun bs => by simpa only [run] using h bs) a w rfl rfl)
        | seq x y =>
          refine wpIn_seq (wpIn_mono (Q := after E.ro P Q (.code y :: k)) ?_ (fun e a w q => by cases e <;> exact q))
          exact toK (.code x :: .code y :: k) (fun bs => by simpa only [run, lft, rgt] using h bs) a w rfl rfl
        | block id x =>
          refine wpIn_block (wpIn_mono (Q := after E.ro P Q (.blk id :: k)) ?_ (fun e a w q => by cases e <;> exact q))
          exact toK (.code x :: .blk id :: k) (fun bs => by simpa only [run, bod] using h bs) a w rfl rfl
        | region id ops draw =>
          cases draw with
          | false =>
            obtain ⟨ops⟩ := ops
            by_cases hnd : E.ro = none ∨ ndB ops = true
            · refine cwp_region hnd ?_
              have := toK (.ops ops 0 :: k) (fun bs => by
                have := h bs
                simp only [run, opsOf] at this
                rcases hnd with e | e
                · rw [e] at this; exact this
                · rw [e] at this
                  cases hro : E.ro with
                  | none => rw [hro] at this; exact this
                  | some r => rw [hro] at this; exact this) a w rfl rfl
              simpa only [after, drp] using this
            · have := (h (fun _ _ => undef)).2
              simp only [run, opsOf] at this
              cases hro : E.ro with
              | none => exact absurd (.inl hro) hnd
              | some r =>
                have e : ndB ops = false := by
                  cases hb : ndB ops with
                  | true => exact absurd (.inr hb) hnd
                  | false => rfl
                rw [hro, e] at this
                have := this M a w hS
                simpa only [RS.k, after, hro] using this
          | true =>
            have := (h (fun _ _ => undef)).2
            simp only [run] at this
            have := this M a w hS
            simpa only [RS.k, after] using this
        | exit id =>
          cases hp : popTo id k with
          | some k' => exact wpIn_exit (popTo_ok hp (toK k' (fun bs => by simpa only [run, hp] using h bs) a w rfl rfl))
          | none =>
            have := (h (fun _ _ => undef)).2
            simp only [run, hp] at this
            have := this M a w hS
            simpa only [RS.k, after] using this
        | _ =>
          have := (h (fun _ _ => undef)).2
          simp only [run] at this
          have := this M a w hS
          simpa only [RS.k, after] using this
end
end Go.Mt

/-
  Mt, part R: rules: tests, cuts, loops, what is forgotten, what is handed back.
-/
set_option linter.unusedSimpArgs false
set_option linter.unusedVariables false
namespace Go.Mt
open Go.RowKit

/-! ### one state for another -/
def simV : Value → Value → Prop
  | .int k n, .int k' m => ikeq k k' = true ∧ n = m
  | .bool a, .bool b => a = b
  | .string ⟨⟨a⟩⟩, .string ⟨⟨b⟩⟩ => a = b
  | a, b => a = b
def simPV : PV → PV → Prop
  | .val a, .val b => simV a b
  | .nil k, .lst k' l => lkeq k k' = true ∧ l = []
  | x, y => x = y
def simC : C → C → Prop
  | .pv x, .pv y => simPV x y
  | .ptr _ b o, .ptr _ b' o' => b = b' ∧ o = o'
  | .own _ v, .own _ v' => v = v'
  | x, y => x = y
def simCs : List C → List C → Prop
  | [], [] => True
  | x :: xs, y :: ys => simC x y ∧ simCs xs ys
  | _, _ => False
def simA : A → A → Prop
  | .c x, .c y => simC x y
  | .g xs, .g ys => simCs xs ys
  | x, y => x = y
def simH : HB → HB → Prop
  | .blk b ty cs, .blk b' ty' cs' => b = b' ∧ ty = ty' ∧ simCs cs cs'
  | .own v ty k l, .own v' ty' k' l' => v = v' ∧ ty = ty' ∧ (⟨k, l⟩ : (k : LK) × List k.T) = ⟨k', l'⟩
  | _, _ => False
theorem sigEq {k : LK} {l l' : List k.T} (h : l = l') : (⟨k, l⟩ : (k : LK) × List k.T) = ⟨k, l'⟩ := by rw [h]
def wkF (st : St) : List (Nat × A) → Prop
  | [] => True
  | (s, x) :: r => (match st.f s with
    | some (.u y) => simA y x
    | _ => False) ∧ wkF st r
def wkH (st : St) : List Nat → List HB → Prop
  | [], [] => True
  | n :: ns, x :: xs => (match st.H n with
    | some y => simH y x
    | none => False) ∧ wkH st ns xs
  | _, _ => False
def nodupB : List Nat → Bool
  | [] => true
  | x :: l => !memN x l && nodupB l
def look (s : Nat) : List (Nat × A) → Option A
  | [] => none
  | (s', x) :: r => match Nat.beq s s' with
    | true => some x
    | false => look s r
/-- A state off lists: slots, blocks of one's own (their names are their places). -/
def mk (fs : List (Nat × A)) (hs : List HB) : St := ⟨fun s => match look s fs with
  | some x => some (.u x)
  | none => none, fun n => nth hs n, len hs⟩
/-- What is known of 'st' is enough for the lists. -/
def Wk (st : St) (ns : List Nat) (fs : List (Nat × A)) (hs : List HB) : Prop := nodupB ns = true ∧ wkF st fs ∧ wkH st ns hs

section
variable {P : Program} {E : Env} {B : Nat} {W : World} {M0 M : Mem} {Q : Exit → Act → World → Prop} {k : List Itm} {st : St} {a : Act} {w : World} {N : Nat} {mrk : Bool}

theorem simV_ok {u v : Value} (h : simV u v) : u = v := by
  unfold simV at h
  split at h
  · obtain ⟨h1, h2⟩ := h; rw [ikeq_eq h1, h2]
  · rw [h]
  · rw [h]
  · exact h
theorem lkeq_eq {k k' : LK} (h : lkeq k k' = true) : k = k' := by
  unfold lkeq at h
  split at h <;> first | rfl | (rw [ikeq_eq h]) | cases h
theorem simPV_ok {x y : PV} (h : simPV x y) {v : Value} (r : R M x v) : R M y v := by
  unfold simPV at h
  split at h
  · rw [← simV_ok h]; exact r
  · obtain ⟨h1, rfl⟩ := h
    have := lkeq_eq h1; subst this
    exact r.nil_lst
  · rw [← h]; exact r
theorem simC_ok {x y : C} (h : simC x y) {v : Value} (r : RC M x v) : RC M y v := by
  unfold simC at h
  split at h
  · cases r with | pv r => exact .pv (simPV_ok h r)
  · obtain ⟨rfl, rfl⟩ := h; cases r; exact .ptr
  · subst h; cases r with | own r => exact .own r
  · rw [← h]; exact r
theorem simCs_ok : ∀ {xs ys : List C}, simCs xs ys → ∀ {us : List Value}, RCs M xs us → RCs M ys us := by
  intro xs
  induction xs with
  | nil => intro ys h us r; cases ys with
    | nil => exact r
    | cons => cases h
  | cons x xs ih =>
    intro ys h us r
    cases ys with
    | nil => cases h
    | cons y ys =>
      obtain ⟨h1, h2⟩ := h
      cases us with
      | nil => have := r.1; simp at this
      | cons u us =>
        have hr : RCs M xs us := ⟨by simpa using r.1, fun j c u' a b => r.2 (j + 1) c u' (by simpa using a) (by simpa using b)⟩
        have := ih h2 hr
        refine ⟨by simpa using this.1, fun j c u' a b => ?_⟩
        cases j with
        | zero => simp at a b; subst a b; exact simC_ok h1 (r.2 0 x u rfl rfl)
        | succ j => exact this.2 j c u' (by simpa using a) (by simpa using b)
theorem simA_ok {x y : A} (h : simA x y) {v : Value} (r : RA M x v) : RA M y v := by
  unfold simA at h
  split at h
  · cases r with | c r => exact .c (simC_ok h r)
  · cases r with | g r => exact .g (simCs_ok h r)
  · rw [← h]; exact r
theorem simH_ok {x y : HB} (h : simH x y) (r : HBok M B w x) : HBok M B w y ∧ y.block = x.block := by
  unfold simH at h
  split at h
  · obtain ⟨rfl, rfl, h⟩ := h
    obtain ⟨r1, r2, us, r3, r4⟩ := r
    exact ⟨⟨r1, r2, us, r3, simCs_ok h r4⟩, rfl⟩
  · obtain ⟨rfl, rfl, h⟩ := h
    cases h; exact ⟨r, rfl⟩
  · cases h

theorem wkF_ok : ∀ {fs : List (Nat × A)}, wkF st fs → ∀ s x, look s fs = some x → ∃ y, st.f s = some (.u y) ∧ simA y x := by
  intro fs
  induction fs with
  | nil => intro _ s x h; cases h
  | cons p fs ih =>
    intro h s x hl
    obtain ⟨s', x'⟩ := p
    obtain ⟨h1, h2⟩ := h
    simp only [look] at hl
    split at hl
    · rename_i hb; rw [Nat.beq_eq] at hb; subst hb; cases hl
      split at h1
      · rename_i y hy; exact ⟨y, hy, h1⟩
      · cases h1
    · exact ih h2 s x hl

theorem wkH_ok : ∀ {ns : List Nat} {hs : List HB}, wkH st ns hs → ns.length = hs.length ∧ ∀ (n : Nat) (x : HB), hs[n]? = some x → ∃ m y, ns[n]? = some m ∧ st.H m = some y ∧ simH y x := by
  intro ns
  induction ns with
  | nil => intro hs h; cases hs with
    | nil => exact ⟨rfl, by simp⟩
    | cons => cases h
  | cons m ns ih =>
    intro hs h
    cases hs with
    | nil => cases h
    | cons x hs =>
      obtain ⟨h1, h2⟩ := h
      obtain ⟨i1, i2⟩ := ih h2
      refine ⟨by simp [i1], fun n y hn => ?_⟩
      cases n with
      | zero =>
        simp at hn; subst hn
        split at h1
        · rename_i z hz; exact ⟨m, z, rfl, hz, h1⟩
        · cases h1
      | succ n => simpa using i2 n y (by simpa using hn)

theorem memN_mem {d : Nat} : ∀ {l : List Nat}, d ∈ l → memN d l = true := by
  intro l
  induction l with
  | nil => intro h; cases h
  | cons x l ih =>
    intro h
    rcases List.mem_cons.1 h with rfl | h
    · simp [memN]
    · simp [memN, ih h]
theorem nodupB_inj : ∀ {l : List Nat}, nodupB l = true → ∀ (n n' m : Nat), l[n]? = some m → l[n']? = some m → n = n' := by
  intro l
  induction l with
  | nil => intro _ n n' m h; simp at h
  | cons x l ih =>
    intro h n n' m h1 h2
    simp only [nodupB, Bool.and_eq_true, Bool.not_eq_true'] at h
    have hx : ∀ (q : Nat), l[q]? = some x → False := fun q hq => by
      have := memN_mem (List.mem_of_getElem? hq)
      rw [this] at h; cases h.1
    cases n with
    | zero =>
      cases n' with
      | zero => rfl
      | succ n' => simp at h1; subst h1; exact (hx n' (by simpa using h2)).elim
    | succ n =>
      cases n' with
      | zero => simp at h2; subst h2; exact (hx n (by simpa using h1)).elim
      | succ n' => rw [ih h.2 n n' m (by simpa using h1) (by simpa using h2)]

theorem Wk.sat {ns : List Nat} {fs : List (Nat × A)} {hs : List HB} (h : Wk st ns fs hs) {ops rs i} (hS : Sat N mrk B W M0 ops rs i st M a w) : Sat N mrk B W M0 [] [] 0 (mk fs hs) M a w := by
  obtain ⟨h1, h2, h3⟩ := h
  obtain ⟨g1, g2⟩ := wkH_ok h3
  have hH : ∀ n x, (mk fs hs).H n = some x → ∃ m y, ns[n]? = some m ∧ st.H m = some y ∧ simH y x := by
    intro n x hn
    simp only [mk, nth_eq] at hn
    exact g2 n x hn
  refine ⟨⟨hS.h.below, hS.h.base, hS.h.mem, fun n x hn => ?_, fun n n' x x' b hnn e1 e2 hb => ?_⟩, hS.old, hS.d, hS.n, fun s e he => ?_, fun s j b x hx => ?_⟩
  · obtain ⟨m, y, q1, q2, q3⟩ := hH n x hn
    exact (simH_ok q3 (hS.h.ok m y q2)).1
  · obtain ⟨m, y, q1, q2, q3⟩ := hH n x e1
    obtain ⟨m', y', q1', q2', q3'⟩ := hH n' x' e2
    have b1 := (simH_ok q3 (hS.h.ok m y q2)).2
    have b2 := (simH_ok q3' (hS.h.ok m' y' q2')).2
    rw [b1] at hb; rw [b2]
    refine hS.h.inj m m' y y' b (fun e => hnn ?_) q2 q2' hb
    subst e
    exact nodupB_inj h1 n n' m q1 q1'
  · simp only [mk] at he
    split at he
    · rename_i x hx; cases he
      obtain ⟨y, q1, q2⟩ := wkF_ok h2 s x hx
      obtain ⟨v, v1, v2⟩ := hS.f s _ q1
      exact ⟨v, v1, simA_ok q2 v2⟩
    · cases he
  · simp only [mk] at hx
    split at hx <;> cases hx

/-! ### rules -/
theorem G_run (hT : TbOk P E.T) (hΨ : PsiOk P E) (n : Nat) (kn : Nat → Option Bool) {k' : (Nat → Nat → Value) → List Itm} {st' : (Nat → Nat → Value) → St} {ob : (Nat → Nat → Value) → Prop}
    (h : ∀ bs, run E kn n k st bs = .mk (k' bs) (st' bs) (ob bs)) (ho : ∀ bs, ob bs) (hk : ∀ bs, G P E B W M0 Q (k' bs) (st' bs)) : G P E B W M0 Q k st :=
  run_ok hT hΨ n k st (kn := kn) fun bs => by rw [h bs]; exact ⟨ho bs, hk bs⟩

theorem G_cond {c : Code} {o : Operand} {b : Bool} (hc : cnd c = some o) (hv : rdG st.f [] o = some (bool b)) (ht : b = true → G P E B W M0 Q (.code (thn c) :: k) st) (hf : b = false → G P E B W M0 Q (.code (els c) :: k) st) :
    G P E B W M0 Q (.code c :: k) st := by
  intro M a w hS
  unfold cnd at hc
  split at hc
  · rename_i o' x y; cases hc
    simp only [after]
    have hval := (rdG_ok hS (Γ := []) (by simp) _ _ hv).val_inv
    refine wpIn_cond_split hval (fun h => ?_) (fun h => ?_)
    · exact ht h M a w hS
    · exact hf h M a w hS
  · cases hc
theorem G_if {c : Code} {o : Operand} {p : Prop} [Decidable p] (hc : cnd c = some o) (hv : rdG st.f [] o = some (bool (decide p))) (ht : p → G P E B W M0 Q (.code (thn c) :: k) st) (hf : ¬ p → G P E B W M0 Q (.code (els c) :: k) st) :
    G P E B W M0 Q (.code c :: k) st :=
  G_cond hc hv (fun h => ht (of_decide_eq_true h)) (fun h => hf (of_decide_eq_false h))

theorem G_thn {c : Code} {o : Operand} {b : Bool} (hc : cnd c = some o) (hv : rdG st.f [] o = some (bool b)) (hb : b = true) (ht : G P E B W M0 Q (.code (thn c) :: k) st) : G P E B W M0 Q (.code c :: k) st :=
  G_cond hc hv (fun _ => ht) (fun h => by rw [hb] at h; cases h)
theorem G_els {c : Code} {o : Operand} {b : Bool} (hc : cnd c = some o) (hv : rdG st.f [] o = some (bool b)) (hb : b = false) (hf : G P E B W M0 Q (.code (els c) :: k) st) : G P E B W M0 Q (.code c :: k) st :=
  G_cond hc hv (fun h => by rw [hb] at h; cases h) (fun _ => hf)

theorem G_wk {ns : List Nat} {fs : List (Nat × A)} {hs : List HB} (h0 : hdI k = 0) (h : Wk st ns fs hs) (hk : G P E B W M0 Q k (mk fs hs)) : G P E B W M0 Q k st :=
  fun M a w hS => hk M a w ((h.sat hS).hd h0)

/-- What a round, or a way, must come to. -/
def LJ {X : Type} (E : Env) (B : Nat) (W : World) (M0 : Mem) (F : X → List (Nat × A)) (H : X → List HB) (ok : X → Prop) : Act → World → Prop :=
  fun a w => ∃ x M, ok x ∧ Sat E.N E.mrk B W M0 [] [] 0 (mk (F x) (H x)) M a w

theorem G_lp {X : Type} {F : X → List (Nat × A)} {H : X → List HB} {ok : X → Prop} (ns : List Nat) (x : X) (hx : ok x) (h : Wk st ns (F x) (H x)) : G P E B W M0 Q (.lp (LJ E B W M0 F H ok) :: k) st :=
  fun M a w hS => ⟨x, M, hx, h.sat hS⟩

theorem after_mono {ro : Option Nat} {J : Act → World → Prop} (hJ : ∀ a w, J a w → after ro P Q k .normal a w) : ∀ (e : Exit) (a : Act) (w : World), after ro P Q (.lp J :: k) e a w → after ro P Q k e a w := by
  intro e a w h
  cases e with
  | normal => exact hJ a w h
  | _ => exact h

/-- Ways that meet again behind the head. -/
theorem G_cut {X : Type} (F : X → List (Nat × A)) (H : X → List HB) (ok : X → Prop) {c : Code} (h0 : hdI k = 0) (h1 : G P E B W M0 Q (.code c :: .lp (LJ E B W M0 F H ok) :: k) st) (h2 : ∀ x, ok x → G P E B W M0 Q k (mk (F x) (H x))) :
    G P E B W M0 Q (.code c :: k) st := by
  intro M a w hS
  have := h1 M a w hS
  simp only [after] at this ⊢
  refine wpIn_mono this (after_mono fun a w hJ => ?_)
  obtain ⟨x, M', hx, hS'⟩ := hJ
  exact h2 x hx M' a w (hS'.hd h0)

theorem exists_min (p : Nat → Prop) (h : ∃ n, p n) : ∃ n, p n ∧ ∀ m, p m → n ≤ m := by
  obtain ⟨n, hn⟩ := h
  induction n using Nat.strongRecOn with
  | _ n ih =>
    by_cases hex : ∃ m, m < n ∧ p m
    · obtain ⟨m, h1, h2⟩ := hex; exact ih m h1 h2
    · exact ⟨n, hn, fun m hm => Nat.le_of_not_lt fun hlt => hex ⟨m, hlt, hm⟩⟩

def isLoop : Code → Bool | .loop _ => true | _ => false
/-- A loop: its state at each round's head, a measure. -/
theorem G_loop {X : Type} (F : X → List (Nat × A)) (H : X → List HB) (ok : X → Prop) (μ : X → Nat) {c : Code} (hc : isLoop c = true) (ns : List Nat) (x0 : X) (hx0 : ok x0) (hw : Wk st ns (F x0) (H x0))
    (body : ∀ x, ok x → G P E B W M0 Q (.code (bod c) :: .lp (LJ E B W M0 F H (fun y => ok y ∧ μ y < μ x)) :: k) (mk (F x) (H x))) : G P E B W M0 Q (.code c :: k) st := by
  intro M a w hS
  cases c <;> simp only [isLoop, Bool.false_eq_true] at hc
  rename_i c
  simp only [after]
  -- the state at a round's head, the least measure that it has
  let I : Act → World → Prop := fun a w => ∃ x M, ok x ∧ Sat E.N E.mrk B W M0 [] [] 0 (mk (F x) (H x)) M a w
  have hI0 : I a w := ⟨x0, M, hx0, hw.sat hS⟩
  let p : Act → World → Nat → Prop := fun a w n => ∃ x M, ok x ∧ μ x = n ∧ Sat E.N E.mrk B W M0 [] [] 0 (mk (F x) (H x)) M a w
  let ν : Act → World → Nat := fun a w => open Classical in if h : ∃ n, p a w n then Classical.choose (exists_min (p a w) h) else 0
  have hν0 : ∀ a w (h : ∃ n, p a w n), p a w (ν a w) ∧ ∀ m, p a w m → ν a w ≤ m := by
    intro a w h
    simp only [ν, dif_pos h]
    exact Classical.choose_spec (exists_min (p a w) h)
  have hν : ∀ a w, I a w → ∃ x M, ok x ∧ μ x = ν a w ∧ Sat E.N E.mrk B W M0 [] [] 0 (mk (F x) (H x)) M a w :=
    fun a w ⟨x, M, h1, h2⟩ => (hν0 a w ⟨_, x, M, h1, rfl, h2⟩).1
  have hle : ∀ a w x M, ok x → Sat E.N E.mrk B W M0 [] [] 0 (mk (F x) (H x)) M a w → ν a w ≤ μ x :=
    fun a w x M h1 h2 => (hν0 a w ⟨_, x, M, h1, rfl, h2⟩).2 _ ⟨x, M, h1, rfl, h2⟩
  refine wpIn_loop I ν hI0 fun a w hI => ?_
  obtain ⟨x, M, h1, h2, h3⟩ := hν a w hI
  have := body x h1 M a w h3
  simp only [after, bod] at this
  refine wpIn_mono this fun e a' w' q => ?_
  cases e with
  | normal =>
    obtain ⟨y, M', ⟨y1, y2⟩, y3⟩ := q
    exact ⟨⟨y, M', y1, y3⟩, Nat.lt_of_le_of_lt (hle _ _ y M' y1 y3) (by rw [← h2]; exact y2)⟩
  | _ => exact q

/-- A slice of one's own that nothing turns any more. -/
def allOwn (st : St) (n : Nat) (v : Value) : List Nat → Prop
  | [] => True
  | s :: ss => (match st.f s with
    | some (.u (.c (.own _ v'))) => v' = v
    | _ => False) ∧ allOwn st n v ss
def updAll (f : Nat → Option Ent) (x : A) : List Nat → Nat → Option Ent
  | [], s => f s
  | d :: ds, s => match Nat.beq s d with
    | true => some (.u x)
    | false => updAll f x ds s
theorem updAll_ok {f : Nat → Option Ent} {x : A} : ∀ {ss : List Nat} {s : Nat} {e : Ent}, updAll f x ss s = some e → (s ∈ ss ∧ e = .u x) ∨ f s = some e := by
  intro ss
  induction ss with
  | nil => intro s e h; exact .inr h
  | cons d ss ih =>
    intro s e h
    simp only [updAll] at h
    split at h
    · rename_i hb; rw [Nat.beq_eq] at hb; subst hb; cases h
      exact .inl ⟨List.mem_cons_self, rfl⟩
    · rcases ih h with ⟨h1, h2⟩ | h
      · exact .inl ⟨List.mem_cons_of_mem _ h1, h2⟩
      · exact .inr h
theorem allOwn_ok {n : Nat} {v : Value} : ∀ {ss : List Nat}, allOwn st n v ss → ∀ s ∈ ss, ∃ m, st.f s = some (.u (.c (.own m v))) := by
  intro ss
  induction ss with
  | nil => intro _ s h; cases h
  | cons d ss ih =>
    intro h s hs
    obtain ⟨h1, h2⟩ := h
    rcases List.mem_cons.1 hs with rfl | hs
    · split at h1
      · rename_i m v' hf; subst h1; exact ⟨m, hf⟩
      · cases h1
    · exact ih h2 s hs
theorem G_freeze (n : Nat) (ss : List Nat) {v : Value} {ty : TypeId} {lk : LK} {l : List lk.T} (hn : st.H n = some (.own v ty lk l)) (hs : allOwn st n v ss)
    (hk : G P E B W M0 Q k ⟨updAll st.f (lst lk l) ss, updH st.H n none, st.nx⟩) : G P E B W M0 Q k st := by
  intro M a w hS
  obtain ⟨M', h1, h2, h3⟩ := hS.h.freeze hn (H' := updH st.H n none) (fun m x hm => by
    by_cases e : m = n
    · subst e; rw [updH_same] at hm; cases hm
    · rw [updH_ne _ _ e] at hm; exact ⟨e, hm⟩)
  refine hk M' a w ⟨h2, fun k o e hk => hS.old k o (h1.2 k o e hk) hk, hS.d.mono h1.1 rfl, hS.n, fun s e he => ?_, fun s j b x hx => ?_⟩
  · rcases updAll_ok he with ⟨q1, rfl⟩ | q
    · obtain ⟨m, hm⟩ := allOwn_ok hs s q1
      obtain ⟨u, u1, u2⟩ := hS.f s _ hm
      have := RA.own_inv u2; subst this
      exact ⟨_, u1, .c (.pv h3)⟩
    · obtain ⟨u, u1, u2⟩ := hS.f s _ q
      exact ⟨u, u1, u2.mono h1.1⟩
  · rcases updAll_ok hx with ⟨_, e⟩ | q
    · cases e
    · exact hS.g s j b x q

/-- A nil slice made one's own. -/
theorem G_own (s : Nat) (ty : TypeId) {lk : LK} (hs : st.f s = some (.u (pv (.nil lk))))
    (hk : G P E B W M0 Q k ⟨updF st.f s (some (.u (.c (.own st.nx (.slice none 0 0))))), updH st.H st.nx (some (.own (.slice none 0 0) ty lk [])), st.nx + 1⟩) : G P E B W M0 Q k st := by
  intro M a w hS
  refine hk M a w ⟨hS.h.newOwn (row := none) (grownBy_refl w none) (by simp) (OwnSl.nil _ _ _ _ _) (by simp [Value.ownBlock]) st.nx (fun m x hm hx => ⟨hx, by simp⟩), hS.old, hS.d, hS.n, fun s' e he => ?_, fun s' j b x hx => ?_⟩
  · simp only [updF] at he
    split at he
    · rename_i hb; rw [Nat.beq_eq] at hb; subst hb; cases he
      obtain ⟨u, u1, u2⟩ := hS.f _ _ hs
      have := RA.nil_inv u2; subst this
      exact ⟨_, u1, .c (.own rfl)⟩
    · exact hS.f s' e he
  · simp only [updF] at hx
    split at hx
    · cases hx
    · exact hS.g s' j b x hx
end
end Go.Mt

/-
  Mt, part S: a function's beginning and its end.
-/
set_option linter.unusedSimpArgs false
set_option linter.unusedVariables false
namespace Go.Mt
open Go.RowKit

def resA (T : Tb) (f : Nat → Option Ent) (H : Nat → Option HB) : ResultVar → Option (A × Prop)
  | .tmp t => match f t with
    | some (.u x) => some (x, True)
    | _ => none
  | .cell t ty => match f t with
    | some (.u (.c (.ptr n b o))) => match H n with
      | some (.blk b' _ cs) => match ldA T ty (drp o cs) with
        | some a => some (a, b = b')
        | none => none
      | _ => none
    | _ => none
def resAll (T : Tb) (f : Nat → Option Ent) (H : Nat → Option HB) : List ResultVar → Option (List A × Prop)
  | [] => some ([], True)
  | r :: rs => match resA T f H r, resAll T f H rs with
    | some (x, ob), some (xs, ob') => some (x :: xs, ob ∧ ob')
    | _, _ => none
def flatPV : PV → Bool
  | .val _ => true
  | _ => false
def LK.flat : LK → Bool
  | .rcd | .tbl | .bms | .sht | .tbh => false
  | _ => true
def outPV (sh : Bool) (x y : PV) : Prop := match sh, flatPV x with
  | false, false => False
  | _, _ => simPV x y
def outCs (sh : Bool) : List C → List PV → Prop
  | [], [] => True
  | .pv x :: xs, y :: ys => outPV sh x y ∧ outCs sh xs ys
  | _, _ => False
def outX (sh : Bool) : A → RX → Prop
  | .c (.pv x), .c y => outPV sh x y
  | .g cs, .g ys => outCs sh cs ys
  | .c (.clo f [.cel cs]), .cl f' cs' => sh = true ∧ f = f' ∧ cs = cs'
  | _, _ => False
def outXs (sh : Bool) : List A → List RX → Prop
  | [], [] => True
  | a :: as, r :: rs => outX sh a r ∧ outXs sh as rs
  | _, _ => False
def outO (sh : Bool) (H : Nat → Option HB) (e : TypeId) (k : LK) (l : List k.T) : A → Prop
  | .c (.own n v) => match H n with
    | some (.own v' ty k' l') => (sh || k.flat) = true ∧ v = v' ∧ ty = e ∧ (⟨k', l'⟩ : (k : LK) × List k.T) = ⟨k, l⟩
    | _ => False
  | .c (.pv (.nil _)) => l = []
  | _ => False
def out (sh : Bool) (H : Nat → Option HB) : RV → List A → Prop
  | .x r, [a] => outX sh a r
  | .o e k l, [a] => outO sh H e k l a
  | .ot e k l (r :: rest), a :: as => outO sh H e k l a ∧ outXs sh as (r :: rest)
  | .t [], [] => True
  | .t (r :: r' :: rest), as => outXs sh as (r :: r' :: rest)
  | _, _ => False

def FnPost (sh : Bool) (M0 : Mem) (W : World) (rv : RV) : Ending → World → Prop :=
  fun e w' => ∃ v F, e = .returned v ∧ Below W.heap.size W w' ∧ Fresh F W.heap.size w' ∧ RVok (shM sh M0 F) W.heap.size w' rv v
def init (args : List A) : St := ⟨fun s => match nth args s with
  | some x => some (.u x)
  | none => none, fun _ => none, 0⟩
def isRet : Code → Bool | .ret => true | _ => false

section
variable {P : Program} {E : Env} {B : Nat} {W : World} {M0 M F : Mem} {Q : Exit → Act → World → Prop} {k : List Itm} {st : St} {a : Act} {w : World} {N : Nat} {mrk : Bool} {sh : Bool}

theorem after_ret {ro : Option Nat} : ∀ {k : List Itm}, Q .ret a w → after ro P Q k .ret a w := by
  intro k
  induction k with
  | nil => intro h; exact h
  | cons x k ih => intro h; cases x <;> exact ih h

theorem enc_flat {k : LK} (h : k.flat = true) {x : k.T} {j : Nat} {y : PV} (hy : (k.enc x)[j]? = some y) : ∃ v, y = .val v := by
  have hm := List.mem_of_getElem? hy
  cases k <;> simp [LK.flat] at h <;> simp [LK.enc] at hm
  all_goals (first | exact ⟨_, hm⟩ | (rcases hm with rfl | rfl | rfl | rfl | rfl | rfl <;> exact ⟨_, rfl⟩) | (rcases hm with rfl | rfl | rfl | rfl | rfl <;> exact ⟨_, rfl⟩) | (rcases hm with rfl | rfl | rfl | rfl <;> exact ⟨_, rfl⟩) | (rcases hm with rfl | rfl | rfl <;> exact ⟨_, rfl⟩) | (rcases hm with rfl | rfl <;> exact ⟨_, rfl⟩))

theorem outPV_ok (hle : sh = true → M.le F) {x y : PV} (h : outPV sh x y) {v : Value} (r : R M x v) : R F y v := by
  cases sh with
  | true =>
    have h' : simPV x y := by simpa [outPV] using h
    exact (simPV_ok h' r).mono (hle rfl)
  | false =>
    cases x with
    | val u =>
      have h' : simPV (.val u) y := by simpa [outPV, flatPV] using h
      have := r.val_eq; subst this
      exact simPV_ok h' (.val r.one)
    | nil => simp [outPV, flatPV] at h
    | lst => simp [outPV, flatPV] at h

theorem outCs_ok (hle : sh = true → M.le F) : ∀ {cs : List C} {ys : List PV} {us : List Value}, outCs sh cs ys → RCs M cs us → us.length = ys.length ∧ ∀ (j : Nat) (y : PV) (u : Value), ys[j]? = some y → us[j]? = some u → R F y u := by
  intro cs
  induction cs with
  | nil => intro ys us h r; cases ys with
    | nil => exact ⟨r.1, by simp⟩
    | cons => simp [outCs] at h
  | cons c cs ih =>
    intro ys us h r
    cases ys with
    | nil => cases c <;> simp [outCs] at h
    | cons y ys =>
      cases c <;> simp only [outCs] at h
      rename_i x
      obtain ⟨h1, h2⟩ := h
      cases us with
      | nil => have := r.1; simp at this
      | cons u us =>
        obtain ⟨i1, i2⟩ := ih h2 (us := us) ⟨by simpa using r.1, fun j c u' a b => r.2 (j + 1) c u' (by simpa using a) (by simpa using b)⟩
        refine ⟨by simp [i1], fun j y' u' a b => ?_⟩
        cases j with
        | zero =>
          simp at a b; subst a b
          have := r.2 0 _ u rfl rfl
          cases this with | pv rr => exact outPV_ok hle h1 rr
        | succ j => exact i2 j y' u' (by simpa using a) (by simpa using b)

theorem outX_ok (hle : sh = true → M.le F) {x : A} {r : RX} (h : outX sh x r) {v : Value} (hr : RA M x v) : RXok F r v := by
  unfold outX at h
  split at h
  · cases hr with | c hr => cases hr with | pv hr => exact outPV_ok hle h hr
  · cases hr with
    | g hr =>
      obtain ⟨h1, h2⟩ := outCs_ok hle h hr
      exact ⟨_, rfl, by simpa using h1, fun j x u a b => h2 j x u a (by simpa using b)⟩
  · obtain ⟨e1, rfl, rfl⟩ := h
    cases hr with | c hr => exact RC.mono (hle e1) hr
  · cases h

theorem outXs_ok (hle : sh = true → M.le F) : ∀ {as : List A} {rs : List RX}, outXs sh as rs → as.length = rs.length ∧ ∀ (j : Nat) (x : A) (r : RX), as[j]? = some x → rs[j]? = some r → outX sh x r := by
  intro as
  induction as with
  | nil => intro rs h; cases rs with
    | nil => exact ⟨rfl, by simp⟩
    | cons => simp [outXs] at h
  | cons x as ih =>
    intro rs h
    cases rs with
    | nil => simp [outXs] at h
    | cons r rs =>
      obtain ⟨h1, h2⟩ := h
      obtain ⟨i1, i2⟩ := ih h2
      refine ⟨by simp [i1], fun j y r' a b => ?_⟩
      cases j with
      | zero => simp at a b; subst a b; exact h1
      | succ j => exact i2 j y r' (by simpa using a) (by simpa using b)

theorem outO_ok {H : Nat → Option HB} (hS : SatH B W H M w) (hle : sh = true → M.le F) (hno : ∀ b, B ≤ b → M b = none → F b = none) {x : A} {e : TypeId} {k : LK} {l : List k.T} (h : outO sh H e k l x) {v : Value} (hr : RA M x v) : OwnSl F B w v e k l := by
  unfold outO at h
  split at h
  · split at h
    · rename_i hn
      obtain ⟨h0, rfl, rfl, h3⟩ := h
      cases h3
      have := hr.own_inv; subst this
      rcases hS.ok _ _ hn with ⟨rfl, rfl⟩ | ⟨b, cap, us, rfl, h1, h2, h3, h4, h5, h6, h7⟩
      · exact .inl ⟨rfl, rfl⟩
      · refine .inr ⟨b, cap, us, rfl, h1, hno b h1 h2, h3, h4, h5, h6, fun i x j y e1 e2 => ?_⟩
        obtain ⟨u, u1, u2⟩ := h7 i x j y e1 e2
        refine ⟨u, u1, ?_⟩
        cases sh with
        | true => exact u2.mono (hle rfl)
        | false =>
          obtain ⟨z, rfl⟩ := enc_flat (by simpa using h0) e2
          have := u2.val_eq; subst this
          exact .val u2.one
    · cases h
  · subst h
    have := RA.nil_inv hr; subst this
    exact .inl ⟨rfl, rfl⟩
  · cases h

theorem resAll_ok (hT : TbOk P E.T) (hS : Sat N mrk B W M0 [] [] 0 st M a w) {g : ResultVar → Sem Value} (hg1 : ∀ t, g (.tmp t) = pure (a.tmps.getD t undef)) (hg2 : ∀ t ty, g (.cell t ty) = do loadVar ty (← asAddr (a.tmps.getD t undef))) {rs : List ResultVar} {as : List A} {ob : Prop} (h : resAll E.T st.f st.H rs = some (as, ob)) (hob : ob) :
    ∃ vs : List Value, (rs.mapM g).run P w = .ok vs w ∧ vs.length = as.length ∧ rs.length = as.length ∧ ∀ (j : Nat) x v, as[j]? = some x → vs[j]? = some v → RA M x v := by
  induction rs generalizing as ob with
  | nil => cases h; exact ⟨[], by simp, rfl, rfl, by simp⟩
  | cons r rs ih =>
    simp only [resAll] at h
    split at h
    · rename_i x obx xs obxs h1 h2; cases h
      obtain ⟨vs, i1, i2, i2', i3⟩ := ih h2 hob.2
      have hone : ∃ v, (g r).run P w = .ok v w ∧ RA M x v := by
        cases r with
        | tmp t =>
          simp only [resA] at h1
          split at h1
          · rename_i y hf; cases h1
            obtain ⟨u, u1, u2⟩ := hS.f _ _ hf
            exact ⟨u, by rw [hg1]; simp [Array.getD_eq_getD_getElem?, u1], u2⟩
          · cases h1
        | cell t ty =>
          simp only [resA] at h1
          split at h1
          · rename_i n b o hf
            split at h1
            · rename_i b' ty' cs hn
              split at h1
              · rename_i y hy; cases h1
                have hb : b = b' := hob.1
                subst hb
                obtain ⟨u, u1, u2⟩ := hS.f _ _ hf
                have := RA.ptr_inv u2; subst this
                obtain ⟨g1, g2, us, g3, g4⟩ := hS.h.ok _ _ hn
                obtain ⟨v, q1, q2⟩ := ldA_ok (w := w) (M := M) (b := b) (o := o) hT hy (fun j c hj => by
                  rw [drp_eq, List.getElem?_drop] at hj
                  have hlt := (List.getElem?_eq_some_iff.1 hj).1
                  obtain ⟨u, hu⟩ := arr_get us (o + j) (by have := g4.1; simp at this; omega)
                  exact ⟨u, by simp [World.cell?, g3, hu], g4.2 _ c _ hj (by simpa using hu)⟩)
                exact ⟨v, by rw [hg2]; simp [Array.getD_eq_getD_getElem?, u1, asAddr, q1], q2⟩
              · cases h1
            · cases h1
          · cases h1
      obtain ⟨v, v1, v2⟩ := hone
      refine ⟨v :: vs, ?_, by simp [i2], by simp [i2'], fun j y u e1 e2 => ?_⟩
      · rw [List.mapM_cons]
        simp only [Sem.run_bind]
        rw [v1]
        simp only [Result.andThen_ok]
        rw [i1]
        rfl
      · cases j with
        | zero => simp at e1 e2; subst e1 e2; exact v2
        | succ j => exact i3 j y u (by simpa using e1) (by simpa using e2)
    · cases h

/-! ### blocks that are no cells may turn -/
def Mem.cle (M M' : Mem) : Prop := ∀ b o v, M.cell b o = some v → M'.cell b o = some v
theorem R.cmono {M M' : Mem} (h : Mem.cle M M') {x : PV} {v : Value} (r : R M x v) : R M' x v := by
  induction r with
  | val h => exact .val h
  | nil => exact .nil
  | lst hc hm b o us ha hn hcell hR ih => exact .lst hc hm b o us ha hn (fun i x j y h1 h2 => h _ _ _ (hcell i x j y h1 h2)) ih
theorem RC.cmono {M M' : Mem} (h : Mem.cle M M') {x : C} {v : Value} (r : RC M x v) : RC M' x v := by
  induction r with
  | pv r => exact .pv (R.cmono h r)
  | ptr => exact .ptr
  | own h => exact .own h
  | cel b o us hc hR => exact .cel b o us (fun j y e => h _ _ _ (hc j y e)) (fun j y e => R.cmono h (hR j y e))
  | oel => exact .oel
  | clo hs _ ih => exact .clo hs ih
theorem RCs.cmono {M M' : Mem} (h : Mem.cle M M') {xs : List C} {us : List Value} (r : RCs M xs us) : RCs M' xs us := ⟨r.1, fun j c u a b => RC.cmono h (r.2 j c u a b)⟩
theorem RA.cmono {M M' : Mem} (h : Mem.cle M M') {x : A} {v : Value} (r : RA M x v) : RA M' x v := by
  induction r with
  | c r => exact .c (RC.cmono h r)
  | g r => exact .g (RCs.cmono h r)
  | t hs _ ih => exact .t hs ih
def Mem.put (M : Mem) (l : Nat) (o : Obj) : Mem := fun k => if k = l then some o else M k
theorem Mem.put_same (M : Mem) (l : Nat) (o : Obj) : M.put l o l = some o := if_pos rfl
theorem Mem.put_ne (M : Mem) {l k : Nat} (o : Obj) (h : k ≠ l) : M.put l o k = M k := if_neg h
theorem Mem.put_cle {M : Mem} {l : Nat} {o' : Obj} (h : ∀ o, M l = some o → o.isCells = false) : Mem.cle M (M.put l o') := by
  intro b o v e
  unfold Mem.cell at *
  by_cases hb : b = l
  · subst hb
    cases hm : M b with
    | none => rw [hm] at e; cases e
    | some x =>
      have := h x hm
      rw [hm] at e
      cases x <;> simp [Obj.isCells] at this e
  · rw [Mem.put_ne _ _ hb]; exact e
theorem Below.putObj {B l : Nat} {w : World} (o : Obj) (h : B ≤ l) : Below B w (w.putObj l o) :=
  ⟨rfl, rfl, rfl, by simp, fun k hk => World.putObj_heap_other (by omega)⟩
/-- No cells: nothing reads it. -/
theorem cle_put {M : Mem} {w : World} (hm : M.on w) {l : Nat} {o o' : Obj} (hl : w.heap[l]? = some o) (ho : o.isCells = false) : Mem.cle M (M.put l o') :=
  Mem.put_cle fun x hx => by have := hm l x hx; rw [hl] at this; cases this; exact ho
theorem OwnSl.putObj {l : Nat} {o o' : Obj} (hm : M.on w) {v : Value} {e : TypeId} {k : LK} {xs : List k.T} (hl : w.heap[l]? = some o) (ho : o.isCells = false) (h : OwnSl M B w v e k xs) : OwnSl (M.put l o') B (w.putObj l o') v e k xs := by
  rcases h with h | ⟨b, cap, us, rfl, h1, h2, h3, h4, h5, h6, h7⟩
  · exact .inl h
  · have hne : b ≠ l := by
      intro e; subst e; rw [hl] at h3; cases h3; simp [Obj.isCells] at ho
    refine .inr ⟨b, cap, us, rfl, h1, by rw [Mem.put_ne _ _ hne]; exact h2, by rw [World.putObj_heap_other hne]; exact h3, h4, h5, h6, fun i x j y e1 e2 => ?_⟩
    obtain ⟨u, u1, u2⟩ := h7 i x j y e1 e2
    exact ⟨u, u1, R.cmono (cle_put hm hl ho) u2⟩
theorem SatH.putObj {H : Nat → Option HB} {l : Nat} {o o' : Obj} (hS : SatH B W H M w) (hl : w.heap[l]? = some o) (ho : o.isCells = false) (hB : B ≤ l) : SatH B W H (M.put l o') (w.putObj l o') := by
  refine ⟨hS.below.trans (Below.putObj o' hB), by simp; exact hS.base, fun k x hk => ?_, fun n x hx => ?_, hS.inj⟩
  · by_cases e : k = l
    · subst e; rw [Mem.put_same] at hk; cases hk; exact World.putObj_heap_same (Array.getElem?_eq_some_iff.1 hl).1
    · rw [Mem.put_ne _ _ e] at hk; rw [World.putObj_heap_other e]; exact hS.mem k x hk
  · have h := hS.ok n x hx
    cases x with
    | blk b ty cs =>
      obtain ⟨h1, h2, us, h3, h4⟩ := h
      have hne : b ≠ l := by
        intro e; subst e; rw [hl] at h3; cases h3; simp [Obj.isCells] at ho
      exact ⟨h1, by rw [Mem.put_ne _ _ hne]; exact h2, us, by rw [World.putObj_heap_other hne]; exact h3, RCs.cmono (cle_put hS.mem hl ho) h4⟩
    | own v ty k l => exact OwnSl.putObj hS.mem hl ho h
/-- A block that is no cells turns; what has been put by may. -/
theorem Sat.turn (hS : Sat N mrk B W M0 [] [] 0 st M a w) {l : Nat} {o o' : Obj} (hl : w.heap[l]? = some o) (ho : o.isCells = false) (hB : B ≤ l) {M0' : Mem} (hold : ∀ k o, M k = some o → k < B → M0' k = some o) {a' : Act} (ha : a'.tmps = a.tmps)
    (hd : DK mrk B M0' (M.put l o') a') : Sat N mrk B W M0' [] [] 0 st (M.put l o') a' (w.putObj l o') := by
  refine ⟨hS.h.putObj hl ho hB, fun k x hk hlt => ?_, hd, by rw [ha]; exact hS.n, fun s e he => ?_, hS.g⟩
  · rw [Mem.put_ne _ _ (by omega)] at hk; exact hold k x hk hlt
  · obtain ⟨v, h1, h2⟩ := hS.f s e he
    refine ⟨v, by rw [ha]; exact h1, ?_⟩
    cases e with
    | u x => exact RA.cmono (cle_put hS.h.mem hl ho) h2
    | gd j b x =>
      have := (hS.g s j b x he).1; omega

theorem ret_core (hT : TbOk P E.T) {fn : Func} {rv : RV} (hS : Sat N mrk W.heap.size W M0 [] [] 0 st M a w) (hM0 : M0.on W) {as : List A} {ob : Prop} (h : resAll E.T st.f st.H fn.results.toList = some (as, ob)) (hob : ob) (ho : out sh st.H rv as) :
    ∃ v, (results fn a.tmps).run P w = .ok v w ∧ FnPost sh M0 W rv (.returned v) w := by
  obtain ⟨vs, h1, h2, h2', h3⟩ := resAll_ok hT hS (g := fun | .tmp t => pure (a.tmps.getD t undef) | .cell t ty => do loadVar ty (← asAddr (a.tmps.getD t undef))) (fun _ => rfl) (fun _ _ => rfl) h hob
  have hres : (results fn a.tmps).run P w = .ok (if hh : vs.toArray.size = 1 then vs.toArray[0] else .tuple vs.toArray) w := by
    unfold results
    rw [Array.mapM_eq_mapM_toList]
    simp only [Sem.run_bind, Sem.run_map]
    exact congrArg (fun r : Result (List Value) => (r.andThen fun a w' => Result.ok a.toArray w').andThen fun a w' => Sem.run P (pure (if h : a.size = 1 then a[0] else Value.tuple a)) w') h1
  -- the part of what does not change that is new
  let F : Mem := fun k => if W.heap.size ≤ k then M k else none
  have hF : Fresh F W.heap.size w := by
    intro k o e
    simp only [F] at e
    split at e
    · rename_i hk; exact ⟨hk, hS.h.mem k o e⟩
    · cases e
  have hle : sh = true → M.le (shM sh M0 F) := by
    intro e; subst e
    intro k o hk
    simp only [shM, Mem.or, F]
    by_cases hlt : W.heap.size ≤ k
    · simp [hlt, hk]
    · simp only [if_neg hlt]; exact hS.old k o hk (by omega)
  have hno : ∀ b, W.heap.size ≤ b → M b = none → (shM sh M0 F) b = none := by
    intro b hb hMb
    have hFb : F b = none := by simp [F, hMb]
    cases sh with
    | true => simp only [shM, Mem.or, hFb]; exact Mem.none_of_size hM0 hb
    | false => exact hFb
  refine ⟨_, hres, _, F, rfl, hS.h.below, hF, ?_⟩
  cases rv with
  | x r =>
    match as, ho, h2, h3 with
    | [x], ho, h2, h3 =>
      match vs, h2, h3 with
      | [v], h2, h3 => exact outX_ok hle ho (h3 0 x v rfl rfl)
  | o e k l =>
    match as, ho, h2, h3 with
    | [x], ho, h2, h3 =>
      match vs, h2, h3 with
      | [v], h2, h3 => exact outO_ok hS.h hle hno ho (h3 0 x v rfl rfl)
  | ot e k l rest =>
    match rest, as, ho, h2, h3 with
    | r :: rest, x :: as, ho, h2, h3 =>
      obtain ⟨o1, o2⟩ := ho
      obtain ⟨q1, q2⟩ := outXs_ok hle o2
      match vs, h2, h3 with
      | v :: vs, h2, h3 =>
        simp at h2 q1
        have hne : ¬ (v :: vs).toArray.size = 1 := by simp; intro e; subst e; simp at h2; omega
        rw [dif_neg hne]
        refine ⟨_, rfl, by simp; omega, ⟨v, rfl, outO_ok hS.h hle hno o1 (h3 0 x v rfl rfl)⟩, fun j r' u a b => ?_⟩
        have hj : j < as.length := by rw [q1]; have := (List.getElem?_eq_some_iff.1 a).1; simpa using this
        exact outX_ok hle (q2 j _ r' (List.getElem?_eq_getElem hj) a) (h3 (j + 1) _ u (by simp [List.getElem?_eq_getElem hj]) (by simpa using b))
  | t rest =>
    match rest, as, ho, h2, h3 with
    | [], [], _, h2, h3 =>
      have : vs = [] := List.eq_nil_of_length_eq_zero h2
      subst this
      exact ⟨_, rfl, rfl, by simp⟩
    | r :: r' :: rest, as, ho, h2, h3 =>
      obtain ⟨q1, q2⟩ := outXs_ok hle ho
      have hne : ¬ vs.toArray.size = 1 := by simp at q1 ⊢; omega
      rw [dif_neg hne]
      refine ⟨_, rfl, by simp at q1 ⊢; omega, fun j r'' u a b => ?_⟩
      have hj : j < as.length := by rw [q1]; exact (List.getElem?_eq_some_iff.1 a).1
      exact outX_ok hle (q2 j _ r'' (List.getElem?_eq_getElem hj) a) (h3 j _ u (List.getElem?_eq_getElem hj) (by simpa using b))

/-- What a body must come to: a mark may stand. -/
def bpost (P : Program) (fn : Func) (R : Ending → World → Prop) : Exit → Act → World → Prop := bodyPostM Fence.wide 0 P fn R
theorem ret_post (hT : TbOk P E.T) {fn : Func} {rv : RV} (hM0 : M0.on W) {as : List A} {ob : Prop} (h : resAll E.T st.f st.H fn.results.toList = some (as, ob)) (hob : ob) (ho : out sh st.H rv as) :
    ∀ {M : Mem} {a : Act} {w : World}, Sat N mrk W.heap.size W M0 [] [] 0 st M a w → LeavesInM Fence.wide 0 P fn a.tmps (FnPost sh M0 W rv) a.defers .returning w := by
  have key : ∀ (Ds : List Nat) {M : Mem} {a : Act} {w : World}, Sat N mrk W.heap.size W M0 [] [] 0 st M a w → Ds.Nodup → a.defers = Ds.map mark → (mrk = false → Ds = []) → (∀ D, D ∈ Ds → W.heap.size ≤ D ∧ M D = some (.deferred (some []))) →
      LeavesInM Fence.wide 0 P fn a.tmps (FnPost sh M0 W rv) a.defers .returning w := by
    intro Ds
    induction Ds with
    | nil => intro M a w hS _ e _ _; rw [e]; exact ret_core hT hS hM0 h hob ho
    | cons D Ds ih =>
      intro M a w hS hn e hmk hD
      rw [e]
      obtain ⟨hB, hm⟩ := hD D (by simp)
      have hl := hS.h.mem D _ hm
      refine ⟨by simp, .inl ⟨D, _, rfl, run_takeDeferred hl, ?_⟩⟩
      have hd' : ∀ D', D' ∈ Ds → W.heap.size ≤ D' ∧ (M.put D (.deferred none)) D' = some (.deferred (some [])) := fun D' h' => by
        have := hD D' (List.mem_cons_of_mem _ h')
        refine ⟨this.1, ?_⟩
        rw [Mem.put_ne _ _ (fun e => by subst e; exact (List.nodup_cons.1 hn).1 h')]; exact this.2
      have hk : M0.le (M.put D (.deferred none)) := fun k o hk => by
        have hlt := (Array.getElem?_eq_some_iff.1 (hM0 k o hk)).1
        rw [Mem.put_ne _ _ (by omega)]; exact hS.d.kp k o hk
      have hS' : Sat N mrk W.heap.size W M0 [] [] 0 st (M.put D (.deferred none)) ⟨a.tmps, Ds.map mark⟩ (w.putObj D (.deferred none)) :=
        Sat.turn hS hl rfl hB hS.old rfl ⟨⟨Ds, fun e => (by have := hmk e; cases this), (List.nodup_cons.1 hn).2, rfl, hd'⟩, hk⟩
      exact ih hS' (List.nodup_cons.1 hn).2 rfl (fun e => (by have := hmk e; cases this)) hd'
  intro M a w hS
  obtain ⟨Ds, h0, h1, h2, h3⟩ := hS.d.df
  exact key Ds hS h1 h2 h0 h3

theorem G_ret (hT : TbOk P E.T) {fn : Func} {rv : RV} {c : Code} (hM0 : M0.on W) (hc : isRet c = true) {as : List A} {ob : Prop} (h : resAll E.T st.f st.H fn.results.toList = some (as, ob)) (hob : ob) (ho : out sh st.H rv as) :
    G P E W.heap.size W M0 (bpost P fn (FnPost sh M0 W rv)) (.code c :: k) st := by
  intro M a w hS
  cases c <;> simp only [isRet, Bool.false_eq_true] at hc
  simp only [after]
  exact wpIn_ret (after_ret (ret_post hT hM0 h hob ho hS))

theorem G_end (hT : TbOk P E.T) {fn : Func} {rv : RV} (hM0 : M0.on W) {as : List A} {ob : Prop} (h : resAll E.T st.f st.H fn.results.toList = some (as, ob)) (hob : ob) (ho : out sh st.H rv as) :
    G P E W.heap.size W M0 (bpost P fn (FnPost sh M0 W rv)) [] st :=
  fun M a w hS => ret_post hT hM0 h hob ho hS

theorem Ctr_intro {f : FuncId} {fn : Func} {args : List A} {rv : RV} (hf : P.funcs[f]? = some fn) (hb : fn.body.isNone = false) (hnm : (fn.name == "runtime.NumGoroutine") = false) (hN : fn.ntmps = E.N) (hl : Nat.ble (len args) E.N = true)
    (h : ∀ M0 W, M0.on W → G P E W.heap.size W M0 (bpost P fn (FnPost sh M0 W rv)) [.code (fbody fn)] (init args)) (hro : E.ro = none := by rfl) : Ctr P f sh args rv := by
  refine ⟨⟨fn, hf, hb, hnm⟩, fun M0 w vs hM0 hra => ?_⟩
  cases hbd : fn.body with
  | none => rw [hbd] at hb; cases hb
  | some c =>
    rw [Nat.ble_eq, len_eq] at hl
    refine (callsIn_wide (n := 0)).1 (callsIn_of_wp_marks hf hbd trivial ?_)
    have hg := h M0 w hM0 M0 ⟨vs ++ Array.replicate (fn.ntmps - vs.size) undef, []⟩ w ⟨⟨Below.refl _ _, Nat.le_refl _, hM0, by simp [init], by simp [init]⟩, fun _ _ e _ => e, .nil rfl (Mem.le_refl _), by simp [hra.1]; omega, fun s e he => ?_, fun s j b x hx => ?_⟩
    · have hfb : fbody fn = c := by simp [fbody, hbd]
      have hg2 : cwp E.ro P (fbody fn) (after E.ro P (bpost P fn (FnPost sh M0 w rv)) []) _ w := hg
      rw [hfb, hro] at hg2
      exact wpIn_mono hg2 (fun e a w q => q)
    · simp only [init, nth_eq] at he
      split at he
      · rename_i x hx; cases he
        have hlt : s < vs.size := by rw [hra.1]; exact (List.getElem?_eq_some_iff.1 hx).1
        obtain ⟨u, hu⟩ := arr_get vs s hlt
        exact ⟨u, by simp [Array.getElem?_append_left hlt, hu], hra.2 s x u hx hu⟩
      · cases he
    · simp only [init, nth_eq] at hx
      split at hx <;> cases hx
end
end Go.Mt

/-
  Mt, part T: a table of types held against a program's.
-/
set_option linter.unusedSimpArgs false
set_option linter.unusedVariables false
namespace Go.Mt
open Go.RowKit

def zeroOk : List C → List Value → Bool
  | [], [] => true
  | .pv (.val (.int k n)) :: xs, .int k' m :: vs => ikeq k k' && decide (n = m) && zeroOk xs vs
  | .pv (.val (.bool a)) :: xs, .bool b :: vs => beqB a b && zeroOk xs vs
  | .pv (.val (.string ⟨⟨[]⟩⟩)) :: xs, .string ⟨⟨[]⟩⟩ :: vs => zeroOk xs vs
  | .pv (.nil _) :: xs, .slice none 0 0 :: vs => zeroOk xs vs
  | .pv (.val (.pointer none)) :: xs, .pointer none :: vs => zeroOk xs vs
  | .pv (.val .nilFunc) :: xs, .nilFunc :: vs => zeroOk xs vs
  | .pv (.val .nilIface) :: xs, .nilIface :: vs => zeroOk xs vs
  | _, _ => false
def aggD : Option TypeDesc → Bool
  | some (.struct _) | some (.array _ _) => true
  | _ => false
def fieldsOk (P : Program) : List Field → List (Nat × Nat × Bool) → Bool
  | [], [] => true
  | f :: fs, (o, s, b) :: xs => Nat.beq f.offset o && (match P.info? f.type with | some i => Nat.beq i.size s | none => false) && (P.underlying f.type).isSome && beqB (aggD (P.underlying f.type)) b && fieldsOk P fs xs
  | _, _ => false
def kindOk (P : Program) (t : TypeId) : TK → Bool
  | .int k => match P.underlying t with | some (.int k') => ikeq k k' | _ => false
  | .bool => match P.underlying t with | some .bool => true | _ => false
  | .str => match P.underlying t with | some .string => true | _ => false
  | .slc e k => match P.underlying t with | some (.slice e') => Nat.beq e e' && (match P.info? e with | some i => Nat.beq i.size k.sz | none => false) | _ => false
  | .ptr e => match P.underlying t with | some (.pointer e') => Nat.beq e e' | _ => false
  | .strct fs => match P.underlying t with | some (.struct fields) => fieldsOk P fields.toList fs | _ => false
  | .arr n e => match P.underlying t with | some (.array n' e') => Nat.beq n n' && Nat.beq e e' && (P.info? e).isSome | _ => false
  | .other => match P.underlying t with | some (.struct _) | some (.array _ _) | none => false | _ => true
def tyOk (P : Program) (t : TypeId) (i : TI) : Bool :=
  (match P.info? t with
    | some inf => Nat.beq inf.size i.size && Nat.beq inf.bytes i.bytes && (match inf.zero with | some z => Nat.beq z.cells.size i.size && zeroOk i.zero z.cells.toList | none => false)
    | none => false) && kindOk P t i.kind && ((!eqab i.kind i.zero) || eqOk P t i.zero)
def tbOk (P : Program) (l : List (Option TI)) : Nat → Bool
  | 0 => true
  | n + 1 => (match nth l n with
    | some (some i) => tyOk P n i
    | _ => true) && tbOk P l n
/-- The table off a list. -/
def tbl (l : List (Option TI)) : Tb := fun t => match nth l t with
  | some (some i) => some i
  | _ => none

section
variable {P : Program}
theorem zeroOk_ok (M : Mem) : ∀ {xs : List C} {vs : List Value}, zeroOk xs vs = true → RCs M xs vs := by
  have cons : ∀ {x : C} {v : Value} {xs : List C} {vs : List Value}, RC M x v → RCs M xs vs → RCs M (x :: xs) (v :: vs) := by
    intro x v xs vs h1 h2
    refine ⟨by simp [h2.1], fun j c u a b => ?_⟩
    cases j with
    | zero => simp at a b; subst a b; exact h1
    | succ j => exact h2.2 j c u (by simpa using a) (by simpa using b)
  intro xs vs
  fun_induction zeroOk xs vs with
  | case1 => intro _; exact ⟨rfl, by simp⟩
  | case2 k n xs k' m vs ih =>
    intro h
    simp only [Bool.and_eq_true, decide_eq_true_eq] at h
    obtain ⟨⟨h1, h2⟩, h3⟩ := h
    have := ikeq_eq h1; subst this; subst h2
    exact cons (.pv (.val rfl)) (ih h3)
  | case3 a xs b vs ih =>
    intro h
    simp only [Bool.and_eq_true] at h
    have := beqB_eq h.1; subst this
    exact cons (.pv (.val rfl)) (ih h.2)
  | case4 xs vs ih => intro h; exact cons (.pv (.val rfl)) (ih h)
  | case5 k xs vs ih => intro h; exact cons (.pv .nil) (ih h)
  | case6 xs vs ih => intro h; exact cons (.pv (.val rfl)) (ih h)
  | case7 xs vs ih => intro h; exact cons (.pv (.val rfl)) (ih h)
  | case8 xs vs ih => intro h; exact cons (.pv (.val rfl)) (ih h)
  | case9 => intro h; simp at h

theorem fieldsOk_ok : ∀ {fs : List Field} {xs : List (Nat × Nat × Bool)}, fieldsOk P fs xs = true → fs.length = xs.length ∧
    ∀ (j : Nat) (f : Field) (x : Nat × Nat × Bool), fs[j]? = some f → xs[j]? = some x → f.offset = x.1 ∧ (∃ inf d, P.info? f.type = some inf ∧ inf.size = x.2.1 ∧ P.underlying f.type = some d ∧ (match d with | .struct _ | .array _ _ => true | _ => false) = x.2.2) := by
  intro fs
  induction fs with
  | nil => intro xs h; cases xs with
    | nil => exact ⟨rfl, by simp⟩
    | cons => simp [fieldsOk] at h
  | cons f fs ih =>
    intro xs h
    cases xs with
    | nil => simp [fieldsOk] at h
    | cons x xs =>
      obtain ⟨o, s, b⟩ := x
      simp only [fieldsOk, Bool.and_eq_true, Nat.beq_eq] at h
      obtain ⟨⟨⟨⟨h1, h2⟩, h3⟩, h4⟩, h5⟩ := h
      obtain ⟨i1, i2⟩ := ih h5
      refine ⟨by simp [i1], fun j g y a c => ?_⟩
      cases j with
      | zero =>
        simp at a c; subst a c
        cases hi : P.info? f.type with
        | none => simp [hi] at h2
        | some inf =>
          simp only [hi, Nat.beq_eq] at h2
          cases hd : P.underlying f.type with
          | none => simp [hd] at h3
          | some d =>
            rw [hd] at h4
            have := beqB_eq h4
            refine ⟨h1, inf, d, rfl, h2, rfl, ?_⟩
            simp only; rw [← this]
            cases d <;> rfl
      | succ j => exact i2 j g y (by simpa using a) (by simpa using c)

theorem tyOk_ok {t : TypeId} {i : TI} (h : tyOk P t i = true) : TyOk P t i := by
  unfold tyOk at h
  rw [Bool.and_eq_true, Bool.and_eq_true] at h
  obtain ⟨⟨h1, h2⟩, h3⟩ := h
  refine ⟨fun hab => by rw [hab] at h3; simpa using h3, ?_, ?_⟩
  · cases hi : P.info? t with
    | none => simp [hi] at h1
    | some inf =>
      simp only [hi, Bool.and_eq_true, Nat.beq_eq] at h1
      obtain ⟨⟨g1, g2⟩, g3⟩ := h1
      cases hz : inf.zero with
      | none => simp [hz] at g3
      | some z =>
        simp only [hz, Bool.and_eq_true, Nat.beq_eq] at g3
        exact ⟨inf, z, rfl, g1, g2, hz, g3.1, fun M => zeroOk_ok M g3.2⟩
  · cases hk : i.kind with
    | int k =>
      rw [hk] at h2; simp only [kindOk] at h2
      split at h2
      · rename_i hu; rw [ikeq_eq h2]; exact hu
      · cases h2
    | bool =>
      rw [hk] at h2; simp only [kindOk] at h2
      split at h2
      · rename_i hu; exact hu
      · cases h2
    | str =>
      rw [hk] at h2; simp only [kindOk] at h2
      split at h2
      · rename_i hu; exact hu
      · cases h2
    | slc e k =>
      rw [hk] at h2; simp only [kindOk] at h2
      split at h2
      · rename_i e' hu
        simp only [Bool.and_eq_true, Nat.beq_eq] at h2
        obtain ⟨rfl, h3⟩ := h2
        cases hi : P.info? e with
        | none => simp [hi] at h3
        | some inf => simp only [hi, Nat.beq_eq] at h3; exact ⟨hu, inf, hi, h3⟩
      · cases h2
    | ptr e =>
      rw [hk] at h2; simp only [kindOk] at h2
      split at h2
      · rename_i e' hu; rw [Nat.beq_eq] at h2; subst h2; exact hu
      · cases h2
    | strct fs =>
      rw [hk] at h2; simp only [kindOk] at h2
      split at h2
      · rename_i fields hu
        obtain ⟨g1, g2⟩ := fieldsOk_ok h2
        exact ⟨fields, hu, by simpa using g1, fun j f x a b => g2 j f x (by simpa using a) b⟩
      · cases h2
    | arr n e =>
      rw [hk] at h2; simp only [kindOk] at h2
      split at h2
      · rename_i n' e' hu
        simp only [Bool.and_eq_true, Nat.beq_eq] at h2
        obtain ⟨⟨rfl, rfl⟩, h3⟩ := h2
        refine ⟨hu, ?_⟩
        cases hi : P.info? e with
        | none => simp [hi] at h3
        | some inf => exact ⟨inf, rfl⟩
      · cases h2
    | other =>
      rw [hk] at h2; simp only [kindOk] at h2
      show (match P.underlying t with | some (.struct _) | some (.array _ _) | none => false | _ => true) = true
      cases hd : P.underlying t with
      | none => simp [hd] at h2
      | some d => cases d <;> simp [hd] at h2 ⊢

theorem tbOk_ok {l : List (Option TI)} : ∀ {n : Nat}, tbOk P l n = true → ∀ t, t < n → ∀ i, tbl l t = some i → TyOk P t i := by
  intro n
  induction n with
  | zero => intro _ t ht; omega
  | succ n ih =>
    intro h t ht i hi
    simp only [tbOk, Bool.and_eq_true] at h
    rcases Nat.lt_or_ge t n with hlt | hge
    · exact ih h.2 t hlt i hi
    · obtain rfl : t = n := by omega
      simp only [tbl] at hi
      split at hi
      · rename_i j hj; cases hi
        have := h.1; rw [hj] at this
        exact tyOk_ok this
      · cases hi

theorem tbl_ok {l : List (Option TI)} (h : tbOk P l (len l) = true) : TbOk P (tbl l) := by
  intro t i hi
  refine tbOk_ok h t ?_ i hi
  simp only [tbl] at hi
  split at hi
  · rename_i j hj
    rw [nth_eq] at hj
    rw [len_eq]; exact (List.getElem?_eq_some_iff.1 hj).1
  · cases hi
end
end Go.Mt

/-
  Mt, part U: contracts gathered.
-/
set_option linter.unusedSimpArgs false
set_option linter.unusedVariables false
namespace Go.Mt
theorem u8_in64 (b : UInt8) : ((b.toNat : Nat) : Int) ≤ 18446744073709551615 := by have := b.toNat_lt; omega
theorem u8_in63 (b : UInt8) : ((b.toNat : Nat) : Int) ≤ 9223372036854775807 := by have := b.toNat_lt; omega
def psiNil : FuncId → Option FSpec := fun _ => none
def psiCons (k : Nat) (s : FSpec) (r : FuncId → Option FSpec) : FuncId → Option FSpec := fun f => match Nat.beq f k with
  | true => some s
  | false => r f
def pspNil : FuncId → Option (TypeId × PSpec) := fun _ => none
def pspCons (k : Nat) (t : TypeId) (s : PSpec) (r : FuncId → Option (TypeId × PSpec)) : FuncId → Option (TypeId × PSpec) := fun f => match Nat.beq f k with
  | true => some (t, s)
  | false => r f
abbrev PsiFn (P : Program) (Ψ : FuncId → Option FSpec) : Prop := ∀ f s, Ψ f = some s → SpecOk P f s
abbrev PsiPt (P : Program) (Ψ : FuncId → Option (TypeId × PSpec)) : Prop := ∀ f ty s, Ψ f = some (ty, s) → PSpecOk P f ty s
variable {P : Program}
theorem psiNil_ok : PsiFn P psiNil := fun f s h => by cases h
theorem pspNil_ok : PsiPt P pspNil := fun f t s h => by cases h
theorem psiCons_ok {k : Nat} {s : FSpec} {r : FuncId → Option FSpec} (h : SpecOk P k s) (hr : PsiFn P r) : PsiFn P (psiCons k s r) := by
  intro f s' e
  unfold psiCons at e
  split at e
  · rename_i hb; rw [Nat.beq_eq] at hb; subst hb; cases e; exact h
  · exact hr f s' e
theorem pspCons_ok {k : Nat} {t : TypeId} {s : PSpec} {r : FuncId → Option (TypeId × PSpec)} (h : PSpecOk P k t s) (hr : PsiPt P r) : PsiPt P (pspCons k t s r) := by
  intro f t' s' e
  unfold pspCons at e
  split at e
  · rename_i hb; rw [Nat.beq_eq] at hb; subst hb; cases e; exact h
  · exact hr f t' s' e
end Go.Mt

/-
  Mt, part V: from what a row tells of the arguments to what a contract asks.
-/
set_option linter.unusedSimpArgs false
set_option linter.unusedVariables false
namespace Go.Mt
open Go.RowKit
variable {P : Program} {w : World}

theorem wf_inR {k : IntKind} {n : Int} (h : (Lit.int k n).wf = true) : inR k n := by
  simp only [Lit.wf, Bool.and_eq_true, decide_eq_true_eq] at h
  cases k <;> simp only [inR, IntKind.min, IntKind.max, IntKind.signed, IntKind.bits] at * <;> simp at * <;> omega

theorem cell_none {x : Addr} {v : Value} (h : w.cell? x = some v) : x = ⟨x.block, x.off, none⟩ ∧ (Mem.all w).cell x.block x.off = some v := by
  obtain ⟨b, o, s⟩ := x
  simp only [World.cell?] at h
  split at h
  · rename_i c _ _ hc
    cases s with
    | some s => simp at h
    | none => simp at h; exact ⟨rfl, by simp [Mem.cell, Mem.all, hc, h]⟩
  · cases h

theorem cell_add {x : Addr} (hx : x = ⟨x.block, x.off, none⟩) {i : Nat} {v : Value} (h : w.cell? (x.add i) = some v) : (Mem.all w).cell x.block (x.off + i) = some v := by
  have := (cell_none h).2
  rw [hx] at this
  simpa [Addr.add_lit] using this

/-- A slice of numbers. -/
theorem row_ints {k : IntKind} {a : Option Addr} {n c : Nat} {zs : List Int} (h : (a = none ∧ n = 0 ∧ c = 0 ∧ zs = []) ∨
    ∃ x, a = some x ∧ n ≤ c ∧ c ≤ maxLen ∧ zs.length = c ∧ (∀ i, i < zs.length → w.cell? (x.add i) = some (.int k (zs.getD i 0))) ∧ ∀ m ∈ zs, (Lit.int k m).wf = true) :
    R (Mem.all w) (.lst (.ints k) (zs.take n)) (.slice a n c) ∧ (zs.take n).length ≤ maxLen ∧ ∀ m ∈ zs.take n, inR k m := by
  rcases h with ⟨rfl, rfl, rfl, rfl⟩ | ⟨x, rfl, h1, h2, h3, h4, h5⟩
  · exact ⟨R.lst_nil _ _, by simp, by simp⟩
  · have hlen : (zs.take n).length = n := by rw [List.length_take]; omega
    refine ⟨?_, by omega, fun m hm => wf_inR (h5 m (List.mem_of_mem_take hm))⟩
    have hx : zs.take n ≠ [] → x = ⟨x.block, x.off, none⟩ := by
      intro hne
      have : 0 < zs.length := by
        rcases Nat.eq_zero_or_pos zs.length with e | e
        · exact absurd (by rw [List.eq_nil_of_length_eq_zero e]; simp) hne
        · exact e
      have := (cell_none (h4 0 this)).1
      simpa [Addr.add] using this
    refine R.lst_mk (b := x.block) (o := x.off) hlen h1 h2 (fun hne => by rw [← hx hne]) (by simp) (fun i y j z e1 e2 => ?_)
    have hi : i < zs.length := by
      have := (List.getElem?_eq_some_iff.1 e1).1
      rw [hlen] at this; omega
    have hne : zs.take n ≠ [] := by intro e; rw [e] at e1; simp at e1
    have hy : zs.getD i 0 = y := by
      rw [List.getElem?_take] at e1
      split at e1
      · simp [List.getD, e1]
      · cases e1
    cases j with
    | zero =>
      simp [LK.enc] at e2; subst e2
      exact ⟨_, by have := cell_add (hx hne) (h4 i hi); rw [hy] at this; simpa [LK.sz] using this, .val rfl⟩
    | succ j => simp [LK.enc] at e2
/-- A slice of bytes. -/
theorem row_byts {a : Option Addr} {n c : Nat} {zs : List Int} (h : (a = none ∧ n = 0 ∧ c = 0 ∧ zs = []) ∨
    ∃ x, a = some x ∧ n ≤ c ∧ c ≤ maxLen ∧ zs.length = c ∧ (∀ i, i < zs.length → w.cell? (x.add i) = some (.int .u8 (zs.getD i 0))) ∧ ∀ m ∈ zs, (Lit.int .u8 m).wf = true) :
    R (Mem.all w) (.lst .byt ((zs.take n).map fun z => UInt8.ofNat z.toNat)) (.slice a n c) ∧ ((zs.take n).map fun z => UInt8.ofNat z.toNat).length ≤ maxLen := by
  rcases h with ⟨rfl, rfl, rfl, rfl⟩ | ⟨x, rfl, h1, h2, h3, h4, h5⟩
  · exact ⟨R.lst_nil _ _, by simp⟩
  · have hlen : ((zs.take n).map fun z => UInt8.ofNat z.toNat).length = n := by rw [List.length_map, List.length_take]; omega
    refine ⟨?_, by omega⟩
    have hx : zs ≠ [] → x = ⟨x.block, x.off, none⟩ := by
      intro hne
      have := (cell_none (h4 0 (List.length_pos_iff.2 hne))).1
      simpa [Addr.add] using this
    refine R.lst_mk (b := x.block) (o := x.off) hlen h1 h2 (fun hne => by rw [← hx (fun e => hne (by rw [e]; simp))]) (by simp) (fun i y j z e1 e2 => ?_)
    have hi : i < zs.length := by
      have := (List.getElem?_eq_some_iff.1 e1).1
      rw [hlen] at this; omega
    have hne : zs ≠ [] := by intro e; rw [e] at hi; simp at hi
    have hr : (0 : Int) ≤ zs.getD i 0 ∧ zs.getD i 0 ≤ 255 := by
      have := wf_inR (h5 (zs.getD i 0) (by simp [List.getD, List.getElem?_eq_getElem hi]))
      simpa [inR, IntKind.bits] using this
    have hy : ((y.toNat : Nat) : Int) = zs.getD i 0 := by
      rw [List.getElem?_map, List.getElem?_take] at e1
      split at e1
      · rw [List.getElem?_eq_getElem hi] at e1
        simp at e1; subst e1
        simp only [List.getD, List.getElem?_eq_getElem hi, Option.getD_some] at hr ⊢
        rw [UInt8.toNat_ofNat']; omega
      · cases e1
    cases j with
    | zero =>
      simp [LK.enc] at e2; subst e2
      exact ⟨_, by have := cell_add (hx hne) (h4 i hi); rw [← hy] at this; simpa [LK.sz] using this, .val rfl⟩
    | succ j => simp [LK.enc] at e2

/-- A string. -/
theorem row_str (s : ByteArray) : RA (Mem.all w) (str s.data.toList) (.string s) := by
  obtain ⟨⟨l⟩⟩ := s; exact .c (.pv (.val rfl))

theorem law_calls {f : FuncId} {sh : Bool} {args : List A} {vs : Array Value} (hc : Ctr P f sh args (.x (.c (bv true)))) (hr : RAs (Mem.all w) args vs) :
    Calls P f vs w fun e w' => e = .returned (.bool true) ∧ Below w.heap.size w w' := by
  refine (hc.2 (Mem.all w) w vs (Mem.all_on w) hr).mono fun e w' ⟨v, F, he, hb, _, hv⟩ => ⟨?_, hb⟩
  subst he
  have : v = .bool true := by
    simp only [RVok, RXok] at hv
    cases hv; rfl
  rw [this]

theorem RAs.nil {M : Mem} : RAs M [] #[] := ⟨rfl, by simp⟩
theorem RAs.mk {M : Mem} {as : List A} {l : List Value} (h : RAs M as l.toArray) : RAs M as l.toArray := h
theorem RAs.cons {M : Mem} {a : A} {v : Value} {as : List A} {l : List Value} (h : RA M a v) (hs : RAs M as l.toArray) : RAs M (a :: as) (v :: l).toArray := by
  refine ⟨by simpa using hs.1, fun j x u e1 e2 => ?_⟩
  cases j with
  | zero => simp at e1 e2; subst e1 e2; exact h
  | succ j => exact hs.2 j x u (by simpa using e1) (by simpa using e2)
end Go.Mt

/-
  Mt, part W: what is known more does not turn what the evaluator says.
-/
set_option linter.unusedSimpArgs false
set_option linter.unusedVariables false
namespace Go.Mt
open Go.RowKit

def leR (rd rd' : Operand → Option A) : Prop := ∀ o a, rd o = some a → rd' o = some a
def leF {α : Type} (f f' : Nat → Option α) : Prop := ∀ d e, f d = some e → f' d = some e
section
variable {T : Tb} {rd rd' : Operand → Option A} {H H' : Nat → Option HB} {f f' : Nat → Option Ent} {ops : List Oper}

theorem rdG_mono (h : leF f f') (Γ : List (Nat × Bool)) : leR (rdG f Γ) (rdG f' Γ) := by
  intro o a e
  cases o with
  | tmp t =>
    simp only [rdG] at e ⊢
    split at e <;> rename_i h1
    · rw [h _ _ h1]; exact e
    · rw [h _ _ h1]; exact e
    · cases e
  | _ => exact e
theorem rdP_mono (h : leF f f') (Γ : List (Nat × Bool)) (tc : Nat) (want : Bool) : leR (rdP ops f Γ tc want) (rdP ops f' Γ tc want) := by
  intro o a e
  cases o with
  | tmp t =>
    simp only [rdP] at e ⊢
    split at e <;> rename_i h1
    · rw [h _ _ h1]; exact e
    · rw [h _ _ h1]; exact e
    · cases e
  | _ => exact e
theorem rdT_mono (h : leR rd rd') (t : TypeId) : leR (rdT T t rd) (rdT T t rd') := by
  intro o a e
  unfold rdT at e ⊢
  split at e
  · exact e
  · exact e
  · exact h _ _ e
theorem optA_mono (h : leR rd rd') {o : Option Operand} {a : Option A} (e : optA rd o = some a) : optA rd' o = some a := by
  cases o with
  | none => exact e
  | some o =>
    simp only [optA] at e ⊢
    split at e
    · rename_i x hx; rw [h _ _ hx]; exact e
    · cases e
theorem rdAll_mono (h : leR rd rd') : ∀ {os : List Operand} {as : List A}, rdAll rd os = some as → rdAll rd' os = some as := by
  intro os
  induction os with
  | nil => intro as e; exact e
  | cons o os ih =>
    intro as e
    simp only [rdAll] at e ⊢
    split at e
    · rename_i x xs h1 h2; rw [h _ _ h1, ih h2]; exact e
    · cases e
theorem rdParts_mono (h : leR rd rd') : ∀ {os : List (Nat × Operand)} {as : List (Nat × A)}, rdParts T rd os = some as → rdParts T rd' os = some as := by
  intro os
  induction os with
  | nil => intro as e; exact e
  | cons o os ih =>
    intro as e
    obtain ⟨i, o⟩ := o
    simp only [rdParts] at e ⊢
    split at e
    · rename_i x xs h1 h2; rw [h _ _ h1, ih h2]; exact e
    · cases e
theorem lkOf_mono (h : leF H H') {a : A} {r} (e : lkOf H a = some r) : lkOf H' a = some r := by
  unfold lkOf at e ⊢
  split at e
  · exact e
  · exact e
  · split at e
    · rename_i h1; simp only [h _ _ h1]; exact e
    · cases e
  · cases e
theorem cnvB_mono (h : leF H H') {t : TypeId} {a : A} {r} (e : cnvB T H t a = some r) : cnvB T H' t a = some r := by
  unfold cnvB at e ⊢
  split at e
  · rename_i h1 h2; rw [lkOf_mono h h1, h2]; exact e
  · cases e

theorem leR.or (h : leR rd rd') (o : Operand) : rd o = none ∨ rd' o = rd o := by
  cases e : rd o with
  | none => exact .inl rfl
  | some a => exact .inr (h _ _ e)
theorem leH.or (h : leF H H') (n : Nat) : H n = none ∨ H' n = H n := by
  cases e : H n with
  | none => exact .inl rfl
  | some a => exact .inr (h _ _ e)
theorem lkOf_or (h : leF H H') (a : A) : lkOf H a = none ∨ lkOf H' a = lkOf H a := by
  cases e : lkOf H a with
  | none => exact .inl rfl
  | some r => exact .inr (lkOf_mono h e)
theorem rdT_or (h : leR rd rd') (t : TypeId) (o : Operand) : rdT T t rd o = none ∨ rdT T t rd' o = rdT T t rd o := (rdT_mono h t).or o
theorem optA_or (h : leR rd rd') (o : Option Operand) : optA rd o = none ∨ optA rd' o = optA rd o := by
  cases e : optA rd o with
  | none => exact .inl rfl
  | some a => exact .inr (optA_mono h e)
theorem rdAll_or (h : leR rd rd') (o : List Operand) : rdAll rd o = none ∨ rdAll rd' o = rdAll rd o := by
  cases e : rdAll rd o with
  | none => exact .inl rfl
  | some a => exact .inr (rdAll_mono h e)
theorem rdParts_or (h : leR rd rd') (o : List (Nat × Operand)) : rdParts T rd o = none ∨ rdParts T rd' o = rdParts T rd o := by
  cases e : rdParts T rd o with
  | none => exact .inl rfl
  | some a => exact .inr (rdParts_mono h e)

theorem pureOp_mono (h : leR rd rd') (hH : leF H H') {wm : Bool} {ty : TypeId} {op : Op} {r : A × Prop} (e : pureOp T H wm rd ty op = some r) : pureOp T H' wm rd' ty op = some r := by
  unfold pureOp at e
  split at e
  · rename_i x
    simp only [pureOp]; rcases rdT_or (T := T) h ty x with h1 | h1 <;> simp only [h1] at e ⊢ <;> first | exact e | cases e
  · rename_i x
    simp only [pureOp]; rcases rdT_or (T := T) h ty x with h1 | h1 <;> simp only [h1] at e ⊢ <;> first | exact e | cases e
  · rename_i op t x y _
    simp only [pureOp]
    rcases h.or x with h1 | h1
    · simp [h1] at e
    · rcases h.or y with h2 | h2
      · simp [h2] at e
      · rw [h1, h2]; exact e
  · rename_i op _ x
    simp only [pureOp]
    rcases h.or x with h1 | h1
    · simp [h1] at e
    · rw [h1]; exact e
  · rename_i src dst x
    simp only [pureOp]
    rcases h.or x with h1 | h1
    · simp [h1] at e
    · rw [h1]
      split at e
      · split at e
        · exact cnvB_mono hH e
        · cases e
      · exact e
      · cases e
  · rename_i x i
    simp only [pureOp]
    rcases h.or x with h1 | h1
    · simp [h1] at e
    · rw [h1]; exact e
  · rename_i xT x f
    simp only [pureOp]
    rcases h.or x with h1 | h1
    · simp [h1] at e
    · rw [h1]; exact e
  · rename_i sT x f
    simp only [pureOp]
    rcases h.or x with h1 | h1
    · exfalso; rw [h1] at e; (repeat' split at e) <;> simp_all
    · rw [h1]; exact e
  · rename_i t x i
    simp only [pureOp]
    rcases h.or x with h1 | h1
    · exfalso; rw [h1] at e; (repeat' split at e) <;> simp_all
    · rcases h.or i with h2 | h2
      · exfalso; rw [h2] at e; (repeat' split at e) <;> simp_all
      · rw [h1, h2]
        split at e
        · exact e
        · rename_i n v _ _ _ _ _
          rcases leH.or hH n with h3 | h3
          · rw [h3] at e; cases e
          · rw [h3]; exact e
        · cases e
  · rename_i t x
    simp only [pureOp]
    rcases h.or x with h1 | h1
    · exfalso; rw [h1] at e; simp at e
    · rw [h1]
      split at e
      · rename_i n b o _
        rcases leH.or hH n with h3 | h3
        · rw [h3] at e; cases e
        · rw [h3]; exact e
      · exact e
      · rename_i n v i sz o _
        rcases leH.or hH n with h3 | h3
        · rw [h3] at e; cases e
        · rw [h3]; exact e
      · cases e
  · rename_i t x lo hi mx
    simp only [pureOp]
    rcases h.or x with h1 | h1
    · exfalso; rw [h1] at e; (repeat' split at e) <;> simp_all
    · rcases optA_or h lo with h2 | h2
      · exfalso; rw [h2] at e; (repeat' split at e) <;> simp_all
      · rcases optA_or h hi with h3 | h3
        · exfalso; rw [h3] at e; (repeat' split at e) <;> simp_all
        · rcases optA_or h mx with h4 | h4
          · exfalso; rw [h4] at e; (repeat' split at e) <;> simp_all
          · rw [h1, h2, h3, h4]; exact e
  · rename_i t ps
    simp only [pureOp]
    rcases rdParts_or (T := T) h ps with h1 | h1
    · exfalso; rw [h1] at e; (repeat' split at e) <;> simp_all
    · rw [h1]; exact e
  · rename_i x t
    simp only [pureOp]
    rcases h.or x with h1 | h1
    · exfalso; rw [h1] at e; simp at e
    · rw [h1]
      split at e
      · exact e
      · rename_i a _ _
        rcases lkOf_or hH a with h3 | h3
        · rw [h3] at e; simp at e
        · rw [h3]; exact e
      · cases e
  · rename_i x y _
    simp only [pureOp]
    rcases h.or x with h1 | h1
    · exfalso; rw [h1] at e; simp at e
    · rcases h.or y with h2 | h2
      · exfalso; rw [h2] at e; (repeat' split at e) <;> simp_all
      · rw [h1, h2]; exact e
  · rename_i x y _
    simp only [pureOp]
    rcases h.or x with h1 | h1
    · exfalso; rw [h1] at e; simp at e
    · rcases h.or y with h2 | h2
      · exfalso; rw [h2] at e; (repeat' split at e) <;> simp_all
      · rw [h1, h2]; exact e
  · rename_i x
    simp only [pureOp]
    rcases h.or x with h1 | h1
    · exfalso; rw [h1] at e; simp at e
    · rw [h1]; exact e
  · rename_i f caps
    simp only [pureOp]
    rcases rdAll_or h caps with h1 | h1
    · exfalso; rw [h1] at e; simp at e
    · rw [h1]; exact e
  · rename_i t x i
    simp only [pureOp]
    rcases h.or x with h1 | h1
    · exfalso; rw [h1] at e; (repeat' split at e) <;> simp_all
    · rcases h.or i with h2 | h2
      · exfalso; rw [h2] at e; (repeat' split at e) <;> simp_all
      · rw [h1, h2]; exact e
  · rename_i arr x
    simp only [pureOp]
    rcases h.or x with h1 | h1
    · exfalso; rw [h1] at e; (repeat' split at e) <;> simp_all
    · rw [h1]; exact e
  · cases e
end
end Go.Mt

/-
  Mt, part X: operations that make memory, in a region that draws its order.
-/
set_option linter.unusedSimpArgs false
set_option linter.unusedVariables false
namespace Go.Mt
open Go.RowKit

/-- What an operation makes (of the name 'nx'), what it takes away. -/
def heapU (E : Env) (H : Nat → Option HB) (nx : Nat) (rd : Operand → Option A) (u : Value) : Op → Option (A × Prop × Option HB × Option Nat)
  | .box t x => match rdT E.T t rd x with
    | some a => match a.cells with
      | some cs => some (.c (.ptr nx u.bn 0), True, some (.blk u.bn t cs), none)
      | none => none
    | none => none
  | .alloc t => match E.T t with
    | some i => some (.c (.ptr nx u.bn 0), True, some (.blk u.bn t i.zero), none)
    | none => none
  | .buildSlice t n ⟨ps⟩ => match E.T t with
    | some ⟨.slc e k, _, _, _⟩ => match Nat.beq n (len ps), decAll k E.T e rd 0 ps, E.T e with
      | true, some (l, ob), some ie => match Nat.beq ie.size k.sz && Nat.ble n 1000 with
        | true => some (.c (.own nx u), ob, some (.own u e k l), none)
        | false => none
      | _, _, _ => none
    | _ => none
  | .makeSlice t l c => match E.T t, rd l, rd c with
    | some ⟨.slc e k, _, _, _⟩, some (.c (.pv (.val (.int _ l)))), some (.c (.pv (.val (.int _ c)))) => match E.T e with
      | some ie => match Nat.ble ie.bytes 64 with
        | true => some (.c (.own nx u), ((0 ≤ l ∧ l ≤ c) ∧ c ≤ 1099511627776) ∧ ie.zero = (k.enc k.dft).map .pv, some (.own u e k (List.replicate l.toNat k.dft)), none)
        | false => none
      | none => none
    | _, _, _ => none
  | .call ⟨.builtin .append, ⟨[s, x]⟩, ⟨[t, tx]⟩⟩ => match E.T t, rdT E.T t rd s, rdT E.T tx rd x, E.T tx with
    | some ⟨.slc e k, _, _, _⟩, some a, some xa, some itx => match E.T e, srcOf H ((E.T e).elim [] TI.zero) itx.kind xa with
      | some ie, some ⟨k', m, ob⟩ => match Nat.ble ie.bytes 64, a with
        | true, .c (.own n v) => match H n with
          | some (.own v' ty k0 l) => match Nat.beq ty e && Nat.beq k0.sz k.sz, appL k0 l k' m with
            | true, some lm => some (.c (.own nx u), (ob ∧ v = v') ∧ l.length + m.length ≤ 1099511627776, some (.own u e k0 lm), some n)
            | _, _ => none
          | _ => none
        | true, .c (.pv (.nil k0)) => match Nat.beq k0.sz k.sz, appL k0 [] k' m with
          | true, some lm => some (.c (.own nx u), ob ∧ m.length ≤ 1099511627776, some (.own u e k0 lm), none)
          | _, _ => none
        | _, _ => none
      | _, _ => none
    | _, _, _, _ => none
  | .call ⟨.value fo, ⟨args⟩, ⟨tys⟩⟩ => match rd fo with
    | some (.c (.clo f caps)) => match E.Ψ f with
      | some s => match argsA E.T H rd args tys, capsA H caps with
        | some (as, lent, ob), some (cs, lent', ob') => match s (as ++ cs) with
          | some (pre, sh, rv) => match (lent || lent') && sh with
            | false => some ((inst nx u rv).1, (ob ∧ ob') ∧ pre, (inst nx u rv).2, none)
            | true => none
          | none => none
        | _, _ => none
      | none => none
    | _ => none
  | _ => none

def updU (H : Nat → Option HB) (nx : Nat) (hb : Option HB) (kill : Option Nat) : Nat → Option HB := match hb with
  | some b => updH (match kill with | some n => updH H n none | none => H) nx (some b)
  | none => H

section
variable {E : Env} {rd rd' : Operand → Option A} {H H' : Nat → Option HB} {nx : Nat} {u : Value}

theorem heapU_heapOp {op : Op} {x : A} {ob : Prop} {hb : Option HB} {kill : Option Nat} (h : heapU E H nx rd u op = some (x, ob, hb, kill)) : ∃ nx', heapOp E H nx rd u op = some ⟨x, ob, updU H nx hb kill, nx'⟩ := by
  unfold heapU at h
  split at h
  · simp only [heapOp]
    split at h
    · rename_i a ha
      split at h
      · rename_i cs hc; cases h; simp only [ha, hc]; exact ⟨_, rfl⟩
      · cases h
    · cases h
  · simp only [heapOp]
    split at h
    · rename_i i hi; cases h; simp only [hi]; exact ⟨_, rfl⟩
    · cases h
  · simp only [heapOp]
    split at h
    · rename_i e k _ _ _ h1
      split at h
      · rename_i l ob ie h2 h3 h4
        split at h
        · rename_i h5; cases h; simp only [h1, h2, h3, h4, h5]; exact ⟨_, rfl⟩
        · cases h
      · cases h
    · cases h
  · simp only [heapOp]
    split at h
    · rename_i h1 h2 h3
      split at h
      · rename_i ie h4
        split at h
        · rename_i h5; cases h; simp only [h1, h2, h3, h4, h5]; exact ⟨_, rfl⟩
        · cases h
      · cases h
    · cases h
  · simp only [heapOp]
    split at h
    · rename_i h1 h2 h3 h4
      split at h
      · rename_i h5 h6
        rw [h5] at h6; simp only [Option.elim] at h6
        split at h
        · rename_i n v h7
          split at h
          · rename_i h8
            split at h
            · rename_i h9 h10; cases h; simp only [h1, h2, h3, h4, h5, Option.elim, h6, h7, h8, h9, h10]; exact ⟨_, rfl⟩
            · cases h
          · cases h
        · rename_i k0 h7
          split at h
          · rename_i h9 h10; cases h; simp only [h1, h2, h3, h4, h5, Option.elim, h6, h7, h9, h10]; exact ⟨_, rfl⟩
          · cases h
        · cases h
      · cases h
    · cases h
  · simp only [heapOp]
    split at h
    · rename_i f caps h1
      split at h
      · rename_i s h2
        split at h
        · rename_i as lent ob cs lent' ob' h3 h3'
          split at h
          · rename_i pre sh rv h4
            split at h
            · rename_i h5
              simp only [h1, h2, h3, h3', h4, h5]
              cases hi : inst nx u rv with
              | mk x' hb' =>
                rw [hi] at h
                cases hb' with
                | none => cases h; exact ⟨_, rfl⟩
                | some b => cases h; exact ⟨_, rfl⟩
            · cases h
          · cases h
        · cases h
      · cases h
    · cases h
  · cases h

theorem decAll_mono {T : Tb} {k : LK} {ty : TypeId} (h : leR rd rd') : ∀ {ps : List (Nat × Operand)} {i : Nat} {r}, decAll k T ty rd i ps = some r → decAll k T ty rd' i ps = some r := by
  intro ps
  induction ps with
  | nil => intro i r e; exact e
  | cons p ps ih =>
    intro i r e
    obtain ⟨j, o⟩ := p
    simp only [decAll] at e ⊢
    rcases (rdT_mono (T := T) h ty).or o with h1 | h1
    · exfalso; rw [h1] at e; (repeat' split at e) <;> simp_all
    · rw [h1]
      split at e
      · split at e
        · split at e
          · rename_i h5 h6; rw [h5, ih h6]; exact e
          · cases e
        · cases e
      · cases e
theorem argC_mono (hH : leF H H') {a : C} {r} (e : argC H a = some r) : argC H' a = some r := by
  unfold argC at e ⊢
  split at e
  · split at e
    · rename_i h1; simp only [hH _ _ h1]; exact e
    · cases e
  · exact e
  · split at e
    · rename_i h1; simp only [hH _ _ h1]; exact e
    · cases e
  · exact e
  · exact e
  · split at e
    · rename_i h1; simp only [hH _ _ h1]; exact e
    · cases e
  · cases e
theorem argA_mono (hH : leF H H') {a : A} {r} (e : argA H a = some r) : argA H' a = some r := by
  unfold argA at e ⊢
  split at e
  · exact argC_mono hH e
  · exact e
  · cases e
theorem capsA_mono (hH : leF H H') : ∀ {cs : List C} {r}, capsA H cs = some r → capsA H' cs = some r := by
  intro cs
  induction cs with
  | nil => intro r e; exact e
  | cons c cs ih =>
    intro r e
    simp only [capsA] at e ⊢
    split at e
    · rename_i h1 h2; rw [argC_mono hH h1, ih h2]; exact e
    · cases e
theorem argsA_mono {T : Tb} (h : leR rd rd') (hH : leF H H') : ∀ {os : List Operand} {ts : List TypeId} {r}, argsA T H rd os ts = some r → argsA T H' rd' os ts = some r := by
  intro os
  induction os with
  | nil => intro ts r e; exact e
  | cons o os ih =>
    intro ts r e
    cases ts with
    | nil => exact e
    | cons t ts =>
      simp only [argsA] at e ⊢
      rcases rdT_or (T := T) h t o with h1 | h1
      · rw [h1] at e; cases e
      · rw [h1]
        split at e
        · split at e
          · rename_i h5 h6; rw [argA_mono hH h5, ih h6]; exact e
          · cases e
        · cases e
theorem srcOf_mono (hH : leF H H') {z : List C} {k : TK} {a : A} {r} (e : srcOf H z k a = some r) : srcOf H' z k a = some r := by
  unfold srcOf at e ⊢
  split at e
  · exact e
  · exact e
  · exact lkOf_mono hH e
  · cases e
theorem heapU_mono (h : leR rd rd') (hH : leF H H') {op : Op} {r} (e : heapU E H nx rd u op = some r) : heapU E H' nx rd' u op = some r := by
  unfold heapU at e
  split at e
  · rename_i t x
    simp only [heapU]
    rcases rdT_or (T := E.T) h t x with h1 | h1
    · rw [h1] at e; cases e
    · rw [h1]; exact e
  · exact e
  · simp only [heapU]
    split at e
    · split at e
      · rename_i h2 h3 h4; rw [h2, decAll_mono h h3, h4]; exact e
      · cases e
    · cases e
  · rename_i t l c
    simp only [heapU]
    rcases h.or l with h1 | h1
    · exfalso; rw [h1] at e; (repeat' split at e) <;> simp_all
    · rcases h.or c with h2 | h2
      · exfalso; rw [h2] at e; (repeat' split at e) <;> simp_all
      · rw [h1, h2]; exact e
  · rename_i s x t tx
    simp only [heapU]
    rcases rdT_or (T := E.T) h t s with h1 | h1
    · exfalso; rw [h1] at e; (repeat' split at e) <;> simp_all
    · rcases rdT_or (T := E.T) h tx x with h2 | h2
      · exfalso; rw [h2] at e; (repeat' split at e) <;> simp_all
      · rw [h1, h2]
        split at e
        · split at e
          · rename_i h5 h6; have h7 := srcOf_mono hH h6; rw [h5] at h7; rw [h5, h7]
            simp only
            split at e
            · split at e
              · rename_i h8; rw [hH _ _ h8]; exact e
              · cases e
            · exact e
            · cases e
          · cases e
        · cases e
  · rename_i fo args tys
    simp only [heapU]
    rcases h.or fo with h1 | h1
    · rw [h1] at e; cases e
    · rw [h1]
      split at e
      · split at e
        · split at e
          · rename_i h3 h4; rw [argsA_mono h hH h3, capsA_mono hH h4]; exact e
          · cases e
        · cases e
      · cases e
  · cases e
end
end Go.Mt

/-
  Mt, part Y: a step of a region that draws its order.
-/
set_option linter.unusedSimpArgs false
set_option linter.unusedVariables false
namespace Go.Mt
open Go.RowKit

/-- A choice of which one side is known to have been passed over. -/
def pickU (ops : List Oper) (f : Nat → Option Ent) : Op → Option (A × Prop)
  | .pick (.tmp tc) oa ob => match rdG f [] (.tmp tc) with
    | some c => match boolA c with
      | some t => match rdP ops f [] tc true oa, rdP ops f [] tc false ob with
        | some xa, some xb => match isUnd xa, isUnd xb with
          | true, false => match boolA xb with
            | some q => some (bool q, t = false)
            | none => none
          | false, true => match boolA xa with
            | some p => some (bool p, t = true)
            | none => none
          | _, _ => none
        | _, _ => none
      | none => none
    | none => none
  | _ => none
def unitD (E : Env) (ops : List Oper) (f : Nat → Option Ent) (H : Nat → Option HB) (nx : Nat) (o : Oper) (u : Value) : Option (A × Prop × Option HB × Option Nat) := match plainOp E ops [] f H o with
  | some (x, ob) => some (x, ob, none, none)
  | none => match pickU ops f o.op with
    | some (x, ob) => some (x, ob, none, none)
    | none => heapU E H nx (rdG f []) u o.op
def stepD (E : Env) (kn : Nat → Option Bool) (ops : List Oper) (rs : List (Nat × Nat)) (i : Nat) (f : Nat → Option Ent) (H : Nat → Option HB) (nx : Nat) (o : Oper) (u : Value) : Option (Option Ent × Prop × Option HB × Option Nat) :=
  match o.guard with
  | none => match unitD E ops f H nx o u with
    | some (x, ob, hb, kill) => some (some (.u x), ob, hb, kill)
    | none => none
  | some (j, b) => match dstOf ops j with
    | none => none
    | some dj => match Nat.blt j i && has2 j dj rs, kn j with
      | true, some k => match f dj with
        | some (.u c) => match boolA c with
          | some g => match beqB b k with
            | true => match unitD E ops f H nx o u with
              | some (x, ob, hb, kill) => some (some (.u x), g = k ∧ ob, hb, kill)
              | none => none
            | false => some (some (.u und0), g = k, none, none)
          | none => match isUnd c with
            | true => some (some (.u und0), True, none, none)
            | false => none
        | _ => none
      | true, none => match plainOp E ops (chainE ops f 5 j b) f H o with
        | some (x, ob) => match gobs ops f (chainE ops f 5 j b) ob with
          | some ob' => some (some (.gd j b x), ob', none, none)
          | none => none
        | none => none
      | false, _ => none

section
variable {E : Env} {f f' : Nat → Option Ent} {H H' : Nat → Option HB} {nx : Nat} {u : Value} {ops : List Oper} {rs : List (Nat × Nat)} {i : Nat} {o : Oper} {kn : Nat → Option Bool}

theorem heapU_plain {op : Op} {rd rd' : Operand → Option A} {T : Tb} {wm : Bool} {ty : TypeId} {r} (h : heapU E H nx rd u op = some r) : pureOp T H' wm rd' ty op = none := by
  unfold heapU at h
  split at h <;> first | rfl | cases h

theorem heapU_pickF {op : Op} {rd : Operand → Option A} {r} (h : heapU E H nx rd u op = some r) : pickF ops f op = none := by
  unfold heapU at h
  split at h <;> first | rfl | cases h

theorem isUnd_bool {x : A} (h : isUnd x = true) : boolA x = none := by
  unfold isUnd at h
  split at h
  · rfl
  · cases h
theorem heapU_pickU {op : Op} {rd : Operand → Option A} {r} (h : heapU E H nx rd u op = some r) : pickU ops f op = none := by
  unfold heapU at h
  split at h <;> first | rfl | cases h
theorem pickU_inv {op : Op} {x : A} {ob : Prop} (h : pickU ops f op = some (x, ob)) : ∃ tc oa ob' c t xa xb, op = .pick (.tmp tc) oa ob' ∧ rdG f [] (.tmp tc) = some c ∧ boolA c = some t ∧ rdP ops f [] tc true oa = some xa ∧ rdP ops f [] tc false ob' = some xb ∧
    ((isUnd xa = true ∧ isUnd xb = false ∧ ∃ q, boolA xb = some q ∧ x = bool q ∧ ob = (t = false)) ∨ (isUnd xa = false ∧ isUnd xb = true ∧ ∃ p, boolA xa = some p ∧ x = bool p ∧ ob = (t = true))) := by
  unfold pickU at h
  split at h
  · rename_i tc oa ob'
    split at h
    · rename_i c h1
      split at h
      · rename_i t h2
        split at h
        · rename_i xa xb h3 h4
          split at h
          · rename_i u1 u2
            split at h
            · rename_i q hq; cases h
              exact ⟨tc, oa, ob', c, t, xa, xb, rfl, h1, h2, h3, h4, .inl ⟨u1, u2, q, hq, rfl, rfl⟩⟩
            · cases h
          · rename_i u1 u2
            split at h
            · rename_i q hq; cases h
              exact ⟨tc, oa, ob', c, t, xa, xb, rfl, h1, h2, h3, h4, .inr ⟨u1, u2, q, hq, rfl, rfl⟩⟩
            · cases h
          · cases h
        · cases h
      · cases h
    · cases h
  · cases h
theorem pickU_pickF {op : Op} {x : A} {ob : Prop} (h : pickU ops f op = some (x, ob)) : pickF ops f op = some (x, ob) := by
  obtain ⟨tc, oa, ob', c, t, xa, xb, rfl, h1, h2, h3, h4, h5⟩ := pickU_inv h
  rcases h5 with ⟨u1, u2, q, hq, rfl, rfl⟩ | ⟨u1, u2, q, hq, rfl, rfl⟩
  · simp only [pickF, h1, h2, h3, h4, boolO, isUnd_bool u1, hq]
  · simp only [pickF, h1, h2, h3, h4, boolO, isUnd_bool u2, hq]
theorem pickU_plain {x : A} {ob : Prop} (h : pickU ops f o.op = some (x, ob)) : plainOp E ops [] f H o = none := by
  obtain ⟨tc, oa, ob', c, t, xa, xb, hop, h1, h2, h3, h4, h5⟩ := pickU_inv h
  rcases h5 with ⟨u1, u2, q, hq, rfl, rfl⟩ | ⟨u1, u2, q, hq, rfl, rfl⟩
  · simp only [plainOp, hop, pickOp, h1, h2, h3, h4, isUnd_bool u1]
  · simp only [plainOp, hop, pickOp, h1, h2, h3, h4, isUnd_bool u2, hq]
theorem pickU_mono (hf : leF f f') {op : Op} {x : A} {ob : Prop} (h : pickU ops f op = some (x, ob)) : pickU ops f' op = some (x, ob) := by
  obtain ⟨tc, oa, ob', c, t, xa, xb, rfl, h1, h2, h3, h4, h5⟩ := pickU_inv h
  rcases h5 with ⟨u1, u2, q, hq, rfl, rfl⟩ | ⟨u1, u2, q, hq, rfl, rfl⟩
  · simp only [pickU, rdG_mono hf _ _ _ h1, h2, rdP_mono hf _ _ _ _ _ h3, rdP_mono hf _ _ _ _ _ h4, u1, u2, hq]
  · simp only [pickU, rdG_mono hf _ _ _ h1, h2, rdP_mono hf _ _ _ _ _ h3, rdP_mono hf _ _ _ _ _ h4, u1, u2, hq]

def putF (f : Nat → Option Ent) (d : Option Nat) (e : Option Ent) : Nat → Option Ent := match d with
  | some d => updF f d e
  | none => f
def dstOk (N i : Nat) (rs : List (Nat × Nat)) (d : Option Nat) : Bool := match d with
  | some d => Nat.blt d N && gfree i d rs
  | none => true
theorem putS_dst {N : Nat} {d : Option Nat} {e : Option Ent} (h : dstOk N i rs d = true) : putS N i rs f d e = some (putF f d e) := by
  cases d with
  | none => rfl
  | some d => simp only [dstOk] at h; simp only [putS, h, putF]

theorem unitD_stepU {x : A} {ob : Prop} {hb : Option HB} {kill : Option Nat} (hd : dstOk E.N i rs o.dst = true) (h : unitD E ops f H nx o u = some (x, ob, hb, kill)) :
    ∃ nx', stepU E ops rs i f H nx o u = some (⟨putF f o.dst (some (.u x)), updU H nx hb kill, nx'⟩, ob) := by
  unfold unitD at h
  split at h
  · rename_i x' ob' hp; cases h
    exact ⟨_, by simp only [stepU, hp, putS_dst hd, updU]; rfl⟩
  · rename_i hp
    split at h
    · rename_i x' ob' hpu; cases h
      exact ⟨_, by simp only [stepU, hp, pickU_pickF hpu, putS_dst hd, updU]; rfl⟩
    · obtain ⟨nx', h1⟩ := heapU_heapOp h
      exact ⟨nx', by simp only [stepU, hp, heapU_pickF h, h1, putS_dst hd]⟩
theorem stepD_stepOp {e : Option Ent} {ob : Prop} {hb : Option HB} {kill : Option Nat} (hd : dstOk E.N i rs o.dst = true) (h : stepD E kn ops rs i f H nx o u = some (e, ob, hb, kill)) :
    ∃ nx', stepOp E kn ops rs i f H nx o u = some (⟨putF f o.dst e, updU H nx hb kill, nx'⟩, ob) := by
  unfold stepD at h
  split at h
  · rename_i hg
    split at h
    · rename_i h1; cases h
      obtain ⟨nx', h2⟩ := unitD_stepU hd h1
      exact ⟨nx', by simp only [stepOp, hg, h2]⟩
    · cases h
  · rename_i j b hg
    split at h
    · cases h
    · rename_i dj hdj
      split at h
      · rename_i k hc hk
        split at h
        · rename_i c hf
          split at h
          · rename_i g hgb
            split at h
            · rename_i hbk
              split at h
              · rename_i h1; cases h
                obtain ⟨nx', h2⟩ := unitD_stepU hd h1
                exact ⟨nx', by simp only [stepOp, hg, hdj, hc, hk, hf, hgb, hbk, h2]⟩
              · cases h
            · rename_i hbk; cases h
              exact ⟨nx, by simp only [stepOp, hg, hdj, hc, hk, hf, hgb, hbk, putS_dst hd, updU]⟩
          · rename_i hgb
            split at h
            · rename_i hund; cases h
              exact ⟨nx, by simp only [stepOp, hg, hdj, hc, hk, hf, hgb, hund, putS_dst hd, updU]⟩
            · cases h
        · cases h
      · rename_i hc hk
        split at h
        · rename_i x ob1 hp
          split at h
          · rename_i hgo; cases h
            exact ⟨nx, by simp only [stepOp, hg, hdj, hc, hk, hp, hgo, putS_dst hd, updU]⟩
          · cases h
        · cases h
      · cases h

theorem pickOp_mono (hf : leF f f') {Γ : List (Nat × Bool)} {c a b : Operand} {x : A} (h : pickOp ops f Γ c a b = some x) : pickOp ops f' Γ c a b = some x := by
  unfold pickOp at h ⊢
  split at h
  · rename_i tc oa ob
    split at h
    · rename_i cx h1
      split at h
      · rename_i h2 h3 h4
        simp only [rdG_mono hf _ _ _ h1, h2, rdP_mono hf _ _ _ _ _ h3, rdP_mono hf _ _ _ _ _ h4]; exact h
      · cases h
    · cases h
  · cases h
theorem plainOp_mono (hf : leF f f') (hH : leF H H') {Γ : List (Nat × Bool)} {r} (h : plainOp E ops Γ f H o = some r) : plainOp E ops Γ f' H' o = some r := by
  unfold plainOp at h ⊢
  split at h
  · split at h
    · rename_i h1; rw [pickOp_mono hf h1]; exact h
    · cases h
  · exact pureOp_mono (rdG_mono hf Γ) hH h
theorem gobs_mono (hf : leF f f') : ∀ {Γ : List (Nat × Bool)} {p q : Prop}, gobs ops f Γ p = some q → gobs ops f' Γ p = some q := by
  intro Γ
  induction Γ with
  | nil => intro p q h; exact h
  | cons x Γ ih =>
    intro p q h
    obtain ⟨j, b⟩ := x
    simp only [gobs] at h ⊢
    split at h
    · split at h
      · rename_i h1; simp only [hf _ _ h1]
        split at h
        · exact ih h
        · cases h
      · cases h
    · cases h
theorem chainE_mono (hf : leF f f') : ∀ {n j : Nat} {b : Bool} {p q : Prop}, gobs ops f (chainE ops f n j b) p = some q → chainE ops f' n j b = chainE ops f n j b := by
  intro n
  induction n with
  | zero => intro j b p q h; rfl
  | succ n ih =>
    intro j b p q h
    simp only [chainE, gobs] at h ⊢
    cases hd : dstOf ops j with
    | none => rfl
    | some d =>
      simp only [hd] at h ⊢
      cases he : f d with
      | none => simp [he] at h
      | some e =>
        simp only [he, hf _ _ he] at h ⊢
        cases e with
        | u x => rfl
        | gd j' b' x =>
          simp only at h ⊢
          split at h
          · rw [ih h]
          · cases h
theorem unitD_mono (hf : leF f f') (hH : leF H H') {r} (h : unitD E ops f H nx o u = some r) : unitD E ops f' H' nx o u = some r := by
  unfold unitD at h ⊢
  split at h
  · rename_i h1; rw [plainOp_mono hf hH h1]; exact h
  · rename_i h1
    split at h
    · rename_i x' ob' hpu
      have h3 := pickU_mono hf hpu
      rw [pickU_plain h3]
      simp only [h3]; exact h
    · have h2 : plainOp E ops [] f' H' o = none := by
        unfold plainOp
        split
        · rename_i hop; rw [hop] at h; cases h
        · exact heapU_plain h
      rw [h2]
      simp only [heapU_pickU (ops := ops) (f := f') h]
      exact heapU_mono (rdG_mono hf []) hH h
theorem stepD_mono (hf : leF f f') (hH : leF H H') {r} (h : stepD E kn ops rs i f H nx o u = some r) : stepD E kn ops rs i f' H' nx o u = some r := by
  unfold stepD at h ⊢
  split at h
  · split at h
    · rename_i h1; rw [unitD_mono hf hH h1]; exact h
    · cases h
  · split at h
    · cases h
    · split at h
      · split at h
        · rename_i hfd
          simp only [hf _ _ hfd]
          split at h
          · split at h
            · split at h
              · rename_i h1; rw [unitD_mono hf hH h1]; exact h
              · cases h
            · exact h
          · exact h
        · cases h
      · split at h
        · rename_i hp
          split at h
          · rename_i hgo
            rw [chainE_mono hf hgo, plainOp_mono hf hH hp]
            simp only
            rw [gobs_mono hf hgo]; exact h
          · cases h
        · cases h
      · cases h
end
end Go.Mt

/-
  Mt, part Z: a region that draws its order: each operation is reckoned from what is known in every order.
-/
set_option linter.unusedSimpArgs false
set_option linter.unusedVariables false
namespace Go.Mt
open Go.RowKit

abbrev DR := Option Ent × Prop × Option HB × Option Nat
def tbit (m k : Nat) : Bool := Nat.beq (Nat.land (Nat.shiftRight m k) 1) 1
/-- 'k' is ahead of 'j' in every order. -/
def bef (ms : List Nat) (k j : Nat) : Bool := match nth ms j with
  | some m => tbit m k
  | none => false
/-- Who writes a slot. -/
def wrOf : List Oper → Nat → Nat → Option Nat
  | [], _, _ => none
  | o :: l, i, s => match oeq o.dst s with
    | true => some i
    | false => wrOf l (i + 1) s
def killed (ks : List (Nat × Nat)) (f : Nat → Bool) (n : Nat) : Bool := match ks with
  | [] => false
  | (k, n') :: l => (Nat.beq n n' && f k) || killed l f n
def drE (r : Option DR) : Option Ent := match r with
  | some (e, _) => e
  | none => none
def drH (r : Option DR) : Option HB := match r with
  | some (_, _, hb, _) => hb
  | none => none
/-- The slots that operation 'j' may look at. -/
def mF (ops : List Oper) (ms : List Nat) (f0 : Nat → Option Ent) (res : Nat → Option DR) (j : Nat) : Nat → Option Ent := fun s => match wrOf ops 0 s with
  | none => f0 s
  | some k => match bef ms k j with
    | true => drE (res k)
    | false => match bef ms j k || Nat.beq j k with
      | true => f0 s
      | false => none
def mH (ms : List Nat) (ks : List (Nat × Nat)) (H0 : Nat → Option HB) (nx0 : Nat) (res : Nat → Option DR) (j : Nat) : Nat → Option HB := fun n => match killed ks (fun k => !(bef ms j k || Nat.beq j k)) n with
  | true => none
  | false => match Nat.blt n nx0 with
    | true => H0 n
    | false => match bef ms (n - nx0) j with
      | true => drH (res (n - nx0))
      | false => none
def stepM (E : Env) (kn : Nat → Option Bool) (ops : List Oper) (ms : List Nat) (ks : List (Nat × Nat)) (f0 : Nat → Option Ent) (H0 : Nat → Option HB) (nx0 : Nat) (res : Nat → Option DR) (j : Nat) (o : Oper) (u : Value) : Option DR :=
  stepD E kn ops (refsOf ops ops) j (mF ops ms f0 res j) (mH ms ks H0 nx0 res j) (nx0 + j) o u
def dGo (E : Env) (kn : Nat → Option Bool) (ops : List Oper) (ms : List Nat) (ks : List (Nat × Nat)) (f0 : Nat → Option Ent) (H0 : Nat → Option HB) (nx0 : Nat) (bs : Nat → Value) : List Oper → Nat → (Nat → Option DR) → Prop → Option ((Nat → Option DR) × Prop)
  | [], _, res, p => some (res, p)
  | o :: l, j, res, p => match stepM E kn ops ms ks f0 H0 nx0 res j o (bs j) with
    | some (e, ob, hb, kill) => match (match kill with | some n => killed ks (fun k => Nat.beq j k) n | none => true) with
      | true => dGo E kn ops ms ks f0 H0 nx0 bs l (j + 1) (fun i => match Nat.beq i j with
        | true => some (e, ob, hb, kill)
        | false => res i) (p ∧ ob)
      | false => none
    | none => none
/-- What is known behind the operations of 'f'. -/
def stF (ops : List Oper) (f0 : Nat → Option Ent) (res : Nat → Option DR) (f : Nat → Bool) : Nat → Option Ent := fun s => match wrOf ops 0 s with
  | none => f0 s
  | some k => match f k with
    | true => drE (res k)
    | false => f0 s
def stH (ks : List (Nat × Nat)) (H0 : Nat → Option HB) (nx0 : Nat) (res : Nat → Option DR) (f : Nat → Bool) : Nat → Option HB := fun n => match killed ks f n with
  | true => none
  | false => match Nat.blt n nx0 with
    | true => H0 n
    | false => match f (n - nx0) with
      | true => drH (res (n - nx0))
      | false => none
def ltB (m k : Nat) : Bool := Nat.blt k m
def drawD (E : Env) (kn : Nat → Option Bool) (ops : List Oper) (m : Nat) (ms : List Nat) (ks : List (Nat × Nat)) (st : St) (bs : Nat → Value) : Option (St × Prop) := match st with
  | ⟨f0, H0, nx0⟩ => match dGo E kn ops ms ks f0 H0 nx0 bs (tke m ops) 0 (fun _ => none) True with
    | some (res, p) => some (⟨stF ops f0 res (ltB m), stH ks H0 nx0 res (ltB m), nx0 + m⟩, p)
    | none => none

/-! ### what is looked at once -/
def edgesM (m : Region.Mode) : List Edge → List Nat
  | [] => []
  | e :: l => match Region.binds m e with
    | true => e.on :: edgesM m l
    | false => edgesM m l
def maskO (ms : List Nat) : List Nat → Nat
  | [] => 0
  | k :: l => Nat.lor (Nat.lor (Nat.shiftLeft 1 k) ((nth ms k).getD 0)) (maskO ms l)
def ltAll (j : Nat) : List Nat → Bool
  | [] => true
  | k :: l => Nat.blt k j && ltAll j l
def dsts : List Oper → List Nat
  | [] => []
  | o :: l => match o.dst with
    | some d => d :: dsts l
    | none => dsts l
def chkO (N : Nat) (ops : List Oper) (rs : List (Nat × Nat)) (ms : List Nat) : List Oper → Nat → Bool
  | [], _ => true
  | o :: l, j => ltAll j (edgesM .any o.after.toList) && (match nth ms j with | some m => Nat.beq m (maskO ms (edgesM .any o.after.toList)) | none => false) &&
      dstOk N j rs o.dst && (match o.guard with | some (g, _) => bef ms g j | none => true) && chkO N ops rs ms l (j + 1)
def allBef (ms : List Nat) (i : Nat) : Nat → Bool
  | 0 => true
  | k + 1 => bef ms k i && allBef ms i k
/-- From operation 'm' on the text's own order is the only one. -/
def tailB (ms : List Nat) (m : Nat) : Nat → Bool
  | 0 => true
  | i + 1 => (Nat.blt i m || allBef ms i i) && tailB ms m i
def chkD (N : Nat) (ops : List Oper) (m : Nat) (ms : List Nat) : Bool := nodupB (dsts ops) && chkO N ops (refsOf ops ops) ms ops 0 && (Nat.ble m (len ops) && tailB ms m (len ops))
theorem allBef_ok {ms : List Nat} {i : Nat} : ∀ {k : Nat}, allBef ms i k = true → ∀ j, j < k → bef ms j i = true := by
  intro k
  induction k with
  | zero => intro _ j hj; omega
  | succ k ih =>
    intro h j hj
    simp only [allBef, Bool.and_eq_true] at h
    by_cases hk : j = k
    · subst hk; exact h.1
    · exact ih h.2 j (by omega)
theorem tailB_ok {ms : List Nat} {m : Nat} : ∀ {n : Nat}, tailB ms m n = true → ∀ i, m ≤ i → i < n → ∀ k, k < i → bef ms k i = true := by
  intro n
  induction n with
  | zero => intro _ i _ hi; omega
  | succ n ih =>
    intro h i hm hi k hk
    simp only [tailB, Bool.and_eq_true, Bool.or_eq_true, Nat.blt_eq] at h
    by_cases hn : i = n
    · subst hn
      rcases h.1 with h1 | h1
      · omega
      · exact allBef_ok h1 k hk
    · exact ih h.2 i hm (by omega) k hk

section
variable {ops : List Oper} {ms : List Nat} {ks : List (Nat × Nat)} {N : Nat} {mrk : Bool}

theorem tbit_eq (m k : Nat) : tbit m k = m.testBit k := by
  unfold tbit
  rw [Bool.eq_iff_iff, Nat.beq_eq]
  simp only [Nat.testBit]
  change (m >>> k) &&& 1 = 1 ↔ _
  rw [Nat.and_comm]
  have : 1 &&& (m >>> k) = 0 ∨ 1 &&& (m >>> k) = 1 := by rw [Nat.and_comm, Nat.and_one_is_mod]; omega
  rcases this with h | h <;> simp [h]

theorem maskO_bit {k : Nat} : ∀ {l : List Nat}, (maskO ms l).testBit k = true ↔ ∃ e ∈ l, k = e ∨ bef ms k e = true := by
  intro l
  induction l with
  | nil => simp [maskO]
  | cons e l ih =>
    have h0 : maskO ms (e :: l) = ((1 <<< e) ||| ((nth ms e).getD 0)) ||| maskO ms l := rfl
    rw [h0]
    simp only [Nat.testBit_or, Bool.or_eq_true, ih, List.mem_cons, exists_eq_or_imp]
    refine or_congr (or_congr ?_ ?_) Iff.rfl
    · rw [Nat.one_shiftLeft, Nat.testBit_two_pow]; simp [eq_comm]
    · unfold bef
      cases nth ms e with
      | none => simp
      | some m => simp [tbit_eq]

theorem edgesM_mem {m : Region.Mode} {e : Edge} : ∀ {l : List Edge}, e ∈ l → Region.binds m e = true → e.on ∈ edgesM m l := by
  intro l
  induction l with
  | nil => intro h; cases h
  | cons x l ih =>
    intro h hb
    simp only [edgesM]
    rcases List.mem_cons.1 h with rfl | h
    · rw [hb]; exact List.mem_cons_self
    · split
      · exact List.mem_cons_of_mem _ (ih h hb)
      · exact ih h hb
theorem mem_edgesM {m : Region.Mode} {k : Nat} : ∀ {l : List Edge}, k ∈ edgesM m l → ∃ e ∈ l, Region.binds m e = true ∧ e.on = k := by
  intro l
  induction l with
  | nil => intro h; cases h
  | cons x l ih =>
    intro h
    simp only [edgesM] at h
    split at h
    · rename_i hb
      rcases List.mem_cons.1 h with rfl | h
      · exact ⟨x, List.mem_cons_self, hb, rfl⟩
      · obtain ⟨e, h1, h2⟩ := ih h; exact ⟨e, List.mem_cons_of_mem _ h1, h2⟩
    · obtain ⟨e, h1, h2⟩ := ih h; exact ⟨e, List.mem_cons_of_mem _ h1, h2⟩
theorem ltAll_ok {j : Nat} : ∀ {l : List Nat}, ltAll j l = true → ∀ k ∈ l, k < j := by
  intro l
  induction l with
  | nil => intro _ k h; cases h
  | cons x l ih =>
    intro h k hk
    simp only [ltAll, Bool.and_eq_true, Nat.blt_eq] at h
    rcases List.mem_cons.1 hk with rfl | hk
    · exact h.1
    · exact ih h.2 k hk

structure ChkO (N : Nat) (ops : List Oper) (ms : List Nat) (j : Nat) (o : Oper) : Prop where
  lt : ∀ k ∈ edgesM .any o.after.toList, k < j
  bit : ∀ k, bef ms k j = true ↔ ∃ e ∈ edgesM .any o.after.toList, k = e ∨ bef ms k e = true
  dst : dstOk N j (refsOf ops ops) o.dst = true
  gd : ∀ g b, o.guard = some (g, b) → bef ms g j = true
theorem chkO_ok {rs : List (Nat × Nat)} (hrs : rs = refsOf ops ops) : ∀ {l : List Oper} {i : Nat}, chkO N ops rs ms l i = true → ∀ (j : Nat) (o : Oper), l[j]? = some o → ChkO N ops ms (i + j) o := by
  intro l
  induction l with
  | nil => intro i _ j o h; simp at h
  | cons x l ih =>
    intro i h j o hj
    simp only [chkO, Bool.and_eq_true] at h
    obtain ⟨⟨⟨⟨h1, h2⟩, h3⟩, h4⟩, h5⟩ := h
    cases j with
    | zero =>
      simp at hj; subst hj
      refine ⟨ltAll_ok h1, fun k => ?_, hrs ▸ h3, fun g b hg => by rw [hg] at h4; exact h4⟩
      split at h2
      · rename_i m hm
        rw [Nat.beq_eq] at h2
        have : bef ms k (i + 0) = m.testBit k := by simp only [bef, Nat.add_zero, hm, tbit_eq]
        rw [this, h2]; exact maskO_bit
      · cases h2
    | succ j =>
      have := ih h5 j o (by simpa using hj)
      rwa [show i + 1 + j = i + (j + 1) from by omega] at this

theorem wrOf_some {s k : Nat} : ∀ {l : List Oper} {i : Nat}, wrOf l i s = some k → ∃ o, i ≤ k ∧ l[k - i]? = some o ∧ o.dst = some s := by
  intro l
  induction l with
  | nil => intro i h; cases h
  | cons x l ih =>
    intro i h
    simp only [wrOf] at h
    split at h
    · rename_i hb; cases h
      refine ⟨x, Nat.le_refl _, by simp, ?_⟩
      unfold oeq at hb
      split at hb
      · rename_i hd; rw [Nat.beq_eq] at hb; subst hb; exact hd
      · cases hb
    · obtain ⟨o, h1, h2, h3⟩ := ih h
      refine ⟨o, by omega, ?_, h3⟩
      rw [show k - i = (k - (i + 1)) + 1 from by omega]
      simpa using h2
theorem dsts_mem {d : Nat} {o : Oper} : ∀ {l : List Oper}, o ∈ l → o.dst = some d → d ∈ dsts l := by
  intro l
  induction l with
  | nil => intro h; cases h
  | cons x l ih =>
    intro h hd
    simp only [dsts]
    rcases List.mem_cons.1 h with rfl | h
    · rw [hd]; exact List.mem_cons_self
    · split
      · exact List.mem_cons_of_mem _ (ih h hd)
      · exact ih h hd
theorem wrOf_dst {s : Nat} {o : Oper} : ∀ {l : List Oper} {i j : Nat}, nodupB (dsts l) = true → l[j]? = some o → o.dst = some s → wrOf l i s = some (i + j) := by
  intro l
  induction l with
  | nil => intro i j _ h; simp at h
  | cons x l ih =>
    intro i j hn hj hd
    cases j with
    | zero =>
      simp at hj; subst hj
      simp [wrOf, oeq, hd]
    | succ j =>
      have hj' : l[j]? = some o := by simpa using hj
      have hne : oeq x.dst s = false := by
        cases hx : x.dst with
        | none => rfl
        | some d =>
          simp only [oeq]
          cases hb : Nat.beq d s with
          | false => rfl
          | true =>
            rw [Nat.beq_eq] at hb; subst hb
            simp only [dsts, hx, nodupB, Bool.and_eq_true, Bool.not_eq_true'] at hn
            have := memN_mem (dsts_mem (List.mem_of_getElem? hj') hd)
            rw [this] at hn; cases hn.1
      have hn' : nodupB (dsts l) = true := by
        simp only [dsts] at hn
        split at hn
        · simp only [nodupB, Bool.and_eq_true] at hn; exact hn.2
        · exact hn
      simp only [wrOf, hne]
      rw [ih hn' hj' hd]
      congr 1; omega
theorem killed_mono {f g : Nat → Bool} (h : ∀ k, f k = true → g k = true) {n : Nat} : killed ks f n = true → killed ks g n = true := by
  induction ks with
  | nil => exact id
  | cons x ks ih =>
    obtain ⟨k, n'⟩ := x
    simp only [killed, Bool.or_eq_true, Bool.and_eq_true]
    rintro (⟨h1, h2⟩ | h1)
    · exact .inl ⟨h1, h k h2⟩
    · exact .inr (ih h1)
theorem killed_or {f g : Nat → Bool} {n : Nat} : killed ks (fun k => f k || g k) n = (killed ks f n || killed ks g n) := by
  induction ks with
  | nil => rfl
  | cons x ks ih =>
    obtain ⟨k, n'⟩ := x
    simp only [killed, ih]
    cases Nat.beq n n' <;> cases f k <;> cases g k <;> simp [Bool.or_comm, Bool.or_left_comm, Bool.or_assoc]
end

section
variable {P : Program} {E : Env} {kn : Nat → Option Bool} {ops : List Oper} {ms : List Nat} {ks : List (Nat × Nat)} {f0 : Nat → Option Ent} {H0 : Nat → Option HB} {nx0 : Nat}
  {B : Nat} {W : World} {M0 M : Mem} {Q : Exit → Act → World → Prop} {k : List Itm} {st : St} {a : Act} {w : World}

theorem mF_congr {res res' : Nat → Option DR} {j : Nat} (h : ∀ k, bef ms k j = true → res k = res' k) : mF ops ms f0 res j = mF ops ms f0 res' j := by
  funext s
  simp only [mF]
  split
  · rfl
  · rename_i k hk
    cases hb : bef ms k j with
    | true => simp only [h k hb]
    | false => rfl
theorem mH_congr {res res' : Nat → Option DR} {j : Nat} (h : ∀ k, bef ms k j = true → res k = res' k) : mH ms ks H0 nx0 res j = mH ms ks H0 nx0 res' j := by
  funext n
  simp only [mH]
  cases hb : bef ms (n - nx0) j with
  | true => simp only [h _ hb]
  | false => rfl
theorem stepM_congr {res res' : Nat → Option DR} {j : Nat} {o : Oper} {u : Value} (h : ∀ k, bef ms k j = true → res k = res' k) : stepM E kn ops ms ks f0 H0 nx0 res j o u = stepM E kn ops ms ks f0 H0 nx0 res' j o u := by
  unfold stepM; rw [mF_congr h, mH_congr h]

/-- What 'dGo' reckons is what each step reckons from it. -/
theorem dGo_ok {m : Nat} (hlt : ∀ k j, j < ops.length → bef ms k j = true → k < j) {bs : Nat → Value} : ∀ {l : List Oper} {i : Nat} {res res' : Nat → Option DR} {p p' : Prop}, l = (ops.take m).drop i → dGo E kn ops ms ks f0 H0 nx0 bs l i res p = some (res', p') →
    (∀ j, j < i → res' j = res j) ∧ (p' → p) ∧ ∀ (j : Nat) (o : Oper), i ≤ j → j < m → ops[j]? = some o → ∃ e ob hb kill, res' j = some (e, ob, hb, kill) ∧ stepM E kn ops ms ks f0 H0 nx0 res' j o (bs j) = some (e, ob, hb, kill) ∧ (p' → ob) ∧ ∀ n, kill = some n → killed ks (fun k => Nat.beq j k) n = true := by
  intro l
  induction l with
  | nil =>
    intro i res res' p p' hl h
    cases h
    refine ⟨fun _ _ => rfl, id, fun j o hij hjm hj => ?_⟩
    have h1 : (ops.take m).length ≤ i := List.drop_eq_nil_iff.1 hl.symm
    rw [List.length_take] at h1
    have h2 := (List.getElem?_eq_some_iff.1 hj).1
    omega
  | cons x l ih =>
    intro i res res' p p' hl h
    simp only [dGo] at h
    split at h
    · rename_i e ob hb kill hst
      split at h
      · rename_i hkill
        have hl' : l = (ops.take m).drop (i + 1) := by
          have := congrArg List.tail hl
          simpa [List.tail_drop] using this
        obtain ⟨g1, g2, g3⟩ := ih hl' h
        have hi' : i < (ops.take m).length := by
          rcases Nat.lt_or_ge i (ops.take m).length with h' | h'
          · exact h'
          · rw [List.drop_eq_nil_of_le h'] at hl; cases hl
        have hi : i < ops.length := by rw [List.length_take] at hi'; omega
        have him : i < m := by rw [List.length_take] at hi'; omega
        have hx : ops[i]? = some x := by
          have h0 : ((ops.take m).drop i)[0]? = some x := by rw [← hl]; rfl
          rw [List.getElem?_drop, Nat.add_zero, List.getElem?_take, if_pos him] at h0
          exact h0
        refine ⟨fun j hj => ?_, fun hp => (g2 hp).1, fun j o hij hjm hj => ?_⟩
        · rw [g1 j (by omega)]
          have : Nat.beq j i = false := by
            cases hb : Nat.beq j i with
            | false => rfl
            | true => rw [Nat.beq_eq] at hb; omega
          simp only [this]
        · rcases Nat.lt_or_ge i j with hlt' | hge
          · exact g3 j o hlt' hjm hj
          · obtain rfl : j = i := by omega
            rw [hx] at hj; cases hj
            have hres : res' j = some (e, ob, hb, kill) := by
              rw [g1 j (by omega)]
              simp
            refine ⟨e, ob, hb, kill, hres, ?_, fun hp => (g2 hp).2, fun n hn => by subst hn; exact hkill⟩
            rw [← hst]
            refine stepM_congr fun k hk => ?_
            have hkj := hlt k j hi hk
            rw [g1 k (by omega)]
            have : Nat.beq k j = false := by
              cases hb : Nat.beq k j with
              | false => rfl
              | true => rw [Nat.beq_eq] at hb; omega
            simp only [this]
      · cases h
    · cases h

theorem SatP.weaken {S : Nat → Prop} {N : Nat} {mrk : Bool} {rs : List (Nat × Nat)} {f f' : Nat → Option Ent} {H H' : Nat → Option HB} {nx nx' : Nat} (hS : SatP N mrk B W M0 ops rs S ⟨f, H, nx⟩ M a w) (hf : leF f' f) (hH : leF H' H) : SatP N mrk B W M0 ops rs S ⟨f', H', nx'⟩ M a w :=
  ⟨⟨hS.h.below, hS.h.base, hS.h.mem, fun n x hx => hS.h.ok n x (hH n x hx), fun n n' x x' b hn e1 e2 => hS.h.inj n n' x x' b hn (hH _ _ e1) (hH _ _ e2)⟩, hS.old, hS.d, hS.n, fun s e he => hS.f s e (hf s e he), fun s j b x hx => hS.g s j b x (hf _ _ hx)⟩

def don (listed : Array Bool) (k : Nat) : Bool := listed.getD k false

theorem don_set {listed : Array Bool} {i k : Nat} (hi : i < listed.size) : don (listed.setIfInBounds i true) k = (don listed k || Nat.beq i k) := by
  unfold don
  cases hb : Nat.beq i k with
  | true => rw [Nat.beq_eq] at hb; subst hb; simp [hi]
  | false =>
    have hne : i ≠ k := fun e => by subst e; simp at hb
    simp [Array.getElem?_setIfInBounds_ne hne]

structure Facts (E : Env) (kn : Nat → Option Bool) (ops : List Oper) (m : Nat) (ms : List Nat) (ks : List (Nat × Nat)) (f0 : Nat → Option Ent) (H0 : Nat → Option HB) (nx0 : Nat) (R : (Nat → Value) → Nat → Option DR) : Prop where
  chk : ∀ (j : Nat) (o : Oper), ops[j]? = some o → ChkO E.N ops ms j o
  nd : nodupB (dsts ops) = true
  le : m ≤ ops.length
  tail : ∀ i, m ≤ i → i < ops.length → ∀ k, k < i → bef ms k i = true
  st : ∀ us (j : Nat) (o : Oper), j < m → ops[j]? = some o → ∃ e ob hb kill, R us j = some (e, ob, hb, kill) ∧ stepM E kn ops ms ks f0 H0 nx0 (R us) j o (us j) = some (e, ob, hb, kill) ∧ ob ∧ ∀ n, kill = some n → killed ks (fun k => Nat.beq j k) n = true
  out : ∀ us j, m ≤ j → R us j = none

variable {R : (Nat → Value) → Nat → Option DR}

theorem bef_lt (hc : ∀ (j : Nat) (o : Oper), ops[j]? = some o → ChkO E.N ops ms j o) : ∀ k j, j < ops.length → bef ms k j = true → k < j := by
  intro k j
  induction j using Nat.strongRecOn generalizing k with
  | _ j ih =>
    intro hj hb
    have h1 := hc j _ (List.getElem?_eq_getElem hj)
    obtain ⟨e, he, hke⟩ := (h1.bit k).1 hb
    have hlt := h1.lt e he
    rcases hke with rfl | hke
    · exact hlt
    · have := ih e hlt k (by omega) hke; omega
theorem bef_trans (hc : ∀ (j : Nat) (o : Oper), ops[j]? = some o → ChkO E.N ops ms j o) : ∀ l k j, j < ops.length → bef ms k j = true → bef ms l k = true → bef ms l j = true := by
  intro l k j
  induction j using Nat.strongRecOn generalizing k with
  | _ j ih =>
    intro hj hb hl
    have h1 := hc j _ (List.getElem?_eq_getElem hj)
    obtain ⟨e, he, hke⟩ := (h1.bit k).1 hb
    have hlt := h1.lt e he
    rcases hke with rfl | hke
    · exact (h1.bit l).2 ⟨_, he, .inr hl⟩
    · exact (h1.bit l).2 ⟨e, he, .inr (ih e hlt k (by omega) hke hl)⟩

/-- What an operation comes to hangs on what it, and those ahead of it, brought. -/
theorem Facts.dep {m : Nat} (hF : Facts E kn ops m ms ks f0 H0 nx0 R) : ∀ (j : Nat), j < m → ∀ us us' : Nat → Value, (∀ k, k = j ∨ bef ms k j = true → us k = us' k) → R us j = R us' j := by
  intro j
  induction j using Nat.strongRecOn with
  | _ j ih =>
    intro hjm us us' h
    have hj : j < ops.length := by have := hF.le; omega
    obtain ⟨e, ob, hb, kill, h1, h2, _⟩ := hF.st us j _ hjm (List.getElem?_eq_getElem hj)
    obtain ⟨e', ob', hb', kill', h1', h2', _⟩ := hF.st us' j _ hjm (List.getElem?_eq_getElem hj)
    rw [h1, h1', ← h2, ← h2', h j (.inl rfl)]
    refine stepM_congr fun k hk => ?_
    have hkj := bef_lt hF.chk k j hj hk
    exact ih k hkj (by omega) us us' fun l hl => h l (.inr (by
      rcases hl with rfl | hl
      · exact hk
      · exact bef_trans hF.chk l k j hj hk hl))

theorem stF_congr {res res' : Nat → Option DR} {f : Nat → Bool} (h : ∀ k, k < ops.length → f k = true → res k = res' k) : stF ops f0 res f = stF ops f0 res' f := by
  funext s
  simp only [stF]
  split
  · rfl
  · rename_i k hk
    obtain ⟨o, _, h2, _⟩ := wrOf_some hk
    have hlt : k < ops.length := by have := (List.getElem?_eq_some_iff.1 h2).1; simpa using this
    cases hb : f k with
    | true => simp only [h k hlt hb]
    | false => rfl
theorem stH_le {res res' : Nat → Option DR} {f : Nat → Bool} (h : ∀ k, f k = true → drH (res' k) = drH (res k)) : leF (stH ks H0 nx0 res f) (stH ks H0 nx0 res' f) := by
  intro n x hx
  simp only [stH] at hx ⊢
  split at hx
  · cases hx
  · split at hx
    · exact hx
    · split at hx
      · rename_i hb; simp only [hb, h _ hb]; exact hx
      · cases hx

/-- The tail of a region, in the text's own order. -/
theorem tail_ok {m : Nat} (hc : ∀ (j : Nat) (o : Oper), ops[j]? = some o → ChkO E.N ops ms j o) (htail : ∀ i, m ≤ i → i < ops.length → ∀ k, k < i → bef ms k i = true) : ∀ (r i : Nat), i + r = ops.length → m ≤ i → ∀ (fuel : Nat) (listed : Array Bool) (a : Act) (w : World), r ≤ fuel → listed.size = ops.length →
    (∀ k, k < ops.length → (don listed k = true ↔ k < i)) → wpList P ops.toArray Q (drp i ops) a w → wpAny P .any ops.toArray Q fuel listed a w := by
  intro r
  induction r with
  | zero =>
    intro i hi hm fuel listed a w hf hsz hd h
    have hr : Region.ready .any ops.toArray listed = [] := by
      apply List.eq_nil_iff_forall_not_mem.2
      intro j hj
      obtain ⟨h1, o, ho, _⟩ := mem_ready.1 hj
      have hlt : j < ops.length := by simpa using (Array.getElem?_eq_some_iff.1 ho).1
      have h2 := (hd j hlt).2 (by omega)
      unfold don at h2
      have hls : j < listed.size := by omega
      simp [hls] at h1 h2
      rw [h1] at h2; cases h2
    refine wpAny_done hr ?_ fuel
    rw [drp_eq, List.drop_eq_nil_of_le (by omega)] at h
    exact h
  | succ r ih =>
    intro i hi hm fuel listed a w hf hsz hd h
    obtain ⟨f, rfl⟩ : ∃ f, fuel = f + 1 := ⟨fuel - 1, by omega⟩
    have hlt : i < ops.length := by omega
    have hls : i < listed.size := by omega
    have hnd : don listed i = false := by
      cases hdi : don listed i with
      | false => rfl
      | true => have := (hd i hlt).1 hdi; omega
    have hiu : listed.getD i true = false := by unfold don at hnd; simp [hls] at hnd ⊢; exact hnd
    have hready : ∀ j, j ∈ Region.ready .any ops.toArray listed ↔ j = i := by
      intro j
      constructor
      · intro hj
        obtain ⟨h1, o, ho, hall⟩ := mem_ready.1 hj
        have hjl : j < ops.length := by simpa using (Array.getElem?_eq_some_iff.1 ho).1
        have hjn : ¬ j < i := fun hji => by
          have h2 := (hd j hjl).2 hji
          unfold don at h2
          have : j < listed.size := by omega
          simp [this] at h1 h2
          rw [h1] at h2; cases h2
        rcases Nat.lt_or_ge i j with hij | hij
        · exfalso
          have hb := htail j (by omega) hjl i hij
          have : ∀ j, j < ops.length → ∀ i, bef ms i j = true → (∀ e ∈ edgesM .any (ops.getD j default).after.toList, don listed e = true) → don listed i = true := by
            intro j hj i hb he
            have hck := hc j _ (List.getElem?_eq_getElem hj)
            obtain ⟨e, he1, he2⟩ := (hck.bit i).1 hb
            have hed : don listed e = true := he e (by simpa [List.getD, hj] using he1)
            rcases he2 with rfl | he2
            · exact hed
            · have hel := hck.lt e he1
              have := (hd e (by omega)).1 hed
              have hie : i < e := by
                exact bef_lt hc i e (by omega) he2
              exact (hd i (by omega)).2 (by omega)
          have hd2 := this j hjl i hb (fun e he => by
            have ho' : ops[j]? = some o := by simpa using ho
            have : ops.getD j default = o := by simp [List.getD, ho']
            rw [this] at he
            obtain ⟨ed, q1, q2, q3⟩ := mem_edgesM he
            rw [← q3]; exact hall ed (by simpa using q1) q2)
          rw [hnd] at hd2; cases hd2
        · omega
      · rintro rfl
        refine mem_ready.2 ⟨hiu, ops[j], by simp [hlt], fun e he hb => ?_⟩
        have hm' := edgesM_mem (l := ops[j].after.toList) (by simpa using he) hb
        have hel := (hc j _ (List.getElem?_eq_getElem hlt)).lt _ hm'
        exact (hd e.on (by omega)).2 hel
    refine ⟨fun hr => ?_, fun j hj => ?_⟩
    · have := (hready i).2 rfl
      rw [hr] at this; cases this
    · have hji := (hready j).1 hj
      subst hji
      have hdr : drp j ops = ops[j] :: drp (j + 1) ops := by rw [drp_eq, drp_eq, List.drop_eq_getElem_cons hlt]
      rw [hdr] at h
      have hgo : ∀ a w, wpList P ops.toArray Q (drp (j + 1) ops) a w → wpAny P .any ops.toArray Q f (listed.setIfInBounds j true) a w := fun a w hh => ih (j + 1) (by omega) (by omega) f _ a w (by omega) (by simp [hsz]) (fun k hk => by
        rw [don_set hls, Bool.or_eq_true, hd k hk, Nat.beq_eq]; omega) hh
      unfold wpOp
      have ho : ops.toArray[j]? = some ops[j] := by simp [hlt]
      simp only [ho]
      simp only [wpList] at h
      split
      · rename_i hw
        rw [if_pos hw] at h
        rcases h with h | h
        · exact .inl (Oper.wp_mono hgo h)
        · exact .inr h
      · rename_i hw
        rw [if_neg hw] at h
        exact hgo _ _ h

/-- ANY ORDER. -/
theorem any_ok {m : Nat} (hT : TbOk P E.T) (hΨ : PsiOk P E) (hF : Facts E kn ops m ms ks f0 H0 nx0 R)
    (hQ : ∀ us M a w, SatP E.N E.mrk B W M0 ops (refsOf ops ops) (fun j => j < m) ⟨stF ops f0 (R us) (ltB m), stH ks H0 nx0 (R us) (ltB m), nx0 + m⟩ M a w → wpList P ops.toArray Q (drp m ops) a w) :
    ∀ (fuel : Nat) (listed : Array Bool) (a : Act) (w : World), listed.size = ops.length → (∀ j, j < ops.length → don listed j = true → ∀ k, bef ms k j = true → don listed k = true) → (∀ j, don listed j = true → j < m) →
      ((List.range ops.length).countP (fun j => !don listed j) ≤ fuel) → (∃ us M, SatP E.N E.mrk B W M0 ops (refsOf ops ops) (fun j => don listed j = true) ⟨stF ops f0 (R us) (don listed), stH ks H0 nx0 (R us) (don listed), nx0⟩ M a w) →
      wpAny P .any ops.toArray Q fuel listed a w := by
  -- all but the tail is done
  have fin : ∀ (fuel : Nat) (listed : Array Bool) (a : Act) (w : World), listed.size = ops.length → (∀ j, don listed j = true ↔ j < m) → ((List.range ops.length).countP (fun j => !don listed j) ≤ fuel) → (∃ us M, SatP E.N E.mrk B W M0 ops (refsOf ops ops) (fun j => don listed j = true) ⟨stF ops f0 (R us) (don listed), stH ks H0 nx0 (R us) (don listed), nx0⟩ M a w) → wpAny P .any ops.toArray Q fuel listed a w := by
    intro fuel listed a w hsz hall hcnt ⟨us, M, hS⟩
    have hd : don listed = ltB m := by
      funext k
      rw [Bool.eq_iff_iff, hall k]
      unfold ltB; rw [Nat.blt_eq]
    have hle := hF.le
    refine tail_ok hF.chk hF.tail (ops.length - m) m (by omega) (Nat.le_refl _) fuel listed a w ?_ hsz (fun k _ => hall k) (hQ us M a w ?_)
    · refine Nat.le_trans ?_ hcnt
      have : ∀ n, m ≤ n → n - m ≤ (List.range n).countP (fun j => !don listed j) := by
        intro n
        induction n with
        | zero => intro _; omega
        | succ n ih =>
          intro hn
          rw [List.range_succ, List.countP_append]
          by_cases h : m = n + 1
          · omega
          · have := ih (by omega)
            have e : (!don listed n) = true := by
              cases hq : don listed n with
              | false => rfl
              | true => have := (hall n).1 hq; omega
            have e2 : List.countP (fun j => !don listed j) [n] = 1 := by simp [List.countP_cons, e]
            omega
      exact this _ hle
    · rw [hd] at hS
      have h3 := hS.weaken (nx' := nx0 + m) (f' := stF ops f0 (R us) (ltB m)) (H' := stH ks H0 nx0 (R us) (ltB m)) (fun _ _ h => h) (fun _ _ h => h)
      exact ⟨h3.h, h3.old, h3.d, h3.n, h3.f, fun s j b x hx => ⟨by have := (h3.g s j b x hx).1; unfold ltB at this; rwa [Nat.blt_eq] at this, (h3.g s j b x hx).2⟩⟩
  intro fuel
  induction fuel with
  | zero =>
    intro listed a w hsz hcl hdm hc hI
    have hall : ∀ j, j < ops.length → don listed j = true := by
      intro j hj
      have h0 : (List.range ops.length).countP (fun j => !don listed j) = 0 := by omega
      rw [List.countP_eq_zero] at h0
      have := h0 j (List.mem_range.2 hj)
      simpa using this
    exact fin 0 listed a w hsz (fun j => ⟨hdm j, fun hj => hall j (by have := hF.le; omega)⟩) hc hI
  | succ fuel ih =>
    intro listed a w hsz hcl hdm hc hI
    by_cases hpre : ∀ j, j < m → don listed j = true
    · exact fin (fuel + 1) listed a w hsz (fun j => ⟨hdm j, hpre j⟩) hc hI
    have hex : ∃ j, j < m ∧ don listed j = false := by
      apply Classical.byContradiction
      intro hno
      refine hpre fun j hj => ?_
      cases hd : don listed j with
      | true => rfl
      | false => exact absurd ⟨j, hj, hd⟩ hno
    refine ⟨fun hr => ?_, fun i hi => ?_⟩
    · exfalso
      have hall : ∀ j, j < ops.length → don listed j = true := by
        intro j
        induction j using Nat.strongRecOn with
        | _ j ihj =>
          intro hj
          cases hd : don listed j with
          | true => rfl
          | false =>
            exfalso
            have hjr : j ∈ Region.ready .any ops.toArray listed := by
              refine mem_ready.2 ⟨?_, ops[j], by simp [hj], fun e he hb => ?_⟩
              · unfold don at hd
                have hls : j < listed.size := by omega
                simp [hls] at hd ⊢; exact hd
              · have hm := edgesM_mem (l := ops[j].after.toList) (by simpa using he) hb
                have hlt := (hF.chk j _ (List.getElem?_eq_getElem hj)).lt _ hm
                exact ihj e.on hlt (by omega)
            rw [hr] at hjr; cases hjr
      obtain ⟨j, hj, hd⟩ := hex
      rw [hall j (by have := hF.le; omega)] at hd; cases hd
    · obtain ⟨hun, o, ho, hall⟩ := mem_ready.1 hi
      have ho' : ops[i]? = some o := by simpa using ho
      have hlt : i < ops.length := (List.getElem?_eq_some_iff.1 ho').1
      have hls : i < listed.size := by omega
      have hnd : don listed i = false := by unfold don; simp [hls] at hun ⊢; exact hun
      have hck := hF.chk i o ho'
      have hbd : ∀ k, bef ms k i = true → don listed k = true := by
        intro k hk
        obtain ⟨e, he, hke⟩ := (hck.bit k).1 hk
        obtain ⟨ed, q1, q2, q3⟩ := mem_edgesM he
        have hde : don listed e = true := by rw [← q3]; exact hall ed (by simpa using q1) q2
        rcases hke with rfl | hke
        · exact hde
        · exact hcl e (by have := hck.lt e he; omega) hde k hke
      have him : i < m := by
        rcases Nat.lt_or_ge i m with h' | h'
        · exact h'
        · exfalso
          obtain ⟨j, hj, hd⟩ := hex
          rw [hbd j (hF.tail i h' hlt j (by omega))] at hd; cases hd
      have hdm' : ∀ j, don (listed.setIfInBounds i true) j = true → j < m := by
        intro j hj
        rw [don_set hls, Bool.or_eq_true, Nat.beq_eq] at hj
        rcases hj with hj | hj
        · exact hdm j hj
        · omega
      obtain ⟨us, M, hS⟩ := hI
      -- behind this step
      have hsz' : (listed.setIfInBounds i true).size = ops.length := by simp [hsz]
      have hcl' : ∀ j, j < ops.length → don (listed.setIfInBounds i true) j = true → ∀ k, bef ms k j = true → don (listed.setIfInBounds i true) k = true := by
        intro j hj hdj k hk
        rw [don_set hls] at hdj ⊢
        rw [Bool.or_eq_true] at hdj ⊢
        rcases hdj with hdj | hdj
        · exact .inl (hcl j hj hdj k hk)
        · rw [Nat.beq_eq] at hdj; subst hdj; exact .inl (hbd k hk)
      have hc' : (List.range ops.length).countP (fun j => !don (listed.setIfInBounds i true) j) ≤ fuel := by
        have key : ∀ (l : List Nat), i ∈ l → l.countP (fun j => !don (listed.setIfInBounds i true) j) + 1 ≤ l.countP (fun j => !don listed j) := by
          intro l
          have hle : ∀ (l : List Nat), l.countP (fun j => !don (listed.setIfInBounds i true) j) ≤ l.countP (fun j => !don listed j) := by
            intro l
            refine List.countP_mono_left fun x _ hx => ?_
            rw [don_set hls] at hx
            simp at hx ⊢; exact hx.1
          induction l with
          | nil => intro h; cases h
          | cons x l ihl =>
            intro h
            rw [List.countP_cons, List.countP_cons]
            by_cases hxi : x = i
            · subst hxi
              have e1 : (!don (listed.setIfInBounds x true) x) = false := by rw [don_set hls]; simp
              have e2 : (!don listed x) = true := by rw [hnd]; rfl
              rw [e1, e2]; simp; exact hle l
            · have := ihl ((List.mem_cons.1 h).resolve_left (fun e => hxi e.symm))
              have e1 : (!don (listed.setIfInBounds i true) x) = (!don listed x) := by
                rw [don_set hls]
                have : Nat.beq i x = false := by
                  cases hb : Nat.beq i x with
                  | false => rfl
                  | true => rw [Nat.beq_eq] at hb; exact absurd hb.symm hxi
                rw [this]; simp
              rw [e1]; omega
        have := key _ (List.mem_range.2 hlt); omega
      -- the step
      have main : if Region.wanted o (yielded ops.toArray a.tmps) then o.wp P a w (wpAny P .any ops.toArray Q fuel (listed.setIfInBounds i true)) Q else (wpAny P .any ops.toArray Q fuel (listed.setIfInBounds i true)) (a.put o.dst undef) w := by
        have hS1 : SatP E.N E.mrk B W M0 ops (refsOf ops ops) (fun j => don listed j = true) ⟨stF ops f0 (R us) (don listed), stH ks H0 nx0 (R us) (don listed), nx0 + i⟩ M a w := hS.weaken (fun _ _ h => h) (fun _ _ h => h)
        refine stepOp_okP hT hΨ hS1 (i := i) (S' := fun j => don (listed.setIfInBounds i true) j = true) (by rw [hnd]; simp) (fun j hj => by rw [don_set hls, hj]; rfl) (kn := kn) (fun j b hg => hbd j (hck.gd j b hg)) fun u => ?_
        -- what this operation brings is 'u'
        let us' : Nat → Value := fun n => match Nat.beq n i with | true => u | false => us n
        have hus : us' i = u := by simp [us']
        have husne : ∀ n, n ≠ i → us' n = us n := by
          intro n hn
          have : Nat.beq n i = false := by
            cases hb : Nat.beq n i with
            | false => rfl
            | true => rw [Nat.beq_eq] at hb; exact absurd hb hn
          simp [us', this]
        have hsame : ∀ k, k < ops.length → don listed k = true → R us k = R us' k := by
          intro k hk hdk
          refine hF.dep k (hdm k hdk) us us' fun l hl => (husne l ?_).symm
          rintro rfl
          rcases hl with rfl | hl
          · rw [hnd] at hdk; cases hdk
          · rw [hcl k hk hdk _ hl] at hnd; cases hnd
        have hsameR : ∀ k, don listed k = true → R us k = R us' k := by
          intro k hdk
          rcases Nat.lt_or_ge k ops.length with h | h
          · exact hsame k h hdk
          · have := hF.le; rw [hF.out us k (by omega), hF.out us' k (by omega)]
        have eF : stF ops f0 (R us) (don listed) = stF ops f0 (R us') (don listed) := stF_congr hsame
        have leHH : leF (stH ks H0 nx0 (R us') (don listed)) (stH ks H0 nx0 (R us) (don listed)) := stH_le fun k hk => by rw [hsameR k hk]
        have leHH' : leF (stH ks H0 nx0 (R us) (don listed)) (stH ks H0 nx0 (R us') (don listed)) := stH_le fun k hk => by rw [hsameR k hk]
        have eH : stH ks H0 nx0 (R us) (don listed) = stH ks H0 nx0 (R us') (don listed) := by
          funext n
          cases e : stH ks H0 nx0 (R us) (don listed) n with
          | some x => rw [leHH' _ _ e]
          | none =>
            cases e' : stH ks H0 nx0 (R us') (don listed) n with
            | none => rfl
            | some x => rw [leHH _ _ e'] at e; cases e
        obtain ⟨e, ob, hb, kill, r1, r2, r3, r4⟩ := hF.st us' i o him ho'
        rw [hus] at r2
        have lF : leF (mF ops ms f0 (R us') i) (stF ops f0 (R us') (don listed)) := by
          intro s x hx
          simp only [mF] at hx
          simp only [stF]
          split at hx
          · exact hx
          · rename_i k hw
            obtain ⟨ok, _, q2, _⟩ := wrOf_some hw
            have hkl : k < ops.length := by have := (List.getElem?_eq_some_iff.1 q2).1; simpa using this
            split at hx
            · rename_i hbk; simp only [hbd k hbk]; exact hx
            · split at hx
              · rename_i hbk
                have : don listed k = false := by
                  cases hdk : don listed k with
                  | false => rfl
                  | true =>
                    exfalso
                    rw [Bool.or_eq_true] at hbk
                    rcases hbk with hbk | hbk
                    · rw [hcl k hkl hdk i hbk] at hnd; cases hnd
                    · rw [Nat.beq_eq] at hbk; subst hbk; rw [hnd] at hdk; cases hdk
                simp only [this]; exact hx
              · cases hx
        have lH : leF (mH ms ks H0 nx0 (R us') i) (stH ks H0 nx0 (R us') (don listed)) := by
          intro n x hx
          simp only [mH] at hx
          simp only [stH]
          split at hx
          · cases hx
          · rename_i hk
            have hk' : killed ks (fun k => don listed k && Nat.blt k ops.length) n = false := by
              cases hk' : killed ks (fun k => don listed k && Nat.blt k ops.length) n with
              | false => rfl
              | true =>
                exfalso
                rw [killed_mono (fun k hdk => ?_) hk'] at hk
                · cases hk
                · rw [Bool.and_eq_true, Nat.blt_eq] at hdk
                  rw [Bool.not_eq_true', Bool.or_eq_false_iff]
                  refine ⟨?_, ?_⟩
                  · cases hb : bef ms i k with
                    | false => rfl
                    | true => rw [hcl k hdk.2 hdk.1 i hb] at hnd; cases hnd
                  · cases hb : Nat.beq i k with
                    | false => rfl
                    | true => rw [Nat.beq_eq] at hb; subst hb; rw [hnd] at hdk; cases hdk.1
            have hk2 : killed ks (don listed) n = false := by
              have : (don listed) = fun k => don listed k && Nat.blt k ops.length := by
                funext k
                cases hd : don listed k with
                | false => rfl
                | true =>
                  have : k < ops.length := by
                    rcases Nat.lt_or_ge k listed.size with h' | h'
                    · omega
                    · unfold don at hd; simp [Array.getElem?_eq_none h'] at hd
                  simp [this]
              rw [this]; exact hk'
            rw [hk2]
            split at hx
            · exact hx
            · split at hx
              · rename_i hbn; simp only [hbd _ hbn]; exact hx
              · cases hx
        have r5 := stepD_mono lF lH r2
        rw [← eF, ← eH] at r5
        obtain ⟨nx', r6⟩ := stepD_stepOp hck.dst r5
        refine ⟨_, ob, r6, r3, fun a' w' M' hS' => ?_⟩
        refine ih (listed.setIfInBounds i true) a' w' hsz' hcl' hdm' hc' ⟨us', M', ?_⟩
        refine hS'.weaken (fun s x hx => ?_) (fun n x hx => ?_)
        · -- the slots
          simp only [stF] at hx
          have hput : ∀ s, o.dst ≠ some s → putF (stF ops f0 (R us) (don listed)) o.dst e s = stF ops f0 (R us) (don listed) s := by
            intro s hs
            cases hd : o.dst with
            | none => rfl
            | some d =>
              have : Nat.beq s d = false := by
                cases hb : Nat.beq s d with
                | false => rfl
                | true => rw [Nat.beq_eq] at hb; subst hb; exact absurd hd hs
              simp only [putF, updF, this]
          by_cases hd : o.dst = some s
          · have hw := wrOf_dst (i := 0) hF.nd ho' hd
            rw [Nat.zero_add] at hw
            rw [hw] at hx
            have : don (listed.setIfInBounds i true) i = true := by rw [don_set hls]; simp
            simp only [this, r1, drE] at hx
            rw [hd]
            simp only [putF, updF, Nat.beq_refl]
            exact hx
          · rw [hput s hd, eF]
            simp only [stF]
            split at hx
            · exact hx
            · rename_i k hw
              have hki : Nat.beq i k = false := by
                cases hb : Nat.beq i k with
                | false => rfl
                | true =>
                  rw [Nat.beq_eq] at hb; subst hb
                  obtain ⟨ok, _, q2, q3⟩ := wrOf_some hw
                  have : ops[i]? = some ok := by simpa using q2
                  rw [ho'] at this; cases this
                  exact absurd q3 hd
              rw [don_set hls, hki, Bool.or_false] at hx
              exact hx
        · -- the names
          simp only [stH] at hx
          split at hx
          · cases hx
          · rename_i hk
            have hfe : don (listed.setIfInBounds i true) = fun k => don listed k || Nat.beq i k := by funext k; exact don_set hls
            rw [hfe, killed_or, Bool.or_eq_false_iff] at hk
            have hkn : ∀ m, kill = some m → m ≠ n := by
              rintro m hm rfl
              rw [r4 m hm] at hk; cases hk.2
            have old : stH ks H0 nx0 (R us) (don listed) n = some x → n ≠ nx0 + i → updU (stH ks H0 nx0 (R us) (don listed)) (nx0 + i) hb kill n = some x := by
              intro h1 h2
              cases hb with
              | none => exact h1
              | some b =>
                simp only [updU]
                rw [updH_ne _ _ h2]
                cases kill with
                | none => exact h1
                | some m => simp only; rw [updH_ne _ _ (fun e => hkn m rfl e.symm)]; exact h1
            split at hx
            · rename_i hn
              rw [Nat.blt_eq] at hn
              refine old ?_ (by omega)
              simp only [stH, hk.1, (by rw [Nat.blt_eq]; exact hn : Nat.blt n nx0 = true)]
              exact hx
            · rename_i hn
              have hn' : ¬ n < nx0 := fun h => by rw [(by rw [Nat.blt_eq]; exact h : Nat.blt n nx0 = true)] at hn; cases hn
              split at hx
              · rename_i hd
                rw [don_set hls, Bool.or_eq_true] at hd
                by_cases hni : n - nx0 = i
                · rw [hni, r1] at hx
                  simp only [drH] at hx
                  have : n = nx0 + i := by omega
                  subst this
                  rw [hx]
                  simp only [updU]
                  rw [updH_same]
                · have hd' : don listed (n - nx0) = true := by
                    rcases hd with hd | hd
                    · exact hd
                    · rw [Nat.beq_eq] at hd; exact absurd hd.symm hni
                  refine old ?_ (by omega)
                  simp only [stH, hk.1, hn, hd', hsameR _ hd']
                  exact hx
              · cases hx
      unfold wpOp
      simp only [ho]
      split
      · rename_i hw; rw [if_pos hw] at main; exact .inl main
      · rename_i hw; rw [if_neg hw] at main; exact main

def isDraw : Code → Bool
  | .region _ _ true => true
  | _ => false

theorem dGo_out {bs : Nat → Value} : ∀ {l : List Oper} {i : Nat} {res res' : Nat → Option DR} {p p' : Prop}, dGo E kn ops ms ks f0 H0 nx0 bs l i res p = some (res', p') → ∀ j, i + l.length ≤ j → res' j = res j := by
  intro l
  induction l with
  | nil => intro i res res' p p' h j hj; cases h; rfl
  | cons x l ih =>
    intro i res res' p p' h j hj
    simp only [dGo] at h
    split at h
    · split at h
      · rw [ih h j (by simp at hj ⊢; omega)]
        have : Nat.beq j i = false := by
          cases hb : Nat.beq j i with
          | false => rfl
          | true => rw [Nat.beq_eq] at hb; simp at hj; omega
        simp only [this]
      · cases h
    · cases h

theorem Sat.drawn {N : Nat} {mrk : Bool} (hS : Sat N mrk B W M0 [] [] 0 st M a w) (n : Nat) : Sat N mrk B W M0 [] [] 0 st M a { w with drawn := n } := by
  refine ⟨⟨⟨hS.h.below.os, hS.h.below.tape, hS.h.below.output, hS.h.below.size, hS.h.below.block⟩, hS.h.base, hS.h.mem, fun m x hx => ?_, hS.h.inj⟩, hS.old, hS.d, hS.n, hS.f, hS.g⟩
  have := hS.h.ok m x hx
  cases x with
  | blk b ty cs => exact this
  | own v ty k l => exact this

/-- A REGION THAT DRAWS ITS ORDER: up to operation 'm'; behind it the text's own order is the only one. -/
theorem G_draw (hT : TbOk P E.T) (hΨ : PsiOk P E) (hm : P.follows .mixedOrders = true) (kn : Nat → Option Bool) (m : Nat) (ms : List Nat) (ks : List (Nat × Nat)) {c : Code} (hd : isDraw c = true) (hchk : chkD E.N (opsOf c) m ms = true)
    {st' : (Nat → Value) → St} {ob : (Nat → Value) → Prop} (h : ∀ bs, drawD E kn (opsOf c) m ms ks st bs = some (st' bs, ob bs)) (ho : ∀ bs, ob bs) (hk : ∀ bs, G P E B W M0 Q (.ops (opsOf c) m :: k) (st' bs)) (hro : E.ro = none := by rfl) : G P E B W M0 Q (.code c :: k) st := by
  intro M a w hS
  cases c <;> simp only [isDraw, Bool.false_eq_true] at hd
  rename_i id ops dr
  cases dr <;> simp only [isDraw, Bool.false_eq_true] at hd
  obtain ⟨ops⟩ := ops
  simp only [opsOf] at hchk h hk
  simp only [chkD, Bool.and_eq_true, Nat.ble_eq, len_eq] at hchk
  obtain ⟨⟨hc1, hc2⟩, hc3, hc4⟩ := hchk
  refine wpIn_wide.2 ?_ |> fun (h : cwp none P (Code.region id ops.toArray true) (after none P Q k) a w) => (by simp only [after, hro]; exact h)
  refine wp_region_any hm ?_
  obtain ⟨f0, H0, nx0⟩ := st
  have hS0 : Sat E.N E.mrk B W M0 [] [] 0 ⟨f0, H0, nx0⟩ M a w := hS
  have hS1 := hS0.drawn (w.drawn + 1)
  have hck : ∀ (j : Nat) (o : Oper), ops[j]? = some o → ChkO E.N ops ms j o := fun j o hj => by
    have := chkO_ok rfl hc2 j o hj
    rwa [Nat.zero_add] at this
  -- what is reckoned
  have hR : ∀ bs, ∃ res p, dGo E kn ops ms ks f0 H0 nx0 bs (tke m ops) 0 (fun _ => none) True = some (res, p) ∧ p ∧ st' bs = ⟨stF ops f0 res (ltB m), stH ks H0 nx0 res (ltB m), nx0 + m⟩ := by
    intro bs
    have := h bs
    simp only [drawD] at this
    split at this
    · rename_i res p hg
      simp only [Option.some.injEq, Prod.mk.injEq] at this
      exact ⟨res, p, hg, by rw [this.2]; exact ho bs, this.1.symm⟩
    · cases this
  let R : (Nat → Value) → Nat → Option DR := fun bs => Classical.choose (hR bs)
  have hR2 : ∀ bs, ∃ p, dGo E kn ops ms ks f0 H0 nx0 bs (tke m ops) 0 (fun _ => none) True = some (R bs, p) ∧ p ∧ st' bs = ⟨stF ops f0 (R bs) (ltB m), stH ks H0 nx0 (R bs) (ltB m), nx0 + m⟩ := fun bs => Classical.choose_spec (hR bs)
  have hF : Facts E kn ops m ms ks f0 H0 nx0 R := by
    refine ⟨hck, hc1, hc3, tailB_ok hc4, fun us j o hjm hj => ?_, fun us j hj => ?_⟩
    · obtain ⟨p, h1, h2, _⟩ := hR2 us
      obtain ⟨_, _, g3⟩ := dGo_ok (m := m) (bef_lt hck) (i := 0) (by rw [tke_eq]; simp) h1
      obtain ⟨e, ob', hb, kill, q1, q2, q3, q4⟩ := g3 j o (Nat.zero_le _) hjm hj
      exact ⟨e, ob', hb, kill, q1, q2, q3 h2, q4⟩
    · obtain ⟨p, h1, h2, _⟩ := hR2 us
      exact dGo_out h1 j (by rw [tke_eq, List.length_take]; omega)
  have hnone : ∀ j, don (Array.replicate ops.toArray.size false) j = false := by
    intro j
    unfold don
    simp only [Array.getD_eq_getD_getElem?, Array.getElem?_replicate]
    split <;> rfl
  refine any_ok (B := B) (W := W) (M0 := M0) (Q := after none P Q k) hT hΨ hF (fun us M' a' w' hS' => ?_) _ _ _ _ (by simp) (fun j _ hd => by rw [hnone j] at hd; cases hd) (fun j hd => by rw [hnone j] at hd; cases hd) ?_ ⟨fun _ => undef, M, ?_⟩
  · obtain ⟨p, h1, h2, h3⟩ := hR2 us
    have := hk us
    rw [h3] at this
    have := this M' a' w' hS'
    rw [hro] at this
    exact this
  · refine Nat.le_trans List.countP_le_length ?_
    simp
  · have hd0 : don (Array.replicate ops.toArray.size false) = fun _ => false := funext hnone
    rw [hd0]
    have e1 : stF ops f0 (R fun _ => undef) (fun _ => false) = f0 := by
      funext s; simp only [stF]; split <;> rfl
    have h4 : SatP E.N E.mrk B W M0 ops (refsOf ops ops) (fun j => (fun _ => false : Nat → Bool) j = true) ⟨f0, H0, nx0⟩ M a { w with drawn := w.drawn + 1 } := by
      refine ⟨hS1.h, hS1.old, hS1.d, hS1.n, fun s e he => ?_, fun s j b x hx => ?_⟩
      · cases e with
        | u x => exact hS1.f s _ he
        | gd j b x => have := (hS1.g s j b x he).1; simp at this
      · have := (hS1.g s j b x hx).1; simp at this
    refine h4.weaken (by rw [e1]; exact fun _ _ h => h) (fun n x hx => ?_)
    simp only [stH] at hx
    split at hx
    · cases hx
    · split at hx
      · exact hx
      · cases hx
end
end Go.Mt
