/-
  Mt, part Q: control.
-/
import Derived.Test.YtnmomckmpknbkaaMtP
set_option linter.unusedSimpArgs false
set_option linter.unusedVariables false
namespace Go.Mt
open Go.RowKit

/-! ### code by its place -/
def lft : Code → Code | .seq x _ => x | _ => .skip
def rgt : Code → Code | .seq _ y => y | _ => .skip
def bod : Code → Code | .block _ c => c | .loop c => c | .scope c => c | _ => .skip
def thn : Code → Code | .cond _ x _ => x | _ => .skip
def els : Code → Code | .cond _ _ y => y | _ => .skip
def cnd : Code → Option Operand | .cond c _ _ => some c | _ => none
def opsOf : Code → List Oper | .region _ ops _ => ops.toList | _ => []
def fbody (f : Func) : Code := f.body.getD .skip

inductive Itm where
  | code (c : Code)
  | ops (all : List Oper) (i : Nat)
  | blk (id : Nat)
  | lp (J : Act → World → Prop)

/-- Code in a frame of either make. -/
def cwp (ro : Option Nat) (P : Program) (c : Code) (Q : Exit → Act → World → Prop) (a : Act) (w : World) : Prop := c.wpIn (fce ro) 0 P Q a w
def isDef : Op → Bool
  | .defer _ => true
  | _ => false
def ndB : List Oper → Bool
  | [] => true
  | o :: l => match isDef o.op with
    | true => false
    | false => ndB l
theorem ndB_ok {l : List Oper} (h : ndB l = true) : ∀ o, o ∈ l → ∀ c, o.op ≠ .defer c := by
  induction l with
  | nil => intro o ho; cases ho
  | cons o l ih =>
    intro o' ho c
    simp only [ndB] at h
    cases hd : isDef o.op with
    | true => rw [hd] at h; cases h
    | false =>
      rw [hd] at h
      rcases List.mem_cons.1 ho with rfl | ho
      · intro e; rw [e] at hd; cases hd
      · exact ih h o' ho c
theorem cwp_region {ro : Option Nat} {P : Program} {Q : Exit → Act → World → Prop} {a : Act} {w : World} {id : Nat} {l : List Oper} (hnd : ro = none ∨ ndB l = true) (h : lwp ro P l.toArray Q l a w) : cwp ro P (Code.region id l.toArray false) Q a w := by
  cases ro with
  | none => exact wpIn_wide.2 (wp_region_lit h)
  | some r => exact wpIn_region_lit (h (ndB_ok (hnd.resolve_left (by simp))))

def after (ro : Option Nat) (P : Program) (Q : Exit → Act → World → Prop) : List Itm → Exit → Act → World → Prop
  | [], e, a, w => Q e a w
  | .code c :: k, e, a, w => match e with
    | .normal => cwp ro P c (after ro P Q k) a w
    | e => after ro P Q k e a w
  | .ops all i :: k, e, a, w => match e with
    | .normal => lwp ro P all.toArray (after ro P Q k) (drp i all) a w
    | e => after ro P Q k e a w
  | .blk id :: k, e, a, w => match e with
    | .exit id' => if id' = id then after ro P Q k .normal a w else after ro P Q k (.exit id') a w
    | e => after ro P Q k e a w
  | .lp J :: k, e, a, w => match e with
    | .normal => J a w
    | e => after ro P Q k e a w

def popTo (id : Nat) : List Itm → Option (List Itm)
  | [] => none
  | .blk id' :: k => match Nat.beq id id' with
    | true => some k
    | false => popTo id k
  | _ :: k => popTo id k

def St.strip (st : St) : St := match st with
  | ⟨f, H, nx⟩ => ⟨fun s => match f s with
    | some (.u x) => some (.u x)
    | _ => none, H, nx⟩

inductive RS where
  | mk (k : List Itm) (st : St) (ob : Prop)
  | bad
def RS.k : RS → List Itm | .mk k _ _ => k | .bad => []
def RS.st : RS → St | .mk _ st _ => st | .bad => ⟨fun _ => none, fun _ => none, 0⟩
def RS.ob : RS → Prop | .mk _ _ ob => ob | .bad => False
def run (E : Env) (kn : Nat → Option Bool) : Nat → List Itm → St → (Nat → Nat → Value) → RS
  | 0, k, st, _ => RS.mk k st True
  | _ + 1, [], st, _ => RS.mk [] st True
  | _ + 1, .lp J :: k, st, _ => RS.mk (.lp J :: k) st True
  | n + 1, .blk _ :: k, st, bs => run E kn n k st bs
  | n + 1, .ops all i :: k, st, bs => match evalOps E kn all (refsOf all all) (drp i all) i st (bs 0) with
    | .mk rest i' st' ob => match rest with
      | [] => match run E kn n k st'.strip (fun m => bs (m + 1)) with
        | .mk k' st'' ob' => .mk k' st'' (ob ∧ ob')
        | .bad => .bad
      | _ :: _ => .mk (.ops all i' :: k) st' ob
    | .bad => .bad
  | n + 1, .code c :: k, st, bs => match c with
    | .skip => run E kn n k st bs
    | .seq _ _ => run E kn n (.code (lft c) :: .code (rgt c) :: k) st bs
    | .block id _ => run E kn n (.code (bod c) :: .blk id :: k) st bs
    | .region _ _ false => match E.ro with
      | none => run E kn n (.ops (opsOf c) 0 :: k) st bs
      | some _ => match ndB (opsOf c) with
        | true => run E kn n (.ops (opsOf c) 0 :: k) st bs
        | false => RS.mk (.code c :: k) st True
    | .exit id => match popTo id k with
      | some k' => run E kn n k' st bs
      | none => RS.mk (.code c :: k) st True
    | .label _ => run E kn n k st bs
    | _ => RS.mk (.code c :: k) st True

def hdOps : List Itm → List Oper
  | .ops all _ :: _ => all
  | _ => []
def hdI : List Itm → Nat
  | .ops _ i :: _ => i
  | _ => 0
/-- THE JUDGEMENT. -/
def G (P : Program) (E : Env) (B : Nat) (W : World) (M0 : Mem) (Q : Exit → Act → World → Prop) (k : List Itm) (st : St) : Prop :=
  ∀ M a w, Sat E.N E.mrk B W M0 (hdOps k) (refsOf (hdOps k) (hdOps k)) (hdI k) st M a w → after E.ro P Q k .normal a w

section
variable {P : Program} {E : Env} {B : Nat} {W : World} {M0 : Mem} {Q : Exit → Act → World → Prop} {k : List Itm} {st : St} {M : Mem} {a : Act} {w : World} {N : Nat} {mrk : Bool}

theorem evalOps_rest {kn : Nat → Option Bool} {ops : List Oper} {rs : List (Nat × Nat)} : ∀ (l : List Oper) (i : Nat) (st : St) (bs : Nat → Value), l = drp i ops → (evalOps E kn ops rs l i st bs).rest = drp (evalOps E kn ops rs l i st bs).i ops := by
  intro l
  induction l with
  | nil => intro i st bs h; exact h
  | cons o l ih =>
    intro i st bs h
    obtain ⟨f, H, nx⟩ := st
    simp only [evalOps]
    cases hs : stepOp E kn ops rs i f H nx o (bs 0) with
    | none => exact h
    | some r =>
      obtain ⟨st', ob⟩ := r
      have := ih (i + 1) st' (fun n => bs (n + 1)) (by
        rw [drp_eq] at h ⊢
        have := congrArg List.tail h
        simpa [List.tail_drop] using this)
      simp only
      cases hr : evalOps E kn ops rs l (i + 1) st' (fun n => bs (n + 1)) with
      | mk r i' st'' ob' => rw [hr] at this; exact this
      | bad => rw [hr] at this; exact this

theorem Sat.strip {ops : List Oper} {rs : List (Nat × Nat)} {i : Nat} (hS : Sat N mrk B W M0 ops rs i st M a w) : Sat N mrk B W M0 [] [] 0 st.strip M a w := by
  obtain ⟨f, H, nx⟩ := st
  refine ⟨hS.h, hS.old, hS.d, hS.n, fun s e h => ?_, fun s j b x h => ?_⟩
  · simp only [St.strip] at h
    split at h
    · rename_i x hx; cases h
      exact hS.f s _ hx
    · cases h
  · simp only [St.strip] at h
    split at h <;> cases h

/-- Outside regions no guard is left. -/
theorem Sat.to (hS : Sat N mrk B W M0 [] [] 0 st M a w) (ops : List Oper) (rs : List (Nat × Nat)) : Sat N mrk B W M0 ops rs 0 st M a w := by
  refine ⟨hS.h, hS.old, hS.d, hS.n, fun s e h => ?_, fun s j b x h => ?_⟩
  · cases e with
    | u x => exact hS.f s _ h
    | gd j b x => have := (hS.g s j b x h).1; omega
  · have := (hS.g s j b x h).1; omega

theorem Sat.hd (hS : Sat N mrk B W M0 [] [] 0 st M a w) (hk : hdI k = 0) : Sat N mrk B W M0 (hdOps k) (refsOf (hdOps k) (hdOps k)) (hdI k) st M a w := by
  rw [hk]; exact hS.to _ _

theorem popTo_ok {id : Nat} : ∀ {k k' : List Itm}, popTo id k = some k' → after E.ro P Q k' .normal a w → after E.ro P Q k (.exit id) a w := by
  intro k
  induction k with
  | nil => intro k' h; cases h
  | cons x k ih =>
    intro k' h hk
    cases x with
    | code c => exact ih h hk
    | ops all i => exact ih h hk
    | lp J => exact ih h hk
    | blk id' =>
      simp only [popTo] at h
      split at h
      · rename_i hb; cases h
        rw [Nat.beq_eq] at hb; subst hb
        simpa [after] using hk
      · rename_i hb
        have hne : id ≠ id' := fun e => by subst e; simp at hb
        simp only [after, if_neg hne]
        exact ih h hk

/-- Behind a region a state bears no guard. -/
def noG (k : List Itm) (st : St) : Prop := hdI k = 0 ∨ True

theorem run_ok (hT : TbOk P E.T) (hΨ : PsiOk P E) {kn : Nat → Option Bool} : ∀ (n : Nat) (k : List Itm) (st : St),
    (∀ bs, (run E kn n k st bs).ob ∧ G P E B W M0 Q (run E kn n k st bs).k (run E kn n k st bs).st) → G P E B W M0 Q k st := by
  intro n
  induction n with
  | zero => intro k st h; exact (h (fun _ _ => undef)).2
  | succ n ih =>
    intro k st h
    cases k with
    | nil => exact (h (fun _ _ => undef)).2
    | cons x k =>
      -- going on with items whose head is no region half done
      have go : ∀ (k' : List Itm), (∀ bs, (run E kn n k' st bs).ob ∧ G P E B W M0 Q (run E kn n k' st bs).k (run E kn n k' st bs).st) → hdI k' = 0 → ∀ M a w, Sat E.N E.mrk B W M0 [] [] 0 st M a w → after E.ro P Q k' .normal a w :=
        fun k' hk' h0 M a w hS => ih k' st hk' M a w (hS.hd h0)
      cases x with
      | lp J => exact (h (fun _ _ => undef)).2
      | blk id =>
        intro M a w hS
        have h1 : ∀ bs, (run E kn n k st bs).ob ∧ G P E B W M0 Q (run E kn n k st bs).k (run E kn n k st bs).st := fun bs => by simpa only [run] using h bs
        simp only [after]
        by_cases h0 : hdI k = 0
        · exact go k h1 h0 M a w hS
        · -- a region half done never stands below another item
          cases k with
          | nil => exact absurd rfl h0
          | cons y k =>
            cases y with
            | ops all i =>
              refine ih _ st h1 M a w ?_
              refine ⟨hS.h, hS.old, hS.d, hS.n, fun s e he => ?_, fun s j b x hx => ?_⟩
              · cases e with
                | u x => exact hS.f s _ he
                | gd j b x => have := (hS.g s j b x he).1; simp [hdI] at this
              · have := (hS.g s j b x hx).1; simp [hdI] at this
            | _ => exact absurd rfl h0
      | ops all i =>
        intro M a w hS
        simp only [after]
        have hS1 : Sat E.N E.mrk B W M0 all (refsOf all all) i st M a w := hS
        refine evalOps_ok hT hΨ (kn := kn) (drp i all) i st M a w hS1 fun bs0 => ?_
        have hrest := evalOps_rest (E := E) (kn := kn) (ops := all) (rs := refsOf all all) (drp i all) i st bs0 rfl
        have hb := fun bs : Nat → Nat → Value => h (fun m => match m with | 0 => bs0 | m + 1 => bs m)
        simp only [run] at hb
        generalize hr : evalOps E kn all (refsOf all all) (drp i all) i st bs0 = r at hb hrest ⊢
        cases r with
        | bad => exact (hb (fun _ _ => undef)).1.elim
        | mk rest i' st' ob =>
        simp only [ER.rest, ER.i, ER.st, ER.ob] at hb hrest ⊢
        cases rest with
        | cons o l =>
          simp only at hb
          have h2 := hb (fun _ _ => undef)
          refine ⟨h2.1, fun a' w' M' hS' => ?_⟩
          have := h2.2 M' a' w' hS'
          simpa only [RS.k, after, hrest] using this
        | nil =>
          simp only at hb
          have hob : ob := by
            have := (hb (fun _ _ => undef)).1
            cases hr2 : run E kn n k st'.strip (fun m => (fun _ _ => undef : Nat → Nat → Value) m) with
            | mk k2 st2 ob2 => rw [hr2] at this; exact this.1
            | bad => rw [hr2] at this; exact this.elim
          refine ⟨hob, fun a' w' M' hS' => ?_⟩
          refine lwp_nil ?_
          have hgo := ih k st'.strip (fun bs => by
            have := hb bs
            cases hr2 : run E kn n k st'.strip bs with
            | mk k2 st2 ob2 => rw [hr2] at this; exact ⟨this.1.2, this.2⟩
            | bad => rw [hr2] at this; exact this.1.elim)
          have hSs := hS'.strip
          refine hgo M' a' w' ?_
          by_cases h0 : hdI k = 0
          · exact hSs.hd h0
          · cases k with
            | nil => exact absurd rfl h0
            | cons y k =>
              cases y with
              | ops all' i2 =>
                refine ⟨hSs.h, hSs.old, hSs.d, hSs.n, fun s e he => ?_, fun s j b x hx => ?_⟩
                · cases e with
                  | u x => exact hSs.f s _ he
                  | gd j b x => have := (hSs.g s j b x he).1; simp at this
                · have := (hSs.g s j b x hx).1; simp at this
              | _ => exact absurd rfl h0
      | code c =>
        intro M a w hS
        have hS0 : Sat E.N E.mrk B W M0 [] [] 0 st M a w := hS
        have toK : ∀ (k' : List Itm), (∀ bs, (run E kn n k' st bs).ob ∧ G P E B W M0 Q (run E kn n k' st bs).k (run E kn n k' st bs).st) → ∀ a' w', a' = a → w' = w → after E.ro P Q k' .normal a' w' := by
          intro k' h1 a' w' ea ew
          subst ea ew
          by_cases h0 : hdI k' = 0
          · exact go k' h1 h0 M a' w' hS0
          · cases k' with
            | nil => exact absurd rfl h0
            | cons y k' =>
              cases y with
              | ops all' i2 =>
                refine ih _ st h1 M a' w' ?_
                refine ⟨hS0.h, hS0.old, hS0.d, hS0.n, fun s e he => ?_, fun s j b x hx => ?_⟩
                · cases e with
                  | u x => exact hS0.f s _ he
                  | gd j b x => have := (hS0.g s j b x he).1; simp at this
                · have := (hS0.g s j b x hx).1; simp at this
              | _ => exact absurd rfl h0
        simp only [after]
        cases c with
        | skip => exact wpIn_skip (toK k (fun bs => by simpa only [run] using h bs) a w rfl rfl)
        | label l => exact wpIn_label (toK k (fun bs => by simpa only [run] using h bs) a w rfl rfl)
        | seq x y =>
          refine wpIn_seq (wpIn_mono (Q := after E.ro P Q (.code y :: k)) ?_ (fun e a w q => by cases e <;> exact q))
          exact toK (.code x :: .code y :: k) (fun bs => by simpa only [run, lft, rgt] using h bs) a w rfl rfl
        | block id x =>
          refine wpIn_block (wpIn_mono (Q := after E.ro P Q (.blk id :: k)) ?_ (fun e a w q => by cases e <;> exact q))
          exact toK (.code x :: .blk id :: k) (fun bs => by simpa only [run, bod] using h bs) a w rfl rfl
        | region id ops draw =>
          cases draw with
          | false =>
            obtain ⟨ops⟩ := ops
            by_cases hnd : E.ro = none ∨ ndB ops = true
            · refine cwp_region hnd ?_
              have := toK (.ops ops 0 :: k) (fun bs => by
                have := h bs
                simp only [run, opsOf] at this
                rcases hnd with e | e
                · rw [e] at this; exact this
                · rw [e] at this
                  cases hro : E.ro with
                  | none => rw [hro] at this; exact this
                  | some r => rw [hro] at this; exact this) a w rfl rfl
              simpa only [after, drp] using this
            · have := (h (fun _ _ => undef)).2
              simp only [run, opsOf] at this
              cases hro : E.ro with
              | none => exact absurd (.inl hro) hnd
              | some r =>
                have e : ndB ops = false := by
                  cases hb : ndB ops with
                  | true => exact absurd (.inr hb) hnd
                  | false => rfl
                rw [hro, e] at this
                have := this M a w hS
                simpa only [RS.k, after, hro] using this
          | true =>
            have := (h (fun _ _ => undef)).2
            simp only [run] at this
            have := this M a w hS
            simpa only [RS.k, after] using this
        | exit id =>
          cases hp : popTo id k with
          | some k' => exact wpIn_exit (popTo_ok hp (toK k' (fun bs => by simpa only [run, hp] using h bs) a w rfl rfl))
          | none =>
            have := (h (fun _ _ => undef)).2
            simp only [run, hp] at this
            have := this M a w hS
            simpa only [RS.k, after] using this
        | _ =>
          have := (h (fun _ _ => undef)).2
          simp only [run] at this
          have := this M a w hS
          simpa only [RS.k, after] using this
end
end Go.Mt
