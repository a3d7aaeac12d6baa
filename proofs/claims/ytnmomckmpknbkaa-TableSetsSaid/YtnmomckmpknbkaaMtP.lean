/-
  Mt, part P: the evaluator's steps say what the machine does.
-/
import Derived.Test.YtnmomckmpknbkaaMtO
import Derived.TacticsIn
import Derived.RangeFuncCalls
import Derived.RangeFuncRecord
set_option linter.unusedSimpArgs false
set_option linter.unusedVariables false
namespace Go.Mt
open Go.RowKit
section
variable {S S' : Nat → Prop} {P : Program} {w w' : World} {M M0 : Mem} {B : Nat} {W : World} {N : Nat} {mrk : Bool} {ops : List Oper} {rs : List (Nat × Nat)} {i : Nat} {st : St} {a : Act} {E : Env}

theorem boolA_ok {x : A} {g : Bool} {v : Value} (h : boolA x = some g) (r : RA M x v) : v = .bool g := by
  unfold boolA at h
  split at h
  · cases h; exact r.val_inv
  · cases h

theorem rdP_ok (hS : SatP N mrk B W M0 ops rs S st M a w) {Γ : List (Nat × Bool)} (hΓ : ∀ p ∈ Γ, yielded ops.toArray a.tmps p.1 = some p.2) {tc : Nat} {want : Bool} (htc : a.eval (.tmp tc) = .bool want) :
    ∀ o x, rdP ops st.f Γ tc want o = some x → RA M x (a.eval o) := by
  intro o x h
  cases o with
  | tmp t =>
    simp only [rdP] at h
    split at h
    · rename_i y hf; cases h
      obtain ⟨v, hv, hr⟩ := hS.f _ _ hf
      have : a.eval (.tmp t) = v := by simp [Act.eval, Array.getD_eq_getD_getElem?, hv]
      rw [this]; exact hr
    · rename_i j b y hf
      split at h
      · rename_i hm; cases h
        obtain ⟨v, hv, h1, h2⟩ := hS.f _ _ hf
        have : a.eval (.tmp t) = v := by simp [Act.eval, Array.getD_eq_getD_getElem?, hv]
        rw [this]
        refine h1 ?_
        rw [Bool.or_eq_true, Bool.and_eq_true] at hm
        rcases hm with hm | ⟨hb, hd⟩
        · exact hΓ _ (mem2_mem hm)
        · have := beqB_eq hb; subst this
          cases hdj : dstOf ops j with
          | none => rw [hdj] at hd; cases hd
          | some d =>
            rw [hdj] at hd
            simp only [oeq, Nat.beq_eq] at hd; subst hd
            rw [yielded_eq hdj]
            simp only [Act.eval, Array.getD_eq_getD_getElem?] at htc
            cases ht : a.tmps[d]? with
            | none => rw [ht] at htc; simp [undef] at htc
            | some u => rw [ht] at htc; simp at htc; subst htc; rfl
      · cases h
    · cases h
  | const v => exact constA_ok h
  | func f => cases h
  | global g => cases h

theorem pickE_eq (t : Bool) (oa ob : Operand) (p q : Bool) : pickE t oa ob p q = some (bool (pickB t oa ob p q)) := by
  unfold pickE pickB; split <;> rfl
theorem pickOp_ok (hS : SatP N mrk B W M0 ops rs S st M a w) {Γ : List (Nat × Bool)} (hΓ : ∀ p ∈ Γ, yielded ops.toArray a.tmps p.1 = some p.2) {c oa ob : Operand} {x : A} (h : pickOp ops st.f Γ c oa ob = some x)
    {dst : Option Nat} {ty : TypeId} {pos : String} {after : Array Edge} {guard : Option (Nat × Bool)} :
    ∃ v, (execOp a.eval ⟨dst, .pick c oa ob, ty, pos, after, guard⟩).run P w = .ok (.value v) w ∧ RA M x v := by
  unfold pickOp at h
  split at h
  · rename_i tc oa' ob'
    split at h
    · rename_i cx hc
      split at h
      · rename_i t xa xb ht ha hb
        split at h
        · rename_i p q hp hq; rw [pickE_eq] at h; cases h
          have htc := boolA_ok ht (rdG_ok hS hΓ _ _ hc)
          refine ⟨if t then a.eval oa else a.eval ob, by simp [execOp, htc, asBool], ?_⟩
          cases t with
          | true =>
            have := boolA_ok hp (rdP_ok hS hΓ htc _ _ ha)
            have e : pickB true oa ob p q = p := by
              unfold pickB
              split
              · have hh : a.eval (.const (.bool true)) = .bool p := this
                cases hh; rfl
              · simp
              · rfl
            rw [e, if_pos rfl, this]; exact .c (.pv (.val rfl))
          | false =>
            have := boolA_ok hq (rdP_ok hS hΓ htc _ _ hb)
            have e : pickB false oa ob p q = q := by
              unfold pickB
              split
              · simp
              · have hh : a.eval (.const (.bool false)) = .bool q := this
                cases hh; rfl
              · rfl
            rw [e, if_neg (by simp), this]; exact .c (.pv (.val rfl))
        · cases h
      · cases h
    · cases h
  · cases h

theorem plain_ok (hT : TbOk P E.T) (hS : SatP N mrk B W M0 ops rs S st M a w) {Γ : List (Nat × Bool)} (hΓ : ∀ p ∈ Γ, yielded ops.toArray a.tmps p.1 = some p.2) {o : Oper} {x : A} {ob : Prop} (h : plainOp E ops Γ st.f st.H o = some (x, ob)) (hob : ob) :
    ∃ v, (execOp a.eval o).run P w = .ok (.value v) w ∧ RA M x v := by
  obtain ⟨dst, op, ty, pos, after, guard⟩ := o
  unfold plainOp at h
  split at h
  · rename_i c oa ob' hop
    simp only at hop; subst hop
    split at h
    · rename_i y hy; cases h
      exact pickOp_ok hS hΓ hy
    · cases h
  · exact pure_ok hT hS.h (rdG_ok hS hΓ) (fun _ => rfl) h hob

theorem pickF_ok (hS : SatP N mrk B W M0 ops rs S st M a w) {op : Op} {x : A} {ob : Prop} (h : pickF ops st.f op = some (x, ob)) (hob : ob) {dst : Option Nat} {ty : TypeId} {pos : String} {after : Array Edge} {guard : Option (Nat × Bool)} :
    ∃ v, (execOp a.eval ⟨dst, op, ty, pos, after, guard⟩).run P w = .ok (.value v) w ∧ RA M x v := by
  unfold pickF at h
  split at h
  · rename_i tc oa ob'
    split at h
    · rename_i cx hc
      split at h
      · rename_i t ht
        have htc := boolA_ok ht (rdG_ok hS (Γ := []) (by simp) _ _ hc)
        split at h
        · rename_i q ha hb; cases h
          subst hob
          obtain ⟨xb, hb, hq⟩ := boolO_some hb
          have := boolA_ok hq (rdP_ok hS (Γ := []) (by simp) htc _ _ hb)
          exact ⟨.bool q, by simp [execOp, htc, asBool, this], .c (.pv (.val rfl))⟩
        · rename_i q ha hb; cases h
          subst hob
          obtain ⟨xa, ha, hq⟩ := boolO_some ha
          have := boolA_ok hq (rdP_ok hS (Γ := []) (by simp) htc _ _ ha)
          exact ⟨.bool q, by simp [execOp, htc, asBool, this], .c (.pv (.val rfl))⟩
        · cases h
      · cases h
    · cases h
  · cases h

theorem stepU_okP (hT : TbOk P E.T) (hΨ : PsiOk P E) (hS : SatP E.N E.mrk B W M0 ops rs S st M a w) (hi : ¬ S i) (hSS : ∀ j, S j → S' j) {o : Oper} {K : Act → World → Prop} {Q : Exit → Act → World → Prop}
    (h : ∀ u, ∃ st' ob, stepU E ops rs i st.f st.H st.nx o u = some (st', ob) ∧ ob ∧ ∀ a' w' M', SatP E.N E.mrk B W M0 ops rs S' st' M' a' w' → K a' w') : o.wp P a w K Q := by
  cases hp : plainOp E ops [] st.f st.H o with
  | some r =>
    obtain ⟨x, ob⟩ := r
    obtain ⟨st', ob', h1, h2, h3⟩ := h undef
    simp only [stepU, hp] at h1
    split at h1
    · rename_i f hf; cases h1
      obtain ⟨v, g1, g2⟩ := plain_ok hT hS (by simp) hp h2
      exact wp_value g1 (h3 _ _ _ (hS.put hi hSS (Mem.ext_refl _ _) hS.h hf (put_defers _ _) (fun e' he => by cases he; exact g2) (by simp)))
    · cases h1
  | none =>
   cases hpf : pickF ops st.f o.op with
   | some r =>
    obtain ⟨x, ob⟩ := r
    obtain ⟨st', ob', h1, h2, h3⟩ := h undef
    simp only [stepU, hp, hpf] at h1
    split at h1
    · rename_i f hf; cases h1
      obtain ⟨dst, op, ty, pos, after, guard⟩ := o
      obtain ⟨v, g1, g2⟩ := pickF_ok hS hpf h2
      exact wp_value g1 (h3 _ _ _ (hS.put hi hSS (Mem.ext_refl _ _) hS.h hf (put_defers _ _) (fun e' he => by cases he; exact g2) (by simp)))
    · cases h1
   | none =>
    refine heap_ok hT hΨ hS.h (rdG_ok hS (Γ := []) (by simp)) (nx := st.nx) (fun u => ?_)
    obtain ⟨st', ob', h1, h2, h3⟩ := h u
    simp only [stepU, hp, hpf] at h1
    split at h1
    · rename_i x ob H nx hh
      split at h1
      · rename_i f hf; cases h1
        exact ⟨_, hh, h2, fun v w' M' hM hH hx => h3 _ _ _ (hS.put hi hSS hM hH hf (put_defers _ _) (fun e' he => by cases he; exact hx) (by simp))⟩
      · cases h1
    · cases h1

theorem stepOp_okP (hT : TbOk P E.T) (hΨ : PsiOk P E) {kn : Nat → Option Bool} (hS : SatP E.N E.mrk B W M0 ops rs S st M a w) (hi : ¬ S i) (hSS : ∀ j, S j → S' j) {o : Oper} (hgS : ∀ j b, o.guard = some (j, b) → S j) {K : Act → World → Prop} {Q : Exit → Act → World → Prop}
    (h : ∀ u, ∃ st' ob, stepOp E kn ops rs i st.f st.H st.nx o u = some (st', ob) ∧ ob ∧ ∀ a' w' M', SatP E.N E.mrk B W M0 ops rs S' st' M' a' w' → K a' w') :
    if Region.wanted o (yielded ops.toArray a.tmps) then o.wp P a w K Q else K (a.put o.dst undef) w := by
  cases hg : o.guard with
  | none =>
    rw [if_pos (by simp [Region.wanted, hg])]
    exact stepU_okP hT hΨ hS hi hSS (fun u => by
      obtain ⟨st', ob, h1, h2⟩ := h u
      simp only [stepOp, hg] at h1
      exact ⟨st', ob, h1, h2⟩)
  | some jb =>
    obtain ⟨j, b⟩ := jb
    have hwant : Region.wanted o (yielded ops.toArray a.tmps) = (yielded ops.toArray a.tmps j == some b) := by simp [Region.wanted, hg]
    obtain ⟨st0, ob0, h10, h20, h30⟩ := h undef
    have e0 := h10
    simp only [stepOp, hg] at e0
    split at e0
    · cases e0
    · rename_i dj hdj
      split at e0
      · rename_i k hjb hk
        have hjb0 := hjb
        simp only [Bool.and_eq_true, Nat.blt_eq] at hjb
        split at e0
        · rename_i c hc
          split at e0
          · rename_i g hgb
            obtain ⟨v, hv, hr⟩ := hS.f _ _ hc
            have hvb := boolA_ok hgb hr
            have hy : yielded ops.toArray a.tmps j = some g := by rw [yielded_eq hdj, hv, hvb]
            split at e0
            · rename_i hbk
              have := beqB_eq hbk; subst this
              split at e0
              · rename_i st' ob' hst; cases e0
                obtain ⟨rfl, _⟩ := h20
                rw [hwant, hy, if_pos (by simp)]
                exact stepU_okP hT hΨ hS hi hSS (fun u => by
                  obtain ⟨st', ob, h1, h2, h3⟩ := h u
                  simp only [stepOp, hg, hdj, hjb0, hk, hc, hgb, hbk] at h1
                  split at h1
                  · rename_i st'' ob'' hst'; cases h1
                    exact ⟨_, _, hst', h2.2, h3⟩
                  · cases h1)
              · cases e0
            · rename_i hbk
              split at e0
              · rename_i f hf; cases e0
                subst h20
                have hne : g ≠ b := by intro e; subst e; cases g <;> simp [beqB] at hbk
                rw [hwant, hy, if_neg (by simpa using hne)]
                exact h30 _ _ _ (hS.put hi hSS (Mem.ext_refl _ _) hS.h hf (put_defers _ _) (fun e' he => by cases he; exact undef_ok _) (by simp))
              · cases e0
          · split at e0
            · rename_i hund
              split at e0
              · rename_i f hf; cases e0
                obtain ⟨v, hv, hr⟩ := hS.f _ _ hc
                have hvu : ∃ us : Array Value, v = .tuple us := by
                  unfold isUnd at hund
                  split at hund
                  · have hr' : RA _ (.t []) v := hr
                    cases hr' with | t => exact ⟨_, rfl⟩
                  · cases hund
                obtain ⟨us, rfl⟩ := hvu
                have hy : yielded ops.toArray a.tmps j = none := by rw [yielded_eq hdj, hv]
                rw [hwant, hy, if_neg (by simp)]
                exact h30 _ _ _ (hS.put hi hSS (Mem.ext_refl _ _) hS.h hf (put_defers _ _) (fun e' he => by cases he; exact undef_ok _) (by simp))
              · cases e0
            · cases e0
        · cases e0
      · rename_i hjb hk
        simp only [Bool.and_eq_true, Nat.blt_eq] at hjb
        split at e0
        · rename_i x ob hp
          split at e0
          · rename_i ob' f hob hf; cases e0
            have hne : ∀ (d : Nat) v, o.dst = some d → yielded ops.toArray (a.put (some d) v).tmps j = yielded ops.toArray a.tmps j := by
              intro d v hd
              rw [yielded_eq hdj, yielded_eq hdj, get_put, if_neg]
              intro e
              rw [hd] at hf
              simp only [putS] at hf
              split at hf
              · rename_i hc
                simp only [Bool.and_eq_true] at hc
                have := gfree_ok hc.2 j dj (has2_mem hjb.2) e
                omega
              · cases hf
            have hne' : ∀ v, yielded ops.toArray (a.put o.dst v).tmps j = yielded ops.toArray a.tmps j := by
              intro v
              cases hd : o.dst with
              | none => rfl
              | some d => exact hne d v hd
            by_cases hy : yielded ops.toArray a.tmps j = some b
            · rw [hwant, hy, if_pos (by simp)]
              have hΓ := chain_ok hS 5 j b hy
              have hobb := gobs_ok hS _ _ _ hob h20 hΓ
              obtain ⟨v, g1, g2⟩ := plain_ok hT hS hΓ hp hobb
              exact wp_value g1 (h30 _ _ _ (hS.put hi hSS (Mem.ext_refl _ _) hS.h hf (put_defers _ _) (fun e' he => by
                cases he; exact ⟨fun _ => g2, fun hh => absurd ((hne' v).trans hy) hh⟩) (fun j' b' x' he => by cases he; exact ⟨hgS j b hg, dj, hdj, has2_mem hjb.2⟩)))
            · rw [hwant, if_neg (by simpa using hy)]
              exact h30 _ _ _ (hS.put hi hSS (Mem.ext_refl _ _) hS.h hf (put_defers _ _) (fun e' he => by
                cases he; exact ⟨fun hh => absurd ((hne' undef).symm.trans hh) hy, fun _ => rfl⟩) (fun j' b' x' he => by cases he; exact ⟨hgS j b hg, dj, hdj, has2_mem hjb.2⟩))
          · cases e0
        · cases e0
      · cases e0

theorem stepOp_ok (hT : TbOk P E.T) (hΨ : PsiOk P E) {kn : Nat → Option Bool} (hS : Sat E.N E.mrk B W M0 ops rs i st M a w) {o : Oper} {K : Act → World → Prop} {Q : Exit → Act → World → Prop}
    (h : ∀ u, ∃ st' ob, stepOp E kn ops rs i st.f st.H st.nx o u = some (st', ob) ∧ ob ∧ ∀ a' w' M', Sat E.N E.mrk B W M0 ops rs (i + 1) st' M' a' w' → K a' w') :
    if Region.wanted o (yielded ops.toArray a.tmps) then o.wp P a w K Q else K (a.put o.dst undef) w := by
  refine stepOp_okP hT hΨ hS (i := i) (S' := fun j => j < i + 1) (by omega) (fun j hj => by omega) (kn := kn) (fun j b hg => ?_) h
  obtain ⟨st', ob, h1, _⟩ := h undef
  simp only [stepOp, hg] at h1
  split at h1
  · cases h1
  · split at h1
    · rename_i hjb _; simp only [Bool.and_eq_true, Nat.blt_eq] at hjb; exact hjb.1
    · rename_i hjb _; simp only [Bool.and_eq_true, Nat.blt_eq] at hjb; exact hjb.1
    · cases h1

/-- The frame's make: a plain one (walked plainly; or so that it may call yield), or a round's. -/
def fce : Option Nat → Fence
  | none => Fence.wide
  | some 0 => Fence.wide
  | some (l + 1) => Fence.wide.inRound l
def lwp (ro : Option Nat) (P : Program) (ops : Array Oper) (Q : Exit → Act → World → Prop) (l : List Oper) (a : Act) (w : World) : Prop := match ro with
  | none => wpList P ops Q l a w
  | some r => (∀ o, o ∈ l → ∀ c, o.op ≠ .defer c) → wpListIn (fce (some r)) 0 P ops Q l a w
theorem fce_fn (r : Nat) (f : FuncId) : (fce (some r)).fn f := by cases r <;> trivial
theorem fce_depth (r : Nat) : (fce (some r)).depth = none := by cases r <;> rfl
theorem fce_calls {r n : Nat} {P : Program} {f : FuncId} {args : Array Value} {w : World} {R : Ending → World → Prop} (h : Calls P f args w R) : CallsIn (fce (some r)) n P f args w R := by
  cases r with
  | zero => exact callsIn_wide.2 h
  | succ l => exact CallsIn.inRound l (callsIn_wide.2 h)
theorem fce_steps {r : Nat} {P : Program} {m m' : Machine} (h : Steps P m m') : StepsIn (Machine.fenced P (fce (some r))) P m m' := by
  cases r with
  | zero => exact stepsIn_wide.2 h
  | succ l => exact stepsIn_wide.2 h
theorem opwp_in {o : Oper} {r : Nat} {K : Act → World → Prop} {Q : Exit → Act → World → Prop} (hnd : ∀ c, o.op ≠ .defer c) (h : o.wp P a w K Q) : o.wpIn (fce (some r)) 0 P a w K Q := by
  refine ⟨fun f _ => fce_fn r f, ?_⟩
  rw [Oper.semAt_eq _ _ _ hnd]
  unfold Oper.wp at h
  generalize (execOp a.eval o).run P w = res at h ⊢
  cases res with
  | ok x w' =>
    cases x with
    | value v => exact h
    | skip => exact h
    | defer d => exact h
    | enter f args => exact ⟨fun e => (by rw [fce_depth] at e; cases e), fce_calls h⟩
    | row row args => exact ⟨fun e => (by rw [fce_depth] at e; cases e), fun c cs _ => let ⟨v, w2, q1, q2⟩ := h c cs; ⟨v, w2, q1, fce_steps q2⟩⟩
    | _ => exact h.elim
  | halt x w' =>
    cases x with
    | panic v => exact h
    | _ => exact h.elim
theorem lwp_nil {ro : Option Nat} {Q : Exit → Act → World → Prop} {ops : Array Oper} (h : Q .normal a w) : lwp ro P ops Q [] a w := by
  cases ro with
  | none => exact wpList_nil (P := P) (ops := ops) h
  | some r => exact fun _ => wpListIn_nil (P := P) (ops := ops) h
theorem lwp_step {ro : Option Nat} {Q : Exit → Act → World → Prop} {ops : Array Oper} {o : Oper} {rest : List Oper}
    (h : ∀ K : Act → World → Prop, (∀ a w, lwp ro P ops Q rest a w → K a w) → if Region.wanted o (yielded ops a.tmps) then o.wp P a w K Q else K (a.put o.dst undef) w) : lwp ro P ops Q (o :: rest) a w := by
  cases ro with
  | none => exact wpList_step h
  | some r =>
    intro hnd
    refine wpListIn_step fun K hK => ?_
    have := h K (fun a w hl => hK a w (hl fun o ho => hnd o (List.mem_cons_of_mem _ ho)))
    split
    · rename_i hw; rw [if_pos hw] at this; exact opwp_in (hnd o (by simp)) this
    · rename_i hw; rw [if_neg hw] at this; exact ⟨fun f _ => fce_fn r f, this⟩

theorem evalOps_ok (hT : TbOk P E.T) (hΨ : PsiOk P E) {kn : Nat → Option Bool} {Q : Exit → Act → World → Prop} : ∀ (l : List Oper) (i : Nat) (st : St) (M : Mem) (a : Act) (w : World), Sat E.N E.mrk B W M0 ops rs i st M a w →
    (∀ bs, (evalOps E kn ops rs l i st bs).ob ∧ ∀ a' w' M', Sat E.N E.mrk B W M0 ops rs (evalOps E kn ops rs l i st bs).i (evalOps E kn ops rs l i st bs).st M' a' w' → lwp E.ro P ops.toArray Q (evalOps E kn ops rs l i st bs).rest a' w') →
    lwp E.ro P ops.toArray Q l a w := by
  intro l
  induction l with
  | nil =>
    intro i st M a w hS h
    exact (h (fun _ => undef)).2 a w M hS
  | cons o l ih =>
    intro i st M a w hS h
    obtain ⟨f, H, nx⟩ := st
    by_cases hex : ∃ u, stepOp E kn ops rs i f H nx o u = none
    · obtain ⟨u, hu⟩ := hex
      have := (h (fun _ => u)).2
      simp only [evalOps, hu] at this
      exact this a w M hS
    · refine lwp_step fun K hK => stepOp_ok hT hΨ hS (kn := kn) fun u => ?_
      cases hst : stepOp E kn ops rs i f H nx o u with
      | none => exact absurd ⟨u, hst⟩ hex
      | some r =>
        obtain ⟨st', ob⟩ := r
        have hb := fun bs : Nat → Value => h (fun n => match n with | 0 => u | n + 1 => bs n)
        simp only [evalOps, hst] at hb
        have hob : ob := by
          have := (hb (fun _ => undef)).1
          split at this
          · exact this.1
          · exact this.elim
        refine ⟨st', ob, rfl, hob, fun a' w' M' hS' => hK _ _ (ih (i + 1) st' M' a' w' hS' fun bs => ?_)⟩
        have := hb bs
        cases hr : evalOps E kn ops rs l (i + 1) st' bs with
        | mk r i' st'' ob' => rw [hr] at this; exact ⟨this.1.2, this.2⟩
        | bad => rw [hr] at this; exact this.1.elim
end
end Go.Mt
