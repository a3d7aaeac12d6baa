/-
  Mt, part O: a region's operations, one behind the other.
-/
import Derived.Test.YtnmomckmpknbkaaMtN
set_option linter.unusedSimpArgs false
set_option linter.unusedVariables false
namespace Go.Mt
open Go.RowKit

def dstOf (ops : List Oper) (j : Nat) : Option Nat := match nth ops j with
  | some o => o.dst
  | none => none
def beqB : Bool → Bool → Bool
  | true, true | false, false => true
  | _, _ => false
theorem beqB_eq {a b : Bool} (h : beqB a b = true) : a = b := by cases a <;> cases b <;> first | rfl | cases h
def mem2 (j : Nat) (b : Bool) : List (Nat × Bool) → Bool
  | [] => false
  | (j', b') :: l => (Nat.beq j j' && beqB b b') || mem2 j b l
theorem mem2_mem {j : Nat} {b : Bool} : ∀ {l : List (Nat × Bool)}, mem2 j b l = true → (j, b) ∈ l := by
  intro l
  induction l with
  | nil => intro h; cases h
  | cons x l ih =>
    intro h
    obtain ⟨j', b'⟩ := x
    simp only [mem2, Bool.or_eq_true, Bool.and_eq_true] at h
    rcases h with ⟨h1, h2⟩ | h
    · rw [Nat.beq_eq] at h1; have := beqB_eq h2; subst h1 this; exact List.mem_cons_self
    · exact List.mem_cons_of_mem _ (ih h)
/-- A guard, and those that it stands under. -/
def chainE (ops : List Oper) (f : Nat → Option Ent) : Nat → Nat → Bool → List (Nat × Bool)
  | 0, _, _ => []
  | n + 1, j, b => (j, b) :: match dstOf ops j with
    | some d => match f d with
      | some (.gd j' b' _) => chainE ops f n j' b'
      | _ => []
    | none => []
def boolOf : Ent → Option Bool
  | .u (.c (.pv (.val (.bool g)))) => some g
  | .gd _ _ (.c (.pv (.val (.bool g)))) => some g
  | _ => none
def gobs (ops : List Oper) (f : Nat → Option Ent) : List (Nat × Bool) → Prop → Option Prop
  | [], p => some p
  | (j, b) :: l, p => match dstOf ops j with
    | some d => match f d with
      | some e => match boolOf e with
        | some g => gobs ops f l (g = b → p)
        | none => none
      | none => none
    | none => none
def rdG (f : Nat → Option Ent) (Γ : List (Nat × Bool)) : Operand → Option A
  | .tmp t => match f t with
    | some (.u x) => some x
    | some (.gd j b x) => match mem2 j b Γ with
      | true => some x
      | false => none
    | none => none
  | .const v => constA v
  | .func f => some (.c (.clo f []))
  | .global _ => none
def oeq : Option Nat → Nat → Bool
  | some a, b => Nat.beq a b
  | none, _ => false
def rdP (ops : List Oper) (f : Nat → Option Ent) (Γ : List (Nat × Bool)) (tc : Nat) (want : Bool) : Operand → Option A
  | .tmp t => match f t with
    | some (.u x) => some x
    | some (.gd j b x) => match mem2 j b Γ || (beqB b want && oeq (dstOf ops j) tc) with
      | true => some x
      | false => none
    | none => none
  | .const v => constA v
  | _ => none
def boolA : A → Option Bool
  | .c (.pv (.val (.bool g))) => some g
  | _ => none
def pickB (t : Bool) (oa ob : Operand) (p q : Bool) : Bool := match oa, ob with
  | .const (.bool true), _ => t || q
  | _, .const (.bool false) => t && p
  | _, _ => match t with | true => p | false => q
def pickE (t : Bool) (oa ob : Operand) (p q : Bool) : Option A := match oa, ob with
  | .const (.bool true), _ => some (bool (t || q))
  | _, .const (.bool false) => some (bool (t && p))
  | _, _ => some (bool (match t with | true => p | false => q))
def pickOp (ops : List Oper) (f : Nat → Option Ent) (Γ : List (Nat × Bool)) : Operand → Operand → Operand → Option A
  | .tmp tc, oa, ob => match rdG f Γ (.tmp tc) with
    | some c => match boolA c, rdP ops f Γ tc true oa, rdP ops f Γ tc false ob with
      | some t, some xa, some xb => match boolA xa, boolA xb with
        | some p, some q => pickE t oa ob p q
        | _, _ => none
      | _, _, _ => none
    | none => none
  | _, _, _ => none
def memN (d : Nat) : List Nat → Bool
  | [] => false
  | x :: l => Nat.beq d x || memN d l
def gfree (i d : Nat) : List (Nat × Nat) → Bool
  | [] => true
  | (j, dj) :: l => (!Nat.beq dj d || Nat.beq j i) && gfree i d l
def refsOf (ops : List Oper) : List Oper → List (Nat × Nat)
  | [] => []
  | o :: l => match o.guard with
    | some (j, _) => match dstOf ops j with
      | some d => (j, d) :: refsOf ops l
      | none => refsOf ops l
    | none => refsOf ops l
def has2 (j d : Nat) : List (Nat × Nat) → Bool
  | [] => false
  | (j', d') :: l => (Nat.beq j j' && Nat.beq d d') || has2 j d l
/-- The slot behind an operation. -/
def putS (N i : Nat) (rs : List (Nat × Nat)) (f : Nat → Option Ent) (d : Option Nat) (e : Option Ent) : Option (Nat → Option Ent) := match d with
  | none => some f
  | some d => match Nat.blt d N && gfree i d rs with
    | true => some (updF f d e)
    | false => none
def plainOp (E : Env) (ops : List Oper) (Γ : List (Nat × Bool)) (f : Nat → Option Ent) (H : Nat → Option HB) (o : Oper) : Option (A × Prop) := match o.op with
  | .pick c a b => match pickOp ops f Γ c a b with
    | some x => some (x, True)
    | none => none
  | op => pureOp E.T H (match o.dst with | some d => memN d E.ws | none => false) (rdG f Γ) o.type op
def boolO : Option A → Option Bool
  | some a => boolA a
  | none => none
theorem boolO_some {x : Option A} {b : Bool} (h : boolO x = some b) : ∃ a, x = some a ∧ boolA a = some b := by
  cases x with
  | none => cases h
  | some a => exact ⟨a, rfl, h⟩
/-- What stands where an operation was passed over. -/
abbrev und0 : A := .t []
def isUnd : A → Bool
  | .t [] => true
  | _ => false
/-- A choice of which one side was passed over. -/
def pickF (ops : List Oper) (f : Nat → Option Ent) : Op → Option (A × Prop)
  | .pick (.tmp tc) oa ob => match rdG f [] (.tmp tc) with
    | some c => match boolA c with
      | some t => match boolO (rdP ops f [] tc true oa), boolO (rdP ops f [] tc false ob) with
        | none, some q => some (bool q, t = false)
        | some p, none => some (bool p, t = true)
        | _, _ => none
      | none => none
    | none => none
  | _ => none
def stepU (E : Env) (ops : List Oper) (rs : List (Nat × Nat)) (i : Nat) (f : Nat → Option Ent) (H : Nat → Option HB) (nx : Nat) (o : Oper) (u : Value) : Option (St × Prop) :=
  match plainOp E ops [] f H o with
  | some (x, ob) => match putS E.N i rs f o.dst (some (.u x)) with
    | some f => some (⟨f, H, nx⟩, ob)
    | none => none
  | none => match pickF ops f o.op with
    | some (x, ob) => match putS E.N i rs f o.dst (some (.u x)) with
      | some f => some (⟨f, H, nx⟩, ob)
      | none => none
    | none => match heapOp E H nx (rdG f []) u o.op with
      | some ⟨x, ob, H, nx⟩ => match putS E.N i rs f o.dst (some (.u x)) with
        | some f => some (⟨f, H, nx⟩, ob)
        | none => none
      | none => none
def stepOp (E : Env) (kn : Nat → Option Bool) (ops : List Oper) (rs : List (Nat × Nat)) (i : Nat) (f : Nat → Option Ent) (H : Nat → Option HB) (nx : Nat) (o : Oper) (u : Value) : Option (St × Prop) :=
  match o.guard with
  | none => stepU E ops rs i f H nx o u
  | some (j, b) => match dstOf ops j with
    | none => none
    | some dj => match Nat.blt j i && has2 j dj rs, kn j with
      | true, some k => match f dj with
        | some (.u c) => match boolA c with
          | some g => match beqB b k with
            | true => match stepU E ops rs i f H nx o u with
              | some (st', ob) => some (st', g = k ∧ ob)
              | none => none
            | false => match putS E.N i rs f o.dst (some (.u und0)) with
              | some f => some (⟨f, H, nx⟩, g = k)
              | none => none
          | none => match isUnd c with
            | true => match putS E.N i rs f o.dst (some (.u und0)) with
              | some f => some (⟨f, H, nx⟩, True)
              | none => none
            | false => none
        | _ => none
      | true, none => match plainOp E ops (chainE ops f 5 j b) f H o with
        | some (x, ob) => match gobs ops f (chainE ops f 5 j b) ob, putS E.N i rs f o.dst (some (.gd j b x)) with
          | some ob', some f => some (⟨f, H, nx⟩, ob')
          | _, _ => none
        | none => none
      | false, _ => none

/-- (Two makes, so that a match on it reckons.) -/
inductive ER where
  | mk (rest : List Oper) (i : Nat) (st : St) (ob : Prop)
  | bad
def ER.rest : ER → List Oper | .mk r _ _ _ => r | .bad => []
def ER.i : ER → Nat | .mk _ i _ _ => i | .bad => 0
def ER.st : ER → St | .mk _ _ st _ => st | .bad => ⟨fun _ => none, fun _ => none, 0⟩
def ER.ob : ER → Prop | .mk _ _ _ ob => ob | .bad => False
def evalOps (E : Env) (kn : Nat → Option Bool) (ops : List Oper) (rs : List (Nat × Nat)) : List Oper → Nat → St → (Nat → Value) → ER
  | [], i, st, _ => .mk [] i st True
  | o :: l, i, ⟨f, H, nx⟩, bs => match stepOp E kn ops rs i f H nx o (bs 0) with
    | some (st', ob) => match evalOps E kn ops rs l (i + 1) st' (fun n => bs (n + 1)) with
      | .mk r i' st'' ob' => .mk r i' st'' (ob ∧ ob')
      | .bad => .bad
    | none => .mk (o :: l) i ⟨f, H, nx⟩ True

/-! ### soundness -/
def EntOk (ops : Array Oper) (M : Mem) (tmps : Array Value) : Ent → Value → Prop
  | .u x, v => RA M x v
  | .gd j b x, v => (yielded ops tmps j = some b → RA M x v) ∧ (yielded ops tmps j ≠ some b → v = undef)

/-- What an activation has put by: marks of ranges over functions; what did not change at the start does not. -/
abbrev mark (D : Nat) : Deferred := { target := .collected D, args := #[] }
structure DK (mrk : Bool) (B : Nat) (M0 M : Mem) (a : Act) : Prop where
  df : ∃ Ds : List Nat, (mrk = false → Ds = []) ∧ Ds.Nodup ∧ a.defers = Ds.map mark ∧ ∀ D, D ∈ Ds → B ≤ D ∧ M D = some (.deferred (some []))
  kp : M0.le M
theorem DK.nil {mrk : Bool} {B : Nat} {M0 M : Mem} {a : Act} (h : a.defers = []) (hk : M0.le M) : DK mrk B M0 M a := ⟨⟨[], fun _ => rfl, List.nodup_nil, h, fun _ h => by cases h⟩, hk⟩
theorem DK.mono {mrk : Bool} {B : Nat} {M0 M M' : Mem} {a a' : Act} (h : DK mrk B M0 M a) (hM : M.le M') (ha : a'.defers = a.defers) : DK mrk B M0 M' a' := by
  refine ⟨?_, Mem.le_trans h.kp hM⟩
  obtain ⟨Ds, h0, h1, h2, h3⟩ := h.df
  exact ⟨Ds, h0, h1, by rw [ha]; exact h2, fun D hD => ⟨(h3 D hD).1, hM _ _ (h3 D hD).2⟩⟩
structure SatP (N : Nat) (mrk : Bool) (B : Nat) (W : World) (M0 : Mem) (ops : List Oper) (rs : List (Nat × Nat)) (S : Nat → Prop) (st : St) (M : Mem) (a : Act) (w : World) : Prop where
  h : SatH B W st.H M w
  old : ∀ k o, M k = some o → k < B → M0 k = some o
  d : DK mrk B M0 M a
  n : a.tmps.size = N
  f : ∀ s e, st.f s = some e → ∃ v, a.tmps[s]? = some v ∧ EntOk ops.toArray M a.tmps e v
  g : ∀ s j b x, st.f s = some (.gd j b x) → S j ∧ ∃ d, dstOf ops j = some d ∧ (j, d) ∈ rs
/-- In the text's own order: the operations ahead of number 'i' are done. -/
abbrev Sat (N : Nat) (mrk : Bool) (B : Nat) (W : World) (M0 : Mem) (ops : List Oper) (rs : List (Nat × Nat)) (i : Nat) (st : St) (M : Mem) (a : Act) (w : World) : Prop := SatP N mrk B W M0 ops rs (fun j => j < i) st M a w

section
variable {S S' : Nat → Prop} {P : Program} {w w' : World} {M M0 : Mem} {B : Nat} {W : World} {N : Nat} {mrk : Bool} {ops : List Oper} {rs : List (Nat × Nat)} {i : Nat} {st : St} {a : Act}

theorem yielded_eq {tmps : Array Value} {j d : Nat} (h : dstOf ops j = some d) : yielded ops.toArray tmps j = match tmps[d]? with | some (.bool b) => some b | _ => none := by
  unfold dstOf at h
  rw [nth_eq] at h
  cases ho : ops[j]? with
  | none => simp [ho] at h
  | some o => simp only [ho] at h; simp [yielded, ho, h]; rfl

theorem EntOk.mono {M' : Mem} (hM : M.le M') {tmps : Array Value} {e : Ent} {v : Value} (h : EntOk ops.toArray M tmps e v) : EntOk ops.toArray M' tmps e v := by
  cases e with
  | u x => exact RA.mono hM h
  | gd j b x => exact ⟨fun hy => (h.1 hy).mono hM, h.2⟩

theorem chain_ok (hS : SatP N mrk B W M0 ops rs S st M a w) : ∀ (n j : Nat) (b : Bool), yielded ops.toArray a.tmps j = some b → ∀ p ∈ chainE ops st.f n j b, yielded ops.toArray a.tmps p.1 = some p.2 := by
  intro n
  induction n with
  | zero => intro j b _ p hp; cases hp
  | succ n ih =>
    intro j b hy p hp
    simp only [chainE, List.mem_cons] at hp
    rcases hp with rfl | hp
    · exact hy
    · split at hp
      · rename_i d hd
        split at hp
        · rename_i j' b' x hf
          refine ih j' b' ?_ p hp
          obtain ⟨v, hv, h1, h2⟩ := hS.f _ _ hf
          rw [yielded_eq hd, hv] at hy
          cases hyy : decide (yielded ops.toArray a.tmps j' = some b') with
          | true => exact of_decide_eq_true hyy
          | false => rw [h2 (of_decide_eq_false hyy)] at hy; cases hy
        · cases hp
      · cases hp

theorem rdG_ok (hS : SatP N mrk B W M0 ops rs S st M a w) {Γ : List (Nat × Bool)} (hΓ : ∀ p ∈ Γ, yielded ops.toArray a.tmps p.1 = some p.2) : ∀ o x, rdG st.f Γ o = some x → RA M x (a.eval o) := by
  intro o x h
  cases o with
  | tmp t =>
    simp only [rdG] at h
    split at h
    · rename_i y hf; cases h
      obtain ⟨v, hv, hr⟩ := hS.f _ _ hf
      have : a.eval (.tmp t) = v := by simp [Act.eval, Array.getD_eq_getD_getElem?, hv]
      rw [this]; exact hr
    · rename_i j b y hf
      split at h
      · rename_i hm; cases h
        obtain ⟨v, hv, h1, h2⟩ := hS.f _ _ hf
        have : a.eval (.tmp t) = v := by simp [Act.eval, Array.getD_eq_getD_getElem?, hv]
        rw [this]; exact h1 (hΓ _ (mem2_mem hm))
      · cases h
    · cases h
  | const v => exact constA_ok h
  | func f => cases h; exact .c (.clo (by rfl) (by simp))
  | global g => cases h

theorem gobs_ok (hS : SatP N mrk B W M0 ops rs S st M a w) : ∀ (Γ : List (Nat × Bool)) (p q : Prop), gobs ops st.f Γ p = some q → q → (∀ x ∈ Γ, yielded ops.toArray a.tmps x.1 = some x.2) → p := by
  intro Γ
  induction Γ with
  | nil => intro p q h hq _; cases h; exact hq
  | cons x Γ ih =>
    intro p q h hq hy
    obtain ⟨j, b⟩ := x
    simp only [gobs] at h
    split at h
    · rename_i d hd
      split at h
      · rename_i e he
        split at h
        · rename_i g hg
          refine ih _ q h hq (fun x hx => hy x (List.mem_cons_of_mem _ hx)) ?_
          have hyj := hy (j, b) List.mem_cons_self
          simp only at hyj
          obtain ⟨v, hv, hr⟩ := hS.f _ _ he
          rw [yielded_eq hd, hv] at hyj
          unfold boolOf at hg
          split at hg
          · cases hg
            have := RA.val_inv hr; subst this
            simpa using hyj
          · rename_i j' b' g'
            cases hg
            obtain ⟨h1, h2⟩ := hr
            by_cases hyy : yielded ops.toArray a.tmps j' = some b'
            · have := (h1 hyy).val_inv; subst this
              simpa using hyj
            · rw [h2 hyy] at hyj; cases hyj
          · cases hg
        · cases h
      · cases h
    · cases h

theorem has2_mem {j d : Nat} : ∀ {l : List (Nat × Nat)}, has2 j d l = true → (j, d) ∈ l := by
  intro l
  induction l with
  | nil => intro h; cases h
  | cons x l ih =>
    intro h
    obtain ⟨j', d'⟩ := x
    simp only [has2, Bool.or_eq_true, Bool.and_eq_true, Nat.beq_eq] at h
    rcases h with ⟨rfl, rfl⟩ | h
    · exact List.mem_cons_self
    · exact List.mem_cons_of_mem _ (ih h)
theorem gfree_ok {i d : Nat} : ∀ {l : List (Nat × Nat)}, gfree i d l = true → ∀ j dj, (j, dj) ∈ l → dj = d → j = i := by
  intro l
  induction l with
  | nil => intro _ j dj h; cases h
  | cons x l ih =>
    intro h j dj hm e
    obtain ⟨j', d'⟩ := x
    simp only [gfree, Bool.and_eq_true, Bool.or_eq_true, Bool.not_eq_true', Nat.beq_eq] at h
    rcases List.mem_cons.1 hm with h1 | h1
    · cases h1
      rcases h.1 with h2 | h2
      · subst e; simp at h2
      · exact h2
    · exact ih h.2 j dj h1 e

theorem get_put {a : Act} {d s : Nat} {v : Value} : (a.put (some d) v).tmps[s]? = if s = d then (if d < a.tmps.size then some v else none) else a.tmps[s]? := by
  simp only [Act.put, Array.getElem?_setIfInBounds]
  by_cases h : d = s
  · subst h; simp
  · rw [if_neg h, if_neg (fun e => h e.symm)]

/-- THE SLOT WRITTEN: what is known goes on. -/
theorem SatP.put (hS : SatP N mrk B W M0 ops rs S st M a w) (hi : ¬ S i) (hSS : ∀ j, S j → S' j) {M' : Mem} {H' : Nat → Option HB} {nx' : Nat} {f' : Nat → Option Ent} {w' : World} {dst : Option Nat} {e : Option Ent} {v : Value} (hM : Mem.ext B M M') (hH : SatH B W H' M' w')
    (hp : putS N i rs st.f dst e = some f') (hdef : (a.put dst v).defers = a.defers)
    (he : ∀ e', e = some e' → EntOk ops.toArray M' (a.put dst v).tmps e' v) (hg : ∀ j b x, e = some (.gd j b x) → S j ∧ ∃ d, dstOf ops j = some d ∧ (j, d) ∈ rs) :
    SatP N mrk B W M0 ops rs S' ⟨f', H', nx'⟩ M' (a.put dst v) w' := by
  unfold putS at hp
  split at hp
  · cases hp
    exact ⟨hH, fun k o e hk => hS.old k o (hM.2 k o e hk) hk, hS.d.mono hM.1 hdef, hS.n, fun s e h => let ⟨v, h1, h2⟩ := hS.f s e h; ⟨v, h1, h2.mono hM.1⟩, fun s j b x h => let ⟨h1, h2⟩ := hS.g s j b x h; ⟨hSS _ h1, h2⟩⟩
  · rename_i d
    split at hp
    · rename_i hc; cases hp
      simp only [Bool.and_eq_true, Nat.blt_eq] at hc
      obtain ⟨hlt, hgf⟩ := hc
      have hyield : ∀ j dj, dstOf ops j = some dj → (j, dj) ∈ rs → S j → yielded ops.toArray (a.put (some d) v).tmps j = yielded ops.toArray a.tmps j := by
        intro j dj h1 h2 h3
        rw [yielded_eq h1, yielded_eq h1, get_put, if_neg]
        intro e; have := gfree_ok hgf j dj h2 e; subst this; exact hi h3
      refine ⟨hH, fun k o e hk => hS.old k o (hM.2 k o e hk) hk, hS.d.mono hM.1 hdef, by simp [Act.put, hS.n], fun s e0 h => ?_, fun s j b x h => ?_⟩
      · simp only [updF] at h
        split at h
        · rename_i hb; rw [Nat.beq_eq] at hb; subst hb
          refine ⟨v, by rw [get_put, if_pos rfl, if_pos (by rw [hS.n]; exact hlt)], he _ h⟩
        · rename_i hb
          have hne : s ≠ d := fun e => by subst e; simp at hb
          obtain ⟨u, h1, h2⟩ := hS.f s e0 h
          refine ⟨u, by rw [get_put, if_neg hne]; exact h1, ?_⟩
          cases e0 with
          | u x => exact RA.mono hM.1 h2
          | gd j b x =>
            obtain ⟨g1, dj, g2, g3⟩ := hS.g s j b x h
            refine ⟨fun hy => ?_, fun hy => ?_⟩
            · rw [hyield j dj g2 g3 g1] at hy; exact (h2.1 hy).mono hM.1
            · rw [hyield j dj g2 g3 g1] at hy; exact h2.2 hy
      · simp only [updF] at h
        split at h
        · obtain ⟨h1, h2⟩ := hg j b x h; exact ⟨hSS _ h1, h2⟩
        · obtain ⟨h1, h2⟩ := hS.g s j b x h; exact ⟨hSS _ h1, h2⟩
    · cases hp

theorem put_defers {a : Act} (d : Option Nat) (v : Value) : (a.put d v).defers = a.defers := by cases d <;> rfl
end
end Go.Mt
