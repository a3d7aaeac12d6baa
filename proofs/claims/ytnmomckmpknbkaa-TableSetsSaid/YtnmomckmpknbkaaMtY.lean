/-
  Mt, part Y: a step of a region that draws its order.
-/
import Derived.Test.YtnmomckmpknbkaaMtX
set_option linter.unusedSimpArgs false
set_option linter.unusedVariables false
namespace Go.Mt
open Go.RowKit

def unitD (E : Env) (ops : List Oper) (f : Nat → Option Ent) (H : Nat → Option HB) (nx : Nat) (o : Oper) (u : Value) : Option (A × Prop × Option HB × Option Nat) := match plainOp E ops [] f H o with
  | some (x, ob) => some (x, ob, none, none)
  | none => heapU E H nx (rdG f []) u o.op
def stepD (E : Env) (kn : Nat → Option Bool) (ops : List Oper) (rs : List (Nat × Nat)) (i : Nat) (f : Nat → Option Ent) (H : Nat → Option HB) (nx : Nat) (o : Oper) (u : Value) : Option (Option Ent × Prop × Option HB × Option Nat) :=
  match o.guard with
  | none => match unitD E ops f H nx o u with
    | some (x, ob, hb, kill) => some (some (.u x), ob, hb, kill)
    | none => none
  | some (j, b) => match dstOf ops j with
    | none => none
    | some dj => match Nat.blt j i && has2 j dj rs, kn j with
      | true, some k => match f dj with
        | some (.u c) => match boolA c with
          | some g => match beqB b k with
            | true => match unitD E ops f H nx o u with
              | some (x, ob, hb, kill) => some (some (.u x), g = k ∧ ob, hb, kill)
              | none => none
            | false => some (some (.u und0), g = k, none, none)
          | none => match isUnd c with
            | true => some (some (.u und0), True, none, none)
            | false => none
        | _ => none
      | true, none => match plainOp E ops (chainE ops f 5 j b) f H o with
        | some (x, ob) => match gobs ops f (chainE ops f 5 j b) ob with
          | some ob' => some (some (.gd j b x), ob', none, none)
          | none => none
        | none => none
      | false, _ => none

section
variable {E : Env} {f f' : Nat → Option Ent} {H H' : Nat → Option HB} {nx : Nat} {u : Value} {ops : List Oper} {rs : List (Nat × Nat)} {i : Nat} {o : Oper} {kn : Nat → Option Bool}

theorem heapU_plain {op : Op} {rd rd' : Operand → Option A} {T : Tb} {wm : Bool} {ty : TypeId} {r} (h : heapU E H nx rd u op = some r) : pureOp T H' wm rd' ty op = none := by
  unfold heapU at h
  split at h <;> first | rfl | cases h

theorem heapU_pickF {op : Op} {rd : Operand → Option A} {r} (h : heapU E H nx rd u op = some r) : pickF ops f op = none := by
  unfold heapU at h
  split at h <;> first | rfl | cases h

def putF (f : Nat → Option Ent) (d : Option Nat) (e : Option Ent) : Nat → Option Ent := match d with
  | some d => updF f d e
  | none => f
def dstOk (N i : Nat) (rs : List (Nat × Nat)) (d : Option Nat) : Bool := match d with
  | some d => Nat.blt d N && gfree i d rs
  | none => true
theorem putS_dst {N : Nat} {d : Option Nat} {e : Option Ent} (h : dstOk N i rs d = true) : putS N i rs f d e = some (putF f d e) := by
  cases d with
  | none => rfl
  | some d => simp only [dstOk] at h; simp only [putS, h, putF]

theorem unitD_stepU {x : A} {ob : Prop} {hb : Option HB} {kill : Option Nat} (hd : dstOk E.N i rs o.dst = true) (h : unitD E ops f H nx o u = some (x, ob, hb, kill)) :
    ∃ nx', stepU E ops rs i f H nx o u = some (⟨putF f o.dst (some (.u x)), updU H nx hb kill, nx'⟩, ob) := by
  unfold unitD at h
  split at h
  · rename_i x' ob' hp; cases h
    exact ⟨_, by simp only [stepU, hp, putS_dst hd, updU]; rfl⟩
  · rename_i hp
    obtain ⟨nx', h1⟩ := heapU_heapOp h
    exact ⟨nx', by simp only [stepU, hp, heapU_pickF h, h1, putS_dst hd]⟩
theorem stepD_stepOp {e : Option Ent} {ob : Prop} {hb : Option HB} {kill : Option Nat} (hd : dstOk E.N i rs o.dst = true) (h : stepD E kn ops rs i f H nx o u = some (e, ob, hb, kill)) :
    ∃ nx', stepOp E kn ops rs i f H nx o u = some (⟨putF f o.dst e, updU H nx hb kill, nx'⟩, ob) := by
  unfold stepD at h
  split at h
  · rename_i hg
    split at h
    · rename_i h1; cases h
      obtain ⟨nx', h2⟩ := unitD_stepU hd h1
      exact ⟨nx', by simp only [stepOp, hg, h2]⟩
    · cases h
  · rename_i j b hg
    split at h
    · cases h
    · rename_i dj hdj
      split at h
      · rename_i k hc hk
        split at h
        · rename_i c hf
          split at h
          · rename_i g hgb
            split at h
            · rename_i hbk
              split at h
              · rename_i h1; cases h
                obtain ⟨nx', h2⟩ := unitD_stepU hd h1
                exact ⟨nx', by simp only [stepOp, hg, hdj, hc, hk, hf, hgb, hbk, h2]⟩
              · cases h
            · rename_i hbk; cases h
              exact ⟨nx, by simp only [stepOp, hg, hdj, hc, hk, hf, hgb, hbk, putS_dst hd, updU]⟩
          · rename_i hgb
            split at h
            · rename_i hund; cases h
              exact ⟨nx, by simp only [stepOp, hg, hdj, hc, hk, hf, hgb, hund, putS_dst hd, updU]⟩
            · cases h
        · cases h
      · rename_i hc hk
        split at h
        · rename_i x ob1 hp
          split at h
          · rename_i hgo; cases h
            exact ⟨nx, by simp only [stepOp, hg, hdj, hc, hk, hp, hgo, putS_dst hd, updU]⟩
          · cases h
        · cases h
      · cases h

theorem pickOp_mono (hf : leF f f') {Γ : List (Nat × Bool)} {c a b : Operand} {x : A} (h : pickOp ops f Γ c a b = some x) : pickOp ops f' Γ c a b = some x := by
  unfold pickOp at h ⊢
  split at h
  · rename_i tc oa ob
    split at h
    · rename_i cx h1
      split at h
      · rename_i h2 h3 h4
        simp only [rdG_mono hf _ _ _ h1, h2, rdP_mono hf _ _ _ _ _ h3, rdP_mono hf _ _ _ _ _ h4]; exact h
      · cases h
    · cases h
  · cases h
theorem plainOp_mono (hf : leF f f') (hH : leF H H') {Γ : List (Nat × Bool)} {r} (h : plainOp E ops Γ f H o = some r) : plainOp E ops Γ f' H' o = some r := by
  unfold plainOp at h ⊢
  split at h
  · split at h
    · rename_i h1; rw [pickOp_mono hf h1]; exact h
    · cases h
  · exact pureOp_mono (rdG_mono hf Γ) hH h
theorem gobs_mono (hf : leF f f') : ∀ {Γ : List (Nat × Bool)} {p q : Prop}, gobs ops f Γ p = some q → gobs ops f' Γ p = some q := by
  intro Γ
  induction Γ with
  | nil => intro p q h; exact h
  | cons x Γ ih =>
    intro p q h
    obtain ⟨j, b⟩ := x
    simp only [gobs] at h ⊢
    split at h
    · split at h
      · rename_i h1; simp only [hf _ _ h1]
        split at h
        · exact ih h
        · cases h
      · cases h
    · cases h
theorem chainE_mono (hf : leF f f') : ∀ {n j : Nat} {b : Bool} {p q : Prop}, gobs ops f (chainE ops f n j b) p = some q → chainE ops f' n j b = chainE ops f n j b := by
  intro n
  induction n with
  | zero => intro j b p q h; rfl
  | succ n ih =>
    intro j b p q h
    simp only [chainE, gobs] at h ⊢
    cases hd : dstOf ops j with
    | none => rfl
    | some d =>
      simp only [hd] at h ⊢
      cases he : f d with
      | none => simp [he] at h
      | some e =>
        simp only [he, hf _ _ he] at h ⊢
        cases e with
        | u x => rfl
        | gd j' b' x =>
          simp only at h ⊢
          split at h
          · rw [ih h]
          · cases h
theorem unitD_mono (hf : leF f f') (hH : leF H H') {r} (h : unitD E ops f H nx o u = some r) : unitD E ops f' H' nx o u = some r := by
  unfold unitD at h ⊢
  split at h
  · rename_i h1; rw [plainOp_mono hf hH h1]; exact h
  · rename_i h1
    have h2 : plainOp E ops [] f' H' o = none := by
      unfold plainOp
      split
      · rename_i hop; rw [hop] at h; cases h
      · exact heapU_plain h
    rw [h2]; exact heapU_mono (rdG_mono hf []) hH h
theorem stepD_mono (hf : leF f f') (hH : leF H H') {r} (h : stepD E kn ops rs i f H nx o u = some r) : stepD E kn ops rs i f' H' nx o u = some r := by
  unfold stepD at h ⊢
  split at h
  · split at h
    · rename_i h1; rw [unitD_mono hf hH h1]; exact h
    · cases h
  · split at h
    · cases h
    · split at h
      · split at h
        · rename_i hfd
          simp only [hf _ _ hfd]
          split at h
          · split at h
            · split at h
              · rename_i h1; rw [unitD_mono hf hH h1]; exact h
              · cases h
            · exact h
          · exact h
        · cases h
      · split at h
        · rename_i hp
          split at h
          · rename_i hgo
            rw [chainE_mono hf hgo, plainOp_mono hf hH hp]
            simp only
            rw [gobs_mono hf hgo]; exact h
          · cases h
        · cases h
      · cases h
end
end Go.Mt
