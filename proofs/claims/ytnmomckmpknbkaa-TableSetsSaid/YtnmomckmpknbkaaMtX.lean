/-
  Mt, part X: operations that make memory, in a region that draws its order.
-/
import Derived.Test.YtnmomckmpknbkaaMtW
set_option linter.unusedSimpArgs false
set_option linter.unusedVariables false
namespace Go.Mt
open Go.RowKit

/-- What an operation makes (of the name 'nx'), what it takes away. -/
def heapU (E : Env) (H : Nat → Option HB) (nx : Nat) (rd : Operand → Option A) (u : Value) : Op → Option (A × Prop × Option HB × Option Nat)
  | .box t x => match rdT E.T t rd x with
    | some a => match a.cells with
      | some cs => some (.c (.ptr nx u.bn 0), True, some (.blk u.bn t cs), none)
      | none => none
    | none => none
  | .alloc t => match E.T t with
    | some i => some (.c (.ptr nx u.bn 0), True, some (.blk u.bn t i.zero), none)
    | none => none
  | .buildSlice t n ⟨ps⟩ => match E.T t with
    | some ⟨.slc e k, _, _, _⟩ => match Nat.beq n (len ps), decAll k E.T e rd 0 ps, E.T e with
      | true, some (l, ob), some ie => match Nat.beq ie.size k.sz && Nat.ble n 1000 with
        | true => some (.c (.own nx u), ob, some (.own u e k l), none)
        | false => none
      | _, _, _ => none
    | _ => none
  | .makeSlice t l c => match E.T t, rd l, rd c with
    | some ⟨.slc e k, _, _, _⟩, some (.c (.pv (.val (.int _ l)))), some (.c (.pv (.val (.int _ c)))) => match E.T e with
      | some ie => match Nat.ble ie.bytes 64 with
        | true => some (.c (.own nx u), ((0 ≤ l ∧ l ≤ c) ∧ c ≤ 1099511627776) ∧ ie.zero = (k.enc k.dft).map .pv, some (.own u e k (List.replicate l.toNat k.dft)), none)
        | false => none
      | none => none
    | _, _, _ => none
  | .call ⟨.builtin .append, ⟨[s, x]⟩, ⟨[t, tx]⟩⟩ => match E.T t, rdT E.T t rd s, rdT E.T tx rd x, E.T tx with
    | some ⟨.slc e k, _, _, _⟩, some a, some xa, some itx => match E.T e, srcOf H ((E.T e).elim [] TI.zero) itx.kind xa with
      | some ie, some ⟨k', m, ob⟩ => match Nat.ble ie.bytes 64, a with
        | true, .c (.own n v) => match H n with
          | some (.own v' ty k0 l) => match Nat.beq ty e && Nat.beq k0.sz k.sz, appL k0 l k' m with
            | true, some lm => some (.c (.own nx u), (ob ∧ v = v') ∧ l.length + m.length ≤ 1099511627776, some (.own u e k0 lm), some n)
            | _, _ => none
          | _ => none
        | true, .c (.pv (.nil k0)) => match Nat.beq k0.sz k.sz, appL k0 [] k' m with
          | true, some lm => some (.c (.own nx u), ob ∧ m.length ≤ 1099511627776, some (.own u e k0 lm), none)
          | _, _ => none
        | _, _ => none
      | _, _ => none
    | _, _, _, _ => none
  | .call ⟨.value fo, ⟨args⟩, ⟨tys⟩⟩ => match rd fo with
    | some (.c (.clo f caps)) => match E.Ψ f with
      | some s => match argsA E.T H rd args tys, capsA H caps with
        | some (as, lent, ob), some (cs, lent', ob') => match s (as ++ cs) with
          | some (pre, sh, rv) => match (lent || lent') && sh with
            | false => some ((inst nx u rv).1, (ob ∧ ob') ∧ pre, (inst nx u rv).2, none)
            | true => none
          | none => none
        | _, _ => none
      | none => none
    | _ => none
  | _ => none

def updU (H : Nat → Option HB) (nx : Nat) (hb : Option HB) (kill : Option Nat) : Nat → Option HB := match hb with
  | some b => updH (match kill with | some n => updH H n none | none => H) nx (some b)
  | none => H

section
variable {E : Env} {rd rd' : Operand → Option A} {H H' : Nat → Option HB} {nx : Nat} {u : Value}

theorem heapU_heapOp {op : Op} {x : A} {ob : Prop} {hb : Option HB} {kill : Option Nat} (h : heapU E H nx rd u op = some (x, ob, hb, kill)) : ∃ nx', heapOp E H nx rd u op = some ⟨x, ob, updU H nx hb kill, nx'⟩ := by
  unfold heapU at h
  split at h
  · simp only [heapOp]
    split at h
    · rename_i a ha
      split at h
      · rename_i cs hc; cases h; simp only [ha, hc]; exact ⟨_, rfl⟩
      · cases h
    · cases h
  · simp only [heapOp]
    split at h
    · rename_i i hi; cases h; simp only [hi]; exact ⟨_, rfl⟩
    · cases h
  · simp only [heapOp]
    split at h
    · rename_i e k _ _ _ h1
      split at h
      · rename_i l ob ie h2 h3 h4
        split at h
        · rename_i h5; cases h; simp only [h1, h2, h3, h4, h5]; exact ⟨_, rfl⟩
        · cases h
      · cases h
    · cases h
  · simp only [heapOp]
    split at h
    · rename_i h1 h2 h3
      split at h
      · rename_i ie h4
        split at h
        · rename_i h5; cases h; simp only [h1, h2, h3, h4, h5]; exact ⟨_, rfl⟩
        · cases h
      · cases h
    · cases h
  · simp only [heapOp]
    split at h
    · rename_i h1 h2 h3 h4
      split at h
      · rename_i h5 h6
        rw [h5] at h6; simp only [Option.elim] at h6
        split at h
        · rename_i n v h7
          split at h
          · rename_i h8
            split at h
            · rename_i h9 h10; cases h; simp only [h1, h2, h3, h4, h5, Option.elim, h6, h7, h8, h9, h10]; exact ⟨_, rfl⟩
            · cases h
          · cases h
        · rename_i k0 h7
          split at h
          · rename_i h9 h10; cases h; simp only [h1, h2, h3, h4, h5, Option.elim, h6, h7, h9, h10]; exact ⟨_, rfl⟩
          · cases h
        · cases h
      · cases h
    · cases h
  · simp only [heapOp]
    split at h
    · rename_i f caps h1
      split at h
      · rename_i s h2
        split at h
        · rename_i as lent ob cs lent' ob' h3 h3'
          split at h
          · rename_i pre sh rv h4
            split at h
            · rename_i h5
              simp only [h1, h2, h3, h3', h4, h5]
              cases hi : inst nx u rv with
              | mk x' hb' =>
                rw [hi] at h
                cases hb' with
                | none => cases h; exact ⟨_, rfl⟩
                | some b => cases h; exact ⟨_, rfl⟩
            · cases h
          · cases h
        · cases h
      · cases h
    · cases h
  · cases h

theorem decAll_mono {T : Tb} {k : LK} {ty : TypeId} (h : leR rd rd') : ∀ {ps : List (Nat × Operand)} {i : Nat} {r}, decAll k T ty rd i ps = some r → decAll k T ty rd' i ps = some r := by
  intro ps
  induction ps with
  | nil => intro i r e; exact e
  | cons p ps ih =>
    intro i r e
    obtain ⟨j, o⟩ := p
    simp only [decAll] at e ⊢
    rcases (rdT_mono (T := T) h ty).or o with h1 | h1
    · exfalso; rw [h1] at e; (repeat' split at e) <;> simp_all
    · rw [h1]
      split at e
      · split at e
        · split at e
          · rename_i h5 h6; rw [h5, ih h6]; exact e
          · cases e
        · cases e
      · cases e
theorem argC_mono (hH : leF H H') {a : C} {r} (e : argC H a = some r) : argC H' a = some r := by
  unfold argC at e ⊢
  split at e
  · split at e
    · rename_i h1; simp only [hH _ _ h1]; exact e
    · cases e
  · exact e
  · split at e
    · rename_i h1; simp only [hH _ _ h1]; exact e
    · cases e
  · exact e
  · exact e
  · split at e
    · rename_i h1; simp only [hH _ _ h1]; exact e
    · cases e
  · cases e
theorem argA_mono (hH : leF H H') {a : A} {r} (e : argA H a = some r) : argA H' a = some r := by
  unfold argA at e ⊢
  split at e
  · exact argC_mono hH e
  · exact e
  · cases e
theorem capsA_mono (hH : leF H H') : ∀ {cs : List C} {r}, capsA H cs = some r → capsA H' cs = some r := by
  intro cs
  induction cs with
  | nil => intro r e; exact e
  | cons c cs ih =>
    intro r e
    simp only [capsA] at e ⊢
    split at e
    · rename_i h1 h2; rw [argC_mono hH h1, ih h2]; exact e
    · cases e
theorem argsA_mono {T : Tb} (h : leR rd rd') (hH : leF H H') : ∀ {os : List Operand} {ts : List TypeId} {r}, argsA T H rd os ts = some r → argsA T H' rd' os ts = some r := by
  intro os
  induction os with
  | nil => intro ts r e; exact e
  | cons o os ih =>
    intro ts r e
    cases ts with
    | nil => exact e
    | cons t ts =>
      simp only [argsA] at e ⊢
      rcases rdT_or (T := T) h t o with h1 | h1
      · rw [h1] at e; cases e
      · rw [h1]
        split at e
        · split at e
          · rename_i h5 h6; rw [argA_mono hH h5, ih h6]; exact e
          · cases e
        · cases e
theorem srcOf_mono (hH : leF H H') {z : List C} {k : TK} {a : A} {r} (e : srcOf H z k a = some r) : srcOf H' z k a = some r := by
  unfold srcOf at e ⊢
  split at e
  · exact e
  · exact e
  · exact lkOf_mono hH e
  · cases e
theorem heapU_mono (h : leR rd rd') (hH : leF H H') {op : Op} {r} (e : heapU E H nx rd u op = some r) : heapU E H' nx rd' u op = some r := by
  unfold heapU at e
  split at e
  · rename_i t x
    simp only [heapU]
    rcases rdT_or (T := E.T) h t x with h1 | h1
    · rw [h1] at e; cases e
    · rw [h1]; exact e
  · exact e
  · simp only [heapU]
    split at e
    · split at e
      · rename_i h2 h3 h4; rw [h2, decAll_mono h h3, h4]; exact e
      · cases e
    · cases e
  · rename_i t l c
    simp only [heapU]
    rcases h.or l with h1 | h1
    · exfalso; rw [h1] at e; (repeat' split at e) <;> simp_all
    · rcases h.or c with h2 | h2
      · exfalso; rw [h2] at e; (repeat' split at e) <;> simp_all
      · rw [h1, h2]; exact e
  · rename_i s x t tx
    simp only [heapU]
    rcases rdT_or (T := E.T) h t s with h1 | h1
    · exfalso; rw [h1] at e; (repeat' split at e) <;> simp_all
    · rcases rdT_or (T := E.T) h tx x with h2 | h2
      · exfalso; rw [h2] at e; (repeat' split at e) <;> simp_all
      · rw [h1, h2]
        split at e
        · split at e
          · rename_i h5 h6; have h7 := srcOf_mono hH h6; rw [h5] at h7; rw [h5, h7]
            simp only
            split at e
            · split at e
              · rename_i h8; rw [hH _ _ h8]; exact e
              · cases e
            · exact e
            · cases e
          · cases e
        · cases e
  · rename_i fo args tys
    simp only [heapU]
    rcases h.or fo with h1 | h1
    · rw [h1] at e; cases e
    · rw [h1]
      split at e
      · split at e
        · split at e
          · rename_i h3 h4; rw [argsA_mono h hH h3, capsA_mono hH h4]; exact e
          · cases e
        · cases e
      · cases e
  · cases e
end
end Go.Mt
