/-
  This claim's own program library, part 3: the letters MtU to MtZE.
-/
import Derived.Test.YtgobmfkffhomaaaMtQ2
import Derived.OpenShut
import Derived.WalkKit
/-
  Mt, part U: contracts gathered.
-/
set_option linter.unusedSimpArgs false
set_option linter.unusedVariables false
namespace Go.Mt
theorem u8_in64 (b : UInt8) : ((b.toNat : Nat) : Int) ≤ 18446744073709551615 := by have := b.toNat_lt; omega
theorem u8_in63 (b : UInt8) : ((b.toNat : Nat) : Int) ≤ 9223372036854775807 := by have := b.toNat_lt; omega
def psiNil : FuncId → Option FSpec := fun _ => none
def psiCons (k : Nat) (s : FSpec) (r : FuncId → Option FSpec) : FuncId → Option FSpec := fun f => match Nat.beq f k with
  | true => some s
  | false => r f
def pspNil : FuncId → Option (TypeId × PSpec) := fun _ => none
def pspCons (k : Nat) (t : TypeId) (s : PSpec) (r : FuncId → Option (TypeId × PSpec)) : FuncId → Option (TypeId × PSpec) := fun f => match Nat.beq f k with
  | true => some (t, s)
  | false => r f
abbrev PsiFn (P : Program) (Ψ : FuncId → Option FSpec) : Prop := ∀ f s, Ψ f = some s → SpecOk P f s
abbrev PsiPt (P : Program) (Ψ : FuncId → Option (TypeId × PSpec)) : Prop := ∀ f ty s, Ψ f = some (ty, s) → PSpecOk P f ty s
def pscNil : FuncId → Option (TypeId × CSpec) := fun _ => none
def pscCons (k : Nat) (t : TypeId) (s : CSpec) (r : FuncId → Option (TypeId × CSpec)) : FuncId → Option (TypeId × CSpec) := fun f => match Nat.beq f k with
  | true => some (t, s)
  | false => r f
abbrev PsiCo (P : Program) (Ψ : FuncId → Option (TypeId × CSpec)) : Prop := ∀ f e s, Ψ f = some (e, s) → CSpecOk P f e s
variable {P : Program}
theorem pscNil_ok : PsiCo P pscNil := fun f t s h => by cases h
theorem pscCons_ok {k : Nat} {t : TypeId} {s : CSpec} {r : FuncId → Option (TypeId × CSpec)} (h : CSpecOk P k t s) (hr : PsiCo P r) : PsiCo P (pscCons k t s r) := by
  intro f e s' hs
  unfold pscCons at hs
  split at hs
  · rename_i hb; cases hs; rw [Nat.beq_eq] at hb; subst hb; exact h
  · exact hr f e s' hs
theorem psiNil_ok : PsiFn P psiNil := fun f s h => by cases h
theorem pspNil_ok : PsiPt P pspNil := fun f t s h => by cases h
theorem psiCons_ok {k : Nat} {s : FSpec} {r : FuncId → Option FSpec} (h : SpecOk P k s) (hr : PsiFn P r) : PsiFn P (psiCons k s r) := by
  intro f s' e
  unfold psiCons at e
  split at e
  · rename_i hb; rw [Nat.beq_eq] at hb; subst hb; cases e; exact h
  · exact hr f s' e
theorem pspCons_ok {k : Nat} {t : TypeId} {s : PSpec} {r : FuncId → Option (TypeId × PSpec)} (h : PSpecOk P k t s) (hr : PsiPt P r) : PsiPt P (pspCons k t s r) := by
  intro f t' s' e
  unfold pspCons at e
  split at e
  · rename_i hb; rw [Nat.beq_eq] at hb; subst hb; cases e; exact h
  · exact hr f t' s' e
end Go.Mt

/-
  Mt, part V: from what a row tells of the arguments to what a contract asks.
-/
set_option linter.unusedSimpArgs false
set_option linter.unusedVariables false
namespace Go.Mt
open Go.RowKit
variable {P : Program} {w : World}

theorem wf_inR {k : IntKind} {n : Int} (h : (Lit.int k n).wf = true) : inR k n := by
  simp only [Lit.wf, Bool.and_eq_true, decide_eq_true_eq] at h
  cases k <;> simp only [inR, IntKind.min, IntKind.max, IntKind.signed, IntKind.bits] at * <;> simp at * <;> omega

theorem cell_none {x : Addr} {v : Value} (h : w.cell? x = some v) : x = ⟨x.block, x.off, none⟩ ∧ (Mem.all w).cell x.block x.off = some v := by
  obtain ⟨b, o, s⟩ := x
  simp only [World.cell?] at h
  split at h
  · rename_i c _ _ hc
    cases s with
    | some s => simp at h
    | none => simp at h; exact ⟨rfl, by simp [Mem.cell, Mem.all, hc, h]⟩
  · cases h

theorem cell_add {x : Addr} (hx : x = ⟨x.block, x.off, none⟩) {i : Nat} {v : Value} (h : w.cell? (x.add i) = some v) : (Mem.all w).cell x.block (x.off + i) = some v := by
  have := (cell_none h).2
  rw [hx] at this
  simpa [Addr.add_lit] using this

/-- A slice of numbers. -/
theorem row_ints {k : IntKind} {a : Option Addr} {n c : Nat} {zs : List Int} (h : (a = none ∧ n = 0 ∧ c = 0 ∧ zs = []) ∨
    ∃ x, a = some x ∧ n ≤ c ∧ c ≤ maxLen ∧ zs.length = c ∧ (∀ i, i < zs.length → w.cell? (x.add i) = some (.int k (zs.getD i 0))) ∧ ∀ m ∈ zs, (Lit.int k m).wf = true) :
    R (Mem.all w) (.lst (.ints k) (zs.take n)) (.slice a n c) ∧ (zs.take n).length ≤ maxLen ∧ ∀ m ∈ zs.take n, inR k m := by
  rcases h with ⟨rfl, rfl, rfl, rfl⟩ | ⟨x, rfl, h1, h2, h3, h4, h5⟩
  · exact ⟨R.lst_nil _ _, by simp, by simp⟩
  · have hlen : (zs.take n).length = n := by rw [List.length_take]; omega
    refine ⟨?_, by omega, fun m hm => wf_inR (h5 m (List.mem_of_mem_take hm))⟩
    have hx : zs.take n ≠ [] → x = ⟨x.block, x.off, none⟩ := by
      intro hne
      have : 0 < zs.length := by
        rcases Nat.eq_zero_or_pos zs.length with e | e
        · exact absurd (by rw [List.eq_nil_of_length_eq_zero e]; simp) hne
        · exact e
      have := (cell_none (h4 0 this)).1
      simpa [Addr.add] using this
    refine R.lst_mk (b := x.block) (o := x.off) hlen h1 h2 (fun hne => by rw [← hx hne]) (by simp) (fun i y j z e1 e2 => ?_)
    have hi : i < zs.length := by
      have := (List.getElem?_eq_some_iff.1 e1).1
      rw [hlen] at this; omega
    have hne : zs.take n ≠ [] := by intro e; rw [e] at e1; simp at e1
    have hy : zs.getD i 0 = y := by
      rw [List.getElem?_take] at e1
      split at e1
      · simp [List.getD, e1]
      · cases e1
    cases j with
    | zero =>
      simp [LK.enc] at e2; subst e2
      exact ⟨_, by have := cell_add (hx hne) (h4 i hi); rw [hy] at this; simpa [LK.sz] using this, .val rfl⟩
    | succ j => simp [LK.enc] at e2
/-- A slice of bytes. -/
theorem row_byts {a : Option Addr} {n c : Nat} {zs : List Int} (h : (a = none ∧ n = 0 ∧ c = 0 ∧ zs = []) ∨
    ∃ x, a = some x ∧ n ≤ c ∧ c ≤ maxLen ∧ zs.length = c ∧ (∀ i, i < zs.length → w.cell? (x.add i) = some (.int .u8 (zs.getD i 0))) ∧ ∀ m ∈ zs, (Lit.int .u8 m).wf = true) :
    R (Mem.all w) (.lst .byt ((zs.take n).map fun z => UInt8.ofNat z.toNat)) (.slice a n c) ∧ ((zs.take n).map fun z => UInt8.ofNat z.toNat).length ≤ maxLen := by
  rcases h with ⟨rfl, rfl, rfl, rfl⟩ | ⟨x, rfl, h1, h2, h3, h4, h5⟩
  · exact ⟨R.lst_nil _ _, by simp⟩
  · have hlen : ((zs.take n).map fun z => UInt8.ofNat z.toNat).length = n := by rw [List.length_map, List.length_take]; omega
    refine ⟨?_, by omega⟩
    have hx : zs ≠ [] → x = ⟨x.block, x.off, none⟩ := by
      intro hne
      have := (cell_none (h4 0 (List.length_pos_iff.2 hne))).1
      simpa [Addr.add] using this
    refine R.lst_mk (b := x.block) (o := x.off) hlen h1 h2 (fun hne => by rw [← hx (fun e => hne (by rw [e]; simp))]) (by simp) (fun i y j z e1 e2 => ?_)
    have hi : i < zs.length := by
      have := (List.getElem?_eq_some_iff.1 e1).1
      rw [hlen] at this; omega
    have hne : zs ≠ [] := by intro e; rw [e] at hi; simp at hi
    have hr : (0 : Int) ≤ zs.getD i 0 ∧ zs.getD i 0 ≤ 255 := by
      have := wf_inR (h5 (zs.getD i 0) (by simp [List.getD, List.getElem?_eq_getElem hi]))
      simpa [inR, IntKind.bits] using this
    have hy : ((y.toNat : Nat) : Int) = zs.getD i 0 := by
      rw [List.getElem?_map, List.getElem?_take] at e1
      split at e1
      · rw [List.getElem?_eq_getElem hi] at e1
        simp at e1; subst e1
        simp only [List.getD, List.getElem?_eq_getElem hi, Option.getD_some] at hr ⊢
        rw [UInt8.toNat_ofNat']; omega
      · cases e1
    cases j with
    | zero =>
      simp [LK.enc] at e2; subst e2
      exact ⟨_, by have := cell_add (hx hne) (h4 i hi); rw [← hy] at this; simpa [LK.sz] using this, .val rfl⟩
    | succ j => simp [LK.enc] at e2

/-- A string. -/
theorem row_str (s : ByteArray) : RA (Mem.all w) (str s.data.toList) (.string s) := by
  obtain ⟨⟨l⟩⟩ := s; exact .c (.pv (.val rfl))

theorem law_calls {f : FuncId} {sh : Bool} {args : List A} {vs : Array Value} (hc : Ctr P f sh args (.x (.c (bv true)))) (hr : RAs (Mem.all w) args vs) :
    Calls P f vs w fun e w' => e = .returned (.bool true) ∧ Below w.heap.size w w' := by
  refine (hc.2 (Mem.all w) w vs (Mem.all_on w) hr).mono fun e w' ⟨v, F, he, hb, _, hv⟩ => ⟨?_, hb⟩
  subst he
  have : v = .bool true := by
    simp only [RVok, RXok] at hv
    cases hv; rfl
  rw [this]

theorem RAs.nil {M : Mem} : RAs M [] #[] := ⟨rfl, by simp⟩
theorem RAs.mk {M : Mem} {as : List A} {l : List Value} (h : RAs M as l.toArray) : RAs M as l.toArray := h
theorem RAs.cons {M : Mem} {a : A} {v : Value} {as : List A} {l : List Value} (h : RA M a v) (hs : RAs M as l.toArray) : RAs M (a :: as) (v :: l).toArray := by
  refine ⟨by simpa using hs.1, fun j x u e1 e2 => ?_⟩
  cases j with
  | zero => simp at e1 e2; subst e1 e2; exact h
  | succ j => exact hs.2 j x u (by simpa using e1) (by simpa using e2)
end Go.Mt

/-
  Mt, part W: what is known more does not turn what the evaluator says.
-/
set_option linter.unusedSimpArgs false
set_option linter.unusedVariables false
namespace Go.Mt
open Go.RowKit

def leR (rd rd' : Operand → Option A) : Prop := ∀ o a, rd o = some a → rd' o = some a
def leF {α : Type} (f f' : Nat → Option α) : Prop := ∀ d e, f d = some e → f' d = some e
section
variable {T : Tb} {rd rd' : Operand → Option A} {H H' : Nat → Option HB} {f f' : Nat → Option Ent} {ops : List Oper}

theorem rdG_mono (h : leF f f') (Γ : List (Nat × Bool)) : leR (rdG f Γ) (rdG f' Γ) := by
  intro o a e
  cases o with
  | tmp t =>
    simp only [rdG] at e ⊢
    split at e <;> rename_i h1
    · rw [h _ _ h1]; exact e
    · rw [h _ _ h1]; exact e
    · cases e
  | _ => exact e
theorem rdP_mono (h : leF f f') (Γ : List (Nat × Bool)) (tc : Nat) (want : Bool) : leR (rdP ops f Γ tc want) (rdP ops f' Γ tc want) := by
  intro o a e
  cases o with
  | tmp t =>
    simp only [rdP] at e ⊢
    split at e <;> rename_i h1
    · rw [h _ _ h1]; exact e
    · rw [h _ _ h1]; exact e
    · cases e
  | _ => exact e
theorem rdT_mono (h : leR rd rd') (t : TypeId) : leR (rdT T t rd) (rdT T t rd') := by
  intro o a e
  unfold rdT at e ⊢
  split at e
  · exact e
  · exact e
  · exact h _ _ e
theorem optA_mono (h : leR rd rd') {o : Option Operand} {a : Option A} (e : optA rd o = some a) : optA rd' o = some a := by
  cases o with
  | none => exact e
  | some o =>
    simp only [optA] at e ⊢
    split at e
    · rename_i x hx; rw [h _ _ hx]; exact e
    · cases e
theorem rdAll_mono (h : leR rd rd') : ∀ {os : List Operand} {as : List A}, rdAll rd os = some as → rdAll rd' os = some as := by
  intro os
  induction os with
  | nil => intro as e; exact e
  | cons o os ih =>
    intro as e
    simp only [rdAll] at e ⊢
    split at e
    · rename_i x xs h1 h2; rw [h _ _ h1, ih h2]; exact e
    · cases e
theorem rdParts_mono (h : leR rd rd') : ∀ {os : List (Nat × Operand)} {as : List (Nat × A)}, rdParts T rd os = some as → rdParts T rd' os = some as := by
  intro os
  induction os with
  | nil => intro as e; exact e
  | cons o os ih =>
    intro as e
    obtain ⟨i, o⟩ := o
    simp only [rdParts] at e ⊢
    split at e
    · rename_i x xs h1 h2; rw [h _ _ h1, ih h2]; exact e
    · cases e
theorem lkOf_mono (h : leF H H') {a : A} {r} (e : lkOf H a = some r) : lkOf H' a = some r := by
  unfold lkOf at e ⊢
  split at e
  · exact e
  · exact e
  · split at e
    · rename_i h1; simp only [h _ _ h1]; exact e
    · cases e
  · cases e
theorem cnvB_mono (h : leF H H') {t : TypeId} {a : A} {r} (e : cnvB T H t a = some r) : cnvB T H' t a = some r := by
  unfold cnvB at e ⊢
  split at e
  · rename_i h1 h2; rw [lkOf_mono h h1, h2]; exact e
  · cases e

theorem leR.or (h : leR rd rd') (o : Operand) : rd o = none ∨ rd' o = rd o := by
  cases e : rd o with
  | none => exact .inl rfl
  | some a => exact .inr (h _ _ e)
theorem leH.or (h : leF H H') (n : Nat) : H n = none ∨ H' n = H n := by
  cases e : H n with
  | none => exact .inl rfl
  | some a => exact .inr (h _ _ e)
theorem lkOf_or (h : leF H H') (a : A) : lkOf H a = none ∨ lkOf H' a = lkOf H a := by
  cases e : lkOf H a with
  | none => exact .inl rfl
  | some r => exact .inr (lkOf_mono h e)
theorem rdT_or (h : leR rd rd') (t : TypeId) (o : Operand) : rdT T t rd o = none ∨ rdT T t rd' o = rdT T t rd o := (rdT_mono h t).or o
theorem optA_or (h : leR rd rd') (o : Option Operand) : optA rd o = none ∨ optA rd' o = optA rd o := by
  cases e : optA rd o with
  | none => exact .inl rfl
  | some a => exact .inr (optA_mono h e)
theorem rdAll_or (h : leR rd rd') (o : List Operand) : rdAll rd o = none ∨ rdAll rd' o = rdAll rd o := by
  cases e : rdAll rd o with
  | none => exact .inl rfl
  | some a => exact .inr (rdAll_mono h e)
theorem rdParts_or (h : leR rd rd') (o : List (Nat × Operand)) : rdParts T rd o = none ∨ rdParts T rd' o = rdParts T rd o := by
  cases e : rdParts T rd o with
  | none => exact .inl rfl
  | some a => exact .inr (rdParts_mono h e)

theorem pureOp_mono (h : leR rd rd') (hH : leF H H') {wm : Bool} {ty : TypeId} {op : Op} {r : A × Prop} (e : pureOp T H wm rd ty op = some r) : pureOp T H' wm rd' ty op = some r := by
  unfold pureOp at e
  split at e
  · rename_i x
    simp only [pureOp]; rcases rdT_or (T := T) h ty x with h1 | h1 <;> simp only [h1] at e ⊢ <;> first | exact e | cases e
  · rename_i x
    simp only [pureOp]; rcases rdT_or (T := T) h ty x with h1 | h1 <;> simp only [h1] at e ⊢ <;> first | exact e | cases e
  · rename_i op t x y _
    simp only [pureOp]
    rcases h.or x with h1 | h1
    · simp [h1] at e
    · rcases h.or y with h2 | h2
      · simp [h2] at e
      · rw [h1, h2]; exact e
  · rename_i op _ x
    simp only [pureOp]
    rcases h.or x with h1 | h1
    · simp [h1] at e
    · rw [h1]; exact e
  · rename_i src dst x
    simp only [pureOp]
    rcases h.or x with h1 | h1
    · simp [h1] at e
    · rw [h1]
      split at e
      · split at e
        · exact cnvB_mono hH e
        · cases e
      · exact e
      · cases e
  · rename_i x i
    simp only [pureOp]
    rcases h.or x with h1 | h1
    · simp [h1] at e
    · rw [h1]; exact e
  · rename_i xT x f
    simp only [pureOp]
    rcases h.or x with h1 | h1
    · simp [h1] at e
    · rw [h1]; exact e
  · rename_i sT x f
    simp only [pureOp]
    rcases h.or x with h1 | h1
    · exfalso; rw [h1] at e; (repeat' split at e) <;> simp_all
    · rw [h1]; exact e
  · rename_i t x i
    simp only [pureOp]
    rcases h.or x with h1 | h1
    · exfalso; rw [h1] at e; (repeat' split at e) <;> simp_all
    · rcases h.or i with h2 | h2
      · exfalso; rw [h2] at e; (repeat' split at e) <;> simp_all
      · rw [h1, h2]
        split at e
        · exact e
        · rename_i n v _ _ _ _ _
          rcases leH.or hH n with h3 | h3
          · rw [h3] at e; cases e
          · rw [h3]; exact e
        · rename_i n b _ _ _ _ _
          rcases leH.or hH n with h3 | h3
          · rw [h3] at e; exfalso; (repeat' split at e) <;> simp_all
          · rw [h3]; exact e
        · rename_i n v q sz o _ _ _ _ _
          rcases leH.or hH n with h3 | h3
          · rw [h3] at e; exfalso; (repeat' split at e) <;> simp_all
          · rw [h3]; exact e
        · cases e
  · rename_i t x
    simp only [pureOp]
    rcases h.or x with h1 | h1
    · exfalso; rw [h1] at e; simp at e
    · rw [h1]
      split at e
      · rename_i n b o _
        rcases leH.or hH n with h3 | h3
        · rw [h3] at e; cases e
        · rw [h3]; exact e
      · exact e
      · rename_i n v i sz o _
        rcases leH.or hH n with h3 | h3
        · rw [h3] at e; cases e
        · rw [h3]; exact e
      · cases e
  · rename_i t x lo hi mx
    simp only [pureOp]
    rcases h.or x with h1 | h1
    · exfalso; rw [h1] at e; (repeat' split at e) <;> simp_all
    · rcases optA_or h lo with h2 | h2
      · exfalso; rw [h2] at e; (repeat' split at e) <;> simp_all
      · rcases optA_or h hi with h3 | h3
        · exfalso; rw [h3] at e; (repeat' split at e) <;> simp_all
        · rcases optA_or h mx with h4 | h4
          · exfalso; rw [h4] at e; (repeat' split at e) <;> simp_all
          · rw [h1, h2, h3, h4]; exact e
  · rename_i t ps
    simp only [pureOp]
    rcases rdParts_or (T := T) h ps with h1 | h1
    · exfalso; rw [h1] at e; (repeat' split at e) <;> simp_all
    · rw [h1]; exact e
  · rename_i x t
    simp only [pureOp]
    rcases h.or x with h1 | h1
    · exfalso; rw [h1] at e; simp at e
    · rw [h1]
      split at e
      · exact e
      · exact e
      · rename_i a _ _ _
        rcases lkOf_or hH a with h3 | h3
        · rw [h3] at e; simp at e
        · rw [h3]; exact e
      · cases e
  · rename_i x y _
    simp only [pureOp]
    rcases h.or x with h1 | h1
    · exfalso; rw [h1] at e; simp at e
    · rcases h.or y with h2 | h2
      · exfalso; rw [h2] at e; (repeat' split at e) <;> simp_all
      · rw [h1, h2]; exact e
  · rename_i x y _
    simp only [pureOp]
    rcases h.or x with h1 | h1
    · exfalso; rw [h1] at e; simp at e
    · rcases h.or y with h2 | h2
      · exfalso; rw [h2] at e; (repeat' split at e) <;> simp_all
      · rw [h1, h2]; exact e
  · rename_i x
    simp only [pureOp]
    rcases h.or x with h1 | h1
    · exfalso; rw [h1] at e; simp at e
    · rw [h1]; exact e
  · rename_i f caps
    simp only [pureOp]
    rcases rdAll_or h caps with h1 | h1
    · exfalso; rw [h1] at e; simp at e
    · rw [h1]; exact e
  · rename_i t x i
    simp only [pureOp]
    rcases h.or x with h1 | h1
    · exfalso; rw [h1] at e; (repeat' split at e) <;> simp_all
    · rcases h.or i with h2 | h2
      · exfalso; rw [h2] at e; (repeat' split at e) <;> simp_all
      · rw [h1, h2]; exact e
  · rename_i arr x
    simp only [pureOp]
    rcases h.or x with h1 | h1
    · exfalso; rw [h1] at e; (repeat' split at e) <;> simp_all
    · rw [h1]; exact e
  · cases e
end
end Go.Mt

/-
  Mt, part X: operations that make memory, in a region that draws its order.
-/
set_option linter.unusedSimpArgs false
set_option linter.unusedVariables false
namespace Go.Mt
open Go.RowKit

/-- What an operation makes (of the name 'nx'), what it takes away. -/
def heapU (E : Env) (H : Nat → Option HB) (nx : Nat) (rd : Operand → Option A) (u : Value) : Op → Option (A × Prop × Option HB × Option (Nat × Option HB))
  | .box t x => match rdT E.T t rd x with
    | some a => match a.cells with
      | some cs => some (.c (.ptr nx u.bn 0), True, some (.blk u.bn t cs), none)
      | none => none
    | none => none
  | .alloc t => match E.T t with
    | some i => some (.c (.ptr nx u.bn 0), True, some (.blk u.bn t i.zero), none)
    | none => none
  | .store t p x => match rd p, rdT E.T t rd x, E.T t with
    | some (.c (.ptr n b o)), some a, some i => match H n, a.cells with
      | some (.blk b' ty cs), some new => match Nat.beq (len new) i.size && Nat.ble (o + len new) (len cs) with
        | true => some (.t [], b = b', none, some (n, some (.blk b' ty (tke o cs ++ new ++ drp (o + len new) cs))))
        | false => none
      | _, _ => none
    | some (.c (.oel n v j sz o)), some a, some i => match H n, a.cells with
      | some (.own v' ty k l), some new => match Nat.beq (len new) i.size && Nat.ble (o + len new) k.sz with
        | true => match k.dec (tke o ((k.enc (l.getD j k.dft)).map .pv) ++ new ++ drp (o + len new) ((k.enc (l.getD j k.dft)).map .pv)) with
          | some (x, ob) => some (.t [], ((v = v' ∧ sz = k.sz) ∧ j < l.length) ∧ ob, none, some (n, some (.own v' ty k (l.set j x))))
          | none => none
        | false => none
      | _, _ => none
    | _, _, _ => none
  | .buildSlice t n ⟨ps⟩ => match E.T t with
    | some ⟨.slc e k, _, _, _⟩ => match Nat.beq n (len ps), decAll k E.T e rd 0 ps, E.T e with
      | true, some (l, ob), some ie => match Nat.beq ie.size k.sz && Nat.ble n 1000 with
        | true => some (.c (.own nx u), ob, some (.own u e k l), none)
        | false => none
      | _, _, _ => none
    | _ => none
  | .makeSlice t l c => match E.T t, rd l, rd c with
    | some ⟨.slc e k, _, _, _⟩, some (.c (.pv (.val (.int _ l)))), some (.c (.pv (.val (.int _ c)))) => match E.T e with
      | some ie => match Nat.ble ie.bytes 64 with
        | true => some (.c (.own nx u), ((0 ≤ l ∧ l ≤ c) ∧ c ≤ 1099511627776) ∧ ie.zero = (k.enc k.dft).map .pv, some (.own u e k (List.replicate l.toNat k.dft)), none)
        | false => none
      | none => none
    | _, _, _ => none
  | .call ⟨.builtin .append, ⟨[s, x]⟩, ⟨[t, tx]⟩⟩ => match E.T t, rdT E.T t rd s, rdT E.T tx rd x, E.T tx with
    | some ⟨.slc e k, _, _, _⟩, some a, some xa, some itx => match E.T e, srcOf H ((E.T e).elim [] TI.zero) itx.kind xa with
      | some ie, some ⟨k', m, ob⟩ => match Nat.ble ie.bytes 64, a with
        | true, .c (.own n v) => match H n with
          | some (.own v' ty k0 l) => match Nat.beq ty e && Nat.beq k0.sz k.sz, appL k0 l k' m with
            | true, some lm => some (.c (.own nx u), (ob ∧ v = v') ∧ l.length + m.length ≤ 1099511627776, some (.own u e k0 lm), some (n, none))
            | _, _ => none
          | _ => none
        | true, .c (.pv (.nil k0)) => match Nat.beq k0.sz k.sz, appL k0 [] k' m with
          | true, some lm => some (.c (.own nx u), ob ∧ m.length ≤ 1099511627776, some (.own u e k0 lm), none)
          | _, _ => none
        | _, _ => none
      | _, _ => none
    | _, _, _, _ => none
  | .call ⟨.value fo, ⟨args⟩, ⟨tys⟩⟩ => match rd fo with
    | some (.c (.clo f caps)) => match E.Ψ f with
      | some s => match argsA E.T H rd args tys, capsA H caps with
        | some (as, lent, ob), some (cs, lent', ob') => match s (as ++ cs) with
          | some (pre, sh, rv) => match (lent || lent') && sh with
            | false => some ((inst nx u rv).1, (ob ∧ ob') ∧ pre, (inst nx u rv).2, none)
            | true => none
          | none => none
        | _, _ => none
      | none => match E.Ψc f with
       | some (e, s) => match caps, args, tys with
        | [], p :: os, _ :: ts => match rd p, argsA E.T H rd os ts with
          | some (.c (.own n v)), some (as, false, ob) => match H n with
            | some (.own v' ty k l) => match Nat.beq ty e, s ⟨k, l⟩ as with
              | true, some (pre, ⟨k', l'⟩) => some (.c (.own nx u), (ob ∧ v = v') ∧ pre, some (.own u e k' l'), some (n, none))
              | _, _ => none
            | _ => none
          | _, _ => none
        | _, _, _ => none
       | none => none
    | _ => none
  | _ => none

def effH (H : Nat → Option HB) : Option (Nat × Option HB) → Nat → Option HB
  | some (n, x) => updH H n x
  | none => H
def updU (H : Nat → Option HB) (nx : Nat) (hb : Option HB) (kill : Option (Nat × Option HB)) : Nat → Option HB := match hb with
  | some b => updH (effH H kill) nx (some b)
  | none => effH H kill

section
variable {E : Env} {rd rd' : Operand → Option A} {H H' : Nat → Option HB} {nx : Nat} {u : Value}

theorem heapU_heapOp {op : Op} {x : A} {ob : Prop} {hb : Option HB} {kill : Option (Nat × Option HB)} (h : heapU E H nx rd u op = some (x, ob, hb, kill)) : ∃ nx', heapOp E H nx rd u op = some ⟨x, ob, updU H nx hb kill, nx'⟩ := by
  unfold heapU at h
  split at h
  · simp only [heapOp]
    split at h
    · rename_i a ha
      split at h
      · rename_i cs hc; cases h; simp only [ha, hc]; exact ⟨_, rfl⟩
      · cases h
    · cases h
  · simp only [heapOp]
    split at h
    · rename_i i hi; cases h; simp only [hi]; exact ⟨_, rfl⟩
    · cases h
  · simp only [heapOp]
    split at h
    · rename_i n b o a i h1 h2 h3
      split at h
      · rename_i b' ty cs new h4 h5
        split at h
        · rename_i h6; cases h; simp only [h1, h2, h3, h4, h5, h6]; exact ⟨_, rfl⟩
        · cases h
      · cases h
    · rename_i n v j sz o a i h1 h2 h3
      split at h
      · rename_i v' ty k l new h4 h5
        split at h
        · rename_i h6
          split at h
          · rename_i h7; cases h; simp only [h1, h2, h3, h4, h5, h6, h7]; exact ⟨_, rfl⟩
          · cases h
        · cases h
      · cases h
    · cases h
  · simp only [heapOp]
    split at h
    · rename_i e k _ _ _ h1
      split at h
      · rename_i l ob ie h2 h3 h4
        split at h
        · rename_i h5; cases h; simp only [h1, h2, h3, h4, h5]; exact ⟨_, rfl⟩
        · cases h
      · cases h
    · cases h
  · simp only [heapOp]
    split at h
    · rename_i h1 h2 h3
      split at h
      · rename_i ie h4
        split at h
        · rename_i h5; cases h; simp only [h1, h2, h3, h4, h5]; exact ⟨_, rfl⟩
        · cases h
      · cases h
    · cases h
  · simp only [heapOp]
    split at h
    · rename_i h1 h2 h3 h4
      split at h
      · rename_i h5 h6
        rw [h5] at h6; simp only [Option.elim] at h6
        split at h
        · rename_i n v h7
          split at h
          · rename_i h8
            split at h
            · rename_i h9 h10; cases h; simp only [h1, h2, h3, h4, h5, Option.elim, h6, h7, h8, h9, h10]; exact ⟨_, rfl⟩
            · cases h
          · cases h
        · rename_i k0 h7
          split at h
          · rename_i h9 h10; cases h; simp only [h1, h2, h3, h4, h5, Option.elim, h6, h7, h9, h10]; exact ⟨_, rfl⟩
          · cases h
        · cases h
      · cases h
    · cases h
  · simp only [heapOp]
    split at h
    · rename_i f caps h1
      split at h
      · rename_i s h2
        split at h
        · rename_i as lent ob cs lent' ob' h3 h3'
          split at h
          · rename_i pre sh rv h4
            split at h
            · rename_i h5
              simp only [h1, h2, h3, h3', h4, h5]
              cases hi : inst nx u rv with
              | mk x' hb' =>
                rw [hi] at h
                cases hb' with
                | none => cases h; exact ⟨_, rfl⟩
                | some b => cases h; exact ⟨_, rfl⟩
            · cases h
          · cases h
        · cases h
      · rename_i hps
        split at h
        · rename_i e s hco
          split at h
          · rename_i p os t0 ts
            split at h
            · rename_i n v as ob h3 h4
              split at h
              · rename_i v' ty k l h5
                split at h
                · rename_i pre k' l' h6 h7; cases h; simp only [h1, hps, hco, h3, h4, h5, h6, h7]; exact ⟨_, rfl⟩
                · cases h
              · cases h
            · cases h
          · cases h
        · cases h
    · cases h
  · cases h

theorem decAll_mono {T : Tb} {k : LK} {ty : TypeId} (h : leR rd rd') : ∀ {ps : List (Nat × Operand)} {i : Nat} {r}, decAll k T ty rd i ps = some r → decAll k T ty rd' i ps = some r := by
  intro ps
  induction ps with
  | nil => intro i r e; exact e
  | cons p ps ih =>
    intro i r e
    obtain ⟨j, o⟩ := p
    simp only [decAll] at e ⊢
    rcases (rdT_mono (T := T) h ty).or o with h1 | h1
    · exfalso; rw [h1] at e; (repeat' split at e) <;> simp_all
    · rw [h1]
      split at e
      · split at e
        · split at e
          · rename_i h5 h6; rw [h5, ih h6]; exact e
          · cases e
        · cases e
      · cases e
theorem argC_mono (hH : leF H H') {a : C} {r} (e : argC H a = some r) : argC H' a = some r := by
  unfold argC at e ⊢
  split at e
  · split at e
    · rename_i h1; simp only [hH _ _ h1]; exact e
    · cases e
  · exact e
  · split at e
    · rename_i h1; simp only [hH _ _ h1]; exact e
    · cases e
  · exact e
  · exact e
  · exact e
  · split at e
    · rename_i h1; simp only [hH _ _ h1]; exact e
    · cases e
  · cases e
theorem argA_mono (hH : leF H H') {a : A} {r} (e : argA H a = some r) : argA H' a = some r := by
  unfold argA at e ⊢
  split at e
  · exact argC_mono hH e
  · exact e
  · cases e
theorem capsA_mono (hH : leF H H') : ∀ {cs : List C} {r}, capsA H cs = some r → capsA H' cs = some r := by
  intro cs
  induction cs with
  | nil => intro r e; exact e
  | cons c cs ih =>
    intro r e
    simp only [capsA] at e ⊢
    split at e
    · rename_i h1 h2; rw [argC_mono hH h1, ih h2]; exact e
    · cases e
theorem argsA_mono {T : Tb} (h : leR rd rd') (hH : leF H H') : ∀ {os : List Operand} {ts : List TypeId} {r}, argsA T H rd os ts = some r → argsA T H' rd' os ts = some r := by
  intro os
  induction os with
  | nil => intro ts r e; exact e
  | cons o os ih =>
    intro ts r e
    cases ts with
    | nil => exact e
    | cons t ts =>
      simp only [argsA] at e ⊢
      rcases rdT_or (T := T) h t o with h1 | h1
      · rw [h1] at e; cases e
      · rw [h1]
        split at e
        · split at e
          · rename_i h5 h6; rw [argA_mono hH h5, ih h6]; exact e
          · cases e
        · cases e
theorem srcOf_mono (hH : leF H H') {z : List C} {k : TK} {a : A} {r} (e : srcOf H z k a = some r) : srcOf H' z k a = some r := by
  unfold srcOf at e ⊢
  split at e
  · exact e
  · exact e
  · exact lkOf_mono hH e
  · cases e
theorem heapU_mono (h : leR rd rd') (hH : leF H H') {op : Op} {r} (e : heapU E H nx rd u op = some r) : heapU E H' nx rd' u op = some r := by
  unfold heapU at e
  split at e
  · rename_i t x
    simp only [heapU]
    rcases rdT_or (T := E.T) h t x with h1 | h1
    · rw [h1] at e; cases e
    · rw [h1]; exact e
  · exact e
  · rename_i t p x
    simp only [heapU]
    rcases h.or p with h1 | h1
    · exfalso; rw [h1] at e; (repeat' split at e) <;> simp_all
    · rcases rdT_or (T := E.T) h t x with h2 | h2
      · exfalso; rw [h2] at e; (repeat' split at e) <;> simp_all
      · rw [h1, h2]
        split at e
        · split at e
          · rename_i h4 h5; rw [hH _ _ h4, h5]; exact e
          · cases e
        · split at e
          · rename_i h4 h5; rw [hH _ _ h4, h5]; exact e
          · cases e
        · cases e
  · simp only [heapU]
    split at e
    · split at e
      · rename_i h2 h3 h4; rw [h2, decAll_mono h h3, h4]; exact e
      · cases e
    · cases e
  · rename_i t l c
    simp only [heapU]
    rcases h.or l with h1 | h1
    · exfalso; rw [h1] at e; (repeat' split at e) <;> simp_all
    · rcases h.or c with h2 | h2
      · exfalso; rw [h2] at e; (repeat' split at e) <;> simp_all
      · rw [h1, h2]; exact e
  · rename_i s x t tx
    simp only [heapU]
    rcases rdT_or (T := E.T) h t s with h1 | h1
    · exfalso; rw [h1] at e; (repeat' split at e) <;> simp_all
    · rcases rdT_or (T := E.T) h tx x with h2 | h2
      · exfalso; rw [h2] at e; (repeat' split at e) <;> simp_all
      · rw [h1, h2]
        split at e
        · split at e
          · rename_i h5 h6; have h7 := srcOf_mono hH h6; rw [h5] at h7; rw [h5, h7]
            simp only
            split at e
            · split at e
              · rename_i h8; rw [hH _ _ h8]; exact e
              · cases e
            · exact e
            · cases e
          · cases e
        · cases e
  · rename_i fo args tys
    simp only [heapU]
    rcases h.or fo with h1 | h1
    · rw [h1] at e; cases e
    · rw [h1]
      split at e
      · split at e
        · split at e
          · rename_i h3 h4; rw [argsA_mono h hH h3, capsA_mono hH h4]; exact e
          · cases e
        · split at e
          · split at e
            · split at e
              · rename_i h3 h4
                rw [h _ _ h3, argsA_mono h hH h4]
                simp only
                split at e
                · rename_i h5; rw [hH _ _ h5]; exact e
                · cases e
              · cases e
            · cases e
          · cases e
      · cases e
  · cases e
end
end Go.Mt

/-
  Mt, part Y: a step of a region that draws its order.
-/
set_option linter.unusedSimpArgs false
set_option linter.unusedVariables false
namespace Go.Mt
open Go.RowKit

/-- A choice of which one side is known to have been passed over. -/
def pickU (ops : List Oper) (f : Nat → Option Ent) : Op → Option (A × Prop)
  | .pick (.tmp tc) oa ob => match rdG f [] (.tmp tc) with
    | some c => match boolA c with
      | some t => match rdP ops f [] tc true oa, rdP ops f [] tc false ob with
        | some xa, some xb => match isUnd xa, isUnd xb with
          | true, false => match boolA xb with
            | some q => some (bool q, t = false)
            | none => none
          | false, true => match boolA xa with
            | some p => some (bool p, t = true)
            | none => none
          | _, _ => none
        | _, _ => none
      | none => none
    | none => none
  | _ => none
def unitD (E : Env) (ops : List Oper) (f : Nat → Option Ent) (H : Nat → Option HB) (nx : Nat) (o : Oper) (u : Value) : Option (A × Prop × Option HB × Option (Nat × Option HB)) := match plainOp E ops [] f H o with
  | some (x, ob) => some (x, ob, none, none)
  | none => match pickU ops f o.op with
    | some (x, ob) => some (x, ob, none, none)
    | none => heapU E H nx (rdG f []) u o.op
def stepD (E : Env) (kn : Nat → Option Bool) (ops : List Oper) (rs : List (Nat × Nat)) (i : Nat) (f : Nat → Option Ent) (H : Nat → Option HB) (nx : Nat) (o : Oper) (u : Value) : Option (Option Ent × Prop × Option HB × Option (Nat × Option HB)) :=
  match o.guard with
  | none => match unitD E ops f H nx o u with
    | some (x, ob, hb, kill) => some (some (.u x), ob, hb, kill)
    | none => none
  | some (j, b) => match dstOf ops j with
    | none => none
    | some dj => match Nat.blt j i && has2 j dj rs, kn j with
      | true, some k => match f dj with
        | some (.u c) => match boolA c with
          | some g => match beqB b k with
            | true => match unitD E ops f H nx o u with
              | some (x, ob, hb, kill) => some (some (.u x), g = k ∧ ob, hb, kill)
              | none => none
            | false => some (some (.u und0), g = k, none, none)
          | none => match isUnd c with
            | true => some (some (.u und0), True, none, none)
            | false => none
        | _ => none
      | true, none => match plainOp E ops (chainE ops f 5 j b) f H o with
        | some (x, ob) => match gobs ops f (chainE ops f 5 j b) ob with
          | some ob' => some (some (.gd j b x), ob', none, none)
          | none => none
        | none => none
      | false, _ => none

section
variable {E : Env} {f f' : Nat → Option Ent} {H H' : Nat → Option HB} {nx : Nat} {u : Value} {ops : List Oper} {rs : List (Nat × Nat)} {i : Nat} {o : Oper} {kn : Nat → Option Bool}

theorem heapU_plain {op : Op} {rd rd' : Operand → Option A} {T : Tb} {wm : Bool} {ty : TypeId} {r} (h : heapU E H nx rd u op = some r) : pureOp T H' wm rd' ty op = none := by
  unfold heapU at h
  split at h <;> first | rfl | cases h

theorem heapU_pickF {op : Op} {rd : Operand → Option A} {r} (h : heapU E H nx rd u op = some r) : pickF ops f op = none := by
  unfold heapU at h
  split at h <;> first | rfl | cases h

theorem isUnd_bool {x : A} (h : isUnd x = true) : boolA x = none := by
  unfold isUnd at h
  split at h
  · rfl
  · cases h
theorem heapU_pickU {op : Op} {rd : Operand → Option A} {r} (h : heapU E H nx rd u op = some r) : pickU ops f op = none := by
  unfold heapU at h
  split at h <;> first | rfl | cases h
theorem pickU_inv {op : Op} {x : A} {ob : Prop} (h : pickU ops f op = some (x, ob)) : ∃ tc oa ob' c t xa xb, op = .pick (.tmp tc) oa ob' ∧ rdG f [] (.tmp tc) = some c ∧ boolA c = some t ∧ rdP ops f [] tc true oa = some xa ∧ rdP ops f [] tc false ob' = some xb ∧
    ((isUnd xa = true ∧ isUnd xb = false ∧ ∃ q, boolA xb = some q ∧ x = bool q ∧ ob = (t = false)) ∨ (isUnd xa = false ∧ isUnd xb = true ∧ ∃ p, boolA xa = some p ∧ x = bool p ∧ ob = (t = true))) := by
  unfold pickU at h
  split at h
  · rename_i tc oa ob'
    split at h
    · rename_i c h1
      split at h
      · rename_i t h2
        split at h
        · rename_i xa xb h3 h4
          split at h
          · rename_i u1 u2
            split at h
            · rename_i q hq; cases h
              exact ⟨tc, oa, ob', c, t, xa, xb, rfl, h1, h2, h3, h4, .inl ⟨u1, u2, q, hq, rfl, rfl⟩⟩
            · cases h
          · rename_i u1 u2
            split at h
            · rename_i q hq; cases h
              exact ⟨tc, oa, ob', c, t, xa, xb, rfl, h1, h2, h3, h4, .inr ⟨u1, u2, q, hq, rfl, rfl⟩⟩
            · cases h
          · cases h
        · cases h
      · cases h
    · cases h
  · cases h
theorem pickU_pickF {op : Op} {x : A} {ob : Prop} (h : pickU ops f op = some (x, ob)) : pickF ops f op = some (x, ob) := by
  obtain ⟨tc, oa, ob', c, t, xa, xb, rfl, h1, h2, h3, h4, h5⟩ := pickU_inv h
  rcases h5 with ⟨u1, u2, q, hq, rfl, rfl⟩ | ⟨u1, u2, q, hq, rfl, rfl⟩
  · simp only [pickF, h1, h2, h3, h4, boolO, isUnd_bool u1, hq]
  · simp only [pickF, h1, h2, h3, h4, boolO, isUnd_bool u2, hq]
theorem pickU_plain {x : A} {ob : Prop} (h : pickU ops f o.op = some (x, ob)) : plainOp E ops [] f H o = none := by
  obtain ⟨tc, oa, ob', c, t, xa, xb, hop, h1, h2, h3, h4, h5⟩ := pickU_inv h
  rcases h5 with ⟨u1, u2, q, hq, rfl, rfl⟩ | ⟨u1, u2, q, hq, rfl, rfl⟩
  · simp only [plainOp, hop, pickOp, h1, h2, h3, h4, isUnd_bool u1]
  · simp only [plainOp, hop, pickOp, h1, h2, h3, h4, isUnd_bool u2, hq]
theorem pickU_mono (hf : leF f f') {op : Op} {x : A} {ob : Prop} (h : pickU ops f op = some (x, ob)) : pickU ops f' op = some (x, ob) := by
  obtain ⟨tc, oa, ob', c, t, xa, xb, rfl, h1, h2, h3, h4, h5⟩ := pickU_inv h
  rcases h5 with ⟨u1, u2, q, hq, rfl, rfl⟩ | ⟨u1, u2, q, hq, rfl, rfl⟩
  · simp only [pickU, rdG_mono hf _ _ _ h1, h2, rdP_mono hf _ _ _ _ _ h3, rdP_mono hf _ _ _ _ _ h4, u1, u2, hq]
  · simp only [pickU, rdG_mono hf _ _ _ h1, h2, rdP_mono hf _ _ _ _ _ h3, rdP_mono hf _ _ _ _ _ h4, u1, u2, hq]

def putF (f : Nat → Option Ent) (d : Option Nat) (e : Option Ent) : Nat → Option Ent := match d with
  | some d => updF f d e
  | none => f
def dstOk (N i : Nat) (rs : List (Nat × Nat)) (d : Option Nat) : Bool := match d with
  | some d => Nat.blt d N && gfree i d rs
  | none => true
theorem putS_dst {N : Nat} {d : Option Nat} {e : Option Ent} (h : dstOk N i rs d = true) : putS N i rs f d e = some (putF f d e) := by
  cases d with
  | none => rfl
  | some d => simp only [dstOk] at h; simp only [putS, h, putF]

theorem unitD_stepU {x : A} {ob : Prop} {hb : Option HB} {kill : Option (Nat × Option HB)} (hd : dstOk E.N i rs o.dst = true) (h : unitD E ops f H nx o u = some (x, ob, hb, kill)) :
    ∃ nx', stepU E ops rs i f H nx o u = some (⟨putF f o.dst (some (.u x)), updU H nx hb kill, nx'⟩, ob) := by
  unfold unitD at h
  split at h
  · rename_i x' ob' hp; cases h
    exact ⟨_, by simp only [stepU, hp, putS_dst hd, updU, effH]; rfl⟩
  · rename_i hp
    split at h
    · rename_i x' ob' hpu; cases h
      exact ⟨_, by simp only [stepU, hp, pickU_pickF hpu, putS_dst hd, updU, effH]; rfl⟩
    · obtain ⟨nx', h1⟩ := heapU_heapOp h
      exact ⟨nx', by simp only [stepU, hp, heapU_pickF h, h1, putS_dst hd]⟩
theorem stepD_stepOp {e : Option Ent} {ob : Prop} {hb : Option HB} {kill : Option (Nat × Option HB)} (hd : dstOk E.N i rs o.dst = true) (h : stepD E kn ops rs i f H nx o u = some (e, ob, hb, kill)) :
    ∃ nx', stepOp E kn ops rs i f H nx o u = some (⟨putF f o.dst e, updU H nx hb kill, nx'⟩, ob) := by
  unfold stepD at h
  split at h
  · rename_i hg
    split at h
    · rename_i h1; cases h
      obtain ⟨nx', h2⟩ := unitD_stepU hd h1
      exact ⟨nx', by simp only [stepOp, hg, h2]⟩
    · cases h
  · rename_i j b hg
    split at h
    · cases h
    · rename_i dj hdj
      split at h
      · rename_i k hc hk
        split at h
        · rename_i c hf
          split at h
          · rename_i g hgb
            split at h
            · rename_i hbk
              split at h
              · rename_i h1; cases h
                obtain ⟨nx', h2⟩ := unitD_stepU hd h1
                exact ⟨nx', by simp only [stepOp, hg, hdj, hc, hk, hf, hgb, hbk, h2]⟩
              · cases h
            · rename_i hbk; cases h
              exact ⟨nx, by simp only [stepOp, hg, hdj, hc, hk, hf, hgb, hbk, putS_dst hd, updU, effH]⟩
          · rename_i hgb
            split at h
            · rename_i hund; cases h
              exact ⟨nx, by simp only [stepOp, hg, hdj, hc, hk, hf, hgb, hund, putS_dst hd, updU, effH]⟩
            · cases h
        · cases h
      · rename_i hc hk
        split at h
        · rename_i x ob1 hp
          split at h
          · rename_i hgo; cases h
            exact ⟨nx, by simp only [stepOp, hg, hdj, hc, hk, hp, hgo, putS_dst hd, updU, effH]⟩
          · cases h
        · cases h
      · cases h

theorem pickOp_mono (hf : leF f f') {Γ : List (Nat × Bool)} {c a b : Operand} {x : A} (h : pickOp ops f Γ c a b = some x) : pickOp ops f' Γ c a b = some x := by
  unfold pickOp at h ⊢
  split at h
  · rename_i tc oa ob
    split at h
    · rename_i cx h1
      split at h
      · rename_i h2 h3 h4
        simp only [rdG_mono hf _ _ _ h1, h2, rdP_mono hf _ _ _ _ _ h3, rdP_mono hf _ _ _ _ _ h4]; exact h
      · cases h
    · cases h
  · cases h
theorem plainOp_mono (hf : leF f f') (hH : leF H H') {Γ : List (Nat × Bool)} {r} (h : plainOp E ops Γ f H o = some r) : plainOp E ops Γ f' H' o = some r := by
  unfold plainOp at h ⊢
  split at h
  · split at h
    · rename_i h1; rw [pickOp_mono hf h1]; exact h
    · cases h
  · exact pureOp_mono (rdG_mono hf Γ) hH h
theorem gobs_mono (hf : leF f f') : ∀ {Γ : List (Nat × Bool)} {p q : Prop}, gobs ops f Γ p = some q → gobs ops f' Γ p = some q := by
  intro Γ
  induction Γ with
  | nil => intro p q h; exact h
  | cons x Γ ih =>
    intro p q h
    obtain ⟨j, b⟩ := x
    simp only [gobs] at h ⊢
    split at h
    · split at h
      · rename_i h1; simp only [hf _ _ h1]
        split at h
        · exact ih h
        · cases h
      · cases h
    · cases h
theorem chainE_mono (hf : leF f f') : ∀ {n j : Nat} {b : Bool} {p q : Prop}, gobs ops f (chainE ops f n j b) p = some q → chainE ops f' n j b = chainE ops f n j b := by
  intro n
  induction n with
  | zero => intro j b p q h; rfl
  | succ n ih =>
    intro j b p q h
    simp only [chainE, gobs] at h ⊢
    cases hd : dstOf ops j with
    | none => rfl
    | some d =>
      simp only [hd] at h ⊢
      cases he : f d with
      | none => simp [he] at h
      | some e =>
        simp only [he, hf _ _ he] at h ⊢
        cases e with
        | u x => rfl
        | gd j' b' x =>
          simp only at h ⊢
          split at h
          · rw [ih h]
          · cases h
theorem unitD_mono (hf : leF f f') (hH : leF H H') {r} (h : unitD E ops f H nx o u = some r) : unitD E ops f' H' nx o u = some r := by
  unfold unitD at h ⊢
  split at h
  · rename_i h1; rw [plainOp_mono hf hH h1]; exact h
  · rename_i h1
    split at h
    · rename_i x' ob' hpu
      have h3 := pickU_mono hf hpu
      rw [pickU_plain h3]
      simp only [h3]; exact h
    · have h2 : plainOp E ops [] f' H' o = none := by
        unfold plainOp
        split
        · rename_i hop; rw [hop] at h; cases h
        · exact heapU_plain h
      rw [h2]
      simp only [heapU_pickU (ops := ops) (f := f') h]
      exact heapU_mono (rdG_mono hf []) hH h
theorem stepD_mono (hf : leF f f') (hH : leF H H') {r} (h : stepD E kn ops rs i f H nx o u = some r) : stepD E kn ops rs i f' H' nx o u = some r := by
  unfold stepD at h ⊢
  split at h
  · split at h
    · rename_i h1; rw [unitD_mono hf hH h1]; exact h
    · cases h
  · split at h
    · cases h
    · split at h
      · split at h
        · rename_i hfd
          simp only [hf _ _ hfd]
          split at h
          · split at h
            · split at h
              · rename_i h1; rw [unitD_mono hf hH h1]; exact h
              · cases h
            · exact h
          · exact h
        · cases h
      · split at h
        · rename_i hp
          split at h
          · rename_i hgo
            rw [chainE_mono hf hgo, plainOp_mono hf hH hp]
            simp only
            rw [gobs_mono hf hgo]; exact h
          · cases h
        · cases h
      · cases h
end
end Go.Mt

/-
  Mt, part Z: a region that draws its order: each operation is reckoned from what is known in every order.
-/
set_option linter.unusedSimpArgs false
set_option linter.unusedVariables false
namespace Go.Mt
open Go.RowKit

abbrev DR := Option Ent × Prop × Option HB × Option (Nat × Option HB)
def tbit (m k : Nat) : Bool := Nat.beq (Nat.land (Nat.shiftRight m k) 1) 1
/-- 'k' is ahead of 'j' in every order. -/
def bef (ms : List Nat) (k j : Nat) : Bool := match nth ms j with
  | some m => tbit m k
  | none => false
/-- Who writes a slot. -/
def wrOf : List Oper → Nat → Nat → Option Nat
  | [], _, _ => none
  | o :: l, i, s => match oeq o.dst s with
    | true => some i
    | false => wrOf l (i + 1) s
/-- Is there a writer of the name 'n' among those of 'f' (besides the one that makes it)? -/
def killed (ks : List (Nat × Nat)) (f : Nat → Bool) (n : Nat) : Bool := match ks with
  | [] => false
  | (k, n') :: l => (Nat.beq n n' && f k) || killed l f n
/-- The last one. -/
def lastK (ks : List (Nat × Nat)) (f : Nat → Bool) (n : Nat) : Option Nat := match ks with
  | [] => none
  | (k, n') :: l => match lastK l f n with
    | some k' => some k'
    | none => match Nat.beq n n' && f k with
      | true => some k
      | false => none
def drX (r : Option DR) (n : Nat) : Option HB := match r with
  | some (_, _, _, some (n', x)) => match Nat.beq n n' with
    | true => x
    | false => none
  | _ => none
def drE (r : Option DR) : Option Ent := match r with
  | some (e, _) => e
  | none => none
def drH (r : Option DR) : Option HB := match r with
  | some (_, _, hb, _) => hb
  | none => none
/-- The slots that operation 'j' may look at. -/
def mF (ops : List Oper) (ms : List Nat) (f0 : Nat → Option Ent) (res : Nat → Option DR) (j : Nat) : Nat → Option Ent := fun s => match wrOf ops 0 s with
  | none => f0 s
  | some k => match bef ms k j with
    | true => drE (res k)
    | false => match bef ms j k || Nat.beq j k with
      | true => f0 s
      | false => none
def stH (ks : List (Nat × Nat)) (H0 : Nat → Option HB) (nx0 : Nat) (res : Nat → Option DR) (f : Nat → Bool) : Nat → Option HB := fun n => match lastK ks f n with
  | some k => drX (res k) n
  | none => match Nat.blt n nx0 with
    | true => H0 n
    | false => match f (n - nx0) with
      | true => drH (res (n - nx0))
      | false => none
def mH (ms : List Nat) (ks : List (Nat × Nat)) (H0 : Nat → Option HB) (nx0 : Nat) (res : Nat → Option DR) (j : Nat) : Nat → Option HB := fun n => match killed ks (fun k => !bef ms k j && !(bef ms j k || Nat.beq j k)) n with
  | true => none
  | false => stH ks H0 nx0 res (fun k => bef ms k j) n
/-- Writers of one name are in an order. -/
def chkP (ms : List Nat) (k n : Nat) : List (Nat × Nat) → Bool
  | [] => true
  | (k', n') :: l => (!Nat.beq n n' || bef ms k k') && chkP ms k n l
def chkK (ms : List Nat) (nx0 : Nat) : List (Nat × Nat) → Bool
  | [] => true
  | (k, n) :: l => (Nat.blt n nx0 || bef ms (n - nx0) k) && chkP ms k n l && chkK ms nx0 l
def stepM (E : Env) (kn : Nat → Option Bool) (ops : List Oper) (ms : List Nat) (ks : List (Nat × Nat)) (f0 : Nat → Option Ent) (H0 : Nat → Option HB) (nx0 : Nat) (res : Nat → Option DR) (j : Nat) (o : Oper) (u : Value) : Option DR :=
  stepD E kn ops (refsOf ops ops) j (mF ops ms f0 res j) (mH ms ks H0 nx0 res j) (nx0 + j) o u
def dGo (E : Env) (kn : Nat → Option Bool) (ops : List Oper) (ms : List Nat) (ks : List (Nat × Nat)) (f0 : Nat → Option Ent) (H0 : Nat → Option HB) (nx0 : Nat) (bs : Nat → Value) : List Oper → Nat → (Nat → Option DR) → Prop → Option ((Nat → Option DR) × Prop)
  | [], _, res, p => some (res, p)
  | o :: l, j, res, p => match stepM E kn ops ms ks f0 H0 nx0 res j o (bs j) with
    | some (e, ob, hb, kill) => match (match kill with | some (n, _) => killed ks (fun k => Nat.beq j k) n | none => true) with
      | true => dGo E kn ops ms ks f0 H0 nx0 bs l (j + 1) (fun i => match Nat.beq i j with
        | true => some (e, ob, hb, kill)
        | false => res i) (p ∧ ob)
      | false => none
    | none => none
/-- What is known behind the operations of 'f'. -/
def stF (ops : List Oper) (f0 : Nat → Option Ent) (res : Nat → Option DR) (f : Nat → Bool) : Nat → Option Ent := fun s => match wrOf ops 0 s with
  | none => f0 s
  | some k => match f k with
    | true => drE (res k)
    | false => f0 s
def ltB (m k : Nat) : Bool := Nat.blt k m
def drawD (E : Env) (kn : Nat → Option Bool) (ops : List Oper) (m : Nat) (ms : List Nat) (ks : List (Nat × Nat)) (st : St) (bs : Nat → Value) : Option (St × Prop) := match st with
  | ⟨f0, H0, nx0⟩ => match chkK ms nx0 ks with
    | false => none
    | true => match dGo E kn ops ms ks f0 H0 nx0 bs (tke m ops) 0 (fun _ => none) True with
      | some (res, p) => some (⟨stF ops f0 res (ltB m), stH ks H0 nx0 res (ltB m), nx0 + m⟩, p)
      | none => none

/-! ### what is looked at once -/
def edgesM (m : Region.Mode) : List Edge → List Nat
  | [] => []
  | e :: l => match Region.binds m e with
    | true => e.on :: edgesM m l
    | false => edgesM m l
def maskO (ms : List Nat) : List Nat → Nat
  | [] => 0
  | k :: l => Nat.lor (Nat.lor (Nat.shiftLeft 1 k) ((nth ms k).getD 0)) (maskO ms l)
def ltAll (j : Nat) : List Nat → Bool
  | [] => true
  | k :: l => Nat.blt k j && ltAll j l
def dsts : List Oper → List Nat
  | [] => []
  | o :: l => match o.dst with
    | some d => d :: dsts l
    | none => dsts l
def chkO (N : Nat) (ops : List Oper) (rs : List (Nat × Nat)) (ms : List Nat) : List Oper → Nat → Bool
  | [], _ => true
  | o :: l, j => ltAll j (edgesM .any o.after.toList) && (match nth ms j with | some m => Nat.beq m (maskO ms (edgesM .any o.after.toList)) | none => false) &&
      dstOk N j rs o.dst && (match o.guard with | some (g, _) => bef ms g j | none => true) && chkO N ops rs ms l (j + 1)
def allBef (ms : List Nat) (i : Nat) : Nat → Bool
  | 0 => true
  | k + 1 => bef ms k i && allBef ms i k
/-- From operation 'm' on the text's own order is the only one. -/
def tailB (ms : List Nat) (m : Nat) : Nat → Bool
  | 0 => true
  | i + 1 => (Nat.blt i m || allBef ms i i) && tailB ms m i
def chkD (N : Nat) (ops : List Oper) (m : Nat) (ms : List Nat) : Bool := nodupB (dsts ops) && chkO N ops (refsOf ops ops) ms ops 0 && (Nat.ble m (len ops) && tailB ms m (len ops))
theorem allBef_ok {ms : List Nat} {i : Nat} : ∀ {k : Nat}, allBef ms i k = true → ∀ j, j < k → bef ms j i = true := by
  intro k
  induction k with
  | zero => intro _ j hj; omega
  | succ k ih =>
    intro h j hj
    simp only [allBef, Bool.and_eq_true] at h
    by_cases hk : j = k
    · subst hk; exact h.1
    · exact ih h.2 j (by omega)
theorem tailB_ok {ms : List Nat} {m : Nat} : ∀ {n : Nat}, tailB ms m n = true → ∀ i, m ≤ i → i < n → ∀ k, k < i → bef ms k i = true := by
  intro n
  induction n with
  | zero => intro _ i _ hi; omega
  | succ n ih =>
    intro h i hm hi k hk
    simp only [tailB, Bool.and_eq_true, Bool.or_eq_true, Nat.blt_eq] at h
    by_cases hn : i = n
    · subst hn
      rcases h.1 with h1 | h1
      · omega
      · exact allBef_ok h1 k hk
    · exact ih h.2 i hm (by omega) k hk

section
variable {ops : List Oper} {ms : List Nat} {ks : List (Nat × Nat)} {N : Nat} {mrk : Bool}

theorem tbit_eq (m k : Nat) : tbit m k = m.testBit k := by
  unfold tbit
  rw [Bool.eq_iff_iff, Nat.beq_eq]
  simp only [Nat.testBit]
  change (m >>> k) &&& 1 = 1 ↔ _
  rw [Nat.and_comm]
  have : 1 &&& (m >>> k) = 0 ∨ 1 &&& (m >>> k) = 1 := by rw [Nat.and_comm, Nat.and_one_is_mod]; omega
  rcases this with h | h <;> simp [h]

theorem maskO_bit {k : Nat} : ∀ {l : List Nat}, (maskO ms l).testBit k = true ↔ ∃ e ∈ l, k = e ∨ bef ms k e = true := by
  intro l
  induction l with
  | nil => simp [maskO]
  | cons e l ih =>
    have h0 : maskO ms (e :: l) = ((1 <<< e) ||| ((nth ms e).getD 0)) ||| maskO ms l := rfl
    rw [h0]
    simp only [Nat.testBit_or, Bool.or_eq_true, ih, List.mem_cons, exists_eq_or_imp]
    refine or_congr (or_congr ?_ ?_) Iff.rfl
    · rw [Nat.one_shiftLeft, Nat.testBit_two_pow]; simp [eq_comm]
    · unfold bef
      cases nth ms e with
      | none => simp
      | some m => simp [tbit_eq]

theorem edgesM_mem {m : Region.Mode} {e : Edge} : ∀ {l : List Edge}, e ∈ l → Region.binds m e = true → e.on ∈ edgesM m l := by
  intro l
  induction l with
  | nil => intro h; cases h
  | cons x l ih =>
    intro h hb
    simp only [edgesM]
    rcases List.mem_cons.1 h with rfl | h
    · rw [hb]; exact List.mem_cons_self
    · split
      · exact List.mem_cons_of_mem _ (ih h hb)
      · exact ih h hb
theorem mem_edgesM {m : Region.Mode} {k : Nat} : ∀ {l : List Edge}, k ∈ edgesM m l → ∃ e ∈ l, Region.binds m e = true ∧ e.on = k := by
  intro l
  induction l with
  | nil => intro h; cases h
  | cons x l ih =>
    intro h
    simp only [edgesM] at h
    split at h
    · rename_i hb
      rcases List.mem_cons.1 h with rfl | h
      · exact ⟨x, List.mem_cons_self, hb, rfl⟩
      · obtain ⟨e, h1, h2⟩ := ih h; exact ⟨e, List.mem_cons_of_mem _ h1, h2⟩
    · obtain ⟨e, h1, h2⟩ := ih h; exact ⟨e, List.mem_cons_of_mem _ h1, h2⟩
theorem ltAll_ok {j : Nat} : ∀ {l : List Nat}, ltAll j l = true → ∀ k ∈ l, k < j := by
  intro l
  induction l with
  | nil => intro _ k h; cases h
  | cons x l ih =>
    intro h k hk
    simp only [ltAll, Bool.and_eq_true, Nat.blt_eq] at h
    rcases List.mem_cons.1 hk with rfl | hk
    · exact h.1
    · exact ih h.2 k hk

structure ChkO (N : Nat) (ops : List Oper) (ms : List Nat) (j : Nat) (o : Oper) : Prop where
  lt : ∀ k ∈ edgesM .any o.after.toList, k < j
  bit : ∀ k, bef ms k j = true ↔ ∃ e ∈ edgesM .any o.after.toList, k = e ∨ bef ms k e = true
  dst : dstOk N j (refsOf ops ops) o.dst = true
  gd : ∀ g b, o.guard = some (g, b) → bef ms g j = true
theorem chkO_ok {rs : List (Nat × Nat)} (hrs : rs = refsOf ops ops) : ∀ {l : List Oper} {i : Nat}, chkO N ops rs ms l i = true → ∀ (j : Nat) (o : Oper), l[j]? = some o → ChkO N ops ms (i + j) o := by
  intro l
  induction l with
  | nil => intro i _ j o h; simp at h
  | cons x l ih =>
    intro i h j o hj
    simp only [chkO, Bool.and_eq_true] at h
    obtain ⟨⟨⟨⟨h1, h2⟩, h3⟩, h4⟩, h5⟩ := h
    cases j with
    | zero =>
      simp at hj; subst hj
      refine ⟨ltAll_ok h1, fun k => ?_, hrs ▸ h3, fun g b hg => by rw [hg] at h4; exact h4⟩
      split at h2
      · rename_i m hm
        rw [Nat.beq_eq] at h2
        have : bef ms k (i + 0) = m.testBit k := by simp only [bef, Nat.add_zero, hm, tbit_eq]
        rw [this, h2]; exact maskO_bit
      · cases h2
    | succ j =>
      have := ih h5 j o (by simpa using hj)
      rwa [show i + 1 + j = i + (j + 1) from by omega] at this

theorem wrOf_some {s k : Nat} : ∀ {l : List Oper} {i : Nat}, wrOf l i s = some k → ∃ o, i ≤ k ∧ l[k - i]? = some o ∧ o.dst = some s := by
  intro l
  induction l with
  | nil => intro i h; cases h
  | cons x l ih =>
    intro i h
    simp only [wrOf] at h
    split at h
    · rename_i hb; cases h
      refine ⟨x, Nat.le_refl _, by simp, ?_⟩
      unfold oeq at hb
      split at hb
      · rename_i hd; rw [Nat.beq_eq] at hb; subst hb; exact hd
      · cases hb
    · obtain ⟨o, h1, h2, h3⟩ := ih h
      refine ⟨o, by omega, ?_, h3⟩
      rw [show k - i = (k - (i + 1)) + 1 from by omega]
      simpa using h2
theorem dsts_mem {d : Nat} {o : Oper} : ∀ {l : List Oper}, o ∈ l → o.dst = some d → d ∈ dsts l := by
  intro l
  induction l with
  | nil => intro h; cases h
  | cons x l ih =>
    intro h hd
    simp only [dsts]
    rcases List.mem_cons.1 h with rfl | h
    · rw [hd]; exact List.mem_cons_self
    · split
      · exact List.mem_cons_of_mem _ (ih h hd)
      · exact ih h hd
theorem wrOf_dst {s : Nat} {o : Oper} : ∀ {l : List Oper} {i j : Nat}, nodupB (dsts l) = true → l[j]? = some o → o.dst = some s → wrOf l i s = some (i + j) := by
  intro l
  induction l with
  | nil => intro i j _ h; simp at h
  | cons x l ih =>
    intro i j hn hj hd
    cases j with
    | zero =>
      simp at hj; subst hj
      simp [wrOf, oeq, hd]
    | succ j =>
      have hj' : l[j]? = some o := by simpa using hj
      have hne : oeq x.dst s = false := by
        cases hx : x.dst with
        | none => rfl
        | some d =>
          simp only [oeq]
          cases hb : Nat.beq d s with
          | false => rfl
          | true =>
            rw [Nat.beq_eq] at hb; subst hb
            simp only [dsts, hx, nodupB, Bool.and_eq_true, Bool.not_eq_true'] at hn
            have := memN_mem (dsts_mem (List.mem_of_getElem? hj') hd)
            rw [this] at hn; cases hn.1
      have hn' : nodupB (dsts l) = true := by
        simp only [dsts] at hn
        split at hn
        · simp only [nodupB, Bool.and_eq_true] at hn; exact hn.2
        · exact hn
      simp only [wrOf, hne]
      rw [ih hn' hj' hd]
      congr 1; omega
theorem killed_mono {f g : Nat → Bool} (h : ∀ k, f k = true → g k = true) {n : Nat} : killed ks f n = true → killed ks g n = true := by
  induction ks with
  | nil => exact id
  | cons x ks ih =>
    obtain ⟨k, n'⟩ := x
    simp only [killed, Bool.or_eq_true, Bool.and_eq_true]
    rintro (⟨h1, h2⟩ | h1)
    · exact .inl ⟨h1, h k h2⟩
    · exact .inr (ih h1)
theorem killed_iff {f : Nat → Bool} {n : Nat} : killed ks f n = true ↔ ∃ k, (k, n) ∈ ks ∧ f k = true := by
  induction ks with
  | nil => simp [killed]
  | cons x ks ih =>
    obtain ⟨k, n'⟩ := x
    simp only [killed, Bool.or_eq_true, Bool.and_eq_true, ih, Nat.beq_eq, List.mem_cons, Prod.mk.injEq]
    constructor
    · rintro (⟨rfl, h⟩ | ⟨k', h1, h2⟩)
      · exact ⟨k, .inl ⟨rfl, rfl⟩, h⟩
      · exact ⟨k', .inr h1, h2⟩
    · rintro ⟨k', (⟨rfl, rfl⟩ | h1), h2⟩
      · exact .inl ⟨rfl, h2⟩
      · exact .inr ⟨k', h1, h2⟩
theorem lastK_congr {f g : Nat → Bool} {n : Nat} (h : ∀ k, (k, n) ∈ ks → f k = g k) : lastK ks f n = lastK ks g n := by
  induction ks with
  | nil => rfl
  | cons x ks ih =>
    obtain ⟨k, n'⟩ := x
    simp only [lastK]
    rw [ih (fun k hk => h k (List.mem_cons_of_mem _ hk))]
    cases hb : Nat.beq n n' with
    | false => rfl
    | true => rw [Nat.beq_eq] at hb; subst hb; rw [h k List.mem_cons_self]
theorem lastK_none {f : Nat → Bool} {n : Nat} (h : lastK ks f n = none) : ∀ k, (k, n) ∈ ks → f k = false := by
  induction ks with
  | nil => intro k hk; cases hk
  | cons x ks ih =>
    obtain ⟨k, n'⟩ := x
    simp only [lastK] at h
    split at h
    · cases h
    · rename_i h1
      split at h
      · cases h
      · rename_i h2
        intro k' hk'
        rcases List.mem_cons.1 hk' with hk' | hk'
        · cases hk'; simpa using h2
        · exact ih h1 k' hk'
/-- The last one's own, and how the others stand to it. -/
theorem lastK_some {f : Nat → Bool} {n k nx0 : Nat} (hc : chkK ms nx0 ks = true) (h : lastK ks f n = some k) : (k, n) ∈ ks ∧ f k = true ∧ ∀ k', (k', n) ∈ ks → f k' = true → k' = k ∨ bef ms k' k = true := by
  induction ks with
  | nil => cases h
  | cons x ks ih =>
    obtain ⟨k0, n'⟩ := x
    simp only [chkK, Bool.and_eq_true] at hc
    have hp : ∀ {l : List (Nat × Nat)}, chkP ms k0 n' l = true → ∀ k', (k', n') ∈ l → bef ms k0 k' = true := by
      intro l
      induction l with
      | nil => intro _ k' hk'; cases hk'
      | cons y l ihl =>
        obtain ⟨k1, n1⟩ := y
        intro hq k' hk'
        simp only [chkP, Bool.and_eq_true, Bool.or_eq_true, Bool.not_eq_true'] at hq
        rcases List.mem_cons.1 hk' with hk' | hk'
        · cases hk'
          rcases hq.1 with h1 | h1
          · simp at h1
          · exact h1
        · exact ihl hq.2 k' hk'
    simp only [lastK] at h
    split at h
    · rename_i k' h1
      cases h
      obtain ⟨g1, g2, g3⟩ := ih hc.2 h1
      refine ⟨List.mem_cons_of_mem _ g1, g2, fun k' hk' hf => ?_⟩
      rcases List.mem_cons.1 hk' with hk' | hk'
      · cases hk'; exact .inr (hp hc.1.2 k g1)
      · exact g3 k' hk' hf
    · rename_i h1
      split at h
      · rename_i h2
        cases h
        simp only [Bool.and_eq_true, Nat.beq_eq] at h2
        obtain ⟨rfl, h2⟩ := h2
        refine ⟨List.mem_cons_self, h2, fun k' hk' hf => ?_⟩
        rcases List.mem_cons.1 hk' with hk' | hk'
        · cases hk'; exact .inl rfl
        · have := lastK_none h1 k' hk'; rw [hf] at this; cases this
      · cases h
theorem chkK_mk {nx0 k n : Nat} (hc : chkK ms nx0 ks = true) (h : (k, n) ∈ ks) : n < nx0 ∨ bef ms (n - nx0) k = true := by
  induction ks with
  | nil => cases h
  | cons x ks ih =>
    obtain ⟨k0, n'⟩ := x
    simp only [chkK, Bool.and_eq_true, Bool.or_eq_true, Nat.blt_eq] at hc
    rcases List.mem_cons.1 h with h | h
    · cases h; exact hc.1.1
    · exact ih hc.2 h
theorem killed_or {f g : Nat → Bool} {n : Nat} : killed ks (fun k => f k || g k) n = (killed ks f n || killed ks g n) := by
  induction ks with
  | nil => rfl
  | cons x ks ih =>
    obtain ⟨k, n'⟩ := x
    simp only [killed, ih]
    cases Nat.beq n n' <;> cases f k <;> cases g k <;> simp [Bool.or_comm, Bool.or_left_comm, Bool.or_assoc]
end

section
variable {P : Program} {E : Env} {kn : Nat → Option Bool} {ops : List Oper} {ms : List Nat} {ks : List (Nat × Nat)} {f0 : Nat → Option Ent} {H0 : Nat → Option HB} {nx0 : Nat}
  {B : Nat → Prop} {W : World} {M0 M : Mem} {Q : Exit → Act → World → Prop} {k : List Itm} {st : St} {a : Act} {w : World}

theorem mF_congr {res res' : Nat → Option DR} {j : Nat} (h : ∀ k, bef ms k j = true → res k = res' k) : mF ops ms f0 res j = mF ops ms f0 res' j := by
  funext s
  simp only [mF]
  split
  · rfl
  · rename_i k hk
    cases hb : bef ms k j with
    | true => simp only [h k hb]
    | false => rfl
theorem stH_congr {res res' : Nat → Option DR} {f : Nat → Bool} (hc : chkK ms nx0 ks = true) (h : ∀ k, f k = true → res k = res' k) : stH ks H0 nx0 res f = stH ks H0 nx0 res' f := by
  funext n
  simp only [stH]
  cases hl : lastK ks f n with
  | some k => simp only [h k (lastK_some hc hl).2.1]
  | none =>
    cases hb : f (n - nx0) with
    | true => simp only [h _ hb]
    | false => rfl
theorem mH_congr {res res' : Nat → Option DR} {j : Nat} (hc : chkK ms nx0 ks = true) (h : ∀ k, bef ms k j = true → res k = res' k) : mH ms ks H0 nx0 res j = mH ms ks H0 nx0 res' j := by
  funext n
  simp only [mH]
  rw [stH_congr (f := fun k => bef ms k j) hc h]
theorem stepM_congr {res res' : Nat → Option DR} {j : Nat} {o : Oper} {u : Value} (hc : chkK ms nx0 ks = true) (h : ∀ k, bef ms k j = true → res k = res' k) : stepM E kn ops ms ks f0 H0 nx0 res j o u = stepM E kn ops ms ks f0 H0 nx0 res' j o u := by
  unfold stepM; rw [mF_congr h, mH_congr hc h]

/-- What 'dGo' reckons is what each step reckons from it. -/
theorem dGo_ok {m : Nat} (hc : chkK ms nx0 ks = true) (hlt : ∀ k j, j < ops.length → bef ms k j = true → k < j) {bs : Nat → Value} : ∀ {l : List Oper} {i : Nat} {res res' : Nat → Option DR} {p p' : Prop}, l = (ops.take m).drop i → dGo E kn ops ms ks f0 H0 nx0 bs l i res p = some (res', p') →
    (∀ j, j < i → res' j = res j) ∧ (p' → p) ∧ ∀ (j : Nat) (o : Oper), i ≤ j → j < m → ops[j]? = some o → ∃ e ob hb kill, res' j = some (e, ob, hb, kill) ∧ stepM E kn ops ms ks f0 H0 nx0 res' j o (bs j) = some (e, ob, hb, kill) ∧ (p' → ob) ∧ ∀ n x, kill = some (n, x) → killed ks (fun k => Nat.beq j k) n = true := by
  intro l
  induction l with
  | nil =>
    intro i res res' p p' hl h
    cases h
    refine ⟨fun _ _ => rfl, id, fun j o hij hjm hj => ?_⟩
    have h1 : (ops.take m).length ≤ i := List.drop_eq_nil_iff.1 hl.symm
    rw [List.length_take] at h1
    have h2 := (List.getElem?_eq_some_iff.1 hj).1
    omega
  | cons x l ih =>
    intro i res res' p p' hl h
    simp only [dGo] at h
    split at h
    · rename_i e ob hb kill hst
      split at h
      · rename_i hkill
        have hl' : l = (ops.take m).drop (i + 1) := by
          have := congrArg List.tail hl
          simpa [List.tail_drop] using this
        obtain ⟨g1, g2, g3⟩ := ih hl' h
        have hi' : i < (ops.take m).length := by
          rcases Nat.lt_or_ge i (ops.take m).length with h' | h'
          · exact h'
          · rw [List.drop_eq_nil_of_le h'] at hl; cases hl
        have hi : i < ops.length := by rw [List.length_take] at hi'; omega
        have him : i < m := by rw [List.length_take] at hi'; omega
        have hx : ops[i]? = some x := by
          have h0 : ((ops.take m).drop i)[0]? = some x := by rw [← hl]; rfl
          rw [List.getElem?_drop, Nat.add_zero, List.getElem?_take, if_pos him] at h0
          exact h0
        refine ⟨fun j hj => ?_, fun hp => (g2 hp).1, fun j o hij hjm hj => ?_⟩
        · rw [g1 j (by omega)]
          have : Nat.beq j i = false := by
            cases hb : Nat.beq j i with
            | false => rfl
            | true => rw [Nat.beq_eq] at hb; omega
          simp only [this]
        · rcases Nat.lt_or_ge i j with hlt' | hge
          · exact g3 j o hlt' hjm hj
          · obtain rfl : j = i := by omega
            rw [hx] at hj; cases hj
            have hres : res' j = some (e, ob, hb, kill) := by
              rw [g1 j (by omega)]
              simp
            refine ⟨e, ob, hb, kill, hres, ?_, fun hp => (g2 hp).2, fun n x hn => by subst hn; exact hkill⟩
            rw [← hst]
            refine stepM_congr hc fun k hk => ?_
            have hkj := hlt k j hi hk
            rw [g1 k (by omega)]
            have : Nat.beq k j = false := by
              cases hb : Nat.beq k j with
              | false => rfl
              | true => rw [Nat.beq_eq] at hb; omega
            simp only [this]
      · cases h
    · cases h

theorem SatP.weaken {S : Nat → Prop} {N : Nat} {mrk : Bool} {rs : List (Nat × Nat)} {f f' : Nat → Option Ent} {H H' : Nat → Option HB} {nx nx' : Nat} (hS : SatP N mrk B W M0 ops rs S ⟨f, H, nx⟩ M a w) (hf : leF f' f) (hH : leF H' H) : SatP N mrk B W M0 ops rs S ⟨f', H', nx'⟩ M a w :=
  ⟨⟨hS.h.below, hS.h.base, hS.h.mem, fun n x hx => hS.h.ok n x (hH n x hx), fun n n' x x' b hn e1 e2 => hS.h.inj n n' x x' b hn (hH _ _ e1) (hH _ _ e2)⟩, hS.old, hS.d, hS.n, fun s e he => hS.f s e (hf s e he), fun s j b x hx => hS.g s j b x (hf _ _ hx)⟩

def don (listed : Array Bool) (k : Nat) : Bool := listed.getD k false

theorem don_set {listed : Array Bool} {i k : Nat} (hi : i < listed.size) : don (listed.setIfInBounds i true) k = (don listed k || Nat.beq i k) := by
  unfold don
  cases hb : Nat.beq i k with
  | true => rw [Nat.beq_eq] at hb; subst hb; simp [hi]
  | false =>
    have hne : i ≠ k := fun e => by subst e; simp at hb
    simp [Array.getElem?_setIfInBounds_ne hne]

structure Facts (E : Env) (kn : Nat → Option Bool) (ops : List Oper) (m : Nat) (ms : List Nat) (ks : List (Nat × Nat)) (f0 : Nat → Option Ent) (H0 : Nat → Option HB) (nx0 : Nat) (R : (Nat → Value) → Nat → Option DR) : Prop where
  chk : ∀ (j : Nat) (o : Oper), ops[j]? = some o → ChkO E.N ops ms j o
  nd : nodupB (dsts ops) = true
  le : m ≤ ops.length
  tail : ∀ i, m ≤ i → i < ops.length → ∀ k, k < i → bef ms k i = true
  st : ∀ us (j : Nat) (o : Oper), j < m → ops[j]? = some o → ∃ e ob hb kill, R us j = some (e, ob, hb, kill) ∧ stepM E kn ops ms ks f0 H0 nx0 (R us) j o (us j) = some (e, ob, hb, kill) ∧ ob ∧ ∀ n x, kill = some (n, x) → killed ks (fun k => Nat.beq j k) n = true
  ck : chkK ms nx0 ks = true
  out : ∀ us j, m ≤ j → R us j = none

variable {R : (Nat → Value) → Nat → Option DR}

theorem bef_lt (hc : ∀ (j : Nat) (o : Oper), ops[j]? = some o → ChkO E.N ops ms j o) : ∀ k j, j < ops.length → bef ms k j = true → k < j := by
  intro k j
  induction j using Nat.strongRecOn generalizing k with
  | _ j ih =>
    intro hj hb
    have h1 := hc j _ (List.getElem?_eq_getElem hj)
    obtain ⟨e, he, hke⟩ := (h1.bit k).1 hb
    have hlt := h1.lt e he
    rcases hke with rfl | hke
    · exact hlt
    · have := ih e hlt k (by omega) hke; omega
theorem bef_trans (hc : ∀ (j : Nat) (o : Oper), ops[j]? = some o → ChkO E.N ops ms j o) : ∀ l k j, j < ops.length → bef ms k j = true → bef ms l k = true → bef ms l j = true := by
  intro l k j
  induction j using Nat.strongRecOn generalizing k with
  | _ j ih =>
    intro hj hb hl
    have h1 := hc j _ (List.getElem?_eq_getElem hj)
    obtain ⟨e, he, hke⟩ := (h1.bit k).1 hb
    have hlt := h1.lt e he
    rcases hke with rfl | hke
    · exact (h1.bit l).2 ⟨_, he, .inr hl⟩
    · exact (h1.bit l).2 ⟨e, he, .inr (ih e hlt k (by omega) hke hl)⟩

/-- What an operation comes to hangs on what it, and those ahead of it, brought. -/
theorem Facts.dep {m : Nat} (hF : Facts E kn ops m ms ks f0 H0 nx0 R) : ∀ (j : Nat), j < m → ∀ us us' : Nat → Value, (∀ k, k = j ∨ bef ms k j = true → us k = us' k) → R us j = R us' j := by
  intro j
  induction j using Nat.strongRecOn with
  | _ j ih =>
    intro hjm us us' h
    have hj : j < ops.length := by have := hF.le; omega
    obtain ⟨e, ob, hb, kill, h1, h2, _⟩ := hF.st us j _ hjm (List.getElem?_eq_getElem hj)
    obtain ⟨e', ob', hb', kill', h1', h2', _⟩ := hF.st us' j _ hjm (List.getElem?_eq_getElem hj)
    rw [h1, h1', ← h2, ← h2', h j (.inl rfl)]
    refine stepM_congr hF.ck fun k hk => ?_
    have hkj := bef_lt hF.chk k j hj hk
    exact ih k hkj (by omega) us us' fun l hl => h l (.inr (by
      rcases hl with rfl | hl
      · exact hk
      · exact bef_trans hF.chk l k j hj hk hl))

theorem stF_congr {res res' : Nat → Option DR} {f : Nat → Bool} (h : ∀ k, k < ops.length → f k = true → res k = res' k) : stF ops f0 res f = stF ops f0 res' f := by
  funext s
  simp only [stF]
  split
  · rfl
  · rename_i k hk
    obtain ⟨o, _, h2, _⟩ := wrOf_some hk
    have hlt : k < ops.length := by have := (List.getElem?_eq_some_iff.1 h2).1; simpa using this
    cases hb : f k with
    | true => simp only [h k hlt hb]
    | false => rfl
/-- The tail of a region, in the text's own order. -/
theorem tail_ok {m : Nat} (hc : ∀ (j : Nat) (o : Oper), ops[j]? = some o → ChkO E.N ops ms j o) (htail : ∀ i, m ≤ i → i < ops.length → ∀ k, k < i → bef ms k i = true) : ∀ (r i : Nat), i + r = ops.length → m ≤ i → ∀ (fuel : Nat) (listed : Array Bool) (a : Act) (w : World), r ≤ fuel → listed.size = ops.length →
    (∀ k, k < ops.length → (don listed k = true ↔ k < i)) → wpList P ops.toArray Q (drp i ops) a w → wpAny P .any ops.toArray Q fuel listed a w := by
  intro r
  induction r with
  | zero =>
    intro i hi hm fuel listed a w hf hsz hd h
    have hr : Region.ready .any ops.toArray listed = [] := by
      apply List.eq_nil_iff_forall_not_mem.2
      intro j hj
      obtain ⟨h1, o, ho, _⟩ := mem_ready.1 hj
      have hlt : j < ops.length := by simpa using (Array.getElem?_eq_some_iff.1 ho).1
      have h2 := (hd j hlt).2 (by omega)
      unfold don at h2
      have hls : j < listed.size := by omega
      simp [hls] at h1 h2
      rw [h1] at h2; cases h2
    refine wpAny_done hr ?_ fuel
    rw [drp_eq, List.drop_eq_nil_of_le (by omega)] at h
    exact h
  | succ r ih =>
    intro i hi hm fuel listed a w hf hsz hd h
    obtain ⟨f, rfl⟩ : ∃ f, fuel = f + 1 := ⟨fuel - 1, by omega⟩
    have hlt : i < ops.length := by omega
    have hls : i < listed.size := by omega
    have hnd : don listed i = false := by
      cases hdi : don listed i with
      | false => rfl
      | true => have := (hd i hlt).1 hdi; omega
    have hiu : listed.getD i true = false := by unfold don at hnd; simp [hls] at hnd ⊢; exact hnd
    have hready : ∀ j, j ∈ Region.ready .any ops.toArray listed ↔ j = i := by
      intro j
      constructor
      · intro hj
        obtain ⟨h1, o, ho, hall⟩ := mem_ready.1 hj
        have hjl : j < ops.length := by simpa using (Array.getElem?_eq_some_iff.1 ho).1
        have hjn : ¬ j < i := fun hji => by
          have h2 := (hd j hjl).2 hji
          unfold don at h2
          have : j < listed.size := by omega
          simp [this] at h1 h2
          rw [h1] at h2; cases h2
        rcases Nat.lt_or_ge i j with hij | hij
        · exfalso
          have hb := htail j (by omega) hjl i hij
          have : ∀ j, j < ops.length → ∀ i, bef ms i j = true → (∀ e ∈ edgesM .any (ops.getD j default).after.toList, don listed e = true) → don listed i = true := by
            intro j hj i hb he
            have hck := hc j _ (List.getElem?_eq_getElem hj)
            obtain ⟨e, he1, he2⟩ := (hck.bit i).1 hb
            have hed : don listed e = true := he e (by simpa [List.getD, hj] using he1)
            rcases he2 with rfl | he2
            · exact hed
            · have hel := hck.lt e he1
              have := (hd e (by omega)).1 hed
              have hie : i < e := by
                exact bef_lt hc i e (by omega) he2
              exact (hd i (by omega)).2 (by omega)
          have hd2 := this j hjl i hb (fun e he => by
            have ho' : ops[j]? = some o := by simpa using ho
            have : ops.getD j default = o := by simp [List.getD, ho']
            rw [this] at he
            obtain ⟨ed, q1, q2, q3⟩ := mem_edgesM he
            rw [← q3]; exact hall ed (by simpa using q1) q2)
          rw [hnd] at hd2; cases hd2
        · omega
      · rintro rfl
        refine mem_ready.2 ⟨hiu, ops[j], by simp [hlt], fun e he hb => ?_⟩
        have hm' := edgesM_mem (l := ops[j].after.toList) (by simpa using he) hb
        have hel := (hc j _ (List.getElem?_eq_getElem hlt)).lt _ hm'
        exact (hd e.on (by omega)).2 hel
    refine ⟨fun hr => ?_, fun j hj => ?_⟩
    · have := (hready i).2 rfl
      rw [hr] at this; cases this
    · have hji := (hready j).1 hj
      subst hji
      have hdr : drp j ops = ops[j] :: drp (j + 1) ops := by rw [drp_eq, drp_eq, List.drop_eq_getElem_cons hlt]
      rw [hdr] at h
      have hgo : ∀ a w, wpList P ops.toArray Q (drp (j + 1) ops) a w → wpAny P .any ops.toArray Q f (listed.setIfInBounds j true) a w := fun a w hh => ih (j + 1) (by omega) (by omega) f _ a w (by omega) (by simp [hsz]) (fun k hk => by
        rw [don_set hls, Bool.or_eq_true, hd k hk, Nat.beq_eq]; omega) hh
      unfold wpOp
      have ho : ops.toArray[j]? = some ops[j] := by simp [hlt]
      simp only [ho]
      simp only [wpList] at h
      split
      · rename_i hw
        rw [if_pos hw] at h
        rcases h with h | h
        · exact .inl (Oper.wp_mono hgo h)
        · exact .inr h
      · rename_i hw
        rw [if_neg hw] at h
        exact hgo _ _ h

/-- ANY ORDER. -/
theorem any_ok {m : Nat} (hT : TbOk P E.T) (hΨ : PsiOk P E) (hF : Facts E kn ops m ms ks f0 H0 nx0 R)
    (hQ : ∀ us M a w, SatP E.N E.mrk B W M0 ops (refsOf ops ops) (fun j => j < m) ⟨stF ops f0 (R us) (ltB m), stH ks H0 nx0 (R us) (ltB m), nx0 + m⟩ M a w → wpList P ops.toArray Q (drp m ops) a w) :
    ∀ (fuel : Nat) (listed : Array Bool) (a : Act) (w : World), listed.size = ops.length → (∀ j, j < ops.length → don listed j = true → ∀ k, bef ms k j = true → don listed k = true) → (∀ j, don listed j = true → j < m) →
      ((List.range ops.length).countP (fun j => !don listed j) ≤ fuel) → (∃ us M, SatP E.N E.mrk B W M0 ops (refsOf ops ops) (fun j => don listed j = true) ⟨stF ops f0 (R us) (don listed), stH ks H0 nx0 (R us) (don listed), nx0⟩ M a w) →
      wpAny P .any ops.toArray Q fuel listed a w := by
  -- all but the tail is done
  have fin : ∀ (fuel : Nat) (listed : Array Bool) (a : Act) (w : World), listed.size = ops.length → (∀ j, don listed j = true ↔ j < m) → ((List.range ops.length).countP (fun j => !don listed j) ≤ fuel) → (∃ us M, SatP E.N E.mrk B W M0 ops (refsOf ops ops) (fun j => don listed j = true) ⟨stF ops f0 (R us) (don listed), stH ks H0 nx0 (R us) (don listed), nx0⟩ M a w) → wpAny P .any ops.toArray Q fuel listed a w := by
    intro fuel listed a w hsz hall hcnt ⟨us, M, hS⟩
    have hd : don listed = ltB m := by
      funext k
      rw [Bool.eq_iff_iff, hall k]
      unfold ltB; rw [Nat.blt_eq]
    have hle := hF.le
    refine tail_ok hF.chk hF.tail (ops.length - m) m (by omega) (Nat.le_refl _) fuel listed a w ?_ hsz (fun k _ => hall k) (hQ us M a w ?_)
    · refine Nat.le_trans ?_ hcnt
      have : ∀ n, m ≤ n → n - m ≤ (List.range n).countP (fun j => !don listed j) := by
        intro n
        induction n with
        | zero => intro _; omega
        | succ n ih =>
          intro hn
          rw [List.range_succ, List.countP_append]
          by_cases h : m = n + 1
          · omega
          · have := ih (by omega)
            have e : (!don listed n) = true := by
              cases hq : don listed n with
              | false => rfl
              | true => have := (hall n).1 hq; omega
            have e2 : List.countP (fun j => !don listed j) [n] = 1 := by simp [List.countP_cons, e]
            omega
      exact this _ hle
    · rw [hd] at hS
      have h3 := hS.weaken (nx' := nx0 + m) (f' := stF ops f0 (R us) (ltB m)) (H' := stH ks H0 nx0 (R us) (ltB m)) (fun _ _ h => h) (fun _ _ h => h)
      exact ⟨h3.h, h3.old, h3.d, h3.n, h3.f, fun s j b x hx => ⟨by have := (h3.g s j b x hx).1; unfold ltB at this; rwa [Nat.blt_eq] at this, (h3.g s j b x hx).2⟩⟩
  intro fuel
  induction fuel with
  | zero =>
    intro listed a w hsz hcl hdm hc hI
    have hall : ∀ j, j < ops.length → don listed j = true := by
      intro j hj
      have h0 : (List.range ops.length).countP (fun j => !don listed j) = 0 := by omega
      rw [List.countP_eq_zero] at h0
      have := h0 j (List.mem_range.2 hj)
      simpa using this
    exact fin 0 listed a w hsz (fun j => ⟨hdm j, fun hj => hall j (by have := hF.le; omega)⟩) hc hI
  | succ fuel ih =>
    intro listed a w hsz hcl hdm hc hI
    by_cases hpre : ∀ j, j < m → don listed j = true
    · exact fin (fuel + 1) listed a w hsz (fun j => ⟨hdm j, hpre j⟩) hc hI
    have hex : ∃ j, j < m ∧ don listed j = false := by
      apply Classical.byContradiction
      intro hno
      refine hpre fun j hj => ?_
      cases hd : don listed j with
      | true => rfl
      | false => exact absurd ⟨j, hj, hd⟩ hno
    refine ⟨fun hr => ?_, fun i hi => ?_⟩
    · exfalso
      have hall : ∀ j, j < ops.length → don listed j = true := by
        intro j
        induction j using Nat.strongRecOn with
        | _ j ihj =>
          intro hj
          cases hd : don listed j with
          | true => rfl
          | false =>
            exfalso
            have hjr : j ∈ Region.ready .any ops.toArray listed := by
              refine mem_ready.2 ⟨?_, ops[j], by simp [hj], fun e he hb => ?_⟩
              · unfold don at hd
                have hls : j < listed.size := by omega
                simp [hls] at hd ⊢; exact hd
              · have hm := edgesM_mem (l := ops[j].after.toList) (by simpa using he) hb
                have hlt := (hF.chk j _ (List.getElem?_eq_getElem hj)).lt _ hm
                exact ihj e.on hlt (by omega)
            rw [hr] at hjr; cases hjr
      obtain ⟨j, hj, hd⟩ := hex
      rw [hall j (by have := hF.le; omega)] at hd; cases hd
    · obtain ⟨hun, o, ho, hall⟩ := mem_ready.1 hi
      have ho' : ops[i]? = some o := by simpa using ho
      have hlt : i < ops.length := (List.getElem?_eq_some_iff.1 ho').1
      have hls : i < listed.size := by omega
      have hnd : don listed i = false := by unfold don; simp [hls] at hun ⊢; exact hun
      have hck := hF.chk i o ho'
      have hbd : ∀ k, bef ms k i = true → don listed k = true := by
        intro k hk
        obtain ⟨e, he, hke⟩ := (hck.bit k).1 hk
        obtain ⟨ed, q1, q2, q3⟩ := mem_edgesM he
        have hde : don listed e = true := by rw [← q3]; exact hall ed (by simpa using q1) q2
        rcases hke with rfl | hke
        · exact hde
        · exact hcl e (by have := hck.lt e he; omega) hde k hke
      have him : i < m := by
        rcases Nat.lt_or_ge i m with h' | h'
        · exact h'
        · exfalso
          obtain ⟨j, hj, hd⟩ := hex
          rw [hbd j (hF.tail i h' hlt j (by omega))] at hd; cases hd
      have hdm' : ∀ j, don (listed.setIfInBounds i true) j = true → j < m := by
        intro j hj
        rw [don_set hls, Bool.or_eq_true, Nat.beq_eq] at hj
        rcases hj with hj | hj
        · exact hdm j hj
        · omega
      obtain ⟨us, M, hS⟩ := hI
      -- behind this step
      have hsz' : (listed.setIfInBounds i true).size = ops.length := by simp [hsz]
      have hcl' : ∀ j, j < ops.length → don (listed.setIfInBounds i true) j = true → ∀ k, bef ms k j = true → don (listed.setIfInBounds i true) k = true := by
        intro j hj hdj k hk
        rw [don_set hls] at hdj ⊢
        rw [Bool.or_eq_true] at hdj ⊢
        rcases hdj with hdj | hdj
        · exact .inl (hcl j hj hdj k hk)
        · rw [Nat.beq_eq] at hdj; subst hdj; exact .inl (hbd k hk)
      have hc' : (List.range ops.length).countP (fun j => !don (listed.setIfInBounds i true) j) ≤ fuel := by
        have key : ∀ (l : List Nat), i ∈ l → l.countP (fun j => !don (listed.setIfInBounds i true) j) + 1 ≤ l.countP (fun j => !don listed j) := by
          intro l
          have hle : ∀ (l : List Nat), l.countP (fun j => !don (listed.setIfInBounds i true) j) ≤ l.countP (fun j => !don listed j) := by
            intro l
            refine List.countP_mono_left fun x _ hx => ?_
            rw [don_set hls] at hx
            simp at hx ⊢; exact hx.1
          induction l with
          | nil => intro h; cases h
          | cons x l ihl =>
            intro h
            rw [List.countP_cons, List.countP_cons]
            by_cases hxi : x = i
            · subst hxi
              have e1 : (!don (listed.setIfInBounds x true) x) = false := by rw [don_set hls]; simp
              have e2 : (!don listed x) = true := by rw [hnd]; rfl
              rw [e1, e2]; simp; exact hle l
            · have := ihl ((List.mem_cons.1 h).resolve_left (fun e => hxi e.symm))
              have e1 : (!don (listed.setIfInBounds i true) x) = (!don listed x) := by
                rw [don_set hls]
                have : Nat.beq i x = false := by
                  cases hb : Nat.beq i x with
                  | false => rfl
                  | true => rw [Nat.beq_eq] at hb; exact absurd hb.symm hxi
                rw [this]; simp
              rw [e1]; omega
        have := key _ (List.mem_range.2 hlt); omega
      -- the step
      have main : if Region.wanted o (yielded ops.toArray a.tmps) then o.wp P a w (wpAny P .any ops.toArray Q fuel (listed.setIfInBounds i true)) Q else (wpAny P .any ops.toArray Q fuel (listed.setIfInBounds i true)) (a.put o.dst undef) w := by
        have hS1 : SatP E.N E.mrk B W M0 ops (refsOf ops ops) (fun j => don listed j = true) ⟨stF ops f0 (R us) (don listed), stH ks H0 nx0 (R us) (don listed), nx0 + i⟩ M a w := hS.weaken (fun _ _ h => h) (fun _ _ h => h)
        refine stepOp_okP hT hΨ hS1 (i := i) (S' := fun j => don (listed.setIfInBounds i true) j = true) (by rw [hnd]; simp) (fun j hj => by rw [don_set hls, hj]; rfl) (kn := kn) (fun j b hg => hbd j (hck.gd j b hg)) fun u => ?_
        -- what this operation brings is 'u'
        let us' : Nat → Value := fun n => match Nat.beq n i with | true => u | false => us n
        have hus : us' i = u := by simp [us']
        have husne : ∀ n, n ≠ i → us' n = us n := by
          intro n hn
          have : Nat.beq n i = false := by
            cases hb : Nat.beq n i with
            | false => rfl
            | true => rw [Nat.beq_eq] at hb; exact absurd hb hn
          simp [us', this]
        have hsame : ∀ k, k < ops.length → don listed k = true → R us k = R us' k := by
          intro k hk hdk
          refine hF.dep k (hdm k hdk) us us' fun l hl => (husne l ?_).symm
          rintro rfl
          rcases hl with rfl | hl
          · rw [hnd] at hdk; cases hdk
          · rw [hcl k hk hdk _ hl] at hnd; cases hnd
        have hsameR : ∀ k, don listed k = true → R us k = R us' k := by
          intro k hdk
          rcases Nat.lt_or_ge k ops.length with h | h
          · exact hsame k h hdk
          · have := hF.le; rw [hF.out us k (by omega), hF.out us' k (by omega)]
        have eF : stF ops f0 (R us) (don listed) = stF ops f0 (R us') (don listed) := stF_congr hsame
        have eH : stH ks H0 nx0 (R us) (don listed) = stH ks H0 nx0 (R us') (don listed) := stH_congr hF.ck fun k hk => hsameR k hk
        obtain ⟨e, ob, hb, kill, r1, r2, r3, r4⟩ := hF.st us' i o him ho'
        rw [hus] at r2
        have lF : leF (mF ops ms f0 (R us') i) (stF ops f0 (R us') (don listed)) := by
          intro s x hx
          simp only [mF] at hx
          simp only [stF]
          split at hx
          · exact hx
          · rename_i k hw
            obtain ⟨ok, _, q2, _⟩ := wrOf_some hw
            have hkl : k < ops.length := by have := (List.getElem?_eq_some_iff.1 q2).1; simpa using this
            split at hx
            · rename_i hbk; simp only [hbd k hbk]; exact hx
            · split at hx
              · rename_i hbk
                have : don listed k = false := by
                  cases hdk : don listed k with
                  | false => rfl
                  | true =>
                    exfalso
                    rw [Bool.or_eq_true] at hbk
                    rcases hbk with hbk | hbk
                    · rw [hcl k hkl hdk i hbk] at hnd; cases hnd
                    · rw [Nat.beq_eq] at hbk; subst hbk; rw [hnd] at hdk; cases hdk
                simp only [this]; exact hx
              · cases hx
        have dlt : ∀ k, don listed k = true → k < ops.length := fun k hd => by
          rcases Nat.lt_or_ge k listed.size with h' | h'
          · omega
          · unfold don at hd; simp [Array.getElem?_eq_none h'] at hd
        have lH : leF (mH ms ks H0 nx0 (R us') i) (stH ks H0 nx0 (R us') (don listed)) := by
          intro n x hx
          simp only [mH] at hx
          split at hx
          · cases hx
          · rename_i hk
            have hag : ∀ k, (k, n) ∈ ks → bef ms k i = don listed k := by
              intro k hkn
              cases hb : bef ms k i with
              | true => rw [hbd k hb]
              | false =>
                cases hd : don listed k with
                | false => rfl
                | true =>
                  exfalso
                  have : killed ks (fun k => !bef ms k i && !(bef ms i k || Nat.beq i k)) n = true := killed_iff.2 ⟨k, hkn, by
                    rw [hb, Bool.not_false, Bool.true_and, Bool.not_eq_true', Bool.or_eq_false_iff]
                    refine ⟨?_, ?_⟩
                    · cases hb2 : bef ms i k with
                      | false => rfl
                      | true => rw [hcl k (dlt k hd) hd i hb2] at hnd; cases hnd
                    · cases hb2 : Nat.beq i k with
                      | false => rfl
                      | true => rw [Nat.beq_eq] at hb2; subst hb2; rw [hnd] at hd; cases hd⟩
                  rw [this] at hk; cases hk
            simp only [stH] at hx ⊢
            rw [lastK_congr (f := don listed) (g := fun k => bef ms k i) (fun k hk => (hag k hk).symm)]
            split at hx
            · exact hx
            · split at hx
              · exact hx
              · split at hx
                · rename_i hbn; simp only [hbd _ hbn]; exact hx
                · cases hx
        have r5 := stepD_mono lF lH r2
        rw [← eF, ← eH] at r5
        obtain ⟨nx', r6⟩ := stepD_stepOp hck.dst r5
        refine ⟨_, ob, r6, r3, fun a' w' M' hS' => ?_⟩
        refine ih (listed.setIfInBounds i true) a' w' hsz' hcl' hdm' hc' ⟨us', M', ?_⟩
        refine hS'.weaken (fun s x hx => ?_) (fun n x hx => ?_)
        · -- the slots
          simp only [stF] at hx
          have hput : ∀ s, o.dst ≠ some s → putF (stF ops f0 (R us) (don listed)) o.dst e s = stF ops f0 (R us) (don listed) s := by
            intro s hs
            cases hd : o.dst with
            | none => rfl
            | some d =>
              have : Nat.beq s d = false := by
                cases hb : Nat.beq s d with
                | false => rfl
                | true => rw [Nat.beq_eq] at hb; subst hb; exact absurd hd hs
              simp only [putF, updF, this]
          by_cases hd : o.dst = some s
          · have hw := wrOf_dst (i := 0) hF.nd ho' hd
            rw [Nat.zero_add] at hw
            rw [hw] at hx
            have : don (listed.setIfInBounds i true) i = true := by rw [don_set hls]; simp
            simp only [this, r1, drE] at hx
            rw [hd]
            simp only [putF, updF, Nat.beq_refl]
            exact hx
          · rw [hput s hd, eF]
            simp only [stF]
            split at hx
            · exact hx
            · rename_i k hw
              have hki : Nat.beq i k = false := by
                cases hb : Nat.beq i k with
                | false => rfl
                | true =>
                  rw [Nat.beq_eq] at hb; subst hb
                  obtain ⟨ok, _, q2, q3⟩ := wrOf_some hw
                  have : ops[i]? = some ok := by simpa using q2
                  rw [ho'] at this; cases this
                  exact absurd q3 hd
              rw [don_set hls, hki, Bool.or_false] at hx
              exact hx
        · -- the names
          have hfe : don (listed.setIfInBounds i true) = fun k => don listed k || Nat.beq i k := by funext k; exact don_set hls
          have hii : bef ms i i = false := by
            cases hb2 : bef ms i i with
            | false => rfl
            | true => have := bef_lt hF.chk i i hlt hb2; omega
          have hki : ∀ m y, kill = some (m, y) → (i, m) ∈ ks := fun m y hm => by
            obtain ⟨k', h1, h2⟩ := killed_iff.1 (r4 m y hm)
            rw [Nat.beq_eq] at h2; subst h2; exact h1
          have hmk : ∀ k, (k, n) ∈ ks → n = nx0 + i → bef ms i k = true := fun k hk hn => by
            rcases chkK_mk hF.ck hk with h1 | h1
            · omega
            · rwa [show n - nx0 = i by omega] at h1
          -- nothing of this step is there
          have old : stH ks H0 nx0 (R us) (don listed) n = some x → n ≠ nx0 + i → (∀ y, kill ≠ some (n, y)) → updU (stH ks H0 nx0 (R us) (don listed)) (nx0 + i) hb kill n = some x := by
            intro h1 h2 h3
            have he : effH (stH ks H0 nx0 (R us) (don listed)) kill n = some x := by
              cases kill with
              | none => exact h1
              | some q =>
                obtain ⟨m', y⟩ := q
                simp only [effH]
                rw [updH_ne _ _ (fun e => h3 y (by rw [e]))]; exact h1
            cases hb with
            | none => exact he
            | some b => simp only [updU]; rw [updH_ne _ _ h2]; exact he
          simp only [stH] at hx
          split at hx
          · rename_i k hlk
            obtain ⟨g1, g2, g3⟩ := lastK_some hF.ck hlk
            rw [hfe] at g2 g3
            by_cases hkeq : k = i
            · subst hkeq
              rw [r1] at hx
              simp only [drX] at hx
              split at hx
              · rename_i n' y hreq
                simp only [Option.some.injEq, Prod.mk.injEq] at hreq
                obtain ⟨_, _, _, hkill⟩ := hreq
                split at hx
                · rename_i hbn
                  rw [Nat.beq_eq] at hbn; subst hbn
                  have hne : n ≠ nx0 + k := fun hn => by rw [hmk k g1 hn] at hii; cases hii
                  rw [hkill]
                  cases hb with
                  | none => simp only [updU, effH, updH_same]; exact hx
                  | some b => simp only [updU, effH]; rw [updH_ne _ _ hne, updH_same]; exact hx
                · cases hx
              · cases hx
            · have hdk : don listed k = true := by
                simp only [Bool.or_eq_true, Nat.beq_eq] at g2
                rcases g2 with h1 | h1
                · exact h1
                · exact absurd h1.symm hkeq
              have hnb : bef ms i k = false := by
                cases hb2 : bef ms i k with
                | false => rfl
                | true => rw [hcl k (dlt k hdk) hdk i hb2] at hnd; cases hnd
              have hnk : (i, n) ∉ ks := fun hm => by
                rcases g3 i hm (by simp) with h1 | h1
                · exact hkeq h1.symm
                · rw [hnb] at h1; cases h1
              refine old ?_ (fun hn => by rw [hmk k g1 hn] at hnb; cases hnb) (fun y hy => hnk (hki n y hy))
              have hlk' : lastK ks (don listed) n = some k := by
                rw [← hlk, hfe]
                refine lastK_congr fun k' hk' => ?_
                have : Nat.beq i k' = false := by
                  cases hb2 : Nat.beq i k' with
                  | false => rfl
                  | true => rw [Nat.beq_eq] at hb2; subst hb2; exact absurd hk' hnk
                rw [this, Bool.or_false]
              simp only [stH, hlk', hsameR k hdk]
              exact hx
          · rename_i hlk
            have hno := lastK_none hlk
            rw [hfe] at hno
            have hnk : (i, n) ∉ ks := fun hm => by have := hno i hm; simp at this
            have hlk' : lastK ks (don listed) n = none := by
              rw [← hlk, hfe]
              refine lastK_congr fun k' hk' => ?_
              have h1 : (don listed k' || Nat.beq i k') = false := hno k' hk'
              rw [h1]
              rw [Bool.or_eq_false_iff] at h1
              exact h1.1
            split at hx
            · rename_i hn
              rw [Nat.blt_eq] at hn
              refine old ?_ (by omega) (fun y hy => hnk (hki n y hy))
              simp only [stH, hlk', (by rw [Nat.blt_eq]; exact hn : Nat.blt n nx0 = true)]
              exact hx
            · rename_i hn
              have hn' : ¬ n < nx0 := fun h => by rw [(by rw [Nat.blt_eq]; exact h : Nat.blt n nx0 = true)] at hn; cases hn
              split at hx
              · rename_i hd
                rw [don_set hls, Bool.or_eq_true] at hd
                by_cases hni : n - nx0 = i
                · rw [hni, r1] at hx
                  simp only [drH] at hx
                  have : n = nx0 + i := by omega
                  subst this
                  rw [hx]
                  simp only [updU]
                  rw [updH_same]
                · have hd' : don listed (n - nx0) = true := by
                    rcases hd with hd | hd
                    · exact hd
                    · rw [Nat.beq_eq] at hd; exact absurd hd.symm hni
                  refine old ?_ (by omega) (fun y hy => hnk (hki n y hy))
                  simp only [stH, hlk', hn, hd', hsameR _ hd']
                  exact hx
              · cases hx
      unfold wpOp
      simp only [ho]
      split
      · rename_i hw; rw [if_pos hw] at main; exact .inl main
      · rename_i hw; rw [if_neg hw] at main; exact main

def isDraw : Code → Bool
  | .region _ _ true => true
  | _ => false

theorem dGo_out {bs : Nat → Value} : ∀ {l : List Oper} {i : Nat} {res res' : Nat → Option DR} {p p' : Prop}, dGo E kn ops ms ks f0 H0 nx0 bs l i res p = some (res', p') → ∀ j, i + l.length ≤ j → res' j = res j := by
  intro l
  induction l with
  | nil => intro i res res' p p' h j hj; cases h; rfl
  | cons x l ih =>
    intro i res res' p p' h j hj
    simp only [dGo] at h
    split at h
    · split at h
      · rw [ih h j (by simp at hj ⊢; omega)]
        have : Nat.beq j i = false := by
          cases hb : Nat.beq j i with
          | false => rfl
          | true => rw [Nat.beq_eq] at hb; simp at hj; omega
        simp only [this]
      · cases h
    · cases h

theorem Sat.drawn {N : Nat} {mrk : Bool} (hS : Sat N mrk B W M0 [] [] 0 st M a w) (n : Nat) : Sat N mrk B W M0 [] [] 0 st M a { w with drawn := n } := by
  refine ⟨⟨⟨hS.h.below.os, hS.h.below.tape, hS.h.below.output, hS.h.below.size, hS.h.below.block⟩, hS.h.base, hS.h.mem, fun m x hx => ?_, hS.h.inj⟩, hS.old, hS.d, hS.n, hS.f, hS.g⟩
  have := hS.h.ok m x hx
  cases x with
  | blk b ty cs => exact this
  | own v ty k l => exact this

/-- A REGION THAT DRAWS ITS ORDER: up to operation 'm'; behind it the text's own order is the only one. -/
theorem G_draw (hT : TbOk P E.T) (hΨ : PsiOk P E) (hm : P.follows .mixedOrders = true) (kn : Nat → Option Bool) (m : Nat) (ms : List Nat) (ks : List (Nat × Nat)) {c : Code} (hd : isDraw c = true) (hchk : chkD E.N (opsOf c) m ms = true)
    {st' : (Nat → Value) → St} {ob : (Nat → Value) → Prop} (h : ∀ bs, drawD E kn (opsOf c) m ms ks st bs = some (st' bs, ob bs)) (ho : ∀ bs, ob bs) (hk : ∀ bs, G P E B W M0 Q (.ops (opsOf c) m :: k) (st' bs)) (hro : E.ro = none := by rfl) : G P E B W M0 Q (.code c :: k) st := by
  intro M a w hS
  cases c <;> simp only [isDraw, Bool.false_eq_true] at hd
  rename_i id ops dr
  cases dr <;> simp only [isDraw, Bool.false_eq_true] at hd
  obtain ⟨ops⟩ := ops
  simp only [opsOf] at hchk h hk
  simp only [chkD, Bool.and_eq_true, Nat.ble_eq, len_eq] at hchk
  obtain ⟨⟨hc1, hc2⟩, hc3, hc4⟩ := hchk
  refine wpIn_wide.2 ?_ |> fun (h : cwp none P (Code.region id ops.toArray true) (after none P Q k) a w) => (by simp only [after, hro]; exact h)
  refine wp_region_any hm ?_
  obtain ⟨f0, H0, nx0⟩ := st
  have hS0 : Sat E.N E.mrk B W M0 [] [] 0 ⟨f0, H0, nx0⟩ M a w := hS
  have hS1 := hS0.drawn (w.drawn + 1)
  have hck : ∀ (j : Nat) (o : Oper), ops[j]? = some o → ChkO E.N ops ms j o := fun j o hj => by
    have := chkO_ok rfl hc2 j o hj
    rwa [Nat.zero_add] at this
  -- what is reckoned
  have hck0 : chkK ms nx0 ks = true := by
    have := h (fun _ => undef)
    simp only [drawD] at this
    split at this
    · cases this
    · rename_i hc; exact hc
  have hR : ∀ bs, ∃ res p, dGo E kn ops ms ks f0 H0 nx0 bs (tke m ops) 0 (fun _ => none) True = some (res, p) ∧ p ∧ st' bs = ⟨stF ops f0 res (ltB m), stH ks H0 nx0 res (ltB m), nx0 + m⟩ := by
    intro bs
    have := h bs
    simp only [drawD, hck0] at this
    split at this
    · rename_i res p hg
      simp only [Option.some.injEq, Prod.mk.injEq] at this
      exact ⟨res, p, hg, by rw [this.2]; exact ho bs, this.1.symm⟩
    · cases this
  let R : (Nat → Value) → Nat → Option DR := fun bs => Classical.choose (hR bs)
  have hR2 : ∀ bs, ∃ p, dGo E kn ops ms ks f0 H0 nx0 bs (tke m ops) 0 (fun _ => none) True = some (R bs, p) ∧ p ∧ st' bs = ⟨stF ops f0 (R bs) (ltB m), stH ks H0 nx0 (R bs) (ltB m), nx0 + m⟩ := fun bs => Classical.choose_spec (hR bs)
  have hF : Facts E kn ops m ms ks f0 H0 nx0 R := by
    refine ⟨hck, hc1, hc3, tailB_ok hc4, fun us j o hjm hj => ?_, hck0, fun us j hj => ?_⟩
    · obtain ⟨p, h1, h2, _⟩ := hR2 us
      obtain ⟨_, _, g3⟩ := dGo_ok (m := m) hck0 (bef_lt hck) (i := 0) (by rw [tke_eq]; simp) h1
      obtain ⟨e, ob', hb, kill, q1, q2, q3, q4⟩ := g3 j o (Nat.zero_le _) hjm hj
      exact ⟨e, ob', hb, kill, q1, q2, q3 h2, q4⟩
    · obtain ⟨p, h1, h2, _⟩ := hR2 us
      exact dGo_out h1 j (by rw [tke_eq, List.length_take]; omega)
  have hnone : ∀ j, don (Array.replicate ops.toArray.size false) j = false := by
    intro j
    unfold don
    simp only [Array.getD_eq_getD_getElem?, Array.getElem?_replicate]
    split <;> rfl
  refine any_ok (B := B) (W := W) (M0 := M0) (Q := after none P Q k) hT hΨ hF (fun us M' a' w' hS' => ?_) _ _ _ _ (by simp) (fun j _ hd => by rw [hnone j] at hd; cases hd) (fun j hd => by rw [hnone j] at hd; cases hd) ?_ ⟨fun _ => undef, M, ?_⟩
  · obtain ⟨p, h1, h2, h3⟩ := hR2 us
    have := hk us
    rw [h3] at this
    have := this M' a' w' hS'
    rw [hro] at this
    exact this
  · refine Nat.le_trans List.countP_le_length ?_
    simp
  · have hd0 : don (Array.replicate ops.toArray.size false) = fun _ => false := funext hnone
    rw [hd0]
    have e1 : stF ops f0 (R fun _ => undef) (fun _ => false) = f0 := by
      funext s; simp only [stF]; split <;> rfl
    have h4 : SatP E.N E.mrk B W M0 ops (refsOf ops ops) (fun j => (fun _ => false : Nat → Bool) j = true) ⟨f0, H0, nx0⟩ M a { w with drawn := w.drawn + 1 } := by
      refine ⟨hS1.h, hS1.old, hS1.d, hS1.n, fun s e he => ?_, fun s j b x hx => ?_⟩
      · cases e with
        | u x => exact hS1.f s _ he
        | gd j b x => have := (hS1.g s j b x he).1; simp at this
      · have := (hS1.g s j b x hx).1; simp at this
    refine h4.weaken (by rw [e1]; exact fun _ _ h => h) (fun n x hx => ?_)
    simp only [stH] at hx
    split at hx
    · rename_i k hlk
      have := (lastK_some hck0 hlk).2.1
      cases this
    · split at hx
      · exact hx
      · cases hx
end
end Go.Mt

/-
  Mt, part ZA: what a row tells of any argument, by its type.
-/
set_option linter.unusedSimpArgs false
set_option linter.unusedVariables false
namespace Go.Mt
open Go.RowKit Go.ChangeShapes Go.WideShapes

/-- A cell of type 't' reads as something good. -/
def Rd (P : Program) (t : TypeId) (good : PV → Prop) : Prop := ∀ (H : Type) (enc : TypeId × Value → H) (w : World) (fuel : Nat) (cs : List Value) (x : DataW H × List MemPlace),
  DataW.trod enc P w 0 (fun _ => true) true fuel t cs = some x → ∃ (y : PV) (c : Value), cs = [c] ∧ R (Mem.all w) y c ∧ good y
/-- So many cells. -/
def Rds (P : Program) (t : TypeId) (n : Nat) (good : List PV → Prop) : Prop := ∀ (H : Type) (enc : TypeId × Value → H) (w : World) (fuel : Nat) (cs : List Value) (x : DataW H × List MemPlace),
  DataW.trod enc P w 0 (fun _ => true) true fuel t cs = some x → ∃ (ys : List PV), good ys ∧ ys.length = n ∧ cs.length = n ∧ ∀ (j : Nat) (y : PV), ys[j]? = some y → ∃ c, cs[j]? = some c ∧ R (Mem.all w) y c

section
variable {P : Program} {t e : TypeId}

theorem rd_int {k : IntKind} (ht : P.underlying t = some (.int k)) : Rd P t (fun y => ∃ n, y = .val (.int k n) ∧ inR k n) := by
  intro H enc w fuel cs x h
  obtain ⟨n, rfl, _, hw⟩ := DataW.trod_int ht h
  exact ⟨_, _, rfl, .val rfl, n, rfl, wf_inR hw⟩
theorem rd_bool (ht : P.underlying t = some .bool) : Rd P t (fun y => ∃ b, y = .val (.bool b)) := by
  intro H enc w fuel cs x h
  obtain ⟨b, rfl, _⟩ := DataW.trod_bool ht h
  exact ⟨_, _, rfl, .val rfl, b, rfl⟩
theorem rd_str (ht : P.underlying t = some .string) : Rd P t (fun y => ∃ s : List UInt8, y = .val (.string ⟨⟨s⟩⟩) ∧ s.length ≤ maxLen) := by
  intro H enc w fuel cs x h
  obtain ⟨s, rfl, _, hw⟩ := DataW.trod_string ht h
  obtain ⟨⟨s⟩⟩ := s
  exact ⟨_, _, rfl, .val rfl, s, rfl, hw⟩

def fldsB (P : Program) : Nat → List Field → Bool
  | _, [] => true
  | j, f :: fs => Nat.beq f.offset j && Nat.beq (P.cellsOf f.type) 1 && fldsB P (j + 1) fs
theorem fldsB_ok : ∀ {fs : List Field} {j : Nat}, fldsB P j fs = true → ∀ (i : Nat) (f : Field), fs[i]? = some f → f.offset = j + i ∧ P.cellsOf f.type = 1 := by
  intro fs
  induction fs with
  | nil => intro j _ i f h; simp at h
  | cons g fs ih =>
    intro j h i f hi
    simp only [fldsB, Bool.and_eq_true, Nat.beq_eq] at h
    cases i with
    | zero => simp at hi; subst hi; exact ⟨h.1.1, h.1.2⟩
    | succ i => have := ih h.2 i f (by simpa using hi); exact ⟨by omega, this.2⟩
def strB (P : Program) (t : TypeId) (fs : Array Field) (n : Nat) : Bool := fldsB P 0 fs.toList && Nat.beq fs.size n && Nat.beq (P.cellsOf t) n
/-- What the fields ask, one behind the other. -/
def goods : List (TypeId × (PV → Prop)) → List PV → Prop
  | [], [] => True
  | (_, g) :: gs, y :: ys => g y ∧ goods gs ys
  | _, _ => False
def rdAllF (P : Program) : List Field → List (TypeId × (PV → Prop)) → Prop
  | [], [] => True
  | f :: fs, (t, g) :: gs => f.type = t ∧ Rd P t g ∧ rdAllF P fs gs
  | _, _ => False
theorem rdAllF_of : ∀ {fl : List Field} {gs : List (TypeId × (PV → Prop))}, fl.map (·.type) = gs.map (·.1) → (∀ p ∈ gs, Rd P p.1 p.2) → rdAllF P fl gs := by
  intro fl
  induction fl with
  | nil => intro gs h _; cases gs with
    | nil => exact trivial
    | cons => simp at h
  | cons f fl ih =>
    intro gs h hr
    cases gs with
    | nil => simp at h
    | cons g gs =>
      simp only [List.map_cons, List.cons.injEq] at h
      exact ⟨h.1, hr g (by simp), ih h.2 (fun p hp => hr p (by simp [hp]))⟩
theorem rds_struct {fs : Array Field} {n : Nat} {gs : List (TypeId × (PV → Prop))} (ht : P.underlying t = some (.struct fs)) (hb : strB P t fs n = true) (hr : rdAllF P fs.toList gs) : Rds P t n (goods gs) := by
  intro H enc w fuel cs x h
  obtain ⟨xs, m, _, _, hl, _, hf⟩ := DataW.trod_struct ht h
  simp only [strB, Bool.and_eq_true, Nat.beq_eq] at hb
  obtain ⟨⟨hb1, hb2⟩, hb3⟩ := hb
  have key : ∀ (fl : List Field) (gs : List (TypeId × (PV → Prop))) (j : Nat), rdAllF P fl gs → (∀ (i : Nat) (f : Field), fl[i]? = some f → f.offset = j + i ∧ P.cellsOf f.type = 1 ∧ DataW.trod enc P w 0 (fun _ => true) true m f.type ((cs.drop (j + i)).take 1) = xs[j + i]?) → (j + fl.length ≤ xs.length) →
      ∃ ys : List PV, goods gs ys ∧ ys.length = fl.length ∧ ∀ (i : Nat) (y : PV), ys[i]? = some y → ∃ c, cs[j + i]? = some c ∧ R (Mem.all w) y c := by
    intro fl
    induction fl with
    | nil =>
      intro gs j hr _ _
      cases gs with
      | nil => exact ⟨[], trivial, rfl, by simp⟩
      | cons => cases hr
    | cons f fl ih =>
      intro gs j hr hh hle
      cases gs with
      | nil => cases hr
      | cons g gs =>
        obtain ⟨tt, g⟩ := g
        obtain ⟨rfl, r1, r2⟩ := hr
        obtain ⟨o1, o2, o3⟩ := hh 0 f rfl
        simp only [Nat.add_zero] at o3
        have hj : j < xs.length := by simp at hle; omega
        rw [List.getElem?_eq_getElem hj] at o3
        obtain ⟨y, c, hc, hR, hg⟩ := r1 _ enc w m _ _ o3
        obtain ⟨ys, q1, q2, q3⟩ := ih gs (j + 1) r2 (fun i f' hf' => by
          have := hh (i + 1) f' (by simpa using hf')
          rwa [show j + (i + 1) = j + 1 + i from by omega] at this) (by simp at hle; omega)
        refine ⟨y :: ys, ⟨hg, q1⟩, by simp [q2], fun i z hz => ?_⟩
        cases i with
        | zero =>
          simp at hz; subst hz
          have := congrArg (fun l => l[0]?) hc
          simp [List.getElem?_take] at this
          exact ⟨c, by simpa using this, hR⟩
        | succ i =>
          obtain ⟨c', e1, e2⟩ := q3 i z (by simpa using hz)
          exact ⟨c', by rw [show j + (i + 1) = j + 1 + i from by omega]; exact e1, e2⟩
  obtain ⟨ys, q1, q2, q3⟩ := key fs.toList gs 0 hr (fun i f hi => by
    obtain ⟨o1, o2⟩ := fldsB_ok hb1 i f hi
    refine ⟨o1, o2, ?_⟩
    have := hf i f (by simpa using hi)
    rw [o1, o2] at this
    simpa using this) (by simp; omega)
  refine ⟨ys, q1, by rw [q2]; simpa using hb2, by rw [hl, hb3], fun j y hy => by simpa using q3 j y hy⟩
theorem rds_one {g : PV → Prop} {g' : List PV → Prop} (h : Rd P t g) (hg : ∀ y, g y → g' [y]) : Rds P t 1 g' := by
  intro H enc w fuel cs x hx
  obtain ⟨y, c, rfl, hR, hy⟩ := h _ enc w fuel cs x hx
  refine ⟨[y], hg y hy, rfl, rfl, fun j z hz => ?_⟩
  cases j with
  | zero => simp at hz; subst hz; exact ⟨c, rfl, hR⟩
  | succ j => simp at hz
theorem rd_one {g : PV → Prop} {g' : List PV → Prop} (h : Rds P t 1 g') (hg : ∀ y, g' [y] → g y) : Rd P t g := by
  intro H enc w fuel cs x hx
  obtain ⟨ys, h1, h2, h3, h4⟩ := h _ enc w fuel cs x hx
  match ys, cs, h2, h3, h1, h4 with
  | [y], [c], _, _, h1, h4 =>
    obtain ⟨c', e1, e2⟩ := h4 0 y rfl
    simp at e1; subst e1
    exact ⟨y, c, rfl, e2, hg y h1⟩
theorem Rd.imp {g g' : PV → Prop} (h : Rd P t g) (hg : ∀ y, g y → g' y) : Rd P t g' := by
  intro H enc w fuel cs x hx
  obtain ⟨y, c, h1, h2, h3⟩ := h _ enc w fuel cs x hx
  exact ⟨y, c, h1, h2, hg y h3⟩
theorem Rds.imp {n : Nat} {g g' : List PV → Prop} (h : Rds P t n g) (hg : ∀ y, g y → g' y) : Rds P t n g' := by
  intro H enc w fuel cs x hx
  obtain ⟨ys, h1, h2⟩ := h _ enc w fuel cs x hx
  exact ⟨ys, hg ys h1, h2⟩

theorem rd_slc {k : LK} {g : k.T → Prop} (ht : P.underlying t = some (.slice e)) (hc : P.cellsOf e = k.sz) (he : Rds P e k.sz (fun ys => ∃ x : k.T, k.enc x = ys ∧ g x)) :
    Rd P t (fun y => ∃ l : List k.T, y = .lst k l ∧ l.length ≤ maxLen ∧ ∀ x ∈ l, g x) := by
  intro H enc w fuel cs x h
  rcases DataW.trod_slice ht h with ⟨rfl, _⟩ | ⟨a, len, cap, elems, rest, n, _, rfl, _, hb, hl, hm, hlen, hel, _, _⟩
  · exact ⟨_, _, rfl, R.lst_nil _ _, [], rfl, by simp, by simp⟩
  · have each : ∀ i, i < len → ∃ (x : k.T), g x ∧ ∀ (j : Nat) (y : PV), (k.enc x)[j]? = some y → ∃ u, w.cell? (a.add (i * k.sz + j)) = some u ∧ R (Mem.all w) y u := by
      intro i hi
      have h1 := hel i hi
      rw [List.getElem?_eq_getElem (by omega), Option.bind_eq_some_iff, hc] at h1
      obtain ⟨cs', q1, q2⟩ := h1
      obtain ⟨_, q3, q4⟩ := World.cells?_some q1
      obtain ⟨ys, ⟨x, rfl, hg⟩, r2, r3, r4⟩ := he _ enc w n cs' _ q2
      refine ⟨x, hg, fun j y hy => ?_⟩
      obtain ⟨u, u1, u2⟩ := r4 j y hy
      have hj := enc_lt hy
      refine ⟨u, ?_, u2⟩
      have := q4 j hj
      rw [u1] at this
      rw [← this]
      congr 1
      unfold Addr.add
      by_cases hj0 : j = 0 <;> by_cases hi0 : i * k.sz = 0 <;> simp [hj0, hi0, Nat.add_assoc]
    let f : Nat → k.T := fun i => if h : i < len then Classical.choose (each i h) else k.dft
    have hf : ∀ i, i < len → g (f i) ∧ ∀ (j : Nat) (y : PV), (k.enc (f i))[j]? = some y → ∃ u, w.cell? (a.add (i * k.sz + j)) = some u ∧ R (Mem.all w) y u := by
      intro i hi
      simp only [f, dif_pos hi]
      exact Classical.choose_spec (each i hi)
    have hlf : ((List.range len).map f).length = len := by simp
    have hget : ∀ (i : Nat) (x : k.T), ((List.range len).map f)[i]? = some x → i < len ∧ x = f i := by
      intro i x hx
      have hi : i < len := by have := (List.getElem?_eq_some_iff.1 hx).1; simpa using this
      simp [hi] at hx
      exact ⟨hi, hx.symm⟩
    have hnone : 0 < len → a = ⟨a.block, a.off, none⟩ := by
      intro h0
      obtain ⟨_, h2⟩ := hf 0 h0
      have hsz := LK.sz_pos k
      have hl' : 0 < (k.enc (f 0)).length := by rw [LK.enc_len]; exact hsz
      obtain ⟨u, u1, _⟩ := h2 0 _ (List.getElem?_eq_getElem hl')
      have := (cell_none u1).1
      simpa [Addr.add] using this
    refine ⟨.lst k ((List.range len).map f), _, rfl, R.lst_mk (b := a.block) (o := a.off) hlf hl hm (fun hne => ?_) (by simp) (fun i x j y e1 e2 => ?_), (List.range len).map f, rfl, by rw [hlf]; omega, fun x hx => ?_⟩
    · have : 0 < len := by
        rcases Nat.eq_zero_or_pos len with e | e
        · subst e; exact absurd rfl hne
        · exact e
      rw [← hnone this]
    · obtain ⟨hi, rfl⟩ := hget i x e1
      obtain ⟨u, u1, u2⟩ := (hf i hi).2 j y e2
      refine ⟨u, ?_, u2⟩
      have := cell_add (hnone (by omega)) u1
      rwa [← Nat.add_assoc] at this
    · obtain ⟨i, hi, rfl⟩ := List.mem_map.1 hx
      exact (hf i (List.mem_range.1 hi)).1

/-! ### an argument -/
variable {H : Type} {enc : TypeId × Value → H} {W : World} {v : Value} {d : DataW H} {ps : List MemPlace}
theorem arg_pv {g : PV → Prop} (hr : Rd P t g) (hv : v.cells = #[v]) (h : DataW.Trod enc P W 0 (fun _ => true) true t v d ps) : ∃ y, RA (Mem.all W) (pv y) v ∧ g y := by
  obtain ⟨fuel, hf⟩ := h
  rw [hv] at hf
  obtain ⟨y, c, hc, hR, hg⟩ := hr _ enc W fuel _ _ hf
  simp at hc; subst hc
  exact ⟨y, .c (.pv hR), hg⟩
theorem arg_g {n : Nat} {g : List PV → Prop} {fs : Array Field} (hs : P.underlying t = some (.struct fs)) (hr : Rds P t n g) {r : Reach} {b0 : Nat} (hv : Value.okWide P W r b0 t v) (h : DataW.Trod enc P W 0 (fun _ => true) true t v d ps) :
    ∃ ys, RA (Mem.all W) (.g (ys.map .pv)) v ∧ g ys := by
  obtain ⟨cs, rfl, _⟩ := okWide_struct hs hv
  obtain ⟨fuel, hf⟩ := h
  obtain ⟨ys, h1, h2, h3, h4⟩ := hr _ enc W fuel _ _ hf
  refine ⟨ys, .g ⟨by simp at h3 ⊢; simp [Value.cells] at h3; omega, fun j c u e1 e2 => ?_⟩, h1⟩
  rw [List.getElem?_map] at e1
  cases hy : ys[j]? with
  | none => rw [hy] at e1; cases e1
  | some y =>
    rw [hy] at e1; cases e1
    obtain ⟨c', q1, q2⟩ := h4 j y hy
    simp only [Value.cells] at q1
    rw [q1] at e2; cases e2
    exact .pv q2
theorem arg_int {k : IntKind} (ht : P.underlying t = some (.int k)) {r : Reach} {b0 : Nat} (hv : Value.okWide P W r b0 t v) (h : DataW.Trod enc P W 0 (fun _ => true) true t v d ps) : ∃ n, RA (Mem.all W) (int k n) v ∧ inR k n := by
  obtain ⟨n, rfl⟩ := okWide_int ht hv
  obtain ⟨y, r, n', rfl, hn⟩ := arg_pv (rd_int ht) rfl h
  exact ⟨n', r, hn⟩
theorem arg_bool (ht : P.underlying t = some .bool) {r : Reach} {b0 : Nat} (hv : Value.okWide P W r b0 t v) (h : DataW.Trod enc P W 0 (fun _ => true) true t v d ps) : ∃ b, RA (Mem.all W) (bool b) v := by
  obtain ⟨n, rfl⟩ := okWide_bool ht hv
  obtain ⟨y, r, n', rfl⟩ := arg_pv (rd_bool ht) rfl h
  exact ⟨n', r⟩
theorem arg_str (ht : P.underlying t = some .string) {r : Reach} {b0 : Nat} (hv : Value.okWide P W r b0 t v) (h : DataW.Trod enc P W 0 (fun _ => true) true t v d ps) : ∃ s : List UInt8, RA (Mem.all W) (str s) v ∧ s.length ≤ maxLen := by
  obtain ⟨n, rfl⟩ := okWide_string ht hv
  obtain ⟨y, r, s, rfl, hs⟩ := arg_pv (rd_str ht) rfl h
  exact ⟨s, r, hs⟩
theorem arg_slc {k : LK} {g : k.T → Prop} (ht : P.underlying t = some (.slice e)) (hc : P.cellsOf e = k.sz) (he : Rds P e k.sz (fun ys => ∃ x : k.T, k.enc x = ys ∧ g x)) {r : Reach} {b0 : Nat} (hv : Value.okWide P W r b0 t v) (h : DataW.Trod enc P W 0 (fun _ => true) true t v d ps) :
    ∃ l : List k.T, RA (Mem.all W) (lst k l) v ∧ l.length ≤ maxLen ∧ ∀ x ∈ l, g x := by
  obtain ⟨a, n, c, rfl⟩ := okWide_slice ht hv
  obtain ⟨y, r, l, rfl, hl⟩ := arg_pv (rd_slc ht hc he) rfl h
  exact ⟨l, r, hl⟩

/-! ### elements -/
theorem rds_byt (ht : P.underlying e = some (.int .u8)) : Rds P e (LK.sz .byt) (fun ys => ∃ x : UInt8, LK.enc .byt x = ys ∧ True) :=
  rds_one (rd_int ht) (fun y ⟨n, hy, hn⟩ => by
    subst hy
    simp only [inR] at hn
    refine ⟨UInt8.ofNat n.toNat, ?_, trivial⟩
    have : ((UInt8.ofNat n.toNat).toNat : Int) = n := by rw [UInt8.toNat_ofNat']; omega
    simp [LK.enc]; omega)
theorem rds_ints {k : IntKind} (ht : P.underlying e = some (.int k)) : Rds P e (LK.sz (.ints k)) (fun ys => ∃ x : Int, LK.enc (.ints k) x = ys ∧ inR k x) :=
  rds_one (rd_int ht) (fun y ⟨n, hy, hn⟩ => ⟨n, by subst hy; rfl, hn⟩)
def SpanIn (x : Span) : Prop := inR .i64 x.fr ∧ inR .i64 x.to
def EntryIn (x : Entry) : Prop := inR .i64 x.kind ∧ inR .i64 x.start ∧ inR .i64 x.count ∧ inR .i64 x.size ∧ inR .u32 x.sum
abbrev gI (k : IntKind) : PV → Prop := fun y => ∃ n, y = .val (.int k n) ∧ inR k n
theorem rds_ints_struct {ks : List IntKind} {fs : Array Field} {ts : List TypeId} (ht : P.underlying e = some (.struct fs)) (hb : strB P e fs ks.length = true) (hf : fs.toList.map (·.type) = ts) (hl : ts.length = ks.length) (hi : ∀ p ∈ ts.zip ks, P.underlying p.1 = some (.int p.2)) :
    Rds P e ks.length (fun ys => ∃ ns : List Int, ns.length = ks.length ∧ ys = List.zipWith (fun k n => .val (.int k n)) ks ns ∧ ∀ p ∈ ks.zip ns, inR p.1 p.2) := by
  have hr : rdAllF P fs.toList ((ts.zip ks).map fun p => (p.1, gI p.2)) := by
    refine rdAllF_of ?_ fun p hp => ?_
    · rw [hf, List.map_map]
      have : ((fun p : TypeId × (PV → Prop) => p.1) ∘ fun p : TypeId × IntKind => (p.1, gI p.2)) = Prod.fst := rfl
      rw [this, List.map_fst_zip (by omega)]
    · obtain ⟨q, hq, rfl⟩ := List.mem_map.1 hp
      exact rd_int (hi q hq)
  refine Rds.imp (rds_struct ht hb hr) fun ys h => ?_
  clear ht hb hr hf hi
  induction ks generalizing ts ys with
  | nil =>
    match ts, ys, h with
    | [], [], _ => exact ⟨[], rfl, rfl, by simp⟩
    | _ :: _, [], _ => exact ⟨[], rfl, rfl, by simp⟩
  | cons k ks ih =>
    match ts, hl, ys, h with
    | tt :: ts, hl, y :: ys, ⟨⟨n, hn, wn⟩, h⟩ =>
      obtain ⟨ns, q1, q2, q3⟩ := ih (by simpa using hl) ys h
      refine ⟨n :: ns, by simp [q1], by simp [hn, q2], fun p hp => ?_⟩
      simp only [List.zip_cons_cons, List.mem_cons] at hp
      rcases hp with rfl | hp
      · exact wn
      · exact q3 p hp
theorem rds_spn {fs : Array Field} {t0 t1 : TypeId} (ht : P.underlying e = some (.struct fs)) (hb : strB P e fs 2 = true) (hf : fs.toList.map (·.type) = [t0, t1]) (h0 : P.underlying t0 = some (.int .i64)) (h1 : P.underlying t1 = some (.int .i64)) :
    Rds P e (LK.sz .spn) (fun ys => ∃ x : Span, LK.enc .spn x = ys ∧ SpanIn x) := by
  refine Rds.imp (rds_ints_struct (ks := [.i64, .i64]) ht hb hf rfl (by simp [h0, h1])) fun ys ⟨ns, q1, q2, q3⟩ => ?_
  match ns, q1, q2, q3 with
  | [a, b], _, q2, q3 => simp at q3; exact ⟨⟨a, b⟩, by rw [q2]; rfl, q3⟩
theorem rds_ent {fs : Array Field} {t0 t1 t2 t3 t4 : TypeId} (ht : P.underlying e = some (.struct fs)) (hb : strB P e fs 5 = true) (hf : fs.toList.map (·.type) = [t0, t1, t2, t3, t4]) (h0 : P.underlying t0 = some (.int .i64)) (h1 : P.underlying t1 = some (.int .i64)) (h2 : P.underlying t2 = some (.int .i64)) (h3 : P.underlying t3 = some (.int .i64)) (h4 : P.underlying t4 = some (.int .u32)) :
    Rds P e (LK.sz .ent) (fun ys => ∃ x : Entry, LK.enc .ent x = ys ∧ EntryIn x) := by
  refine Rds.imp (rds_ints_struct (ks := [.i64, .i64, .i64, .i64, .u32]) ht hb hf rfl (by simp [h0, h1, h2, h3, h4])) fun ys ⟨ns, q1, q2, q3⟩ => ?_
  match ns, q1, q2, q3 with
  | [a, b, c, d, f], _, q2, q3 => simp at q3; exact ⟨⟨a, b, c, d, f⟩, by rw [q2]; rfl, q3⟩
theorem rds_slt {fs : Array Field} {t0 t1 t2 t3 : TypeId} (ht : P.underlying e = some (.struct fs)) (hb : strB P e fs 4 = true) (hf : fs.toList.map (·.type) = [t0, t1, t2, t3]) (h0 : P.underlying t0 = some (.int .i64)) (h1 : P.underlying t1 = some (.int .i64)) (h2 : P.underlying t2 = some (.int .i64)) (h3 : P.underlying t3 = some (.int .u32)) :
    Rds P e (LK.sz .slt) (fun ys => ∃ x : Slot, LK.enc .slt x = ys ∧ (inR .i64 x.seq ∧ inR .i64 x.start ∧ inR .i64 x.count ∧ inR .u32 x.sum)) := by
  refine Rds.imp (rds_ints_struct (ks := [.i64, .i64, .i64, .u32]) ht hb hf rfl (by simp [h0, h1, h2, h3])) fun ys ⟨ns, q1, q2, q3⟩ => ?_
  match ns, q1, q2, q3 with
  | [a, b, c, d], _, q2, q3 => simp at q3; exact ⟨⟨a, b, c, d⟩, by rw [q2]; rfl, q3⟩
end
end Go.Mt

/-
  Mt, part ZB: a range over a function; a captured variable that nothing turns any more; a nil slice in a cell made one's own.
-/
set_option linter.unusedSimpArgs false
set_option linter.unusedVariables false
namespace Go.Mt
open Go.RowKit

/-- The list over which the program's iterators go: all of it, if it is right. -/
abbrev spV (x : Span) : Value := .agg #[.int .i64 x.fr, .int .i64 x.to]
/-- What a loop's invariant abides: the world grows, and what does not change. -/
def Grows (J : Mem → Nat → World → Prop) : Prop := ∀ M M' i W W', J M i W → Below W.heap.size W W' → M'.on W' → M.le M' → (∀ k o, M' k = some o → k < W.heap.size → M k = some o) → J M' i W'
/-- THE CONTRACT OF AN ITERATOR over spans: 'g l' are those that it hands to the loop. -/
def ItOk (P : Program) (gf : Nat) (g : List Span → List Span) : Prop :=
  (∀ args w, (callFunc gf args).run P w = .ok (.enter gf args) w) ∧
  ∀ (M : Mem) (l : List Span) (u : Value) (lid : Nat) (J Jx : Mem → Nat → World → Prop) (w : World), M.on w → RC M (.cel [.lst .spn l]) u → l.length ≤ 1000000 →
    Grows J → Grows Jx → J M 0 w →
    (∀ Mi i W x, (g l)[i]? = some x → J Mi i W → Mi.on W → YieldAt Fence.wide 0 P lid #[spV x] W fun e W' =>
      (e = .returned (.bool true) ∧ J Mi (i + 1) W' ∧ Mi.on W') ∨ (e = .returned (.bool false) ∧ Jx Mi (i + 1) W' ∧ Mi.on W')) →
    Calls P gf #[.func (.yield lid) #[] #[], u] w fun e W' => (∃ v, e = .returned v) ∧ ∃ Mi, J Mi (g l).length W' ∨ ∃ i, i ≤ (g l).length ∧ Jx Mi i W'

/-- In a round of loop 'l'. -/
def rd (E : Env) (l : Nat) : Env := { E with ro := some (l + 1) }
theorem rdPsi {P : Program} {E : Env} {l : Nat} (h : PsiOk P E) : PsiOk P (rd E l) := ⟨h.fn, h.pt, h.co⟩

def rngOf : Code → Option (Operand × Nat)
  | .rangeFunc g ⟨[p]⟩ _ _ => some (g, p)
  | _ => none
def asn : Code → Code | .rangeFunc _ _ a _ => a | _ => .skip
def rbd : Code → Code | .rangeFunc _ _ _ b => b | _ => .skip

section
variable {P : Program} {E : Env} {B : Nat → Prop} {W : World} {M0 M F : Mem} {Q : Exit → Act → World → Prop} {k : List Itm} {st : St} {a : Act} {w : World} {N : Nat} {mrk : Bool} {sh : Bool}

/-- What a round that ends by a return must come to. -/
def RQ {X : Type} (E : Env) (B : Nat → Prop) (W : World) (M0 : Mem) (H : X → List HB) (ok : X → Prop) : Exit → Act → World → Prop :=
  fun e a w => e = .ret ∧ ∃ x M, ok x ∧ Sat E.N E.mrk B W M0 [] [] 0 (mk [] (H x)) M a w

theorem G_rret {X : Type} {H : X → List HB} {ok : X → Prop} {c : Code} (hc : isRet c = true) (ns : List Nat) (x : X) (hx : ok x) (h : Wk st ns [] (H x)) : G P E B W M0 (RQ E B W M0 H ok) (.code c :: k) st := by
  intro M a w hS
  cases c <;> simp only [isRet, Bool.false_eq_true] at hc
  exact wpIn_ret (after_ret ⟨rfl, x, M, hx, h.sat hS⟩)

theorem putObj_self {w : World} {l : Nat} {o : Obj} (h : w.heap[l]? = some o) : w.putObj l o = w := by
  have : w.heap.setIfInBounds l o = w.heap := by
    apply Array.ext_getElem?
    intro k
    rw [Array.getElem?_setIfInBounds]
    by_cases e : l = k
    · subst e; rw [if_pos rfl, if_pos (Array.getElem?_eq_some_iff.1 h).1, h]
    · rw [if_neg e]
  unfold World.putObj; rw [this]
theorem SatH.later {H : Nat → Option HB} {w' : World} (hS : SatH B W H M w) (hb : Below w.heap.size w w') : SatH B W H M w' := by
  refine ⟨hS.below.trans (.of hb hS.base), fun k hk => Nat.lt_of_lt_of_le (hS.base k hk) hb.size, fun k o hk => ?_, fun n x hx => ?_, hS.inj⟩
  · have := hS.mem k o hk
    rw [hb.block k (Array.getElem?_eq_some_iff.1 this).1]; exact this
  · exact (hS.ok n x hx).keep (Mem.le_refl _) (fun b hb' => (HB.block_lt (hS.ok n x hx) hb').2.2) (fun b hb' => hb.block b (HB.block_lt (hS.ok n x hx) hb').2.1)

/-- THE RANGE OVER A FUNCTION. The state at a round's head: the slots as they were at the loop's head, the blocks as 'H x' says. -/
theorem G_range {X : Type} {gf : Nat} {g : List Span → List Span} (it : ItOk P gf g) (hro : E.ro = none) (hmk : E.mrk = true) {c : Code} {o : Operand} {p : Nat} {l : List Span} (hc : rngOf c = some (o, p)) (hp : p < E.N)
    (hv : rdG st.f [] o = some (.c (.clo gf [.cel [.lst .spn l]]))) (hl : l.length ≤ 1000000)
    (Fs : List (Nat × A)) (H : X → List HB) (ok okx : Nat → X → Prop) (ns : List Nat) (x0 : X) (hx0 : ok 0 x0) (hw : Wk st ns Fs (H x0)) (h0 : hdI k = 0)
    (round : ∀ (lid : Nat) (M1 M2 : Mem) (J1 : Act → World → Prop) (i : Nat) (x : X) (y : Span), (g l)[i]? = some y → ok i x →
      (∀ st', G P (rd E lid) B W M2 (RQ (rd E lid) B W M2 H (okx (i + 1))) [.code (rbd c), .lp (LJ (rd E lid) B W M2 (fun _ => []) H (ok (i + 1)))] st' → G P (rd E lid) B W M1 (fun _ _ _ => False) [.lp J1] st') →
      G P (rd E lid) B W M1 (fun _ _ _ => False) [.code (asn c), .lp J1] (mk ((p, .g [.pv (i64 y.fr), .pv (i64 y.to)]) :: Fs) (H x)))
    (done : ∀ x, ok (g l).length x → G P E B W M0 Q k (mk Fs (H x)))
    (left : ∀ i x, i ≤ (g l).length → okx i x → G P E B W M0 Q (.code .ret :: k) (mk Fs (H x))) : G P E B W M0 Q (.code c :: k) st := by
  intro M a w hS
  unfold rngOf at hc
  split at hc
  rotate_left
  · cases hc
  rename_i o' p' as bd
  cases hc
  simp only [after]
  simp only [asn, rbd] at round
  -- the iterator's value
  obtain ⟨u, hu1, hu2⟩ : ∃ u, a.eval o = .func (.func gf) #[] #[u] ∧ RC M (.cel [.lst .spn l]) u := by
    have h1 := rdG_ok hS (Γ := []) (by simp) _ _ hv
    generalize a.eval o = v at h1
    cases h1 with
    | c h1 =>
      cases h1 with
      | clo hs h2 =>
        rename_i us
        obtain ⟨us⟩ := us
        match us, hs, h2 with
        | [u], _, h2 => exact ⟨u, rfl, h2 0 _ u rfl rfl⟩
  have hS0 : Sat E.N E.mrk B W M0 [] [] 0 (mk Fs (H x0)) M a w := hw.sat hS
  have hMw : M.on w := hS.h.mem
  have hwB : ∀ k, B k → k < w.heap.size := hS.h.base
  show Code.wpIn (fce E.ro) 0 P _ (after E.ro P Q k) a w
  rw [hro]
  refine wpIn_rangeFunc ?_
  intro fn hfn
  show ∃ l mark w₁ d w₁' f args w₂, (Instr.enterLoop fn a.tmps #[p] as bd none).run P w = _ ∧ _
  -- the loop's record
  let rec0 : LoopState → Option Code → Loop := fun s pe => { state := s, pending := pe, fn, tmps := a.tmps, params := #[p], assign := as, body := bd, defers := w.heap.size }
  let D := w.heap.size
  let lid := w.heap.size + 1
  let W1 := (w.alloc (.deferred (some []))).alloc (.loop (rec0 .ready none))
  have hlt : ∀ k o, M k = some o → k < D := fun k o hk => (Array.getElem?_eq_some_iff.1 (hMw k o hk)).1
  have hB1 : Below w.heap.size w W1 := ((Below.refl _ w).alloc (Nat.le_refl _) _).alloc (by simp) _
  -- what does not change while the loop goes on
  obtain ⟨MD, hMD⟩ : ∃ MD, MD = (M.put D (.deferred (some []))).put lid (.loop (rec0 .ready none)) := ⟨_, rfl⟩
  have hDl : D ≠ lid := by show w.heap.size ≠ w.heap.size + 1; omega
  have hBD : ¬ B D := fun h => Nat.lt_irrefl _ (hwB _ h)
  have hBl : ¬ B lid := fun h => Nat.lt_irrefl _ (Nat.lt_of_succ_lt (hwB _ h))
  have hMMD : M.le MD := fun k o hk => by
    have := hlt k o hk
    rw [hMD, Mem.put_ne _ _ (show k ≠ lid by show k ≠ w.heap.size + 1; have : k < w.heap.size := this; omega), Mem.put_ne _ _ (show k ≠ D by omega)]; exact hk
  have hMDl : MD lid = some (.loop (rec0 .ready none)) := by rw [hMD]; exact Mem.put_same _ _ _
  have hMDD : MD D = some (.deferred (some [])) := by rw [hMD, Mem.put_ne _ _ hDl]; exact Mem.put_same _ _ _
  have hMDlow : ∀ k, B k → MD k = M k := fun k hk => by
    rw [hMD, Mem.put_ne _ _ (show k ≠ lid from fun e => hBl (e ▸ hk)), Mem.put_ne _ _ (show k ≠ D from fun e => hBD (e ▸ hk))]
  have hFs : ∀ s e, (match look s Fs with | some x => some (Ent.u x) | none => none) = some e → ∃ x, e = .u x ∧ look s Fs = some x ∧ ∃ v, a.tmps[s]? = some v ∧ RA M x v := by
    intro s e he
    split at he
    · rename_i x hx; cases he
      obtain ⟨v, v1, v2⟩ := hS0.f s (.u x) (by simp only [mk, hx])
      exact ⟨x, rfl, hx, v, v1, v2⟩
    · cases he
  -- between two rounds
  let Inv : (Nat → X → Prop) → Obj → Mem → Nat → World → Prop := fun ok o Mi i Wd => ∃ x M', ok i x ∧ SatH B W (mk [] (H x)).H M' Wd ∧ M.le Mi ∧ Mi.le M' ∧ (∀ k o, M' k = some o → B k → M k = some o) ∧ M' D = some (.deferred (some [])) ∧ M' lid = some o ∧ Mi lid = none
  have hInv : ∀ ok o, Grows (Inv ok o) := by
    rintro ok o Mi Mi' i Wa Wb ⟨x, M', h1, h2, h3, h4, h5, h6, h7, h8⟩ hb hon hle hlow
    have hs := h2.later hb
    have hnone : ∀ n y b, (mk [] (H x)).H n = some y → y.block = some b → M' b = none ∧ Mi' b = none := by
      intro n y b hn hbk
      obtain ⟨_, q2, q3⟩ := HB.block_lt (h2.ok n y hn) hbk
      refine ⟨q3, ?_⟩
      cases hq : Mi' b with
      | none => rfl
      | some o' => have := h4 b o' (hlow b o' hq q2); rw [q3] at this; cases this
    have hleM : M'.le (fun k => match M' k with | some o => some o | none => Mi' k) := fun k o hk => by simp only [hk]
    refine ⟨x, fun k => match M' k with | some o => some o | none => Mi' k, h1, ⟨hs.below, hs.base, fun k o hk => ?_, fun n y hy => ?_, hs.inj⟩, Mem.le_trans h3 hle, fun k o hk => ?_, fun k o hk hkB => ?_, hleM _ _ h6, hleM _ _ h7, ?_⟩
    · split at hk
      · rename_i o' ho'; cases hk; exact hs.mem k o ho'
      · exact hon k o hk
    · refine (hs.ok n y hy).keep hleM (fun b hbk => ?_) (fun b hbk => rfl)
      obtain ⟨q1, q2⟩ := hnone n y b hy hbk
      simp only [q1, q2]
    · cases hm : M' k with
      | none => simp only [hm]; exact hk
      | some o' => simp only [hm]; have e1 := hs.mem k o' hm; rw [hon k o hk] at e1; exact e1.symm
    · replace hk : (match M' k with | some o => some o | none => Mi' k) = some o := hk
      split at hk
      · rename_i o' ho'; cases hk; exact h5 k o ho' hkB
      · rename_i ho'
        have := h4 k o (hlow k o hk (h2.base k hkB)); rw [ho'] at this; cases this
    · cases hq : Mi' lid with
      | none => rfl
      | some o' =>
        have := hlow lid o' hq (Array.getElem?_eq_some_iff.1 (h2.mem lid _ h7)).1
        rw [h8] at this; cases this
  -- what does not change in a round
  let MDi : Mem → Mem := fun Mi => (Mi.put D (.deferred (some []))).put lid (.loop (rec0 .ready none))
  have hDil : ∀ Mi, MDi Mi lid = some (.loop (rec0 .ready none)) := fun Mi => Mem.put_same _ _ _
  have hDiD : ∀ Mi, MDi Mi D = some (.deferred (some [])) := fun Mi => by show Mem.put _ _ _ _ = _; rw [Mem.put_ne _ _ hDl]; exact Mem.put_same _ _ _
  have hDin : ∀ (Mi : Mem) k, k ≠ lid → k ≠ D → MDi Mi k = Mi k := fun Mi k h1 h2 => by show Mem.put _ _ _ _ = _; rw [Mem.put_ne _ _ h1, Mem.put_ne _ _ h2]
  -- a state at a round's end, the record turned
  have hturn : ∀ (ok : Nat → X → Prop) (i : Nat) (x : X) (Mi M2 M3 : Mem) (o : Loop) (o' : Loop) (Wd : World) (a3 : Act), M.le Mi → (∀ k o, Mi k = some o → B k → M k = some o) → (∀ k o, Mi k = some o → k = D → o = .deferred (some [])) → Mi lid = none → ok i x → M2.le M3 → M2 lid = some (.loop o) → (∀ k, k ≠ lid → M2 k = MDi Mi k) → Sat E.N E.mrk B W M2 [] [] 0 (mk [] (H x)) M3 a3 Wd →
      Wd.heap[lid]? = some (.loop o) ∧ Inv ok (.loop o') Mi i (Wd.putObj lid (.loop o')) ∧ Mi.on (Wd.putObj lid (.loop o')) := by
    intro ok i x Mi M2 M3 o o' Wd a3 hMMi hMlow hMiD hMil hok hle hl h2 hS3
    have hl3 := hS3.h.mem lid _ (hle lid _ hl)
    have hpu := hS3.h.putObj (o' := .loop o') hl3 rfl hBl
    have hMi3 : Mi.le (M3.put lid (.loop o')) := fun k o hk => by
      by_cases e : k = lid
      · subst e; rw [hMil] at hk; cases hk
      · rw [Mem.put_ne _ _ e]
        by_cases e2 : k = D
        · have := hMiD k o hk e2; subst this e2
          exact hle _ _ (by rw [h2 _ e]; exact hDiD Mi)
        · exact hle k o (by rw [h2 k e, hDin Mi k e e2]; exact hk)
    refine ⟨hl3, ⟨x, M3.put lid (.loop o'), hok, hpu, hMMi, hMi3, fun k o hk hkB => ?_, ?_, Mem.put_same _ _ _, hMil⟩, fun k o hk => hpu.mem k o (hMi3 k o hk)⟩
    · have hkl : k ≠ lid := fun e => hBl (e ▸ hkB)
      rw [Mem.put_ne _ _ hkl] at hk
      have := hS3.old k o hk hkB
      rw [h2 k hkl, hDin Mi k hkl (fun e => hBD (e ▸ hkB))] at this; exact hMlow k o this hkB
    · rw [Mem.put_ne _ _ hDl]; exact hle _ _ (by rw [h2 D hDl]; exact hDiD Mi)
  have hI1 : Inv ok (.loop (rec0 .ready none)) M 0 W1 := by
    suffices hh : SatH B W (mk [] (H x0)).H MD W1 ∧ M lid = none from ⟨x0, MD, hx0, hh.1, Mem.le_refl _, hMMD, fun k o hk hkB => by rw [hMDlow k hkB] at hk; exact hk, hMDD, hMDl, hh.2⟩
    have h1 : SatH B W (mk Fs (H x0)).H M W1 := hS0.h.later hB1
    have hWD : W1.heap[D]? = some (.deferred (some [])) := (Below.heap_alloc _ _ _ (by simp [D])).trans (World.alloc_heap_new w _)
    have hWl : W1.heap[lid]? = some (.loop (rec0 .ready none)) := by
      have := World.alloc_heap_new (w.alloc (.deferred (some []))) (.loop (rec0 .ready none)); rwa [World.size_alloc] at this
    have h2 := h1.putObj (o' := .deferred (some [])) hWD rfl hBD
    have e1 : W1.putObj D (.deferred (some [])) = W1 := putObj_self hWD
    rw [e1] at h2
    have h3 := h2.putObj (o' := .loop (rec0 .ready none)) hWl rfl hBl
    have e2 : W1.putObj lid (.loop (rec0 .ready none)) = W1 := putObj_self hWl
    rw [e2, ← hMD] at h3
    refine ⟨h3, ?_⟩
    cases hq : M lid with
    | none => rfl
    | some o' => have := hlt lid o' hq; exact absurd this (by show ¬ (w.heap.size + 1 < w.heap.size); omega)
  -- the activation behind the loop
  have hbeh : ∀ (x : X) (M' : Mem) (o : Loop) (Wd : World), SatH B W (mk [] (H x)).H M' Wd → M.le M' → (∀ k o, M' k = some o → B k → M k = some o) → M' D = some (.deferred (some [])) → M' lid = some (.loop o) →
      ∀ (o' : Loop), Sat E.N E.mrk B W M0 [] [] 0 (mk Fs (H x)) (M'.put lid (.loop o')) { a with defers := [mark D] ++ a.defers } (Wd.putObj lid (.loop o')) := by
    intro x M' o Wd h1 h2 h3 h4 h5 o'
    have hl5 := h1.mem lid _ h5
    have hle : M.le (M'.put lid (.loop o')) := fun k o hk => by
      have hkl : k ≠ lid := by have := hlt k o hk; show k ≠ w.heap.size + 1; have : k < w.heap.size := this; omega
      rw [Mem.put_ne _ _ hkl]; exact h2 k o hk
    refine ⟨h1.putObj hl5 rfl hBl, fun k o hk hkB => ?_, ⟨?_, fun k o hk => hle k o (hS.d.kp k o hk)⟩, hS.n, fun s e he => ?_, fun s j b x hx => ?_⟩
    · rw [Mem.put_ne _ _ (show k ≠ lid from fun e => hBl (e ▸ hkB))] at hk
      exact hS.old k o (h3 k o hk hkB) hkB
    · obtain ⟨Ds, d0, d1, d2, d3⟩ := hS.d.df
      refine ⟨D :: Ds, fun e => (by rw [hmk] at e; cases e), List.nodup_cons.2 ⟨fun hm => ?_, d1⟩, by simp [d2], fun D' hD' => ?_⟩
      · have := hlt D _ (d3 D hm).2; omega
      · rcases List.mem_cons.1 hD' with rfl | hm
        · exact ⟨hBD, by rw [Mem.put_ne _ _ hDl]; exact h4⟩
        · exact ⟨(d3 D' hm).1, hle _ _ (d3 D' hm).2⟩
    · obtain ⟨x', rfl, _, v, v1, v2⟩ := hFs s e he
      exact ⟨v, v1, RA.mono hle v2⟩
    · obtain ⟨x', e, _⟩ := hFs s _ hx
      cases e
  refine ⟨lid, [mark D], W1, { target := .fn (.func gf) #[u], args := #[.func (.yield lid) #[] #[]] }, W1, gf, #[.func (.yield lid) #[] #[], u], W1, ?_, ?_, ?_, ?_, fun e => (by cases e), ?_⟩
  · exact run_enterLoop_outer _ _ _ _ _
  · simp only [resolve, hu1]
    simp [go_sem]
  · intro f' hf'; trivial
  · simp [invoke, go_sem, it.1]
  refine ((callsIn_wide (n := 0 - 1)).2 (it.2 M l u lid (Inv ok (.loop (rec0 .ready none))) (Inv okx (.loop (rec0 .done (some .ret)))) W1 (fun k o hk => ?_) hu2 hl (hInv _ _) (hInv _ _) hI1 ?_)).mono ?_
  · exact (hB1.block k (hlt k o hk)).trans (hMw k o hk)
  · -- ONE ROUND
    rintro Mi i Wd y hy ⟨x, M', hok, h1, h2a, h2b, h3, h4, h5, hMil⟩ hMd
    have hl5 := h1.mem lid _ h5
    have hMlow : ∀ k o, Mi k = some o → B k → M k = some o := fun k o hk hkB => h3 k o (h2b k o hk) hkB
    have hMiD : ∀ k o, Mi k = some o → k = D → o = .deferred (some []) := fun k o hk e => by
      subst e; have := h2b _ _ hk; rw [h4] at this; cases this; rfl
    refine ⟨fn, _, as, bd, run_yield (P := P) (args := #[spV y]) hl5 rfl, roundIn_of_wpIn hfn ?_⟩
    obtain ⟨R, hR⟩ : ∃ R : Ending → World → Prop, R = fun e W' => (e = .returned (.bool true) ∧ Inv ok (.loop (rec0 .ready none)) Mi (i + 1) W' ∧ Mi.on W') ∨ (e = .returned (.bool false) ∧ Inv okx (.loop (rec0 .done (some .ret))) Mi (i + 1) W' ∧ Mi.on W') := ⟨_, rfl⟩
    rw [← hR]
    obtain ⟨M2, hM2⟩ : ∃ M2, M2 = (MDi Mi).put lid (.loop (rec0 .busy none)) := ⟨_, rfl⟩
    have hM2l : M2 lid = some (.loop (rec0 .busy none)) := by rw [hM2]; exact Mem.put_same _ _ _
    have hM2n : ∀ k, k ≠ lid → M2 k = MDi Mi k := fun k hk => by rw [hM2, Mem.put_ne _ _ hk]
    let J1 : Act → World → Prop := fun a1 w1 => ∃ w2, (Instr.beginRound lid).run P w1 = .ok () w2 ∧ bd.wpIn (Fence.wide.inRound lid) 0 P (roundPost P lid R) a1 w2
    have hround := round lid (MDi Mi) M2 J1 i x y hy hok ?hop
    case hop =>
      intro st' hG Mx a1 w1 hSx
      have hSx : Sat E.N E.mrk B W (MDi Mi) [] [] 0 st' Mx a1 w1 := hSx
      have hxl := hSx.d.kp lid _ (hDil Mi)
      have hwl := hSx.h.mem lid _ hxl
      refine ⟨_, run_beginRound hwl rfl, ?_⟩
      have hSt : Sat E.N E.mrk B W M2 [] [] 0 st' (Mx.put lid (.loop (rec0 .busy none))) a1 (w1.putObj lid (.loop (rec0 .busy none))) := by
        refine Sat.turn hSx hwl rfl hBl (fun k o hk hkB => ?_) rfl ⟨?_, fun k o hk => ?_⟩
        · rw [hM2n k (fun e => hBl (e ▸ hkB))]; exact hSx.old k o hk hkB
        · obtain ⟨Ds, d0, d1, d2, d3⟩ := hSx.d.df
          refine ⟨Ds, d0, d1, d2, fun D' hD' => ⟨(d3 D' hD').1, ?_⟩⟩
          have hne : D' ≠ lid := by
            intro e; have := (d3 D' hD').2; rw [e, hxl] at this; cases this
          rw [Mem.put_ne _ _ hne]; exact (d3 D' hD').2
        · by_cases e : k = lid
          · subst e; rw [hM2l] at hk; rw [Mem.put_same]; exact hk
          · rw [Mem.put_ne _ _ e]; rw [hM2n k e] at hk; exact hSx.d.kp k o hk
      have hb := hG _ a1 _ hSt
      refine wpIn_mono (Q := after (some (lid + 1)) P _ [.lp _]) hb ?_
      intro e a3 W3 he
      cases e with
      | normal =>
        obtain ⟨x', M3, hok', hS3⟩ := he
        obtain ⟨q1, q2, q3⟩ := hturn ok (i + 1) x' Mi M2 M3 (rec0 .busy none) (rec0 .ready none) W3 a3 h2a hMlow hMiD hMil hok' hS3.d.kp hM2l hM2n hS3
        refine ⟨_, _, run_endRound none q1, ?_⟩
        rw [hR]
        exact .inl ⟨rfl, q2, q3⟩
      | ret =>
        obtain ⟨_, x', M3, hok', hS3⟩ := he
        obtain ⟨q1, q2, q3⟩ := hturn okx (i + 1) x' Mi M2 M3 (rec0 .busy none) (rec0 .done (some .ret)) W3 a3 h2a hMlow hMiD hMil hok' hS3.d.kp hM2l hM2n hS3
        refine ⟨_, _, run_endRound (some .ret) q1, ?_⟩
        rw [hR]
        exact .inr ⟨rfl, q2, q3⟩
      | _ => exact absurd he.1 (by simp)
    have h2 : M.le M' := Mem.le_trans h2a h2b
    have ha := hround M' ⟨a.tmps.setIfInBounds p (spV y), []⟩ Wd ?hs
    case hs =>
      refine ⟨h1, fun k o hk hkB => ?_, .nil rfl (fun k o hk => ?_), ?_, fun s e he => ?_, fun s j b x hx => ?_⟩
      · rw [hDin Mi k (fun e => hBl (e ▸ hkB)) (fun e => hBD (e ▸ hkB))]; exact h2a k o (h3 k o hk hkB)
      · by_cases e : k = lid
        · subst e; rw [hDil] at hk; rw [h5]; exact hk
        · by_cases e2 : k = D
          · subst e2; rw [hDiD] at hk; rw [h4]; exact hk
          · rw [hDin Mi k e e2] at hk; exact h2b k o hk
      · show (a.tmps.setIfInBounds p (spV y)).size = E.N
        rw [Array.size_setIfInBounds]; exact hS.n
      · show ∃ v, (a.tmps.setIfInBounds p (spV y))[s]? = some v ∧ _
        simp only [mk, look] at he
        by_cases hsp : s = p
        · subst hsp
          simp only [Nat.beq_refl] at he; cases he
          refine ⟨spV y, by rw [Array.getElem?_setIfInBounds, if_pos rfl, if_pos (by rw [hS.n]; exact hp)], .g ⟨rfl, fun j c u e1 e2 => ?_⟩⟩
          match j, e1, e2 with
          | 0, e1, e2 => cases e1; cases e2; exact .pv (.val rfl)
          | 1, e1, e2 => cases e1; cases e2; exact .pv (.val rfl)
        · have hb : Nat.beq s p = false := by
            cases hb : Nat.beq s p with
            | false => rfl
            | true => rw [Nat.beq_eq] at hb; exact absurd hb hsp
          rw [hb] at he
          obtain ⟨x', rfl, _, v, v1, v2⟩ := hFs s e he
          exact ⟨v, by rw [Array.getElem?_setIfInBounds, if_neg (fun e => hsp e.symm)]; exact v1, RA.mono h2 v2⟩
      · simp only [mk] at hx
        split at hx <;> cases hx
    have hfold : (#[p].zip #[spV y]).foldl (fun t (p, v) => t.setIfInBounds p v) a.tmps = a.tmps.setIfInBounds p (spV y) := by simp
    show as.wpIn _ _ P _ { tmps := (#[p].zip #[spV y]).foldl (fun t (p, v) => t.setIfInBounds p v) a.tmps, defers := [] } Wd
    rw [hfold]
    refine wpIn_mono (Q := after (some (lid + 1)) P _ [.lp J1]) ha ?_
    intro e a3 W3 he
    cases e with
    | normal => exact he
    | _ => exact he.elim
  · -- BEHIND THE ITERATOR
    rintro e W2 ⟨⟨v, rfl⟩, Mi, (⟨x, M', hok, h1, h2a, h2b, h3, h4, h5, hMil⟩ | ⟨i, hi, x, M', hok, h1, h2a, h2b, h3, h4, h5, hMil⟩)⟩
    · have hl5 := h1.mem lid _ h5
      refine ⟨none, _, run_endLoop hl5 (by simp [rec0]), ?_⟩
      have := done x hok _ _ _ ((hbeh x M' _ W2 h1 (Mem.le_trans h2a h2b) h3 h4 h5 { rec0 .ready none with state := .exhausted }).hd h0)
      rw [hro] at this; exact this
    · have hl5 := h1.mem lid _ h5
      refine ⟨some .ret, _, run_endLoop hl5 (by simp [rec0]), ?_⟩
      have := left i x hi hok _ _ _ (hbeh x M' _ W2 h1 (Mem.le_trans h2a h2b) h3 h4 h5 { rec0 .done (some .ret) with state := .exhausted })
      rw [hro] at this; exact this
end
end Go.Mt

/-
  Mt, part ZC: an iterator's own side: rounds asked for; a nil slice in a cell made one's own; a captured variable that nothing turns any more.
-/
set_option linter.unusedSimpArgs false
set_option linter.unusedVariables false
namespace Go.Mt
open Go.RowKit
section
variable {P : Program} {E : Env} {B : Nat → Prop} {W : World} {M0 M F : Mem} {Q : Exit → Act → World → Prop} {k : List Itm} {st : St} {a : Act} {w : World} {N : Nat} {mrk : Bool} {sh : Bool} {J Jx : Mem → Nat → World → Prop} {n : Nat} {ops : List Oper} {rs : List (Nat × Nat)} {S : Nat → Prop}

theorem SatP.nodef (h : mrk = false) (hS : SatP N mrk B W M0 ops rs S st M a w) : a.defers = [] := by
  obtain ⟨Ds, d0, _, d2, _⟩ := hS.d.df
  rw [d0 h] at d2; simpa using d2
/-- A new start: what is known of the slots. -/
theorem SatP.rebase (h : mrk = false) (hS : SatP N mrk B W M0 ops rs S st M a w) {w' : World} (hM : M.on w') : SatP N mrk (low w'.heap.size) w' M ops rs S ⟨st.f, fun _ => none, st.nx⟩ M a w' :=
  ⟨⟨BelowF.refl _ _, fun _ h => h, hM, fun _ _ h => (by cases h), fun _ _ _ _ _ _ h => (by cases h)⟩, fun _ _ h _ => h, .nil (hS.nodef h) (Mem.le_refl _), hS.n, hS.f, hS.g⟩

/-- What an iterator's body must come to. -/
def Qit (J Jx : Mem → Nat → World → Prop) (n : Nat) : Exit → Act → World → Prop :=
  fun e a w => (e = .normal ∨ e = .ret) ∧ a.defers = [] ∧ ∃ Mi, J Mi n w ∨ ∃ i, i ≤ n ∧ Jx Mi i w
theorem qit_ok (hmk : E.mrk = false) (hJ : Grows J) (hJx : Grows Jx) (h : J M0 n W ∨ ∃ i, i ≤ n ∧ Jx M0 i W) (hS : SatP E.N E.mrk (low W.heap.size) W M0 ops rs S st M a w) : a.defers = [] ∧ ∃ Mi, J Mi n w ∨ ∃ i, i ≤ n ∧ Jx Mi i w := by
  refine ⟨hS.nodef hmk, M, ?_⟩
  rcases h with h | ⟨i, hi, h⟩
  · exact .inl (hJ M0 M n W w h hS.h.below.low hS.h.mem hS.d.kp (fun k o hk hlt => hS.old k o hk hlt))
  · exact .inr ⟨i, hi, hJx M0 M i W w h hS.h.below.low hS.h.mem hS.d.kp (fun k o hk hlt => hS.old k o hk hlt)⟩
theorem G_itret (hmk : E.mrk = false) (hJ : Grows J) (hJx : Grows Jx) {c : Code} (hc : isRet c = true) (h : J M0 n W ∨ ∃ i, i ≤ n ∧ Jx M0 i W) : G P E (low W.heap.size) W M0 (Qit J Jx n) (.code c :: k) st := by
  intro M a w hS
  cases c <;> simp only [isRet, Bool.false_eq_true] at hc
  exact wpIn_ret (after_ret ⟨.inr rfl, qit_ok hmk hJ hJx h hS⟩)
theorem G_itend (hmk : E.mrk = false) (hJ : Grows J) (hJx : Grows Jx) (h : J M0 n W ∨ ∃ i, i ≤ n ∧ Jx M0 i W) : G P E (low W.heap.size) W M0 (Qit J Jx n) [] st :=
  fun M a w hS => ⟨.inl rfl, qit_ok hmk hJ hJx h hS⟩

/-- The state at a round's head. -/
def Jit (E : Env) (J : Mem → Nat → World → Prop) (n : Nat) (Fs : Nat → List (Nat × A)) (i : Nat) : Act → World → Prop :=
  fun a w => ∃ M, i ≤ n ∧ J M i w ∧ Sat E.N E.mrk (low w.heap.size) w M [] [] 0 (mk (Fs i) []) M a w
theorem jit_ok (hmk : E.mrk = false) (hJ : Grows J) {Fs : Nat → List (Nat × A)} {i : Nat} (hi : i ≤ n) (h : J M0 i W) (hw : Wk st [] (Fs i) []) {ops rs j} (hS : Sat E.N E.mrk (low W.heap.size) W M0 ops rs j st M a w) : Jit E J n Fs i a w := by
  refine ⟨M, hi, hJ M0 M i W w h hS.h.below.low hS.h.mem hS.d.kp (fun k o hk hlt => hS.old k o hk hlt), ?_⟩
  have := (hw.sat hS).rebase hmk (w' := w) hS.h.mem
  refine ⟨⟨this.h.below, this.h.base, this.h.mem, fun n x hx => ?_, fun n n' x x' b hn hx => ?_⟩, this.old, this.d, this.n, this.f, this.g⟩
  · simp [mk, nth_eq] at hx
  · simp [mk, nth_eq] at hx
theorem G_itlp (hmk : E.mrk = false) (hJ : Grows J) {Fs : Nat → List (Nat × A)} {i : Nat} (hi : i ≤ n) (h : J M0 i W) (hw : Wk st [] (Fs i) []) : G P E (low W.heap.size) W M0 Q (.lp (Jit E J n Fs i) :: k) st :=
  fun M a w hS => jit_ok hmk hJ hi h hw hS
/-- THE ITERATOR's LOOP: a round of its own for each element. -/
theorem G_itloop (hmk : E.mrk = false) (hJ : Grows J) (Fs : Nat → List (Nat × A)) {c : Code} (hc : isLoop c = true) (h0 : J M0 0 W) (hw : Wk st [] (Fs 0) [])
    (body : ∀ i w M, i ≤ n → J M i w → G P E (low w.heap.size) w M Q (.code (bod c) :: .lp (Jit E J n Fs (i + 1)) :: k) (mk (Fs i) [])) : G P E (low W.heap.size) W M0 Q (.code c :: k) st := by
  intro M a w hS
  cases c <;> simp only [isLoop, Bool.false_eq_true] at hc
  rename_i c
  simp only [after]
  have hI0 : Jit E J n Fs 0 a w := jit_ok hmk hJ (Nat.zero_le _) h0 hw hS
  -- the round's number: the greatest that the state has
  let p : Act → World → Nat → Prop := fun a w i => Jit E J n Fs i a w
  let ν : Act → World → Nat := fun a w => open Classical in if h : ∃ m, ∃ i, p a w i ∧ n - i = m then Classical.choose (exists_min (fun m => ∃ i, p a w i ∧ n - i = m) h) else 0
  have hν : ∀ a w, (∃ i, p a w i) → (∃ i, p a w i ∧ n - i = ν a w) ∧ ∀ i, p a w i → ν a w ≤ n - i := by
    rintro a w ⟨i, hi⟩
    have h : ∃ m, ∃ i, p a w i ∧ n - i = m := ⟨_, i, hi, rfl⟩
    simp only [ν, dif_pos h]
    have := Classical.choose_spec (exists_min (fun m => ∃ i, p a w i ∧ n - i = m) h)
    exact ⟨this.1, fun i hi => this.2 _ ⟨i, hi, rfl⟩⟩
  refine wpIn_loop (fun a w => ∃ i, p a w i) ν ⟨0, hI0⟩ fun a w hI => ?_
  obtain ⟨⟨i, ⟨M, h1, h2, h3⟩, hi⟩, _⟩ := hν a w hI
  have := body i w M h1 h2 M a w h3
  simp only [after, bod] at this
  refine wpIn_mono this fun e a' w' q => ?_
  cases e with
  | normal =>
    obtain ⟨M', q1, q2⟩ := q
    refine ⟨⟨i + 1, M', q1, q2⟩, Nat.lt_of_le_of_lt ((hν a' w' ⟨i + 1, M', q1, q2⟩).2 (i + 1) ⟨M', q1, q2⟩) (by omega)⟩
  | _ => exact q

/-- A ROUND ASKED FOR. -/
theorem G_yield (hro : E.ro = some 0) (hmk : E.mrk = false) (hJ : Grows J) {all rest : List Oper} {j d t ty : Nat} {pos : String} {fo x : Operand} {aft} (hops : drp j all = ⟨some d, .call ⟨.value fo, ⟨[x]⟩, ⟨[t]⟩⟩, ty, pos, aft, none⟩ :: rest)
    {lid i : Nat} {y : Span} (hf : rdG st.f [] fo = some (pv (.val (.func (.yield lid) #[] #[])))) (hx : rdG st.f [] x = some (.g [.pv (i64 y.fr), .pv (i64 y.to)]))
    (h0 : J M0 i W) (hy : ∀ Mi W, J Mi i W → Mi.on W → YieldAt Fence.wide 0 P lid #[spV y] W fun e W' =>
      (e = .returned (.bool true) ∧ J Mi (i + 1) W' ∧ Mi.on W') ∨ (e = .returned (.bool false) ∧ Jx Mi (i + 1) W' ∧ Mi.on W'))
    {f' : Bool → Nat → Option Ent} (hput : ∀ b, putS E.N j (refsOf all all) st.f (some d) (some (.u (bool b))) = some (f' b))
    (yes : ∀ W' M', J M' (i + 1) W' → G P E (low W'.heap.size) W' M' Q (.ops all (j + 1) :: k) ⟨f' true, fun _ => none, st.nx⟩)
    (no : ∀ W' M', Jx M' (i + 1) W' → G P E (low W'.heap.size) W' M' Q (.ops all (j + 1) :: k) ⟨f' false, fun _ => none, st.nx⟩) :
    G P E (low W.heap.size) W M0 Q (.ops all j :: k) st := by
  intro M a w hS
  have hS : Sat E.N E.mrk (low W.heap.size) W M0 all (refsOf all all) j st M a w := hS
  simp only [after]
  rw [hro, hops]
  intro hnd
  have hrest : drp (j + 1) all = rest := by
    rw [drp_eq] at hops ⊢
    have := congrArg List.tail hops
    simpa [List.tail_drop] using this
  have hJw := hJ M0 M i W w h0 hS.h.below.low hS.h.mem hS.d.kp (fun k o hk hlt => hS.old k o hk hlt)
  have hfv : a.eval fo = .func (.yield lid) #[] #[] := (rdG_ok hS (Γ := []) (by simp) _ _ hf).val_inv
  have hxv : a.eval x = spV y := by
    have h1 := rdG_ok hS (Γ := []) (by simp) _ _ hx
    generalize a.eval x = v at h1
    cases h1 with
    | g h2 =>
      rename_i us
      obtain ⟨us⟩ := us
      match us, h2.1 with
      | [u0, u1], _ =>
        have q0 := h2.2 0 _ u0 rfl rfl
        have q1 := h2.2 1 _ u1 rfl rfl
        cases q0 with
        | pv q0 =>
          cases q1 with
          | pv q1 => cases q0; cases q1; rfl
  obtain ⟨fn, tmps, as, bd, hrun, hround⟩ := hy M w hJw hS.h.mem
  refine wpListIn_step fun K hK => ?_
  rw [if_pos (by simp [Region.wanted])]
  refine ⟨fun f _ => fce_fn 0 f, ?_⟩
  have hex : (execOp a.eval ⟨some d, .call ⟨.value fo, ⟨[x]⟩, ⟨[t]⟩⟩, ty, pos, aft, none⟩).run P w = .ok (.round lid fn tmps as bd) w := by
    rw [← hrun]
    simp [execOp, resolve, invoke, hfv, hxv, Deferred.ofValue]
  rw [Oper.semAt_eq _ _ _ (by intro c e; cases e), hex]
  refine ⟨fun e => (by cases e), hround.mono ?_⟩
  have go : ∀ (b : Bool) (w' : World), M.on w' → G P E (low w'.heap.size) w' M Q (.ops all (j + 1) :: k) ⟨f' b, fun _ => none, st.nx⟩ → K (a.put (some d) (.bool b)) w' := by
    intro b w' hon hG
    refine hK _ _ ?_
    have hS1 := SatP.rebase hmk hS (w' := w') hon
    have hS2 := SatP.put (S' := fun q => q < j + 1) (i := j) (M' := M) (H' := fun _ => none) (nx' := st.nx) (dst := some d) (e := some (.u (bool b))) (v := .bool b) hS1 (Nat.lt_irrefl j) (fun q hq => Nat.lt_succ_of_lt hq) (Mem.ext_refl _ _) hS1.h (hput b) (put_defers _ _)
      (fun e' he => by cases he; exact .c (.pv (.val rfl))) (by simp)
    have := hG M _ _ hS2
    simp only [after, hro, hrest] at this
    exact this (fun o ho => hnd o (List.mem_cons_of_mem _ ho))
  rintro e w' (⟨rfl, h1, h2⟩ | ⟨rfl, h1, h2⟩)
  · exact go true w' h2 (yes w' M h1)
  · exact go false w' h2 (no w' M h1)

/-- A nil slice in a cell made one's own. -/
theorem G_ownB (n j : Nat) (ty' : TypeId) {lk : LK} {b : Nat} {ty : TypeId} {cs : List C} (hn : st.H n = some (.blk b ty cs)) (hj : nth cs j = some (.pv (.nil lk)))
    (hk : G P E B W M0 Q k ⟨st.f, updH (updH st.H n (some (.blk b ty (cs.set j (.own st.nx (.slice none 0 0)))))) st.nx (some (.own (.slice none 0 0) ty' lk [])), st.nx + 1⟩) : G P E B W M0 Q k st := by
  intro M a w hS
  have h1 : SatH B W (updH st.H n (some (.blk b ty (cs.set j (.own st.nx (.slice none 0 0)))))) M w := by
    refine ⟨hS.h.below, hS.h.base, hS.h.mem, fun m x hx => ?_, fun m m' x x' c hm e1 e2 hb => ?_⟩
    · by_cases e : m = n
      · subst e; rw [updH_same] at hx; cases hx
        obtain ⟨q1, q2, us, q3, q4⟩ := hS.h.ok _ _ hn
        refine ⟨q1, q2, us, q3, by simpa using q4.1, fun i c u e1 e2 => ?_⟩
        rw [List.getElem?_set] at e1
        split at e1
        · rename_i hij
          split at e1
          · cases e1
            rw [nth_eq] at hj
            have := q4.2 i _ u (by rw [← hij]; exact hj) e2
            cases this with
            | pv h => cases h; exact .own rfl
          · cases e1
        · exact q4.2 i c u e1 e2
      · rw [updH_ne _ _ e] at hx; exact hS.h.ok m x hx
    · have key : ∀ m x, updH st.H n (some (.blk b ty (cs.set j (.own st.nx (.slice none 0 0))))) m = some x → ∃ y, st.H m = some y ∧ y.block = x.block := by
        intro m x hx
        by_cases e : m = n
        · subst e; rw [updH_same] at hx; cases hx; exact ⟨_, hn, rfl⟩
        · rw [updH_ne _ _ e] at hx; exact ⟨x, hx, rfl⟩
      obtain ⟨y, y1, y2⟩ := key m x e1
      obtain ⟨y', y1', y2'⟩ := key m' x' e2
      rw [← y2'] ; exact hS.h.inj m m' y y' c hm y1 y1' (by rw [y2]; exact hb)
  exact hk M a w ⟨h1.newOwn (row := none) (grownBy_refl w none) (by simp) (OwnSl.nil _ _ _ _ _) (by simp [Value.ownBlock]) st.nx (fun m x hm hx => ⟨hx, by simp⟩), hS.old, hS.d, hS.n, hS.f, hS.g⟩

/-- A captured variable that nothing turns any more. -/
theorem G_freezeB (s n : Nat) {f b : Nat} {ty : TypeId} {ys : List PV} (hs : st.f s = some (.u (.c (.clo f [.ptr n b 0])))) (hn : st.H n = some (.blk b ty (ys.map .pv)))
    (hk : G P E B W M0 Q k ⟨updF st.f s (some (.u (.c (.clo f [.cel ys])))), updH st.H n none, st.nx⟩) : G P E B W M0 Q k st := by
  intro M a w hS
  obtain ⟨q1, q2, us, q3, q4⟩ := hS.h.ok _ _ hn
  let M' : Mem := fun j => if j = b then w.heap[b]? else M j
  have hle : M.le M' := by
    intro j o e
    by_cases hj : j = b
    · subst hj; rw [q2] at e; cases e
    · simp [M', hj, e]
  have hH : ∀ m x, updH st.H n none m = some x → m ≠ n ∧ st.H m = some x := fun m x hm => by
    by_cases e : m = n
    · subst e; rw [updH_same] at hm; cases hm
    · rw [updH_ne _ _ e] at hm; exact ⟨e, hm⟩
  have hSH : SatH B W (updH st.H n none) M' w := by
    refine ⟨hS.h.below, hS.h.base, ?_, ?_, fun m m' x x' c hm a1 a2 => hS.h.inj m m' x x' c hm (hH m x a1).2 (hH m' x' a2).2⟩
    · intro j o e
      by_cases hj : j = b
      · subst hj; simpa [M'] using e
      · simp only [M', hj, if_false] at e; exact hS.h.mem j o e
    · intro m x hx
      obtain ⟨e1, e2⟩ := hH m x hx
      have hok := hS.h.ok m x e2
      refine hok.keep hle (fun c hc => ?_) (fun c hc => rfl)
      have hcb : c ≠ b := fun e => hS.h.inj n m _ x b (fun h => e1 h.symm) hn e2 rfl (e ▸ hc)
      simp only [M', hcb, if_false]; exact (HB.block_lt hok hc).2.2
  refine hk M' a w ⟨hSH, fun k o hk hkB => ?_, hS.d.mono hle rfl, hS.n, fun s' e he => ?_, fun s' j c x hx => ?_⟩
  · have hkb : k ≠ b := fun e => q1 (e ▸ hkB)
    simp only [M', hkb, if_false] at hk; exact hS.old k o hk hkB
  · simp only [updF] at he
    split at he
    · rename_i hb; rw [Nat.beq_eq] at hb; subst hb; cases he
      obtain ⟨v, v1, v2⟩ := hS.f _ _ hs
      refine ⟨v, v1, ?_⟩
      cases v2 with
      | c v2 =>
        cases v2 with
        | clo hz hc =>
          rename_i vs
          refine .c (.clo hz fun j c u e1 e2 => ?_)
          match j, e1 with
          | 0, e1 =>
            cases e1
            have := hc 0 _ u rfl e2
            cases this
            have hu : ∀ j y, ys[j]? = some y → ∃ v, us[j]? = some v ∧ R M' y v := fun j y e => by
              have hlt : j < us.size := by
                have h9 : us.toList.length = (ys.map C.pv).length := q4.1
                rw [List.length_map, Array.length_toList] at h9; rw [h9]; exact (List.getElem?_eq_some_iff.1 e).1
              have h2 := q4.2 j (.pv y) us[j] (by rw [List.getElem?_map, e]; rfl) (by simp [hlt])
              cases h2 with
              | pv h2 => exact ⟨us[j], Array.getElem?_eq_getElem hlt, h2.mono hle⟩
            refine .cel b 0 (fun j => us.getD j undef) (fun j y e => ?_) (fun j y e => ?_)
            · obtain ⟨v, h1, h2⟩ := hu j y e
              simp [Mem.cell, M', q3, h1]
            · obtain ⟨v, h1, h2⟩ := hu j y e
              have : us.getD j undef = v := by simp [h1]
              simp only [this]; exact h2
    · obtain ⟨v, v1, v2⟩ := hS.f s' e he
      exact ⟨v, v1, v2.mono hle⟩
  · simp only [updF] at hx
    split at hx
    · cases hx
    · exact hS.g s' j c x hx

/-- AN ITERATOR's CONTRACT FROM ITS BODY. -/
theorem It_intro {g : List Span → List Span} {f : FuncId} {fn : Func} (hf : P.funcs[f]? = some fn) (hb : fn.body.isNone = false) (hN : fn.ntmps = E.N) (hro : E.ro = some 0) (hmk : E.mrk = false) (hres : fn.results = #[]) (hl : Nat.ble 2 E.N = true)
    (hcf : ∀ args w, (callFunc f args).run P w = .ok (.enter f args) w)
    (h : ∀ (M : Mem) (l : List Span) (lid : Nat) (J Jx : Mem → Nat → World → Prop) (w : World), l.length ≤ 1000000 → Grows J → Grows Jx → J M 0 w →
      (∀ i x, (g l)[i]? = some x → ∀ Mi W, J Mi i W → Mi.on W → YieldAt Fence.wide 0 P lid #[spV x] W fun e W' => (e = .returned (.bool true) ∧ J Mi (i + 1) W' ∧ Mi.on W') ∨ (e = .returned (.bool false) ∧ Jx Mi (i + 1) W' ∧ Mi.on W')) →
      G P E (low w.heap.size) w M (Qit J Jx (g l).length) [.code (fbody fn)] (init [pv (.val (.func (.yield lid) #[] #[])), .c (.cel [.lst .spn l])])) : ItOk P f g := by
  refine ⟨hcf, fun M l u lid J Jx w hM hu hlen hJ hJx h0 hy => ?_⟩
  cases hbd : fn.body with
  | none => rw [hbd] at hb; cases hb
  | some c =>
    rw [Nat.ble_eq] at hl
    refine (callsIn_wide (n := 0)).1 (callsIn_of_wp_marks hf hbd trivial ?_)
    have hg := h M l lid J Jx w hlen hJ hJx h0 (fun i x hx Mi W hJi hon => hy Mi i W x hx hJi hon) M ⟨#[.func (.yield lid) #[] #[], u] ++ Array.replicate (fn.ntmps - 2) undef, []⟩ w ⟨⟨BelowF.refl _ _, fun _ h => h, hM, by simp [init], by simp [init]⟩, fun _ _ e _ => e, .nil rfl (Mem.le_refl _), by simp; omega, fun s e he => ?_, fun s j b x hx => ?_⟩
    · have hfb : fbody fn = c := by simp [fbody, hbd]
      have hg2 : cwp E.ro P (fbody fn) (after E.ro P (Qit J Jx (g l).length) []) _ w := hg
      rw [hfb, hro] at hg2
      refine wpIn_mono hg2 (fun e a w q => ?_)
      obtain ⟨q1, q2, q3⟩ := q
      have fin : LeavesInM Fence.wide 0 P fn a.tmps (fun e W' => (∃ v, e = .returned v) ∧ ∃ Mi, J Mi (g l).length W' ∨ ∃ i, i ≤ (g l).length ∧ Jx Mi i W') a.defers .returning w := by
        rw [q2]
        exact ⟨.tuple #[], by simp [results, hres], ⟨_, rfl⟩, q3⟩
      rcases q1 with rfl | rfl
      · exact fin
      · exact fin
    · simp only [init, nth_eq] at he
      split at he
      · rename_i x hx; cases he
        match s, hx with
        | 0, hx => cases hx; exact ⟨_, Array.getElem?_append_left (by simp), .c (.pv (.val rfl))⟩
        | 1, hx => cases hx; exact ⟨u, Array.getElem?_append_left (by simp), .c hu⟩
      · cases he
    · simp only [init, nth_eq] at hx
      split at hx <;> cases hx
end
end Go.Mt

/-
  Mt, part ZD: small rules: a state's next name written out; a block's number forgotten; an own slice in a cell that nothing turns any more.
-/
set_option linter.unusedSimpArgs false
set_option linter.unusedVariables false
namespace Go.Mt
open Go.RowKit
section
variable {P : Program} {E : Env} {B : Nat → Prop} {W : World} {M0 : Mem} {Q : Exit → Act → World → Prop} {k : List Itm} {st : St}

theorem G_nx (n : Nat) (h : st.nx = n) (hk : G P E B W M0 Q k ⟨st.f, st.H, n⟩) : G P E B W M0 Q k st := by
  subst h; exact hk
theorem G_wkB {ns : List Nat} {fs : Nat → List (Nat × A)} {hs : Nat → List HB} (b : Nat) (h0 : hdI k = 0) (h : Wk st ns (fs b) (hs b)) (hk : ∀ b, G P E B W M0 Q k (mk (fs b) (hs b))) : G P E B W M0 Q k st :=
  G_wk h0 h (hk b)
theorem G_wkB2 {ns : List Nat} {fs : Nat → Nat → List (Nat × A)} {hs : Nat → Nat → List HB} (b c : Nat) (h0 : hdI k = 0) (h : Wk st ns (fs b c) (hs b c)) (hk : ∀ b c, G P E B W M0 Q k (mk (fs b c) (hs b c))) : G P E B W M0 Q k st :=
  G_wk h0 h (hk b c)
theorem G_wkB3 {ns : List Nat} {fs : Nat → Nat → Nat → List (Nat × A)} {hs : Nat → Nat → Nat → List HB} (b c d : Nat) (h0 : hdI k = 0) (h : Wk st ns (fs b c d) (hs b c d)) (hk : ∀ b c d, G P E B W M0 Q k (mk (fs b c d) (hs b c d))) : G P E B W M0 Q k st :=
  G_wk h0 h (hk b c d)

/-- An own slice that stands in a variable's cell, which nothing turns any more. -/
theorem G_freezeC (n j m : Nat) {b : Nat} {ty ty' : TypeId} {cs : List C} {v : Value} {lk : LK} {l : List lk.T} (hn : st.H n = some (.blk b ty cs)) (hj : nth cs j = some (.own m v)) (hm : st.H m = some (.own v ty' lk l))
    (hk : G P E B W M0 Q k ⟨st.f, updH (updH st.H m none) n (some (.blk b ty (cs.set j (.pv (.lst lk l))))), st.nx⟩) : G P E B W M0 Q k st := by
  have hnm : n ≠ m := fun e => by subst e; rw [hn] at hm; cases hm
  intro M a w hS
  obtain ⟨M', h1, h2, h3⟩ := hS.h.freeze hm (H' := updH st.H m none) (fun q x hq => by
    by_cases e : q = m
    · subst e; rw [updH_same] at hq; cases hq
    · rw [updH_ne _ _ e] at hq; exact ⟨e, hq⟩)
  have hn' : updH st.H m none n = some (.blk b ty cs) := by rw [updH_ne _ _ hnm]; exact hn
  have hSH : SatH B W (updH (updH st.H m none) n (some (.blk b ty (cs.set j (.pv (.lst lk l)))))) M' w := by
    refine ⟨h2.below, h2.base, h2.mem, fun q x hx => ?_, fun q q' x x' c hq e1 e2 hb => ?_⟩
    · by_cases e : q = n
      · subst e; rw [updH_same] at hx; cases hx
        obtain ⟨q1, q2, us, q3, q4⟩ := h2.ok _ _ hn'
        refine ⟨q1, q2, us, q3, by simpa using q4.1, fun i c u e1 e2 => ?_⟩
        rw [List.getElem?_set] at e1
        split at e1
        · rename_i hij
          split at e1
          · cases e1
            rw [nth_eq] at hj
            have := q4.2 i _ u (by rw [← hij]; exact hj) e2
            cases this with
            | own h => exact .pv h3
          · cases e1
        · exact q4.2 i c u e1 e2
      · rw [updH_ne _ _ e] at hx; exact h2.ok q x hx
    · have key : ∀ q x, updH (updH st.H m none) n (some (.blk b ty (cs.set j (.pv (.lst lk l))))) q = some x → ∃ y, updH st.H m none q = some y ∧ y.block = x.block := by
        intro q x hx
        by_cases e : q = n
        · subst e; rw [updH_same] at hx; cases hx; exact ⟨_, hn', rfl⟩
        · rw [updH_ne _ _ e] at hx; exact ⟨x, hx, rfl⟩
      obtain ⟨y, y1, y2⟩ := key q x e1
      obtain ⟨y', y1', y2'⟩ := key q' x' e2
      rw [← y2'] ; exact h2.inj q q' y y' c hq y1 y1' (by rw [y2]; exact hb)
  exact hk M' a w ⟨hSH, fun k o e hk => hS.old k o (h1.2 k o e hk) hk, hS.d.mono h1.1 rfl, hS.n, fun s e he => by
    obtain ⟨u, u1, u2⟩ := hS.f s e he
    exact ⟨u, u1, u2.mono h1.1⟩, hS.g⟩
end
end Go.Mt

/-
  Mt, part ZE: tables: a list of leaves of which one is known by a name of its own; a function that hands such a one back.
-/
set_option linter.unusedSimpArgs false
set_option linter.unusedVariables false
namespace Go.Mt
open Go.RowKit
section
variable {P : Program} {E : Env} {B : Nat → Prop} {W : World} {M0 M F : Mem} {Q : Exit → Act → World → Prop} {k : List Itm} {st : St} {a : Act} {w w' : World} {N : Nat} {mrk : Bool} {H : Nat → Option HB}

/-- A slot, written otherwise. -/
theorem G_slot (s : Nat) {x y : A} (h : st.f s = some (.u x)) (e : ∀ M v, RA M x v → RA M y v) (hk : G P E B W M0 Q k ⟨updF st.f s (some (.u y)), st.H, st.nx⟩) : G P E B W M0 Q k st := by
  intro M a w hS
  refine hk M a w ⟨hS.h, hS.old, hS.d, hS.n, fun s' e' he => ?_, fun s' j b z hx => ?_⟩
  · simp only [updF] at he
    split at he
    · rename_i hb; rw [Nat.beq_eq] at hb; subst hb; cases he
      obtain ⟨u, u1, u2⟩ := hS.f _ _ h
      exact ⟨u, u1, e M u u2⟩
    · exact hS.f s' e' he
  · simp only [updF] at hx
    split at hx
    · cases hx
    · exact hS.g s' j b z hx
/-- A slice of which a name knows. -/
theorem G_link (s m : Nat) {x : PV} {v : Value} {ty : TypeId} {lk : LK} {l : List lk.T} (h : st.f s = some (.u (.c (.pv x)))) (hx : x = .val v) (hm : st.H m = some (.own v ty lk l))
    (hk : G P E B W M0 Q k ⟨updF st.f s (some (.u (.c (.own m v)))), st.H, st.nx⟩) : G P E B W M0 Q k st := by
  subst hx
  refine G_slot s h (fun M u hr => ?_) hk
  cases hr with
  | c hr => cases hr with
    | pv hr =>
      have := hr.val_eq
      subst this
      exact .c (.own hr.one)

theorem SatH.reown (hS : SatH B W H M w) {n : Nat} {v : Value} {ty : TypeId} {k k' : LK} {l : List k.T} {l' : List k'.T} (hn : H n = some (.own v ty k l)) (hc : OwnSl M B w v ty k l → OwnSl M B w v ty k' l') :
    SatH B W (updH H n (some (.own v ty k' l'))) M w := by
  refine ⟨hS.below, hS.base, hS.mem, fun q x hx => ?_, fun q q' x x' c hq e1 e2 hb => ?_⟩
  · by_cases e : q = n
    · subst e; rw [updH_same] at hx; cases hx; exact hc (hS.ok _ _ hn)
    · rw [updH_ne _ _ e] at hx; exact hS.ok q x hx
  · have key : ∀ q x, updH H n (some (.own v ty k' l')) q = some x → ∃ y, H q = some y ∧ y.block = x.block := by
      intro q x hx
      by_cases e : q = n
      · subst e; rw [updH_same] at hx; cases hx; exact ⟨_, hn, rfl⟩
      · rw [updH_ne _ _ e] at hx; exact ⟨x, hx, rfl⟩
    obtain ⟨y, y1, y2⟩ := key q x e1
    obtain ⟨y', y1', y2'⟩ := key q' x' e2
    rw [← y2'] ; exact hS.inj q q' y y' c hq y1 y1' (by rw [y2]; exact hb)
theorem OwnSl.conv {v : Value} {ty : TypeId} {k k' : LK} {l : List k.T} {l' : List k'.T} (hl : l.length = l'.length) (hsz : k.sz = k'.sz)
    (hc : ∀ i x' j y', l'[i]? = some x' → (k'.enc x')[j]? = some y' → ∃ x y, l[i]? = some x ∧ (k.enc x)[j]? = some y ∧ ∀ us : Array Value, ∀ u, w.heap[v.ownBlock.getD 0]? = some (.cells us ty (0, 0)) → us[i * k.sz + j]? = some u → R M y u → R M y' u)
    (h : OwnSl M B w v ty k l) : OwnSl M B w v ty k' l' := by
  rcases h with ⟨rfl, rfl⟩ | ⟨b, cap, us, rfl, h1, h2, h3, h4, h5, h6, h7⟩
  · refine .inl ⟨rfl, ?_⟩
    cases l' with
    | nil => rfl
    | cons _ _ => simp at hl
  · refine .inr ⟨b, cap, us, by rw [hl], h1, h2, h3, by rw [← hl]; exact h4, h5, by rw [← hsz]; exact h6, fun i x' j y' e1 e2 => ?_⟩
    obtain ⟨x, y, q1, q2, q3⟩ := hc i x' j y' e1 e2
    obtain ⟨u, u1, u2⟩ := h7 i x j y q1 q2
    exact ⟨u, by rw [← hsz]; exact u1, q3 us u h3 u1 u2⟩

/-- All leaves read: a plain table. -/
theorem G_tbhT (n : Nat) {v : Value} {ty : TypeId} {l : List TE} (l' : List (List Entry)) (hn : st.H n = some (.own v ty .tbh l)) (e : l = l'.map .l)
    (hk : G P E B W M0 Q k ⟨st.f, updH st.H n (some (.own v ty .tbl l')), st.nx⟩) : G P E B W M0 Q k st := by
  subst e
  intro M a w hS
  refine hk M a w ⟨hS.h.reown hn (OwnSl.conv (by simp) rfl (fun i x' j y' e1 e2 => ?_)), hS.old, hS.d, hS.n, hS.f, hS.g⟩
  refine ⟨.l x', y', by rw [List.getElem?_map]; have e1' : l'[i]? = some x' := e1; rw [e1']; rfl, e2, fun us u _ _ r => r⟩
theorem G_tblH (n : Nat) {v : Value} {ty : TypeId} {l : List (List Entry)} (hn : st.H n = some (.own v ty .tbl l))
    (hk : G P E B W M0 Q k ⟨st.f, updH st.H n (some (.own v ty .tbh (l.map .l))), st.nx⟩) : G P E B W M0 Q k st := by
  intro M a w hS
  refine hk M a w ⟨hS.h.reown hn (OwnSl.conv (by simp) rfl (fun i x' j y' e1 e2 => ?_)), hS.old, hS.d, hS.n, hS.f, hS.g⟩
  have e1' : (l.map TE.l)[i]? = some x' := e1
  rw [List.getElem?_map] at e1'
  cases hl : l[i]? with
  | none => rw [hl] at e1'; cases e1'
  | some x => rw [hl] at e1'; cases e1'; exact ⟨x, y', rfl, e2, fun us u _ _ r => r⟩

/-- The leaf that a name knows is turned no more. -/
theorem G_tbhF (n m j : Nat) {V v : Value} {ty ty' : TypeId} {L : List TE} {l : List Entry} (hn : st.H n = some (.own V ty .tbh L)) (hj : L[j]? = some (.v v)) (hm : st.H m = some (.own v ty' .ent l))
    (hk : G P E B W M0 Q k ⟨st.f, updH (updH st.H m none) n (some (.own V ty .tbh (L.set j (.l l)))), st.nx⟩) : G P E B W M0 Q k st := by
  have hnm : n ≠ m := fun e => by
    subst e; rw [hn] at hm
    simp only [Option.some.injEq, HB.own.injEq] at hm
    cases hm.2.2.1
  intro M a w hS
  obtain ⟨M', h1, h2, h3⟩ := hS.h.freeze hm (H' := updH st.H m none) (fun q x hq => by
    by_cases e : q = m
    · subst e; rw [updH_same] at hq; cases hq
    · rw [updH_ne _ _ e] at hq; exact ⟨e, hq⟩)
  have hn' : updH st.H m none n = some (.own V ty .tbh L) := by rw [updH_ne _ _ hnm]; exact hn
  refine hk M' a w ⟨h2.reown hn' (OwnSl.conv (by simp) rfl (fun i x' q y' e1 e2 => ?_)), fun k o e hk => hS.old k o (h1.2 k o e hk) hk, hS.d.mono h1.1 rfl, hS.n, fun s e he => ?_, hS.g⟩
  · have e1' : (L.set j (TE.l l))[i]? = some x' := e1
    rw [List.getElem?_set] at e1'
    split at e1'
    · rename_i hij
      subst hij
      split at e1'
      · cases e1'
        refine ⟨.v v, .val v, hj, ?_, fun us u _ _ r => ?_⟩
        · have := enc_lt e2; simp only [LK.sz] at this
          have hq : q = 0 := by omega
          subst hq; rfl
        · have := r.val_eq; subst this
          have := enc_lt e2; simp only [LK.sz] at this
          have hq : q = 0 := by omega
          subst hq
          have e2' : some (PV.lst .ent l) = some y' := e2
          cases e2'; exact h3
      · cases e1'
    · exact ⟨x', y', e1', e2, fun us u _ _ r => r⟩
  · obtain ⟨u, u1, u2⟩ := hS.f s e he
    exact ⟨u, u1, u2.mono h1.1⟩

/-! ### a function that hands back a table of its own, and knows one leaf by itself -/
def DOk (M : Mem) (B : Nat → Prop) (w : World) (e1 : TypeId) (l1 : Value → List TE) (e2 : TypeId) (l2 : List Entry) (v : Value) : Prop :=
  ∃ u1 u2, v = .agg #[u1] ∧ OwnSl M B w u1 e1 .tbh (l1 u2) ∧ OwnSl M B w u2 e2 .ent l2 ∧ ∀ b, u1.ownBlock = some b → u2.ownBlock ≠ some b
def FnPostD (M0 : Mem) (W : World) (e1 : TypeId) (l1 : Value → List TE) (e2 : TypeId) (l2 : List Entry) : Ending → World → Prop :=
  fun e w' => ∃ v F, e = .returned v ∧ Below W.heap.size W w' ∧ Fresh F W.heap.size w' ∧ DOk (M0.or F) (low W.heap.size) w' e1 l1 e2 l2 v
def CtrD (P : Program) (f : FuncId) (args : List A) (e1 : TypeId) (l1 : Value → List TE) (e2 : TypeId) (l2 : List Entry) : Prop :=
  Enters P f ∧ ∀ (M : Mem) (w : World) (vs : Array Value), M.on w → RAs M args vs → Calls P f vs w (FnPostD M w e1 l1 e2 l2)

variable {e1 : TypeId} {l1 : Value → List TE} {e2 : TypeId} {l2 : List Entry}
theorem ret_coreD (hT : TbOk P E.T) {fn : Func} (hS : Sat N mrk (low W.heap.size) W M0 [] [] 0 st M a w) (hM0 : M0.on W) {n m : Nat} {V v : Value} {ob : Prop} (h : resAll E.T st.f st.H fn.results.toList = some ([.g [.own n V]], ob)) (hob : ob)
    (hn : st.H n = some (.own V e1 .tbh (l1 v))) (hm : st.H m = some (.own v e2 .ent l2)) :
    ∃ v, (results fn a.tmps).run P w = .ok v w ∧ FnPostD M0 W e1 l1 e2 l2 (.returned v) w := by
  obtain ⟨vs, h1, h2, h2', h3⟩ := resAll_ok hT hS (g := fun | .tmp t => pure (a.tmps.getD t undef) | .cell t ty => do loadVar ty (← asAddr (a.tmps.getD t undef))) (fun _ => rfl) (fun _ _ => rfl) h hob
  have hres : (results fn a.tmps).run P w = .ok (if hh : vs.toArray.size = 1 then vs.toArray[0] else .tuple vs.toArray) w := by
    unfold results
    rw [Array.mapM_eq_mapM_toList]
    simp only [Sem.run_bind, Sem.run_map]
    exact congrArg (fun r : Result (List Value) => (r.andThen fun a w' => Result.ok a.toArray w').andThen fun a w' => Sem.run P (pure (if h : a.size = 1 then a[0] else Value.tuple a)) w') h1
  let F : Mem := fun k => if W.heap.size ≤ k then M k else none
  have hF : Fresh F W.heap.size w := by
    intro k o e
    simp only [F] at e
    split at e
    · rename_i hk; exact ⟨hk, hS.h.mem k o e⟩
    · cases e
  have hle : M.le (M0.or F) := by
    intro k o hk
    simp only [Mem.or, F]
    by_cases hlt : W.heap.size ≤ k
    · simp [hlt, hk]
    · simp only [if_neg hlt]; exact hS.old k o hk (Nat.lt_of_not_le hlt)
  have hno : ∀ b, ¬ low W.heap.size b → M b = none → (M0.or F) b = none := by
    intro b hb hMb
    replace hb := Nat.le_of_not_lt hb
    have hFb : F b = none := by simp [F, hMb]
    simp only [Mem.or, hFb]; exact Mem.none_of_size hM0 hb
  have ow : ∀ (u : Value) (e : TypeId) (k : LK) (l : List k.T), OwnSl M (low W.heap.size) w u e k l → OwnSl (M0.or F) (low W.heap.size) w u e k l := by
    intro u e k l ho
    rcases ho with ⟨rfl, rfl⟩ | ⟨b, cap, us, rfl, h1, h2, h3, h4, h5, h6, h7⟩
    · exact .inl ⟨rfl, rfl⟩
    · exact .inr ⟨b, cap, us, rfl, h1, hno b h1 h2, h3, h4, h5, h6, fun i x j y e1 e2 => let ⟨u, u1, u2⟩ := h7 i x j y e1 e2; ⟨u, u1, u2.mono hle⟩⟩
  have hnm : n ≠ m := fun e => by
    subst e; rw [hn] at hm
    simp only [Option.some.injEq, HB.own.injEq] at hm
    cases hm.2.2.1
  refine ⟨_, hres, _, F, rfl, hS.h.below.low, hF, ?_⟩
  match vs, h2, h3 with
  | [x], h2, h3 =>
    have hx := h3 0 _ x rfl rfl
    cases hx with
    | g hx =>
      rename_i us
      have hsz : us.size = 1 := by have := hx.1; simpa using this
      have hu : us.toList[0]? = some us[0] := by simp [hsz]
      have h0 := hx.2 0 _ _ rfl hu
      have hV : us[0] = V := (RA.c h0).own_inv
      refine ⟨V, v, ?_, ow _ _ _ _ (hS.h.ok _ _ hn), ow _ _ _ _ (hS.h.ok _ _ hm), fun b hb => hS.h.inj n m _ _ b hnm hn hm hb⟩
      show Value.agg us = _
      congr 1
      apply Array.ext
      · simp [hsz]
      · intro i hi1 hi2
        have : i = 0 := by omega
        subst this; simpa using hV
theorem ret_postD (hT : TbOk P E.T) {fn : Func} (hM0 : M0.on W) {n m : Nat} {V v : Value} {ob : Prop} (h : resAll E.T st.f st.H fn.results.toList = some ([.g [.own n V]], ob)) (hob : ob)
    (hn : st.H n = some (.own V e1 .tbh (l1 v))) (hm : st.H m = some (.own v e2 .ent l2)) :
    ∀ {M : Mem} {a : Act} {w : World}, Sat N mrk (low W.heap.size) W M0 [] [] 0 st M a w → LeavesInM Fence.wide 0 P fn a.tmps (FnPostD M0 W e1 l1 e2 l2) a.defers .returning w := by
  have key : ∀ (Ds : List Nat) {M : Mem} {a : Act} {w : World}, Sat N mrk (low W.heap.size) W M0 [] [] 0 st M a w → Ds.Nodup → a.defers = Ds.map mark → (mrk = false → Ds = []) → (∀ D, D ∈ Ds → ¬ low W.heap.size D ∧ M D = some (.deferred (some []))) →
      LeavesInM Fence.wide 0 P fn a.tmps (FnPostD M0 W e1 l1 e2 l2) a.defers .returning w := by
    intro Ds
    induction Ds with
    | nil => intro M a w hS _ e _ _; rw [e]; exact ret_coreD hT hS hM0 h hob hn hm
    | cons D Ds ih =>
      intro M a w hS hn e hmk hD
      rw [e]
      obtain ⟨hB, hm⟩ := hD D (by simp)
      have hl := hS.h.mem D _ hm
      refine ⟨by simp, .inl ⟨D, _, rfl, run_takeDeferred hl, ?_⟩⟩
      have hd' : ∀ D', D' ∈ Ds → ¬ low W.heap.size D' ∧ (M.put D (.deferred none)) D' = some (.deferred (some [])) := fun D' h' => by
        have := hD D' (List.mem_cons_of_mem _ h')
        refine ⟨this.1, ?_⟩
        rw [Mem.put_ne _ _ (fun e => by subst e; exact (List.nodup_cons.1 hn).1 h')]; exact this.2
      have hk : M0.le (M.put D (.deferred none)) := fun k o hk => by
        have hlt := (Array.getElem?_eq_some_iff.1 (hM0 k o hk)).1
        rw [Mem.put_ne _ _ (fun e => hB (by subst e; exact hlt))]; exact hS.d.kp k o hk
      have hS' : Sat N mrk (low W.heap.size) W M0 [] [] 0 st (M.put D (.deferred none)) ⟨a.tmps, Ds.map mark⟩ (w.putObj D (.deferred none)) :=
        Sat.turn hS hl rfl hB hS.old rfl ⟨⟨Ds, fun e => (by have := hmk e; cases this), (List.nodup_cons.1 hn).2, rfl, hd'⟩, hk⟩
      exact ih hS' (List.nodup_cons.1 hn).2 rfl (fun e => (by have := hmk e; cases this)) hd'
  intro M a w hS
  obtain ⟨Ds, h0, h1, h2, h3⟩ := hS.d.df
  exact key Ds hS h1 h2 h0 h3
theorem G_retD (hT : TbOk P E.T) {fn : Func} {c : Code} (hM0 : M0.on W) (hc : isRet c = true) (n m : Nat) {V v : Value} {ob : Prop} (h : resAll E.T st.f st.H fn.results.toList = some ([.g [.own n V]], ob)) (hob : ob)
    (hn : st.H n = some (.own V e1 .tbh (l1 v))) (hm : st.H m = some (.own v e2 .ent l2)) :
    G P E (low W.heap.size) W M0 (bpost P fn (FnPostD M0 W e1 l1 e2 l2)) (.code c :: k) st := by
  intro M a w hS
  cases c <;> simp only [isRet, Bool.false_eq_true] at hc
  simp only [after]
  exact wpIn_ret (after_ret (ret_postD hT hM0 h hob hn hm hS))
theorem CtrD_intro {f : FuncId} {fn : Func} {args : List A} (hf : P.funcs[f]? = some fn) (hb : fn.body.isNone = false) (hnm : (fn.name == "runtime.NumGoroutine") = false) (hN : fn.ntmps = E.N) (hl : Nat.ble (len args) E.N = true)
    (h : ∀ M0 W, M0.on W → G P E (low W.heap.size) W M0 (bpost P fn (FnPostD M0 W e1 l1 e2 l2)) [.code (fbody fn)] (init args)) (hro : E.ro = none := by rfl) : CtrD P f args e1 l1 e2 l2 := by
  refine ⟨⟨fn, hf, hb, hnm⟩, fun M0 w vs hM0 hra => ?_⟩
  cases hbd : fn.body with
  | none => rw [hbd] at hb; cases hb
  | some c =>
    rw [Nat.ble_eq, len_eq] at hl
    refine (callsIn_wide (n := 0)).1 (callsIn_of_wp_marks hf hbd trivial ?_)
    have hg := h M0 w hM0 M0 ⟨vs ++ Array.replicate (fn.ntmps - vs.size) undef, []⟩ w ⟨⟨BelowF.refl _ _, fun _ h => h, hM0, by simp [init], by simp [init]⟩, fun _ _ e _ => e, .nil rfl (Mem.le_refl _), by simp [hra.1]; omega, fun s e he => ?_, fun s j b x hx => ?_⟩
    · have hfb : fbody fn = c := by simp [fbody, hbd]
      have hg2 : cwp E.ro P (fbody fn) (after E.ro P (bpost P fn (FnPostD M0 w e1 l1 e2 l2)) []) _ w := hg
      rw [hfb, hro] at hg2
      exact wpIn_mono hg2 (fun e a w q => q)
    · simp only [init, nth_eq] at he
      split at he
      · rename_i x hx; cases he
        have hlt : s < vs.size := by rw [hra.1]; exact (List.getElem?_eq_some_iff.1 hx).1
        obtain ⟨u, hu⟩ := arr_get vs s hlt
        exact ⟨u, by simp [Array.getElem?_append_left hlt, hu], hra.2 s x u hx hu⟩
      · cases he
    · simp only [init, nth_eq] at hx
      split at hx <;> cases hx

theorem SatH.add (hS : SatH B W H M w) {v : Value} {e : TypeId} {k : LK} {l : List k.T} (nx : Nat) (ho : OwnSl M B w v e k l) (hnew : ∀ m y, m ≠ nx → H m = some y → ∀ c, y.block = some c → v.ownBlock ≠ some c) :
    SatH B W (updH H nx (some (.own v e k l))) M w := by
  refine ⟨hS.below, hS.base, hS.mem, fun n x hx => ?_, fun n n' x x' b hnn h1 h2 hb => ?_⟩
  · by_cases hn : n = nx
    · subst hn; rw [updH_same] at hx; cases hx; exact ho
    · rw [updH_ne _ _ hn] at hx; exact hS.ok n x hx
  · by_cases hn : n = nx
    · subst hn; rw [updH_same] at h1; cases h1
      intro hc
      have hb' : v.ownBlock = some b := hb
      rw [updH_ne _ _ (fun e => hnn e.symm)] at h2
      exact hnew n' x' (fun e => hnn e.symm) h2 b hc hb'
    · by_cases hn' : n' = nx
      · subst hn'; rw [updH_same] at h2; cases h2
        rw [updH_ne _ _ hn] at h1
        exact fun hc => hnew n x hn h1 b hb hc
      · rw [updH_ne _ _ hn] at h1; rw [updH_ne _ _ hn'] at h2
        exact hS.inj n n' x x' b hnn h1 h2 hb

theorem G_callD {all : List Oper} {i : Nat} {o : Oper} {fo : Operand} {args : List Operand} {tys : List TypeId} {f : Nat} {as : List A} {ob : Prop} {f' : Value → Nat → Option Ent}
    (hc : CtrD P f as e1 l1 e2 l2) (hd : drp i all = o :: drp (i + 1) all) (hg : o.guard = none) (ho : o.op = .call ⟨.value fo, ⟨args⟩, ⟨tys⟩⟩) (hfo : rdG st.f [] fo = some (.c (.clo f [])))
    (ha : argsA E.T st.H (rdG st.f []) args tys = some (as, false, ob)) (hob : ob) (hf : ∀ u1, putS E.N i (refsOf all all) st.f o.dst (some (.u (.g [.own st.nx u1]))) = some (f' u1))
    (hk : ∀ u1 u2, G P E B W M0 Q (.ops all (i + 1) :: k) ⟨f' u1, updH (updH st.H st.nx (some (.own u1 e1 .tbh (l1 u2)))) (st.nx + 1) (some (.own u2 e2 .ent l2)), st.nx + 2⟩) : G P E B W M0 Q (.ops all i :: k) st := by
  intro M a w hS
  show lwp E.ro P all.toArray (after E.ro P Q k) (drp i all) a w
  rw [hd]
  refine lwp_step fun K hK => ?_
  have hw : Region.wanted o (yielded all.toArray a.tmps) = true := by unfold Region.wanted; rw [hg]
  rw [if_pos hw]
  obtain ⟨dst, op, ty, pos, aft, guard⟩ := o
  simp only at ho hg hf; subst ho hg
  have hr := rdG_ok hS (Γ := []) (by simp)
  obtain ⟨k1, k2⟩ := argsA_ok hS.h hr _ _ _ _ _ ha hob
  obtain ⟨⟨fn, q1, q2, q3⟩, hcall⟩ := hc
  have hfv : a.eval fo = .func (.func f) #[] #[] := by
    have := hr _ _ hfo
    cases this with
    | c h =>
      generalize a.eval fo = v at h
      cases h with
      | @clo _ _ us hs hh =>
        have e : us = #[] := Array.eq_empty_of_size_eq_zero (by simpa using hs)
        rw [e]
  have hrun : (execOp a.eval ⟨dst, .call ⟨.value fo, ⟨args⟩, ⟨tys⟩⟩, ty, pos, aft, none⟩).run P w = .ok (.enter f (args.map a.eval).toArray) w := by
    have e3' : fn.name ≠ "runtime.NumGoroutine" := by simpa using q3
    have e2' : fn.body ≠ none := by intro e; rw [e] at q2; cases q2
    simp [execOp, resolve, invoke, hfv, Deferred.ofValue, callFunc, q1, e2', e3']
  unfold Oper.wp
  rw [hrun, Oper.upon_enter]
  refine (hcall M w _ hS.h.mem (k2 rfl)).mono fun e w' ⟨v, F, he, hb, hF, u1, u2, hv, o1, o2, hne⟩ => ?_
  subst he hv
  have hS' := hS.h.call hb hF
  have hMle := Mem.ext_or hS.h.mem hS.h.base hF
  have ow : ∀ (u : Value) (e : TypeId) (k : LK) (l : List k.T), OwnSl (M.or F) (low w.heap.size) w' u e k l → OwnSl (M.or F) B w' u e k l ∧ ∀ b, u.ownBlock = some b → w.heap.size ≤ b := by
    intro u e k l ho
    rcases ho with ⟨rfl, rfl⟩ | ⟨b, cap, us, rfl, q1, q2, q3, q4, q5, q6, q7⟩
    · exact ⟨.inl ⟨rfl, rfl⟩, by simp [Value.ownBlock]⟩
    · exact ⟨.inr ⟨b, cap, us, rfl, fun h => q1 (hS.h.base _ h), q2, q3, q4, q5, q6, q7⟩, fun b' hb' => by cases hb'; exact Nat.le_of_not_lt q1⟩
  obtain ⟨p1, p1'⟩ := ow _ _ _ _ o1
  obtain ⟨p2, p2'⟩ := ow _ _ _ _ o2
  have hold : ∀ m y, st.H m = some y → ∀ c, y.block = some c → c < w.heap.size := fun m y hy c hc => (HB.block_lt (hS.h.ok m y hy) hc).2.1
  have hA := hS'.add st.nx p1 (fun m y hm hy c hc hu => by have := hold m y hy c hc; have := p1' c hu; omega)
  have hA2 := hA.add (st.nx + 1) p2 (fun m y hm hy c hc hu => by
    by_cases e : m = st.nx
    · subst e; rw [updH_same] at hy; cases hy
      exact hne c hc hu
    · rw [updH_ne _ _ e] at hy
      have := hold m y hy c hc; have := p2' c hu; omega)
  refine hK _ _ (hk u1 u2 (M.or F) _ w' (SatP.put hS (S' := fun j => j < i + 1) (Nat.lt_irrefl i) (fun j hj => Nat.lt_succ_of_lt hj) hMle hA2 (hf u1) (put_defers _ _) (fun e' he => ?_) (by simp)))
  cases he
  refine .g ⟨rfl, fun j c u a1 a2 => ?_⟩
  match j, a1, a2 with
  | 0, a1, a2 => cases a1; cases a2; exact .own (OwnSl.one o1)
end
end Go.Mt
namespace Go.Mt
open Go.RowKit
section
variable {P : Program} {E : Env} {B : Nat → Prop} {W : World} {M0 : Mem} {Q : Exit → Act → World → Prop} {k : List Itm} {st : St}
/-- A name for nothing. -/
theorem G_newnil (ty : TypeId) (lk : LK) (hk : G P E B W M0 Q k ⟨st.f, updH st.H st.nx (some (.own (.slice none 0 0) ty lk [])), st.nx + 1⟩) : G P E B W M0 Q k st := by
  intro M a w hS
  exact hk M a w ⟨hS.h.newOwn (row := none) (grownBy_refl w none) (by simp) (OwnSl.nil _ _ _ _ _) (by simp [Value.ownBlock]) st.nx (fun m x hm hx => ⟨hx, by simp⟩), hS.old, hS.d, hS.n, hS.f, hS.g⟩
end
end Go.Mt
namespace Go.Mt
open Go.RowKit
section
variable {P : Program} {E : Env} {B : Nat → Prop} {W : World} {M0 : Mem} {Q : Exit → Act → World → Prop} {k : List Itm} {st : St}
/-- A name let go. -/
theorem G_drop (m : Nat) (hk : G P E B W M0 Q k ⟨st.f, updH st.H m none, st.nx⟩) : G P E B W M0 Q k st := by
  intro M a w hS
  exact hk M a w ⟨hS.h.less (fun n x h => by
    have h' : updH st.H m none n = some x := h
    by_cases e : n = m
    · subst e; rw [updH_same] at h'; cases h'
    · rwa [updH_ne _ _ e] at h'), hS.old, hS.d, hS.n, hS.f, hS.g⟩
end
end Go.Mt
