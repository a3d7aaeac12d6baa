/-
  Mt, part V: from what a row tells of the arguments to what a contract asks.
-/
import Derived.Test.YtnmomckmpknbkaaMtU
set_option linter.unusedSimpArgs false
set_option linter.unusedVariables false
namespace Go.Mt
open Go.RowKit
variable {P : Program} {w : World}

theorem wf_inR {k : IntKind} {n : Int} (h : (Lit.int k n).wf = true) : inR k n := by
  simp only [Lit.wf, Bool.and_eq_true, decide_eq_true_eq] at h
  cases k <;> simp only [inR, IntKind.min, IntKind.max, IntKind.signed, IntKind.bits] at * <;> simp at * <;> omega

theorem cell_none {x : Addr} {v : Value} (h : w.cell? x = some v) : x = ⟨x.block, x.off, none⟩ ∧ (Mem.all w).cell x.block x.off = some v := by
  obtain ⟨b, o, s⟩ := x
  simp only [World.cell?] at h
  split at h
  · rename_i c _ _ hc
    cases s with
    | some s => simp at h
    | none => simp at h; exact ⟨rfl, by simp [Mem.cell, Mem.all, hc, h]⟩
  · cases h

theorem cell_add {x : Addr} (hx : x = ⟨x.block, x.off, none⟩) {i : Nat} {v : Value} (h : w.cell? (x.add i) = some v) : (Mem.all w).cell x.block (x.off + i) = some v := by
  have := (cell_none h).2
  rw [hx] at this
  simpa [Addr.add_lit] using this

/-- A slice of numbers. -/
theorem row_ints {k : IntKind} {a : Option Addr} {n c : Nat} {zs : List Int} (h : (a = none ∧ n = 0 ∧ c = 0 ∧ zs = []) ∨
    ∃ x, a = some x ∧ n ≤ c ∧ c ≤ maxLen ∧ zs.length = c ∧ (∀ i, i < zs.length → w.cell? (x.add i) = some (.int k (zs.getD i 0))) ∧ ∀ m ∈ zs, (Lit.int k m).wf = true) :
    R (Mem.all w) (.lst (.ints k) (zs.take n)) (.slice a n c) ∧ (zs.take n).length ≤ maxLen ∧ ∀ m ∈ zs.take n, inR k m := by
  rcases h with ⟨rfl, rfl, rfl, rfl⟩ | ⟨x, rfl, h1, h2, h3, h4, h5⟩
  · exact ⟨R.lst_nil _ _, by simp, by simp⟩
  · have hlen : (zs.take n).length = n := by rw [List.length_take]; omega
    refine ⟨?_, by omega, fun m hm => wf_inR (h5 m (List.mem_of_mem_take hm))⟩
    have hx : zs.take n ≠ [] → x = ⟨x.block, x.off, none⟩ := by
      intro hne
      have : 0 < zs.length := by
        rcases Nat.eq_zero_or_pos zs.length with e | e
        · exact absurd (by rw [List.eq_nil_of_length_eq_zero e]; simp) hne
        · exact e
      have := (cell_none (h4 0 this)).1
      simpa [Addr.add] using this
    refine R.lst_mk (b := x.block) (o := x.off) hlen h1 h2 (fun hne => by rw [← hx hne]) (by simp) (fun i y j z e1 e2 => ?_)
    have hi : i < zs.length := by
      have := (List.getElem?_eq_some_iff.1 e1).1
      rw [hlen] at this; omega
    have hne : zs.take n ≠ [] := by intro e; rw [e] at e1; simp at e1
    have hy : zs.getD i 0 = y := by
      rw [List.getElem?_take] at e1
      split at e1
      · simp [List.getD, e1]
      · cases e1
    cases j with
    | zero =>
      simp [LK.enc] at e2; subst e2
      exact ⟨_, by have := cell_add (hx hne) (h4 i hi); rw [hy] at this; simpa [LK.sz] using this, .val rfl⟩
    | succ j => simp [LK.enc] at e2
/-- A slice of bytes. -/
theorem row_byts {a : Option Addr} {n c : Nat} {zs : List Int} (h : (a = none ∧ n = 0 ∧ c = 0 ∧ zs = []) ∨
    ∃ x, a = some x ∧ n ≤ c ∧ c ≤ maxLen ∧ zs.length = c ∧ (∀ i, i < zs.length → w.cell? (x.add i) = some (.int .u8 (zs.getD i 0))) ∧ ∀ m ∈ zs, (Lit.int .u8 m).wf = true) :
    R (Mem.all w) (.lst .byt ((zs.take n).map fun z => UInt8.ofNat z.toNat)) (.slice a n c) ∧ ((zs.take n).map fun z => UInt8.ofNat z.toNat).length ≤ maxLen := by
  rcases h with ⟨rfl, rfl, rfl, rfl⟩ | ⟨x, rfl, h1, h2, h3, h4, h5⟩
  · exact ⟨R.lst_nil _ _, by simp⟩
  · have hlen : ((zs.take n).map fun z => UInt8.ofNat z.toNat).length = n := by rw [List.length_map, List.length_take]; omega
    refine ⟨?_, by omega⟩
    have hx : zs ≠ [] → x = ⟨x.block, x.off, none⟩ := by
      intro hne
      have := (cell_none (h4 0 (List.length_pos_iff.2 hne))).1
      simpa [Addr.add] using this
    refine R.lst_mk (b := x.block) (o := x.off) hlen h1 h2 (fun hne => by rw [← hx (fun e => hne (by rw [e]; simp))]) (by simp) (fun i y j z e1 e2 => ?_)
    have hi : i < zs.length := by
      have := (List.getElem?_eq_some_iff.1 e1).1
      rw [hlen] at this; omega
    have hne : zs ≠ [] := by intro e; rw [e] at hi; simp at hi
    have hr : (0 : Int) ≤ zs.getD i 0 ∧ zs.getD i 0 ≤ 255 := by
      have := wf_inR (h5 (zs.getD i 0) (by simp [List.getD, List.getElem?_eq_getElem hi]))
      simpa [inR, IntKind.bits] using this
    have hy : ((y.toNat : Nat) : Int) = zs.getD i 0 := by
      rw [List.getElem?_map, List.getElem?_take] at e1
      split at e1
      · rw [List.getElem?_eq_getElem hi] at e1
        simp at e1; subst e1
        simp only [List.getD, List.getElem?_eq_getElem hi, Option.getD_some] at hr ⊢
        rw [UInt8.toNat_ofNat']; omega
      · cases e1
    cases j with
    | zero =>
      simp [LK.enc] at e2; subst e2
      exact ⟨_, by have := cell_add (hx hne) (h4 i hi); rw [← hy] at this; simpa [LK.sz] using this, .val rfl⟩
    | succ j => simp [LK.enc] at e2

/-- A string. -/
theorem row_str (s : ByteArray) : RA (Mem.all w) (str s.data.toList) (.string s) := by
  obtain ⟨⟨l⟩⟩ := s; exact .c (.pv (.val rfl))

theorem law_calls {f : FuncId} {sh : Bool} {args : List A} {vs : Array Value} (hc : Ctr P f sh args (.x (.c (bv true)))) (hr : RAs (Mem.all w) args vs) :
    Calls P f vs w fun e w' => e = .returned (.bool true) ∧ Below w.heap.size w w' := by
  refine (hc.2 (Mem.all w) w vs (Mem.all_on w) hr).mono fun e w' ⟨v, F, he, hb, _, hv⟩ => ⟨?_, hb⟩
  subst he
  have : v = .bool true := by
    simp only [RVok, RXok] at hv
    cases hv; rfl
  rw [this]

theorem RAs.nil {M : Mem} : RAs M [] #[] := ⟨rfl, by simp⟩
theorem RAs.mk {M : Mem} {as : List A} {l : List Value} (h : RAs M as l.toArray) : RAs M as l.toArray := h
theorem RAs.cons {M : Mem} {a : A} {v : Value} {as : List A} {l : List Value} (h : RA M a v) (hs : RAs M as l.toArray) : RAs M (a :: as) (v :: l).toArray := by
  refine ⟨by simpa using hs.1, fun j x u e1 e2 => ?_⟩
  cases j with
  | zero => simp at e1 e2; subst e1 e2; exact h
  | succ j => exact hs.2 j x u (by simpa using e1) (by simpa using e2)
end Go.Mt
