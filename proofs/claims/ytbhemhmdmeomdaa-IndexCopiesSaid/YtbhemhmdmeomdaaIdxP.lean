import Derived.Test.YtbhemhmdmeomdaaIdxH
set_option linter.unusedSimpArgs false
set_option linter.unusedVariables false
namespace Go.Proofs.Ytbhemhmdmeomdaa
open Go.Mt

/-! ### plain facts -/
theorem ixN_ixP (l : List Known) (x : Known) : ∀ k, ixN l x k = ixP (fun y => decide (x = y)) LK.knw.dft l k := by
  intro k
  induction k with
  | zero => rfl
  | succ k ih => simp only [ixN, ixP, ih]; rfl
theorem hasK_mem (l : List Known) (x : Known) : hasK l x = decide (x ∈ l) := by
  unfold hasK
  rw [ixN_ixP, Bool.eq_iff_iff, decide_eq_true_iff, decide_eq_true_iff]
  rcases ixP_spec (fun y => decide (x = y)) LK.knw.dft l l.length with ⟨h1, h2⟩ | ⟨i, h1, h2, h3, _⟩
  · rw [h1]
    refine ⟨fun h => by omega, fun h => ?_⟩
    obtain ⟨q, hq⟩ := List.getElem?_of_mem h
    have hlt := (List.getElem?_eq_some_iff.1 hq).1
    have := h2 q hlt
    simp [List.getD, hq] at this
  · rw [h2]
    refine ⟨fun _ => ?_, fun _ => by omega⟩
    have h3' : x = l.getD i LK.knw.dft := by simpa using h3
    rw [h3']
    simp [List.getD, List.getElem?_eq_getElem h1]
theorem addK_new {l : List Known} {x : Known} (h : x ∉ l) (h2 : l.length < 64) : addK l x = l ++ [x] := by
  have e : decide (64 ≤ l.length) = false := by simp; omega
  simp only [addK, hasK_mem, decide_eq_false h, e]
theorem findN_filter (l : List Known) (f : Int) : ∀ k, k ≤ l.length → findN l f k = ((l.take k).filter (fun x => decide (x.finger = f))).map (·.e) := by
  intro k
  induction k with
  | zero => intro _; rfl
  | succ k ih =>
    intro hk
    rw [take_succ_getD (d := LK.knw.dft) hk, List.filter_append, List.map_append]
    simp only [findN]
    cases h : decide ((l.getD k LK.knw.dft).finger = f) with
    | true => rw [ih (by omega), List.filter_cons, h]; rfl
    | false => rw [ih (by omega), List.filter_cons, h]; simp
theorem findN_all (l : List Known) (f : Int) : findN l f l.length = (l.filter (fun x => decide (x.finger = f))).map (·.e) := by
  rw [findN_filter l f _ (Nat.le_refl _), List.take_length]
theorem range_filter (n i : Nat) : (List.range n).filter (fun j => decide (j = i)) = if i < n then [i] else [] := by
  induction n with
  | zero => rfl
  | succ n ih =>
    rw [List.range_succ, List.filter_append, ih]
    by_cases h : n = i
    · subst h; simp
    · by_cases h2 : i < n
      · have : i < n + 1 := by omega
        simp [h, h2, this]
      · have : ¬ i < n + 1 := by omega
        simp [h, h2, this]
theorem map_range_filter {α : Type} {g : Nat → α} {p : α → Bool} {n i : Nat} {b : Bool} (hi : i < n) (h : ∀ j, j < n → p (g j) = (decide (j = i) && b)) : ((List.range n).map g).filter p = if b = true then [g i] else [] := by
  rw [List.filter_map]
  have : (List.range n).filter (p ∘ g) = (List.range n).filter (fun j => decide (j = i) && b) := List.filter_congr fun j hj => h j (List.mem_range.1 hj)
  rw [this]
  cases b with
  | true => simp only [Bool.and_true, range_filter, if_pos hi]; rfl
  | false => simp
/-- A text of one byte. -/
def ck (i : Nat) : List UInt8 := [UInt8.ofNat (IntKind.u8.wrap (i : Int)).toNat]
def cks : List Int := (List.range 60).map fun i => fg (ck i)
theorem cks_nodup : cks.Nodup := by decide +kernel
theorem nodup_getI {l : List Int} (hn : l.Nodup) {i j : Nat} {n : Int} (h1 : l[i]? = some n) (h2 : l[j]? = some n) : i = j := by
  have hlt := (List.getElem?_eq_some_iff.1 h1).1
  exact (List.getElem?_inj hlt hn).1 (h1.trans h2.symm)
theorem fg_ck {i j : Nat} (hi : i < 60) (hj : j < 60) (h : fg (ck i) = fg (ck j)) : i = j := by
  have e : ∀ k, k < 60 → cks[k]? = some (fg (ck k)) := fun k hk => by simp [cks, List.getElem?_map, List.getElem?_range hk]
  have h1 := e i hi
  have h2 := e j hj
  rw [h] at h1
  exact nodup_getI cks_nodup h1 h2
def kn1 (s : List UInt8) (j : Nat) : Known := ⟨fg (ck j), ⟨2, ((s.getD j 0).toNat : Int) % 9, 0, 0, 0⟩⟩
def kns (s : List UInt8) (i : Nat) : List Known := (List.range i).map (kn1 s)
theorem kns_len (s : List UInt8) (i : Nat) : (kns s i).length = i := by simp [kns]
theorem kns_succ (s : List UInt8) {i : Nat} (hi : i < 60) : addK (kns s i) (kn1 s i) = kns s (i + 1) := by
  rw [addK_new]
  · simp [kns, List.range_succ]
  · intro h
    simp only [kns, List.mem_map, List.mem_range] at h
    obtain ⟨j, hj, e⟩ := h
    have := congrArg Known.finger e
    have := fg_ck (by omega) hi this
    omega
  · rw [kns_len]; omega
/-- Is the start of one of the first 'i' entries that of 'gone'? -/
def someN (s : List UInt8) (g : Int) : Nat → Bool
  | 0 => false
  | i + 1 => someN s g i || decide (((s.getD i 0).toNat : Int) % 9 = g % 9)
def goneE (g : Int) : Entry := ⟨2, g % 9, 0, 0, 0⟩
theorem isE_kn1 (s : List UInt8) (g : Int) (j : Nat) : isE (goneE g) (kn1 s j) = decide (((s.getD j 0).toNat : Int) % 9 = g % 9) := by
  simp only [isE, kn1, goneE, Entry.mk.injEq, true_and, and_true]
theorem gone_len (s : List UInt8) (g : Int) : ∀ i, (withoutE (goneE g) (kns s i)).length ≤ i ∧ (decide ((withoutE (goneE g) (kns s i)).length < i) = someN s g i) := by
  intro i
  induction i with
  | zero => exact ⟨by simp [kns], by simp [kns, someN]⟩
  | succ i ih =>
    obtain ⟨h1, h2⟩ := ih
    have e : withoutE (goneE g) (kns s (i + 1)) = withoutE (goneE g) (kns s i) ++ (if isE (goneE g) (kn1 s i) = true then [] else [kn1 s i]) := by
      unfold withoutE
      rw [show kns s (i + 1) = kns s i ++ [kn1 s i] by simp [kns, List.range_succ], List.filter_append]
      congr 1
      cases hp : isE (goneE g) (kn1 s i) with
      | true => rw [if_pos rfl, List.filter_cons, hp]; rfl
      | false => rw [if_neg (by simp), List.filter_cons, hp]; rfl
    rw [e]
    simp only [someN, ← h2, ← isE_kn1]
    cases hp : isE (goneE g) (kn1 s i) with
    | true =>
      simp only [if_true, List.append_nil, Bool.or_true]
      exact ⟨by omega, by simp; omega⟩
    | false =>
      simp only [Bool.false_eq_true, if_false, List.length_append, List.length_singleton, Bool.or_false]
      refine ⟨by omega, ?_⟩
      rw [Bool.eq_iff_iff]; simp
theorem gone_twice (e : Entry) (l : List Known) : withoutE e (withoutE e l) = withoutE e l := by
  unfold withoutE
  rw [List.filter_filter]
  congr 1
  funext x; simp
theorem gone_find (s : List UInt8) (g : Int) {n i : Nat} (hn : n ≤ 60) (hi : i < n) :
    findN (withoutE (goneE g) (kns s n)) (fg (ck i)) (withoutE (goneE g) (kns s n)).length = if (decide (((s.getD i 0).toNat : Int) % 9 = g % 9)) = true then [] else [(kn1 s i).e] := by
  rw [findN_all]
  unfold withoutE
  rw [List.filter_filter]
  unfold kns
  rw [map_range_filter (i := i) (b := !isE (goneE g) (kn1 s i)) hi (fun j hj => ?_)]
  · rw [isE_kn1]
    cases decide (((s.getD i 0).toNat : Int) % 9 = g % 9) <;> rfl
  · by_cases h : j = i
    · subst h; simp [kn1]
    · have : ¬ fg (ck j) = fg (ck i) := fun e => h (fg_ck (by omega) (by omega) e)
      simp [kn1, this, h]
end Go.Proofs.Ytbhemhmdmeomdaa
