/-
  Mt, part Z: a region that draws its order: each operation is reckoned from what is known in every order.
-/
import Derived.Test.YtnmomckmpknbkaaMtY
set_option linter.unusedSimpArgs false
set_option linter.unusedVariables false
namespace Go.Mt
open Go.RowKit

abbrev DR := Option Ent × Prop × Option HB × Option Nat
def tbit (m k : Nat) : Bool := Nat.beq (Nat.land (Nat.shiftRight m k) 1) 1
/-- 'k' is ahead of 'j' in every order. -/
def bef (ms : List Nat) (k j : Nat) : Bool := match nth ms j with
  | some m => tbit m k
  | none => false
/-- Who writes a slot. -/
def wrOf : List Oper → Nat → Nat → Option Nat
  | [], _, _ => none
  | o :: l, i, s => match oeq o.dst s with
    | true => some i
    | false => wrOf l (i + 1) s
def killed (ks : List (Nat × Nat)) (f : Nat → Bool) (n : Nat) : Bool := match ks with
  | [] => false
  | (k, n') :: l => (Nat.beq n n' && f k) || killed l f n
def drE (r : Option DR) : Option Ent := match r with
  | some (e, _) => e
  | none => none
def drH (r : Option DR) : Option HB := match r with
  | some (_, _, hb, _) => hb
  | none => none
/-- The slots that operation 'j' may look at. -/
def mF (ops : List Oper) (ms : List Nat) (f0 : Nat → Option Ent) (res : Nat → Option DR) (j : Nat) : Nat → Option Ent := fun s => match wrOf ops 0 s with
  | none => f0 s
  | some k => match bef ms k j with
    | true => drE (res k)
    | false => match bef ms j k || Nat.beq j k with
      | true => f0 s
      | false => none
def mH (ms : List Nat) (ks : List (Nat × Nat)) (H0 : Nat → Option HB) (nx0 : Nat) (res : Nat → Option DR) (j : Nat) : Nat → Option HB := fun n => match killed ks (fun k => !(bef ms j k || Nat.beq j k)) n with
  | true => none
  | false => match Nat.blt n nx0 with
    | true => H0 n
    | false => match bef ms (n - nx0) j with
      | true => drH (res (n - nx0))
      | false => none
def stepM (E : Env) (kn : Nat → Option Bool) (ops : List Oper) (ms : List Nat) (ks : List (Nat × Nat)) (f0 : Nat → Option Ent) (H0 : Nat → Option HB) (nx0 : Nat) (res : Nat → Option DR) (j : Nat) (o : Oper) (u : Value) : Option DR :=
  stepD E kn ops (refsOf ops ops) j (mF ops ms f0 res j) (mH ms ks H0 nx0 res j) (nx0 + j) o u
def dGo (E : Env) (kn : Nat → Option Bool) (ops : List Oper) (ms : List Nat) (ks : List (Nat × Nat)) (f0 : Nat → Option Ent) (H0 : Nat → Option HB) (nx0 : Nat) (bs : Nat → Value) : List Oper → Nat → (Nat → Option DR) → Prop → Option ((Nat → Option DR) × Prop)
  | [], _, res, p => some (res, p)
  | o :: l, j, res, p => match stepM E kn ops ms ks f0 H0 nx0 res j o (bs j) with
    | some (e, ob, hb, kill) => match (match kill with | some n => killed ks (fun k => Nat.beq j k) n | none => true) with
      | true => dGo E kn ops ms ks f0 H0 nx0 bs l (j + 1) (fun i => match Nat.beq i j with
        | true => some (e, ob, hb, kill)
        | false => res i) (p ∧ ob)
      | false => none
    | none => none
/-- What is known behind the operations of 'f'. -/
def stF (ops : List Oper) (f0 : Nat → Option Ent) (res : Nat → Option DR) (f : Nat → Bool) : Nat → Option Ent := fun s => match wrOf ops 0 s with
  | none => f0 s
  | some k => match f k with
    | true => drE (res k)
    | false => f0 s
def stH (ks : List (Nat × Nat)) (H0 : Nat → Option HB) (nx0 : Nat) (res : Nat → Option DR) (f : Nat → Bool) : Nat → Option HB := fun n => match killed ks f n with
  | true => none
  | false => match Nat.blt n nx0 with
    | true => H0 n
    | false => match f (n - nx0) with
      | true => drH (res (n - nx0))
      | false => none
def ltB (m k : Nat) : Bool := Nat.blt k m
def drawD (E : Env) (kn : Nat → Option Bool) (ops : List Oper) (m : Nat) (ms : List Nat) (ks : List (Nat × Nat)) (st : St) (bs : Nat → Value) : Option (St × Prop) := match st with
  | ⟨f0, H0, nx0⟩ => match dGo E kn ops ms ks f0 H0 nx0 bs (tke m ops) 0 (fun _ => none) True with
    | some (res, p) => some (⟨stF ops f0 res (ltB m), stH ks H0 nx0 res (ltB m), nx0 + m⟩, p)
    | none => none

/-! ### what is looked at once -/
def edgesM (m : Region.Mode) : List Edge → List Nat
  | [] => []
  | e :: l => match Region.binds m e with
    | true => e.on :: edgesM m l
    | false => edgesM m l
def maskO (ms : List Nat) : List Nat → Nat
  | [] => 0
  | k :: l => Nat.lor (Nat.lor (Nat.shiftLeft 1 k) ((nth ms k).getD 0)) (maskO ms l)
def ltAll (j : Nat) : List Nat → Bool
  | [] => true
  | k :: l => Nat.blt k j && ltAll j l
def dsts : List Oper → List Nat
  | [] => []
  | o :: l => match o.dst with
    | some d => d :: dsts l
    | none => dsts l
def chkO (N : Nat) (ops : List Oper) (rs : List (Nat × Nat)) (ms : List Nat) : List Oper → Nat → Bool
  | [], _ => true
  | o :: l, j => ltAll j (edgesM .any o.after.toList) && (match nth ms j with | some m => Nat.beq m (maskO ms (edgesM .any o.after.toList)) | none => false) &&
      dstOk N j rs o.dst && (match o.guard with | some (g, _) => bef ms g j | none => true) && chkO N ops rs ms l (j + 1)
def allBef (ms : List Nat) (i : Nat) : Nat → Bool
  | 0 => true
  | k + 1 => bef ms k i && allBef ms i k
/-- From operation 'm' on the text's own order is the only one. -/
def tailB (ms : List Nat) (m : Nat) : Nat → Bool
  | 0 => true
  | i + 1 => (Nat.blt i m || allBef ms i i) && tailB ms m i
def chkD (N : Nat) (ops : List Oper) (m : Nat) (ms : List Nat) : Bool := nodupB (dsts ops) && chkO N ops (refsOf ops ops) ms ops 0 && (Nat.ble m (len ops) && tailB ms m (len ops))
theorem allBef_ok {ms : List Nat} {i : Nat} : ∀ {k : Nat}, allBef ms i k = true → ∀ j, j < k → bef ms j i = true := by
  intro k
  induction k with
  | zero => intro _ j hj; omega
  | succ k ih =>
    intro h j hj
    simp only [allBef, Bool.and_eq_true] at h
    by_cases hk : j = k
    · subst hk; exact h.1
    · exact ih h.2 j (by omega)
theorem tailB_ok {ms : List Nat} {m : Nat} : ∀ {n : Nat}, tailB ms m n = true → ∀ i, m ≤ i → i < n → ∀ k, k < i → bef ms k i = true := by
  intro n
  induction n with
  | zero => intro _ i _ hi; omega
  | succ n ih =>
    intro h i hm hi k hk
    simp only [tailB, Bool.and_eq_true, Bool.or_eq_true, Nat.blt_eq] at h
    by_cases hn : i = n
    · subst hn
      rcases h.1 with h1 | h1
      · omega
      · exact allBef_ok h1 k hk
    · exact ih h.2 i hm (by omega) k hk

section
variable {ops : List Oper} {ms : List Nat} {ks : List (Nat × Nat)} {N : Nat} {mrk : Bool}

theorem tbit_eq (m k : Nat) : tbit m k = m.testBit k := by
  unfold tbit
  rw [Bool.eq_iff_iff, Nat.beq_eq]
  simp only [Nat.testBit]
  change (m >>> k) &&& 1 = 1 ↔ _
  rw [Nat.and_comm]
  have : 1 &&& (m >>> k) = 0 ∨ 1 &&& (m >>> k) = 1 := by rw [Nat.and_comm, Nat.and_one_is_mod]; omega
  rcases this with h | h <;> simp [h]

theorem maskO_bit {k : Nat} : ∀ {l : List Nat}, (maskO ms l).testBit k = true ↔ ∃ e ∈ l, k = e ∨ bef ms k e = true := by
  intro l
  induction l with
  | nil => simp [maskO]
  | cons e l ih =>
    have h0 : maskO ms (e :: l) = ((1 <<< e) ||| ((nth ms e).getD 0)) ||| maskO ms l := rfl
    rw [h0]
    simp only [Nat.testBit_or, Bool.or_eq_true, ih, List.mem_cons, exists_eq_or_imp]
    refine or_congr (or_congr ?_ ?_) Iff.rfl
    · rw [Nat.one_shiftLeft, Nat.testBit_two_pow]; simp [eq_comm]
    · unfold bef
      cases nth ms e with
      | none => simp
      | some m => simp [tbit_eq]

theorem edgesM_mem {m : Region.Mode} {e : Edge} : ∀ {l : List Edge}, e ∈ l → Region.binds m e = true → e.on ∈ edgesM m l := by
  intro l
  induction l with
  | nil => intro h; cases h
  | cons x l ih =>
    intro h hb
    simp only [edgesM]
    rcases List.mem_cons.1 h with rfl | h
    · rw [hb]; exact List.mem_cons_self
    · split
      · exact List.mem_cons_of_mem _ (ih h hb)
      · exact ih h hb
theorem mem_edgesM {m : Region.Mode} {k : Nat} : ∀ {l : List Edge}, k ∈ edgesM m l → ∃ e ∈ l, Region.binds m e = true ∧ e.on = k := by
  intro l
  induction l with
  | nil => intro h; cases h
  | cons x l ih =>
    intro h
    simp only [edgesM] at h
    split at h
    · rename_i hb
      rcases List.mem_cons.1 h with rfl | h
      · exact ⟨x, List.mem_cons_self, hb, rfl⟩
      · obtain ⟨e, h1, h2⟩ := ih h; exact ⟨e, List.mem_cons_of_mem _ h1, h2⟩
    · obtain ⟨e, h1, h2⟩ := ih h; exact ⟨e, List.mem_cons_of_mem _ h1, h2⟩
theorem ltAll_ok {j : Nat} : ∀ {l : List Nat}, ltAll j l = true → ∀ k ∈ l, k < j := by
  intro l
  induction l with
  | nil => intro _ k h; cases h
  | cons x l ih =>
    intro h k hk
    simp only [ltAll, Bool.and_eq_true, Nat.blt_eq] at h
    rcases List.mem_cons.1 hk with rfl | hk
    · exact h.1
    · exact ih h.2 k hk

structure ChkO (N : Nat) (ops : List Oper) (ms : List Nat) (j : Nat) (o : Oper) : Prop where
  lt : ∀ k ∈ edgesM .any o.after.toList, k < j
  bit : ∀ k, bef ms k j = true ↔ ∃ e ∈ edgesM .any o.after.toList, k = e ∨ bef ms k e = true
  dst : dstOk N j (refsOf ops ops) o.dst = true
  gd : ∀ g b, o.guard = some (g, b) → bef ms g j = true
theorem chkO_ok {rs : List (Nat × Nat)} (hrs : rs = refsOf ops ops) : ∀ {l : List Oper} {i : Nat}, chkO N ops rs ms l i = true → ∀ (j : Nat) (o : Oper), l[j]? = some o → ChkO N ops ms (i + j) o := by
  intro l
  induction l with
  | nil => intro i _ j o h; simp at h
  | cons x l ih =>
    intro i h j o hj
    simp only [chkO, Bool.and_eq_true] at h
    obtain ⟨⟨⟨⟨h1, h2⟩, h3⟩, h4⟩, h5⟩ := h
    cases j with
    | zero =>
      simp at hj; subst hj
      refine ⟨ltAll_ok h1, fun k => ?_, hrs ▸ h3, fun g b hg => by rw [hg] at h4; exact h4⟩
      split at h2
      · rename_i m hm
        rw [Nat.beq_eq] at h2
        have : bef ms k (i + 0) = m.testBit k := by simp only [bef, Nat.add_zero, hm, tbit_eq]
        rw [this, h2]; exact maskO_bit
      · cases h2
    | succ j =>
      have := ih h5 j o (by simpa using hj)
      rwa [show i + 1 + j = i + (j + 1) from by omega] at this

theorem wrOf_some {s k : Nat} : ∀ {l : List Oper} {i : Nat}, wrOf l i s = some k → ∃ o, i ≤ k ∧ l[k - i]? = some o ∧ o.dst = some s := by
  intro l
  induction l with
  | nil => intro i h; cases h
  | cons x l ih =>
    intro i h
    simp only [wrOf] at h
    split at h
    · rename_i hb; cases h
      refine ⟨x, Nat.le_refl _, by simp, ?_⟩
      unfold oeq at hb
      split at hb
      · rename_i hd; rw [Nat.beq_eq] at hb; subst hb; exact hd
      · cases hb
    · obtain ⟨o, h1, h2, h3⟩ := ih h
      refine ⟨o, by omega, ?_, h3⟩
      rw [show k - i = (k - (i + 1)) + 1 from by omega]
      simpa using h2
theorem dsts_mem {d : Nat} {o : Oper} : ∀ {l : List Oper}, o ∈ l → o.dst = some d → d ∈ dsts l := by
  intro l
  induction l with
  | nil => intro h; cases h
  | cons x l ih =>
    intro h hd
    simp only [dsts]
    rcases List.mem_cons.1 h with rfl | h
    · rw [hd]; exact List.mem_cons_self
    · split
      · exact List.mem_cons_of_mem _ (ih h hd)
      · exact ih h hd
theorem wrOf_dst {s : Nat} {o : Oper} : ∀ {l : List Oper} {i j : Nat}, nodupB (dsts l) = true → l[j]? = some o → o.dst = some s → wrOf l i s = some (i + j) := by
  intro l
  induction l with
  | nil => intro i j _ h; simp at h
  | cons x l ih =>
    intro i j hn hj hd
    cases j with
    | zero =>
      simp at hj; subst hj
      simp [wrOf, oeq, hd]
    | succ j =>
      have hj' : l[j]? = some o := by simpa using hj
      have hne : oeq x.dst s = false := by
        cases hx : x.dst with
        | none => rfl
        | some d =>
          simp only [oeq]
          cases hb : Nat.beq d s with
          | false => rfl
          | true =>
            rw [Nat.beq_eq] at hb; subst hb
            simp only [dsts, hx, nodupB, Bool.and_eq_true, Bool.not_eq_true'] at hn
            have := memN_mem (dsts_mem (List.mem_of_getElem? hj') hd)
            rw [this] at hn; cases hn.1
      have hn' : nodupB (dsts l) = true := by
        simp only [dsts] at hn
        split at hn
        · simp only [nodupB, Bool.and_eq_true] at hn; exact hn.2
        · exact hn
      simp only [wrOf, hne]
      rw [ih hn' hj' hd]
      congr 1; omega
theorem killed_mono {f g : Nat → Bool} (h : ∀ k, f k = true → g k = true) {n : Nat} : killed ks f n = true → killed ks g n = true := by
  induction ks with
  | nil => exact id
  | cons x ks ih =>
    obtain ⟨k, n'⟩ := x
    simp only [killed, Bool.or_eq_true, Bool.and_eq_true]
    rintro (⟨h1, h2⟩ | h1)
    · exact .inl ⟨h1, h k h2⟩
    · exact .inr (ih h1)
theorem killed_or {f g : Nat → Bool} {n : Nat} : killed ks (fun k => f k || g k) n = (killed ks f n || killed ks g n) := by
  induction ks with
  | nil => rfl
  | cons x ks ih =>
    obtain ⟨k, n'⟩ := x
    simp only [killed, ih]
    cases Nat.beq n n' <;> cases f k <;> cases g k <;> simp [Bool.or_comm, Bool.or_left_comm, Bool.or_assoc]
end

section
variable {P : Program} {E : Env} {kn : Nat → Option Bool} {ops : List Oper} {ms : List Nat} {ks : List (Nat × Nat)} {f0 : Nat → Option Ent} {H0 : Nat → Option HB} {nx0 : Nat}
  {B : Nat} {W : World} {M0 M : Mem} {Q : Exit → Act → World → Prop} {k : List Itm} {st : St} {a : Act} {w : World}

theorem mF_congr {res res' : Nat → Option DR} {j : Nat} (h : ∀ k, bef ms k j = true → res k = res' k) : mF ops ms f0 res j = mF ops ms f0 res' j := by
  funext s
  simp only [mF]
  split
  · rfl
  · rename_i k hk
    cases hb : bef ms k j with
    | true => simp only [h k hb]
    | false => rfl
theorem mH_congr {res res' : Nat → Option DR} {j : Nat} (h : ∀ k, bef ms k j = true → res k = res' k) : mH ms ks H0 nx0 res j = mH ms ks H0 nx0 res' j := by
  funext n
  simp only [mH]
  cases hb : bef ms (n - nx0) j with
  | true => simp only [h _ hb]
  | false => rfl
theorem stepM_congr {res res' : Nat → Option DR} {j : Nat} {o : Oper} {u : Value} (h : ∀ k, bef ms k j = true → res k = res' k) : stepM E kn ops ms ks f0 H0 nx0 res j o u = stepM E kn ops ms ks f0 H0 nx0 res' j o u := by
  unfold stepM; rw [mF_congr h, mH_congr h]

/-- What 'dGo' reckons is what each step reckons from it. -/
theorem dGo_ok {m : Nat} (hlt : ∀ k j, j < ops.length → bef ms k j = true → k < j) {bs : Nat → Value} : ∀ {l : List Oper} {i : Nat} {res res' : Nat → Option DR} {p p' : Prop}, l = (ops.take m).drop i → dGo E kn ops ms ks f0 H0 nx0 bs l i res p = some (res', p') →
    (∀ j, j < i → res' j = res j) ∧ (p' → p) ∧ ∀ (j : Nat) (o : Oper), i ≤ j → j < m → ops[j]? = some o → ∃ e ob hb kill, res' j = some (e, ob, hb, kill) ∧ stepM E kn ops ms ks f0 H0 nx0 res' j o (bs j) = some (e, ob, hb, kill) ∧ (p' → ob) ∧ ∀ n, kill = some n → killed ks (fun k => Nat.beq j k) n = true := by
  intro l
  induction l with
  | nil =>
    intro i res res' p p' hl h
    cases h
    refine ⟨fun _ _ => rfl, id, fun j o hij hjm hj => ?_⟩
    have h1 : (ops.take m).length ≤ i := List.drop_eq_nil_iff.1 hl.symm
    rw [List.length_take] at h1
    have h2 := (List.getElem?_eq_some_iff.1 hj).1
    omega
  | cons x l ih =>
    intro i res res' p p' hl h
    simp only [dGo] at h
    split at h
    · rename_i e ob hb kill hst
      split at h
      · rename_i hkill
        have hl' : l = (ops.take m).drop (i + 1) := by
          have := congrArg List.tail hl
          simpa [List.tail_drop] using this
        obtain ⟨g1, g2, g3⟩ := ih hl' h
        have hi' : i < (ops.take m).length := by
          rcases Nat.lt_or_ge i (ops.take m).length with h' | h'
          · exact h'
          · rw [List.drop_eq_nil_of_le h'] at hl; cases hl
        have hi : i < ops.length := by rw [List.length_take] at hi'; omega
        have him : i < m := by rw [List.length_take] at hi'; omega
        have hx : ops[i]? = some x := by
          have h0 : ((ops.take m).drop i)[0]? = some x := by rw [← hl]; rfl
          rw [List.getElem?_drop, Nat.add_zero, List.getElem?_take, if_pos him] at h0
          exact h0
        refine ⟨fun j hj => ?_, fun hp => (g2 hp).1, fun j o hij hjm hj => ?_⟩
        · rw [g1 j (by omega)]
          have : Nat.beq j i = false := by
            cases hb : Nat.beq j i with
            | false => rfl
            | true => rw [Nat.beq_eq] at hb; omega
          simp only [this]
        · rcases Nat.lt_or_ge i j with hlt' | hge
          · exact g3 j o hlt' hjm hj
          · obtain rfl : j = i := by omega
            rw [hx] at hj; cases hj
            have hres : res' j = some (e, ob, hb, kill) := by
              rw [g1 j (by omega)]
              simp
            refine ⟨e, ob, hb, kill, hres, ?_, fun hp => (g2 hp).2, fun n hn => by subst hn; exact hkill⟩
            rw [← hst]
            refine stepM_congr fun k hk => ?_
            have hkj := hlt k j hi hk
            rw [g1 k (by omega)]
            have : Nat.beq k j = false := by
              cases hb : Nat.beq k j with
              | false => rfl
              | true => rw [Nat.beq_eq] at hb; omega
            simp only [this]
      · cases h
    · cases h

theorem SatP.weaken {S : Nat → Prop} {N : Nat} {mrk : Bool} {rs : List (Nat × Nat)} {f f' : Nat → Option Ent} {H H' : Nat → Option HB} {nx nx' : Nat} (hS : SatP N mrk B W M0 ops rs S ⟨f, H, nx⟩ M a w) (hf : leF f' f) (hH : leF H' H) : SatP N mrk B W M0 ops rs S ⟨f', H', nx'⟩ M a w :=
  ⟨⟨hS.h.below, hS.h.base, hS.h.mem, fun n x hx => hS.h.ok n x (hH n x hx), fun n n' x x' b hn e1 e2 => hS.h.inj n n' x x' b hn (hH _ _ e1) (hH _ _ e2)⟩, hS.old, hS.d, hS.n, fun s e he => hS.f s e (hf s e he), fun s j b x hx => hS.g s j b x (hf _ _ hx)⟩

def don (listed : Array Bool) (k : Nat) : Bool := listed.getD k false

theorem don_set {listed : Array Bool} {i k : Nat} (hi : i < listed.size) : don (listed.setIfInBounds i true) k = (don listed k || Nat.beq i k) := by
  unfold don
  cases hb : Nat.beq i k with
  | true => rw [Nat.beq_eq] at hb; subst hb; simp [hi]
  | false =>
    have hne : i ≠ k := fun e => by subst e; simp at hb
    simp [Array.getElem?_setIfInBounds_ne hne]

structure Facts (E : Env) (kn : Nat → Option Bool) (ops : List Oper) (m : Nat) (ms : List Nat) (ks : List (Nat × Nat)) (f0 : Nat → Option Ent) (H0 : Nat → Option HB) (nx0 : Nat) (R : (Nat → Value) → Nat → Option DR) : Prop where
  chk : ∀ (j : Nat) (o : Oper), ops[j]? = some o → ChkO E.N ops ms j o
  nd : nodupB (dsts ops) = true
  le : m ≤ ops.length
  tail : ∀ i, m ≤ i → i < ops.length → ∀ k, k < i → bef ms k i = true
  st : ∀ us (j : Nat) (o : Oper), j < m → ops[j]? = some o → ∃ e ob hb kill, R us j = some (e, ob, hb, kill) ∧ stepM E kn ops ms ks f0 H0 nx0 (R us) j o (us j) = some (e, ob, hb, kill) ∧ ob ∧ ∀ n, kill = some n → killed ks (fun k => Nat.beq j k) n = true
  out : ∀ us j, m ≤ j → R us j = none

variable {R : (Nat → Value) → Nat → Option DR}

theorem bef_lt (hc : ∀ (j : Nat) (o : Oper), ops[j]? = some o → ChkO E.N ops ms j o) : ∀ k j, j < ops.length → bef ms k j = true → k < j := by
  intro k j
  induction j using Nat.strongRecOn generalizing k with
  | _ j ih =>
    intro hj hb
    have h1 := hc j _ (List.getElem?_eq_getElem hj)
    obtain ⟨e, he, hke⟩ := (h1.bit k).1 hb
    have hlt := h1.lt e he
    rcases hke with rfl | hke
    · exact hlt
    · have := ih e hlt k (by omega) hke; omega
theorem bef_trans (hc : ∀ (j : Nat) (o : Oper), ops[j]? = some o → ChkO E.N ops ms j o) : ∀ l k j, j < ops.length → bef ms k j = true → bef ms l k = true → bef ms l j = true := by
  intro l k j
  induction j using Nat.strongRecOn generalizing k with
  | _ j ih =>
    intro hj hb hl
    have h1 := hc j _ (List.getElem?_eq_getElem hj)
    obtain ⟨e, he, hke⟩ := (h1.bit k).1 hb
    have hlt := h1.lt e he
    rcases hke with rfl | hke
    · exact (h1.bit l).2 ⟨_, he, .inr hl⟩
    · exact (h1.bit l).2 ⟨e, he, .inr (ih e hlt k (by omega) hke hl)⟩

/-- What an operation comes to hangs on what it, and those ahead of it, brought. -/
theorem Facts.dep {m : Nat} (hF : Facts E kn ops m ms ks f0 H0 nx0 R) : ∀ (j : Nat), j < m → ∀ us us' : Nat → Value, (∀ k, k = j ∨ bef ms k j = true → us k = us' k) → R us j = R us' j := by
  intro j
  induction j using Nat.strongRecOn with
  | _ j ih =>
    intro hjm us us' h
    have hj : j < ops.length := by have := hF.le; omega
    obtain ⟨e, ob, hb, kill, h1, h2, _⟩ := hF.st us j _ hjm (List.getElem?_eq_getElem hj)
    obtain ⟨e', ob', hb', kill', h1', h2', _⟩ := hF.st us' j _ hjm (List.getElem?_eq_getElem hj)
    rw [h1, h1', ← h2, ← h2', h j (.inl rfl)]
    refine stepM_congr fun k hk => ?_
    have hkj := bef_lt hF.chk k j hj hk
    exact ih k hkj (by omega) us us' fun l hl => h l (.inr (by
      rcases hl with rfl | hl
      · exact hk
      · exact bef_trans hF.chk l k j hj hk hl))

theorem stF_congr {res res' : Nat → Option DR} {f : Nat → Bool} (h : ∀ k, k < ops.length → f k = true → res k = res' k) : stF ops f0 res f = stF ops f0 res' f := by
  funext s
  simp only [stF]
  split
  · rfl
  · rename_i k hk
    obtain ⟨o, _, h2, _⟩ := wrOf_some hk
    have hlt : k < ops.length := by have := (List.getElem?_eq_some_iff.1 h2).1; simpa using this
    cases hb : f k with
    | true => simp only [h k hlt hb]
    | false => rfl
theorem stH_le {res res' : Nat → Option DR} {f : Nat → Bool} (h : ∀ k, f k = true → drH (res' k) = drH (res k)) : leF (stH ks H0 nx0 res f) (stH ks H0 nx0 res' f) := by
  intro n x hx
  simp only [stH] at hx ⊢
  split at hx
  · cases hx
  · split at hx
    · exact hx
    · split at hx
      · rename_i hb; simp only [hb, h _ hb]; exact hx
      · cases hx

/-- The tail of a region, in the text's own order. -/
theorem tail_ok {m : Nat} (hc : ∀ (j : Nat) (o : Oper), ops[j]? = some o → ChkO E.N ops ms j o) (htail : ∀ i, m ≤ i → i < ops.length → ∀ k, k < i → bef ms k i = true) : ∀ (r i : Nat), i + r = ops.length → m ≤ i → ∀ (fuel : Nat) (listed : Array Bool) (a : Act) (w : World), r ≤ fuel → listed.size = ops.length →
    (∀ k, k < ops.length → (don listed k = true ↔ k < i)) → wpList P ops.toArray Q (drp i ops) a w → wpAny P .any ops.toArray Q fuel listed a w := by
  intro r
  induction r with
  | zero =>
    intro i hi hm fuel listed a w hf hsz hd h
    have hr : Region.ready .any ops.toArray listed = [] := by
      apply List.eq_nil_iff_forall_not_mem.2
      intro j hj
      obtain ⟨h1, o, ho, _⟩ := mem_ready.1 hj
      have hlt : j < ops.length := by simpa using (Array.getElem?_eq_some_iff.1 ho).1
      have h2 := (hd j hlt).2 (by omega)
      unfold don at h2
      have hls : j < listed.size := by omega
      simp [hls] at h1 h2
      rw [h1] at h2; cases h2
    refine wpAny_done hr ?_ fuel
    rw [drp_eq, List.drop_eq_nil_of_le (by omega)] at h
    exact h
  | succ r ih =>
    intro i hi hm fuel listed a w hf hsz hd h
    obtain ⟨f, rfl⟩ : ∃ f, fuel = f + 1 := ⟨fuel - 1, by omega⟩
    have hlt : i < ops.length := by omega
    have hls : i < listed.size := by omega
    have hnd : don listed i = false := by
      cases hdi : don listed i with
      | false => rfl
      | true => have := (hd i hlt).1 hdi; omega
    have hiu : listed.getD i true = false := by unfold don at hnd; simp [hls] at hnd ⊢; exact hnd
    have hready : ∀ j, j ∈ Region.ready .any ops.toArray listed ↔ j = i := by
      intro j
      constructor
      · intro hj
        obtain ⟨h1, o, ho, hall⟩ := mem_ready.1 hj
        have hjl : j < ops.length := by simpa using (Array.getElem?_eq_some_iff.1 ho).1
        have hjn : ¬ j < i := fun hji => by
          have h2 := (hd j hjl).2 hji
          unfold don at h2
          have : j < listed.size := by omega
          simp [this] at h1 h2
          rw [h1] at h2; cases h2
        rcases Nat.lt_or_ge i j with hij | hij
        · exfalso
          have hb := htail j (by omega) hjl i hij
          have : ∀ j, j < ops.length → ∀ i, bef ms i j = true → (∀ e ∈ edgesM .any (ops.getD j default).after.toList, don listed e = true) → don listed i = true := by
            intro j hj i hb he
            have hck := hc j _ (List.getElem?_eq_getElem hj)
            obtain ⟨e, he1, he2⟩ := (hck.bit i).1 hb
            have hed : don listed e = true := he e (by simpa [List.getD, hj] using he1)
            rcases he2 with rfl | he2
            · exact hed
            · have hel := hck.lt e he1
              have := (hd e (by omega)).1 hed
              have hie : i < e := by
                exact bef_lt hc i e (by omega) he2
              exact (hd i (by omega)).2 (by omega)
          have hd2 := this j hjl i hb (fun e he => by
            have ho' : ops[j]? = some o := by simpa using ho
            have : ops.getD j default = o := by simp [List.getD, ho']
            rw [this] at he
            obtain ⟨ed, q1, q2, q3⟩ := mem_edgesM he
            rw [← q3]; exact hall ed (by simpa using q1) q2)
          rw [hnd] at hd2; cases hd2
        · omega
      · rintro rfl
        refine mem_ready.2 ⟨hiu, ops[j], by simp [hlt], fun e he hb => ?_⟩
        have hm' := edgesM_mem (l := ops[j].after.toList) (by simpa using he) hb
        have hel := (hc j _ (List.getElem?_eq_getElem hlt)).lt _ hm'
        exact (hd e.on (by omega)).2 hel
    refine ⟨fun hr => ?_, fun j hj => ?_⟩
    · have := (hready i).2 rfl
      rw [hr] at this; cases this
    · have hji := (hready j).1 hj
      subst hji
      have hdr : drp j ops = ops[j] :: drp (j + 1) ops := by rw [drp_eq, drp_eq, List.drop_eq_getElem_cons hlt]
      rw [hdr] at h
      have hgo : ∀ a w, wpList P ops.toArray Q (drp (j + 1) ops) a w → wpAny P .any ops.toArray Q f (listed.setIfInBounds j true) a w := fun a w hh => ih (j + 1) (by omega) (by omega) f _ a w (by omega) (by simp [hsz]) (fun k hk => by
        rw [don_set hls, Bool.or_eq_true, hd k hk, Nat.beq_eq]; omega) hh
      unfold wpOp
      have ho : ops.toArray[j]? = some ops[j] := by simp [hlt]
      simp only [ho]
      simp only [wpList] at h
      split
      · rename_i hw
        rw [if_pos hw] at h
        rcases h with h | h
        · exact .inl (Oper.wp_mono hgo h)
        · exact .inr h
      · rename_i hw
        rw [if_neg hw] at h
        exact hgo _ _ h

/-- ANY ORDER. -/
theorem any_ok {m : Nat} (hT : TbOk P E.T) (hΨ : PsiOk P E) (hF : Facts E kn ops m ms ks f0 H0 nx0 R)
    (hQ : ∀ us M a w, SatP E.N E.mrk B W M0 ops (refsOf ops ops) (fun j => j < m) ⟨stF ops f0 (R us) (ltB m), stH ks H0 nx0 (R us) (ltB m), nx0 + m⟩ M a w → wpList P ops.toArray Q (drp m ops) a w) :
    ∀ (fuel : Nat) (listed : Array Bool) (a : Act) (w : World), listed.size = ops.length → (∀ j, j < ops.length → don listed j = true → ∀ k, bef ms k j = true → don listed k = true) → (∀ j, don listed j = true → j < m) →
      ((List.range ops.length).countP (fun j => !don listed j) ≤ fuel) → (∃ us M, SatP E.N E.mrk B W M0 ops (refsOf ops ops) (fun j => don listed j = true) ⟨stF ops f0 (R us) (don listed), stH ks H0 nx0 (R us) (don listed), nx0⟩ M a w) →
      wpAny P .any ops.toArray Q fuel listed a w := by
  -- all but the tail is done
  have fin : ∀ (fuel : Nat) (listed : Array Bool) (a : Act) (w : World), listed.size = ops.length → (∀ j, don listed j = true ↔ j < m) → ((List.range ops.length).countP (fun j => !don listed j) ≤ fuel) → (∃ us M, SatP E.N E.mrk B W M0 ops (refsOf ops ops) (fun j => don listed j = true) ⟨stF ops f0 (R us) (don listed), stH ks H0 nx0 (R us) (don listed), nx0⟩ M a w) → wpAny P .any ops.toArray Q fuel listed a w := by
    intro fuel listed a w hsz hall hcnt ⟨us, M, hS⟩
    have hd : don listed = ltB m := by
      funext k
      rw [Bool.eq_iff_iff, hall k]
      unfold ltB; rw [Nat.blt_eq]
    have hle := hF.le
    refine tail_ok hF.chk hF.tail (ops.length - m) m (by omega) (Nat.le_refl _) fuel listed a w ?_ hsz (fun k _ => hall k) (hQ us M a w ?_)
    · refine Nat.le_trans ?_ hcnt
      have : ∀ n, m ≤ n → n - m ≤ (List.range n).countP (fun j => !don listed j) := by
        intro n
        induction n with
        | zero => intro _; omega
        | succ n ih =>
          intro hn
          rw [List.range_succ, List.countP_append]
          by_cases h : m = n + 1
          · omega
          · have := ih (by omega)
            have e : (!don listed n) = true := by
              cases hq : don listed n with
              | false => rfl
              | true => have := (hall n).1 hq; omega
            have e2 : List.countP (fun j => !don listed j) [n] = 1 := by simp [List.countP_cons, e]
            omega
      exact this _ hle
    · rw [hd] at hS
      have h3 := hS.weaken (nx' := nx0 + m) (f' := stF ops f0 (R us) (ltB m)) (H' := stH ks H0 nx0 (R us) (ltB m)) (fun _ _ h => h) (fun _ _ h => h)
      exact ⟨h3.h, h3.old, h3.d, h3.n, h3.f, fun s j b x hx => ⟨by have := (h3.g s j b x hx).1; unfold ltB at this; rwa [Nat.blt_eq] at this, (h3.g s j b x hx).2⟩⟩
  intro fuel
  induction fuel with
  | zero =>
    intro listed a w hsz hcl hdm hc hI
    have hall : ∀ j, j < ops.length → don listed j = true := by
      intro j hj
      have h0 : (List.range ops.length).countP (fun j => !don listed j) = 0 := by omega
      rw [List.countP_eq_zero] at h0
      have := h0 j (List.mem_range.2 hj)
      simpa using this
    exact fin 0 listed a w hsz (fun j => ⟨hdm j, fun hj => hall j (by have := hF.le; omega)⟩) hc hI
  | succ fuel ih =>
    intro listed a w hsz hcl hdm hc hI
    by_cases hpre : ∀ j, j < m → don listed j = true
    · exact fin (fuel + 1) listed a w hsz (fun j => ⟨hdm j, hpre j⟩) hc hI
    have hex : ∃ j, j < m ∧ don listed j = false := by
      apply Classical.byContradiction
      intro hno
      refine hpre fun j hj => ?_
      cases hd : don listed j with
      | true => rfl
      | false => exact absurd ⟨j, hj, hd⟩ hno
    refine ⟨fun hr => ?_, fun i hi => ?_⟩
    · exfalso
      have hall : ∀ j, j < ops.length → don listed j = true := by
        intro j
        induction j using Nat.strongRecOn with
        | _ j ihj =>
          intro hj
          cases hd : don listed j with
          | true => rfl
          | false =>
            exfalso
            have hjr : j ∈ Region.ready .any ops.toArray listed := by
              refine mem_ready.2 ⟨?_, ops[j], by simp [hj], fun e he hb => ?_⟩
              · unfold don at hd
                have hls : j < listed.size := by omega
                simp [hls] at hd ⊢; exact hd
              · have hm := edgesM_mem (l := ops[j].after.toList) (by simpa using he) hb
                have hlt := (hF.chk j _ (List.getElem?_eq_getElem hj)).lt _ hm
                exact ihj e.on hlt (by omega)
            rw [hr] at hjr; cases hjr
      obtain ⟨j, hj, hd⟩ := hex
      rw [hall j (by have := hF.le; omega)] at hd; cases hd
    · obtain ⟨hun, o, ho, hall⟩ := mem_ready.1 hi
      have ho' : ops[i]? = some o := by simpa using ho
      have hlt : i < ops.length := (List.getElem?_eq_some_iff.1 ho').1
      have hls : i < listed.size := by omega
      have hnd : don listed i = false := by unfold don; simp [hls] at hun ⊢; exact hun
      have hck := hF.chk i o ho'
      have hbd : ∀ k, bef ms k i = true → don listed k = true := by
        intro k hk
        obtain ⟨e, he, hke⟩ := (hck.bit k).1 hk
        obtain ⟨ed, q1, q2, q3⟩ := mem_edgesM he
        have hde : don listed e = true := by rw [← q3]; exact hall ed (by simpa using q1) q2
        rcases hke with rfl | hke
        · exact hde
        · exact hcl e (by have := hck.lt e he; omega) hde k hke
      have him : i < m := by
        rcases Nat.lt_or_ge i m with h' | h'
        · exact h'
        · exfalso
          obtain ⟨j, hj, hd⟩ := hex
          rw [hbd j (hF.tail i h' hlt j (by omega))] at hd; cases hd
      have hdm' : ∀ j, don (listed.setIfInBounds i true) j = true → j < m := by
        intro j hj
        rw [don_set hls, Bool.or_eq_true, Nat.beq_eq] at hj
        rcases hj with hj | hj
        · exact hdm j hj
        · omega
      obtain ⟨us, M, hS⟩ := hI
      -- behind this step
      have hsz' : (listed.setIfInBounds i true).size = ops.length := by simp [hsz]
      have hcl' : ∀ j, j < ops.length → don (listed.setIfInBounds i true) j = true → ∀ k, bef ms k j = true → don (listed.setIfInBounds i true) k = true := by
        intro j hj hdj k hk
        rw [don_set hls] at hdj ⊢
        rw [Bool.or_eq_true] at hdj ⊢
        rcases hdj with hdj | hdj
        · exact .inl (hcl j hj hdj k hk)
        · rw [Nat.beq_eq] at hdj; subst hdj; exact .inl (hbd k hk)
      have hc' : (List.range ops.length).countP (fun j => !don (listed.setIfInBounds i true) j) ≤ fuel := by
        have key : ∀ (l : List Nat), i ∈ l → l.countP (fun j => !don (listed.setIfInBounds i true) j) + 1 ≤ l.countP (fun j => !don listed j) := by
          intro l
          have hle : ∀ (l : List Nat), l.countP (fun j => !don (listed.setIfInBounds i true) j) ≤ l.countP (fun j => !don listed j) := by
            intro l
            refine List.countP_mono_left fun x _ hx => ?_
            rw [don_set hls] at hx
            simp at hx ⊢; exact hx.1
          induction l with
          | nil => intro h; cases h
          | cons x l ihl =>
            intro h
            rw [List.countP_cons, List.countP_cons]
            by_cases hxi : x = i
            · subst hxi
              have e1 : (!don (listed.setIfInBounds x true) x) = false := by rw [don_set hls]; simp
              have e2 : (!don listed x) = true := by rw [hnd]; rfl
              rw [e1, e2]; simp; exact hle l
            · have := ihl ((List.mem_cons.1 h).resolve_left (fun e => hxi e.symm))
              have e1 : (!don (listed.setIfInBounds i true) x) = (!don listed x) := by
                rw [don_set hls]
                have : Nat.beq i x = false := by
                  cases hb : Nat.beq i x with
                  | false => rfl
                  | true => rw [Nat.beq_eq] at hb; exact absurd hb.symm hxi
                rw [this]; simp
              rw [e1]; omega
        have := key _ (List.mem_range.2 hlt); omega
      -- the step
      have main : if Region.wanted o (yielded ops.toArray a.tmps) then o.wp P a w (wpAny P .any ops.toArray Q fuel (listed.setIfInBounds i true)) Q else (wpAny P .any ops.toArray Q fuel (listed.setIfInBounds i true)) (a.put o.dst undef) w := by
        have hS1 : SatP E.N E.mrk B W M0 ops (refsOf ops ops) (fun j => don listed j = true) ⟨stF ops f0 (R us) (don listed), stH ks H0 nx0 (R us) (don listed), nx0 + i⟩ M a w := hS.weaken (fun _ _ h => h) (fun _ _ h => h)
        refine stepOp_okP hT hΨ hS1 (i := i) (S' := fun j => don (listed.setIfInBounds i true) j = true) (by rw [hnd]; simp) (fun j hj => by rw [don_set hls, hj]; rfl) (kn := kn) (fun j b hg => hbd j (hck.gd j b hg)) fun u => ?_
        -- what this operation brings is 'u'
        let us' : Nat → Value := fun n => match Nat.beq n i with | true => u | false => us n
        have hus : us' i = u := by simp [us']
        have husne : ∀ n, n ≠ i → us' n = us n := by
          intro n hn
          have : Nat.beq n i = false := by
            cases hb : Nat.beq n i with
            | false => rfl
            | true => rw [Nat.beq_eq] at hb; exact absurd hb hn
          simp [us', this]
        have hsame : ∀ k, k < ops.length → don listed k = true → R us k = R us' k := by
          intro k hk hdk
          refine hF.dep k (hdm k hdk) us us' fun l hl => (husne l ?_).symm
          rintro rfl
          rcases hl with rfl | hl
          · rw [hnd] at hdk; cases hdk
          · rw [hcl k hk hdk _ hl] at hnd; cases hnd
        have hsameR : ∀ k, don listed k = true → R us k = R us' k := by
          intro k hdk
          rcases Nat.lt_or_ge k ops.length with h | h
          · exact hsame k h hdk
          · have := hF.le; rw [hF.out us k (by omega), hF.out us' k (by omega)]
        have eF : stF ops f0 (R us) (don listed) = stF ops f0 (R us') (don listed) := stF_congr hsame
        have leHH : leF (stH ks H0 nx0 (R us') (don listed)) (stH ks H0 nx0 (R us) (don listed)) := stH_le fun k hk => by rw [hsameR k hk]
        have leHH' : leF (stH ks H0 nx0 (R us) (don listed)) (stH ks H0 nx0 (R us') (don listed)) := stH_le fun k hk => by rw [hsameR k hk]
        have eH : stH ks H0 nx0 (R us) (don listed) = stH ks H0 nx0 (R us') (don listed) := by
          funext n
          cases e : stH ks H0 nx0 (R us) (don listed) n with
          | some x => rw [leHH' _ _ e]
          | none =>
            cases e' : stH ks H0 nx0 (R us') (don listed) n with
            | none => rfl
            | some x => rw [leHH _ _ e'] at e; cases e
        obtain ⟨e, ob, hb, kill, r1, r2, r3, r4⟩ := hF.st us' i o him ho'
        rw [hus] at r2
        have lF : leF (mF ops ms f0 (R us') i) (stF ops f0 (R us') (don listed)) := by
          intro s x hx
          simp only [mF] at hx
          simp only [stF]
          split at hx
          · exact hx
          · rename_i k hw
            obtain ⟨ok, _, q2, _⟩ := wrOf_some hw
            have hkl : k < ops.length := by have := (List.getElem?_eq_some_iff.1 q2).1; simpa using this
            split at hx
            · rename_i hbk; simp only [hbd k hbk]; exact hx
            · split at hx
              · rename_i hbk
                have : don listed k = false := by
                  cases hdk : don listed k with
                  | false => rfl
                  | true =>
                    exfalso
                    rw [Bool.or_eq_true] at hbk
                    rcases hbk with hbk | hbk
                    · rw [hcl k hkl hdk i hbk] at hnd; cases hnd
                    · rw [Nat.beq_eq] at hbk; subst hbk; rw [hnd] at hdk; cases hdk
                simp only [this]; exact hx
              · cases hx
        have lH : leF (mH ms ks H0 nx0 (R us') i) (stH ks H0 nx0 (R us') (don listed)) := by
          intro n x hx
          simp only [mH] at hx
          simp only [stH]
          split at hx
          · cases hx
          · rename_i hk
            have hk' : killed ks (fun k => don listed k && Nat.blt k ops.length) n = false := by
              cases hk' : killed ks (fun k => don listed k && Nat.blt k ops.length) n with
              | false => rfl
              | true =>
                exfalso
                rw [killed_mono (fun k hdk => ?_) hk'] at hk
                · cases hk
                · rw [Bool.and_eq_true, Nat.blt_eq] at hdk
                  rw [Bool.not_eq_true', Bool.or_eq_false_iff]
                  refine ⟨?_, ?_⟩
                  · cases hb : bef ms i k with
                    | false => rfl
                    | true => rw [hcl k hdk.2 hdk.1 i hb] at hnd; cases hnd
                  · cases hb : Nat.beq i k with
                    | false => rfl
                    | true => rw [Nat.beq_eq] at hb; subst hb; rw [hnd] at hdk; cases hdk.1
            have hk2 : killed ks (don listed) n = false := by
              have : (don listed) = fun k => don listed k && Nat.blt k ops.length := by
                funext k
                cases hd : don listed k with
                | false => rfl
                | true =>
                  have : k < ops.length := by
                    rcases Nat.lt_or_ge k listed.size with h' | h'
                    · omega
                    · unfold don at hd; simp [Array.getElem?_eq_none h'] at hd
                  simp [this]
              rw [this]; exact hk'
            rw [hk2]
            split at hx
            · exact hx
            · split at hx
              · rename_i hbn; simp only [hbd _ hbn]; exact hx
              · cases hx
        have r5 := stepD_mono lF lH r2
        rw [← eF, ← eH] at r5
        obtain ⟨nx', r6⟩ := stepD_stepOp hck.dst r5
        refine ⟨_, ob, r6, r3, fun a' w' M' hS' => ?_⟩
        refine ih (listed.setIfInBounds i true) a' w' hsz' hcl' hdm' hc' ⟨us', M', ?_⟩
        refine hS'.weaken (fun s x hx => ?_) (fun n x hx => ?_)
        · -- the slots
          simp only [stF] at hx
          have hput : ∀ s, o.dst ≠ some s → putF (stF ops f0 (R us) (don listed)) o.dst e s = stF ops f0 (R us) (don listed) s := by
            intro s hs
            cases hd : o.dst with
            | none => rfl
            | some d =>
              have : Nat.beq s d = false := by
                cases hb : Nat.beq s d with
                | false => rfl
                | true => rw [Nat.beq_eq] at hb; subst hb; exact absurd hd hs
              simp only [putF, updF, this]
          by_cases hd : o.dst = some s
          · have hw := wrOf_dst (i := 0) hF.nd ho' hd
            rw [Nat.zero_add] at hw
            rw [hw] at hx
            have : don (listed.setIfInBounds i true) i = true := by rw [don_set hls]; simp
            simp only [this, r1, drE] at hx
            rw [hd]
            simp only [putF, updF, Nat.beq_refl]
            exact hx
          · rw [hput s hd, eF]
            simp only [stF]
            split at hx
            · exact hx
            · rename_i k hw
              have hki : Nat.beq i k = false := by
                cases hb : Nat.beq i k with
                | false => rfl
                | true =>
                  rw [Nat.beq_eq] at hb; subst hb
                  obtain ⟨ok, _, q2, q3⟩ := wrOf_some hw
                  have : ops[i]? = some ok := by simpa using q2
                  rw [ho'] at this; cases this
                  exact absurd q3 hd
              rw [don_set hls, hki, Bool.or_false] at hx
              exact hx
        · -- the names
          simp only [stH] at hx
          split at hx
          · cases hx
          · rename_i hk
            have hfe : don (listed.setIfInBounds i true) = fun k => don listed k || Nat.beq i k := by funext k; exact don_set hls
            rw [hfe, killed_or, Bool.or_eq_false_iff] at hk
            have hkn : ∀ m, kill = some m → m ≠ n := by
              rintro m hm rfl
              rw [r4 m hm] at hk; cases hk.2
            have old : stH ks H0 nx0 (R us) (don listed) n = some x → n ≠ nx0 + i → updU (stH ks H0 nx0 (R us) (don listed)) (nx0 + i) hb kill n = some x := by
              intro h1 h2
              cases hb with
              | none => exact h1
              | some b =>
                simp only [updU]
                rw [updH_ne _ _ h2]
                cases kill with
                | none => exact h1
                | some m => simp only; rw [updH_ne _ _ (fun e => hkn m rfl e.symm)]; exact h1
            split at hx
            · rename_i hn
              rw [Nat.blt_eq] at hn
              refine old ?_ (by omega)
              simp only [stH, hk.1, (by rw [Nat.blt_eq]; exact hn : Nat.blt n nx0 = true)]
              exact hx
            · rename_i hn
              have hn' : ¬ n < nx0 := fun h => by rw [(by rw [Nat.blt_eq]; exact h : Nat.blt n nx0 = true)] at hn; cases hn
              split at hx
              · rename_i hd
                rw [don_set hls, Bool.or_eq_true] at hd
                by_cases hni : n - nx0 = i
                · rw [hni, r1] at hx
                  simp only [drH] at hx
                  have : n = nx0 + i := by omega
                  subst this
                  rw [hx]
                  simp only [updU]
                  rw [updH_same]
                · have hd' : don listed (n - nx0) = true := by
                    rcases hd with hd | hd
                    · exact hd
                    · rw [Nat.beq_eq] at hd; exact absurd hd.symm hni
                  refine old ?_ (by omega)
                  simp only [stH, hk.1, hn, hd', hsameR _ hd']
                  exact hx
              · cases hx
      unfold wpOp
      simp only [ho]
      split
      · rename_i hw; rw [if_pos hw] at main; exact .inl main
      · rename_i hw; rw [if_neg hw] at main; exact main

def isDraw : Code → Bool
  | .region _ _ true => true
  | _ => false

theorem dGo_out {bs : Nat → Value} : ∀ {l : List Oper} {i : Nat} {res res' : Nat → Option DR} {p p' : Prop}, dGo E kn ops ms ks f0 H0 nx0 bs l i res p = some (res', p') → ∀ j, i + l.length ≤ j → res' j = res j := by
  intro l
  induction l with
  | nil => intro i res res' p p' h j hj; cases h; rfl
  | cons x l ih =>
    intro i res res' p p' h j hj
    simp only [dGo] at h
    split at h
    · split at h
      · rw [ih h j (by simp at hj ⊢; omega)]
        have : Nat.beq j i = false := by
          cases hb : Nat.beq j i with
          | false => rfl
          | true => rw [Nat.beq_eq] at hb; simp at hj; omega
        simp only [this]
      · cases h
    · cases h

theorem Sat.drawn {N : Nat} {mrk : Bool} (hS : Sat N mrk B W M0 [] [] 0 st M a w) (n : Nat) : Sat N mrk B W M0 [] [] 0 st M a { w with drawn := n } := by
  refine ⟨⟨⟨hS.h.below.os, hS.h.below.tape, hS.h.below.output, hS.h.below.size, hS.h.below.block⟩, hS.h.base, hS.h.mem, fun m x hx => ?_, hS.h.inj⟩, hS.old, hS.d, hS.n, hS.f, hS.g⟩
  have := hS.h.ok m x hx
  cases x with
  | blk b ty cs => exact this
  | own v ty k l => exact this

/-- A REGION THAT DRAWS ITS ORDER: up to operation 'm'; behind it the text's own order is the only one. -/
theorem G_draw (hT : TbOk P E.T) (hΨ : PsiOk P E) (hm : P.follows .mixedOrders = true) (kn : Nat → Option Bool) (m : Nat) (ms : List Nat) (ks : List (Nat × Nat)) {c : Code} (hd : isDraw c = true) (hchk : chkD E.N (opsOf c) m ms = true)
    {st' : (Nat → Value) → St} {ob : (Nat → Value) → Prop} (h : ∀ bs, drawD E kn (opsOf c) m ms ks st bs = some (st' bs, ob bs)) (ho : ∀ bs, ob bs) (hk : ∀ bs, G P E B W M0 Q (.ops (opsOf c) m :: k) (st' bs)) (hro : E.ro = none := by rfl) : G P E B W M0 Q (.code c :: k) st := by
  intro M a w hS
  cases c <;> simp only [isDraw, Bool.false_eq_true] at hd
  rename_i id ops dr
  cases dr <;> simp only [isDraw, Bool.false_eq_true] at hd
  obtain ⟨ops⟩ := ops
  simp only [opsOf] at hchk h hk
  simp only [chkD, Bool.and_eq_true, Nat.ble_eq, len_eq] at hchk
  obtain ⟨⟨hc1, hc2⟩, hc3, hc4⟩ := hchk
  refine wpIn_wide.2 ?_ |> fun (h : cwp none P (Code.region id ops.toArray true) (after none P Q k) a w) => (by simp only [after, hro]; exact h)
  refine wp_region_any hm ?_
  obtain ⟨f0, H0, nx0⟩ := st
  have hS0 : Sat E.N E.mrk B W M0 [] [] 0 ⟨f0, H0, nx0⟩ M a w := hS
  have hS1 := hS0.drawn (w.drawn + 1)
  have hck : ∀ (j : Nat) (o : Oper), ops[j]? = some o → ChkO E.N ops ms j o := fun j o hj => by
    have := chkO_ok rfl hc2 j o hj
    rwa [Nat.zero_add] at this
  -- what is reckoned
  have hR : ∀ bs, ∃ res p, dGo E kn ops ms ks f0 H0 nx0 bs (tke m ops) 0 (fun _ => none) True = some (res, p) ∧ p ∧ st' bs = ⟨stF ops f0 res (ltB m), stH ks H0 nx0 res (ltB m), nx0 + m⟩ := by
    intro bs
    have := h bs
    simp only [drawD] at this
    split at this
    · rename_i res p hg
      simp only [Option.some.injEq, Prod.mk.injEq] at this
      exact ⟨res, p, hg, by rw [this.2]; exact ho bs, this.1.symm⟩
    · cases this
  let R : (Nat → Value) → Nat → Option DR := fun bs => Classical.choose (hR bs)
  have hR2 : ∀ bs, ∃ p, dGo E kn ops ms ks f0 H0 nx0 bs (tke m ops) 0 (fun _ => none) True = some (R bs, p) ∧ p ∧ st' bs = ⟨stF ops f0 (R bs) (ltB m), stH ks H0 nx0 (R bs) (ltB m), nx0 + m⟩ := fun bs => Classical.choose_spec (hR bs)
  have hF : Facts E kn ops m ms ks f0 H0 nx0 R := by
    refine ⟨hck, hc1, hc3, tailB_ok hc4, fun us j o hjm hj => ?_, fun us j hj => ?_⟩
    · obtain ⟨p, h1, h2, _⟩ := hR2 us
      obtain ⟨_, _, g3⟩ := dGo_ok (m := m) (bef_lt hck) (i := 0) (by rw [tke_eq]; simp) h1
      obtain ⟨e, ob', hb, kill, q1, q2, q3, q4⟩ := g3 j o (Nat.zero_le _) hjm hj
      exact ⟨e, ob', hb, kill, q1, q2, q3 h2, q4⟩
    · obtain ⟨p, h1, h2, _⟩ := hR2 us
      exact dGo_out h1 j (by rw [tke_eq, List.length_take]; omega)
  have hnone : ∀ j, don (Array.replicate ops.toArray.size false) j = false := by
    intro j
    unfold don
    simp only [Array.getD_eq_getD_getElem?, Array.getElem?_replicate]
    split <;> rfl
  refine any_ok (B := B) (W := W) (M0 := M0) (Q := after none P Q k) hT hΨ hF (fun us M' a' w' hS' => ?_) _ _ _ _ (by simp) (fun j _ hd => by rw [hnone j] at hd; cases hd) (fun j hd => by rw [hnone j] at hd; cases hd) ?_ ⟨fun _ => undef, M, ?_⟩
  · obtain ⟨p, h1, h2, h3⟩ := hR2 us
    have := hk us
    rw [h3] at this
    have := this M' a' w' hS'
    rw [hro] at this
    exact this
  · refine Nat.le_trans List.countP_le_length ?_
    simp
  · have hd0 : don (Array.replicate ops.toArray.size false) = fun _ => false := funext hnone
    rw [hd0]
    have e1 : stF ops f0 (R fun _ => undef) (fun _ => false) = f0 := by
      funext s; simp only [stF]; split <;> rfl
    have h4 : SatP E.N E.mrk B W M0 ops (refsOf ops ops) (fun j => (fun _ => false : Nat → Bool) j = true) ⟨f0, H0, nx0⟩ M a { w with drawn := w.drawn + 1 } := by
      refine ⟨hS1.h, hS1.old, hS1.d, hS1.n, fun s e he => ?_, fun s j b x hx => ?_⟩
      · cases e with
        | u x => exact hS1.f s _ he
        | gd j b x => have := (hS1.g s j b x he).1; simp at this
      · have := (hS1.g s j b x hx).1; simp at this
    refine h4.weaken (by rw [e1]; exact fun _ _ h => h) (fun n x hx => ?_)
    simp only [stH] at hx
    split at hx
    · cases hx
    · split at hx
      · exact hx
      · cases hx
end
end Go.Mt
