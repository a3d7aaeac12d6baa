/-
  Mt, part H: how what is known of memory goes on: a new block, a store, an append, a call.
-/
import Derived.Test.YtnmomckmpknbkaaMtG
set_option linter.unusedSimpArgs false
set_option linter.unusedVariables false
namespace Go.Mt
open Go.RowKit
section
variable {P : Program} {T : Tb} {w w' : World} {M F : Mem} {B : Nat} {W : World} {H H' : Nat → Option HB}

def Mem.or (M F : Mem) : Mem := fun k => match F k with
  | some o => some o
  | none => M k
def Fresh (F : Mem) (n : Nat) (w' : World) : Prop := ∀ k o, F k = some o → n ≤ k ∧ w'.heap[k]? = some o
def Mem.all (w : World) : Mem := fun k => w.heap[k]?
theorem Mem.all_on (w : World) : (Mem.all w).on w := fun _ _ h => h
theorem Mem.le_all {M : Mem} {w : World} (h : M.on w) : M.le (Mem.all w) := h
theorem Mem.none_of_size {M : Mem} {w : World} (h : M.on w) {k : Nat} (hk : w.heap.size ≤ k) : M k = none := by
  cases e : M k with
  | none => rfl
  | some o => have := h k o e; rw [Array.getElem?_eq_none hk] at this; cases this
theorem Mem.le_or {M F : Mem} {w w' : World} (h : M.on w) (hF : Fresh F w.heap.size w') : M.le (M.or F) := by
  intro k o e
  unfold Mem.or
  cases hf : F k with
  | none => exact e
  | some o' =>
    have := (hF k o' hf).1
    rw [Mem.none_of_size h this] at e; cases e
/-- M grows by blocks from B on alone. -/
def Mem.ext (B : Nat) (M M' : Mem) : Prop := M.le M' ∧ ∀ k o, M' k = some o → k < B → M k = some o
theorem Mem.ext_refl (B : Nat) (M : Mem) : Mem.ext B M M := ⟨Mem.le_refl _, fun _ _ h _ => h⟩
theorem Mem.ext_or {B : Nat} {M F : Mem} {w w' : World} (h : M.on w) (hB : B ≤ w.heap.size) (hF : Fresh F w.heap.size w') : Mem.ext B M (M.or F) := by
  refine ⟨Mem.le_or h hF, fun k o e hk => ?_⟩
  unfold Mem.or at e
  cases hf : F k with
  | none => simpa [hf] using e
  | some o' => have := (hF k o' hf).1; omega
theorem Mem.or_le {M F : Mem} : F.le (M.or F) := by intro k o e; simp [Mem.or, e]

theorem HB.block_lt {x : HB} (h : HBok M B w x) {b : Nat} (hb : x.block = some b) : B ≤ b ∧ b < w.heap.size ∧ M b = none := by
  cases x with
  | blk b' ty cs =>
    cases hb
    obtain ⟨h1, h2, us, h3, _⟩ := h
    exact ⟨h1, (Array.getElem?_eq_some_iff.1 h3).1, h2⟩
  | own v ty k l =>
    rcases h with ⟨rfl, rfl⟩ | ⟨b', cap, us, rfl, h1, h2, h3, _⟩
    · cases hb
    · cases hb
      exact ⟨h1, (Array.getElem?_eq_some_iff.1 h3).1, h2⟩

/-- A block's facts go on where the block is as it was. -/
theorem HBok.keep {M' : Mem} {x : HB} (h : HBok M B w x) (hM : M.le M') (hMn : ∀ b, x.block = some b → M' b = none) (hb : ∀ b, x.block = some b → w'.heap[b]? = w.heap[b]?) : HBok M' B w' x := by
  cases x with
  | blk b ty cs =>
    obtain ⟨h1, h2, us, h3, h4⟩ := h
    exact ⟨h1, hMn b rfl, us, (hb b rfl).trans h3, h4.mono hM⟩
  | own v ty k l =>
    rcases h with ⟨rfl, rfl⟩ | ⟨b, cap, us, rfl, h1, h2, h3, h4, h5, h6, h7⟩
    · exact .inl ⟨rfl, rfl⟩
    · exact .inr ⟨b, cap, us, rfl, h1, hMn b rfl, (hb b rfl).trans h3, h4, h5, h6, fun i x j y e1 e2 => let ⟨u, hu, hr⟩ := h7 i x j y e1 e2; ⟨u, hu, hr.mono hM⟩⟩

theorem SatH.step (hS : SatH B W H M w) {row : Option Nat} (hg : w.grownBy w' row) (hrow : ∀ b, row = some b → B ≤ b ∧ M b = none) {nn : Nat} {xx : HB}
    (hH : ∀ n x, n ≠ nn → H' n = some x → H n = some x ∧ ∀ b, row = some b → x.block ≠ some b) (hnn : H' nn = some xx) (hx : HBok M B w' xx) (hf : ∀ b, xx.block = some b → w.heap.size ≤ b ∨ row = some b) : SatH B W H' M w' := by
  have hne : ∀ n x b, n ≠ nn → H' n = some x → x.block = some b → xx.block ≠ some b := by
    intro n x b hn hx' hb hb'
    obtain ⟨h1, h2⟩ := hH n x hn hx'
    rcases hf b hb' with h | h
    · have := (HB.block_lt (hS.ok n x h1) hb).2.1; omega
    · exact h2 b h hb
  refine ⟨?_, Nat.le_trans hS.base hg.size, ?_, ?_, ?_⟩
  · exact hS.below.grown hg hS.base (fun k hk => (hrow k hk).1)
  · intro k o e
    have hlt : k < w.heap.size := (Array.getElem?_eq_some_iff.1 (hS.mem k o e)).1
    rw [hg.block k hlt (fun h => by have := (hrow k h.symm).2; rw [e] at this; cases this)]
    exact hS.mem k o e
  · intro n x hx'
    by_cases hn : n = nn
    · subst hn; rw [hnn] at hx'; cases hx'; exact hx
    · obtain ⟨h1, h2⟩ := hH n x hn hx'
      have hok := hS.ok n x h1
      refine hok.keep (Mem.le_refl _) (fun b hb => (HB.block_lt hok hb).2.2) (fun b hb => hg.block b (HB.block_lt hok hb).2.1 (fun h => h2 b h.symm hb))
  · intro n n' x x' b hnn' h1 h2 hb
    by_cases hn : n = nn
    · subst hn; rw [hnn] at h1; cases h1
      exact fun h => hne n' x' b (fun e => hnn' e.symm) h2 h hb
    · by_cases hn' : n' = nn
      · subst hn'; rw [hnn] at h2; cases h2
        exact hne n x b hn h1 hb
      · exact hS.inj n n' x x' b hnn' (hH n x hn h1).1 (hH n' x' hn' h2).1 hb

/-- What is forgotten. -/
theorem SatH.less (hS : SatH B W H M w) (hH : ∀ n x, H' n = some x → H n = some x) : SatH B W H' M w :=
  ⟨hS.below, hS.base, hS.mem, fun n x h => hS.ok n x (hH n x h), fun n n' x x' b hn h1 h2 => hS.inj n n' x x' b hn (hH n x h1) (hH n' x' h2)⟩

/-- Behind a call that turns nothing that was there. -/
theorem SatH.call (hS : SatH B W H M w) (hb : Below w.heap.size w w') (hF : Fresh F w.heap.size w') : SatH B W H (M.or F) w' := by
  have hle := Mem.le_or hS.mem hF
  refine ⟨hS.below.trans (hb.mono hS.base), Nat.le_trans hS.base hb.size, ?_, ?_, hS.inj⟩
  · intro k o e
    unfold Mem.or at e
    cases hf : F k with
    | none =>
      simp only [hf] at e
      have hlt : k < w.heap.size := (Array.getElem?_eq_some_iff.1 (hS.mem k o e)).1
      rw [hb.block k hlt]; exact hS.mem k o e
    | some o' => simp only [hf] at e; cases e; exact (hF k _ hf).2
  · intro n x hx
    have hok := hS.ok n x hx
    refine hok.keep hle (fun b hb' => ?_) (fun b hb' => hb.block b (HB.block_lt hok hb').2.1)
    obtain ⟨_, h2, h3⟩ := HB.block_lt hok hb'
    unfold Mem.or
    cases hf : F b with
    | none => exact h3
    | some o => have := (hF b o hf).1; omega

/-- A block of one's own let go: nothing turns it any more. -/
theorem SatH.freeze (hS : SatH B W H M w) {n : Nat} {v : Value} {ty : TypeId} {k : LK} {l : List k.T} (hn : H n = some (.own v ty k l)) (hH : ∀ m x, H' m = some x → m ≠ n ∧ H m = some x) :
    ∃ M', Mem.ext B M M' ∧ SatH B W H' M' w ∧ R M' (.lst k l) v := by
  rcases hS.ok n _ hn with ⟨rfl, rfl⟩ | ⟨b, cap, us, rfl, h1, h2, h3, h4, h5, h6, h7⟩
  · exact ⟨M, Mem.ext_refl _ _, hS.less (fun m x h => (hH m x h).2), R.lst_nil _ _⟩
  · refine ⟨fun j => if j = b then w.heap[b]? else M j, ?_, ?_, ?_⟩
    · refine ⟨fun j o e => ?_, fun j o e hj => ?_⟩
      · by_cases hj : j = b
        · subst hj; rw [h2] at e; cases e
        · simp [hj, e]
      · have hjb : j ≠ b := by omega
        simpa [hjb] using e
    · have hle : M.le (fun j => if j = b then w.heap[b]? else M j) := by
        intro j o e
        by_cases hj : j = b
        · subst hj; rw [h2] at e; cases e
        · simp [hj, e]
      refine ⟨hS.below, hS.base, ?_, ?_, fun m m' x x' c hm a1 a2 => hS.inj m m' x x' c hm (hH m x a1).2 (hH m' x' a2).2⟩
      · intro j o e
        by_cases hj : j = b
        · subst hj; simpa using e
        · simp only [hj, if_false] at e; exact hS.mem j o e
      · intro m x hx
        obtain ⟨e1, e2⟩ := hH m x hx
        have hok := hS.ok m x e2
        refine hok.keep hle (fun c hc => ?_) (fun c hc => rfl)
        have hcb : c ≠ b := fun e => hS.inj n m _ x b (fun h => e1 h.symm) hn e2 rfl (e ▸ hc)
        simp only [hcb, if_false]; exact (HB.block_lt hok hc).2.2
    · refine R.lst_mk (b := b) (o := 0) rfl h4 h5 (fun _ => rfl) (by simp) (fun i x j y e1 e2 => ?_)
      obtain ⟨u, hu, hr⟩ := h7 i x j y e1 e2
      refine ⟨u, by simp [Mem.cell, h3, hu], hr.mono ?_⟩
      intro j o e
      by_cases hj : j = b
      · subst hj; rw [h2] at e; cases e
      · simp [hj, e]

theorem grownBy_refl (w : World) (row : Option Nat) : w.grownBy w row := ⟨rfl, rfl, rfl, Nat.le_refl _, fun _ _ _ => rfl⟩
theorem grownBy_drew (w : World) (row : Option Nat) : w.grownBy w.drew row := ⟨rfl, rfl, rfl, Nat.le_refl _, fun _ _ _ => rfl⟩
theorem grownBy_setRow (w : World) (g : Nat) (cs : Array Value) : w.grownBy (w.setRow g cs) (some g) := by
  refine ⟨rfl, rfl, rfl, by simp, fun k hk hne => ?_⟩
  simp only [World.setRow, Array.getElem?_modify]
  rw [if_neg (fun e => hne (by rw [e]))]
end
end Go.Mt
