/-
  Mt, part ZD: small rules: a state's next name written out; a block's number forgotten; an own slice in a cell that nothing turns any more.
-/
import Derived.Test.YtnmomckmpknbkaaMtZC
set_option linter.unusedSimpArgs false
set_option linter.unusedVariables false
namespace Go.Mt
open Go.RowKit
section
variable {P : Program} {E : Env} {B : Nat} {W : World} {M0 : Mem} {Q : Exit → Act → World → Prop} {k : List Itm} {st : St}

theorem G_nx (n : Nat) (h : st.nx = n) (hk : G P E B W M0 Q k ⟨st.f, st.H, n⟩) : G P E B W M0 Q k st := by
  subst h; exact hk
theorem G_wkB {ns : List Nat} {fs : Nat → List (Nat × A)} {hs : Nat → List HB} (b : Nat) (h0 : hdI k = 0) (h : Wk st ns (fs b) (hs b)) (hk : ∀ b, G P E B W M0 Q k (mk (fs b) (hs b))) : G P E B W M0 Q k st :=
  G_wk h0 h (hk b)
theorem G_wkB2 {ns : List Nat} {fs : Nat → Nat → List (Nat × A)} {hs : Nat → Nat → List HB} (b c : Nat) (h0 : hdI k = 0) (h : Wk st ns (fs b c) (hs b c)) (hk : ∀ b c, G P E B W M0 Q k (mk (fs b c) (hs b c))) : G P E B W M0 Q k st :=
  G_wk h0 h (hk b c)
theorem G_wkB3 {ns : List Nat} {fs : Nat → Nat → Nat → List (Nat × A)} {hs : Nat → Nat → Nat → List HB} (b c d : Nat) (h0 : hdI k = 0) (h : Wk st ns (fs b c d) (hs b c d)) (hk : ∀ b c d, G P E B W M0 Q k (mk (fs b c d) (hs b c d))) : G P E B W M0 Q k st :=
  G_wk h0 h (hk b c d)

/-- An own slice that stands in a variable's cell, which nothing turns any more. -/
theorem G_freezeC (n j m : Nat) {b : Nat} {ty ty' : TypeId} {cs : List C} {v : Value} {lk : LK} {l : List lk.T} (hn : st.H n = some (.blk b ty cs)) (hj : nth cs j = some (.own m v)) (hm : st.H m = some (.own v ty' lk l))
    (hk : G P E B W M0 Q k ⟨st.f, updH (updH st.H m none) n (some (.blk b ty (cs.set j (.pv (.lst lk l))))), st.nx⟩) : G P E B W M0 Q k st := by
  have hnm : n ≠ m := fun e => by subst e; rw [hn] at hm; cases hm
  intro M a w hS
  obtain ⟨M', h1, h2, h3⟩ := hS.h.freeze hm (H' := updH st.H m none) (fun q x hq => by
    by_cases e : q = m
    · subst e; rw [updH_same] at hq; cases hq
    · rw [updH_ne _ _ e] at hq; exact ⟨e, hq⟩)
  have hn' : updH st.H m none n = some (.blk b ty cs) := by rw [updH_ne _ _ hnm]; exact hn
  have hSH : SatH B W (updH (updH st.H m none) n (some (.blk b ty (cs.set j (.pv (.lst lk l)))))) M' w := by
    refine ⟨h2.below, h2.base, h2.mem, fun q x hx => ?_, fun q q' x x' c hq e1 e2 hb => ?_⟩
    · by_cases e : q = n
      · subst e; rw [updH_same] at hx; cases hx
        obtain ⟨q1, q2, us, q3, q4⟩ := h2.ok _ _ hn'
        refine ⟨q1, q2, us, q3, by simpa using q4.1, fun i c u e1 e2 => ?_⟩
        rw [List.getElem?_set] at e1
        split at e1
        · rename_i hij
          split at e1
          · cases e1
            rw [nth_eq] at hj
            have := q4.2 i _ u (by rw [← hij]; exact hj) e2
            cases this with
            | own h => exact .pv h3
          · cases e1
        · exact q4.2 i c u e1 e2
      · rw [updH_ne _ _ e] at hx; exact h2.ok q x hx
    · have key : ∀ q x, updH (updH st.H m none) n (some (.blk b ty (cs.set j (.pv (.lst lk l))))) q = some x → ∃ y, updH st.H m none q = some y ∧ y.block = x.block := by
        intro q x hx
        by_cases e : q = n
        · subst e; rw [updH_same] at hx; cases hx; exact ⟨_, hn', rfl⟩
        · rw [updH_ne _ _ e] at hx; exact ⟨x, hx, rfl⟩
      obtain ⟨y, y1, y2⟩ := key q x e1
      obtain ⟨y', y1', y2'⟩ := key q' x' e2
      rw [← y2'] ; exact h2.inj q q' y y' c hq y1 y1' (by rw [y2]; exact hb)
  exact hk M' a w ⟨hSH, fun k o e hk => hS.old k o (h1.2 k o e hk) hk, hS.d.mono h1.1 rfl, hS.n, fun s e he => by
    obtain ⟨u, u1, u2⟩ := hS.f s e he
    exact ⟨u, u1, u2.mono h1.1⟩, hS.g⟩
end
end Go.Mt
