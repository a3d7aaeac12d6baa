import Derived.Test.YtnmomckmpknbkaaTabJ
set_option linter.unusedSimpArgs false
set_option linter.unusedVariables false
namespace Go.Proofs.Ytnmomckmpknbkaa
open Go.Mt

theorem putL_ok (l : List UInt8) (n : Nat) (v : Int) (h1 : 1 ≤ n) (h8 : n ≤ 8) (h0 : 0 ≤ v) (hv : v < (256 ^ n : Nat)) : putL l n false v = l ++ putB n false (v.toNat : Nat) n := by
  have e : v = ((v.toNat : Nat) : Int) := by omega
  have he := putE_ok n v.toNat (by omega) (by omega) (by simp only [Int.toNat_natCast]; omega)
  rw [e]
  simp only [putL, he, if_true, Int.toNat_natCast]
def encL (k st ct sz sm : Int) : List UInt8 := [UInt8.ofNat k.toNat, 0] ++ putB 2 false (ct.toNat : Nat) 2 ++ putB 4 false (st.toNat : Nat) 4 ++ putB 4 false (sz.toNat : Nat) 4 ++ putB 4 false (sm.toNat : Nat) 4
theorem entL_enc {k st ct sz sm c : Int} (h : mayE k st ct sz sm c = true) (hs : 0 ≤ sm ∧ sm ≤ 4294967295) : entL k st ct sz sm c = encL k st ct sz sm := by
  obtain ⟨f1, f2, f3, f4, f5⟩ := may_facts h
  have e4 : ((256 ^ 4 : Nat) : Int) = 4294967296 := by decide
  have e2 : ((256 ^ 2 : Nat) : Int) = 65536 := by decide
  have q2 := fun l => putL_ok l 2 ct (by omega) (by omega) f3.1 (by omega)
  have q4 := fun l (v : Int) (h : 0 ≤ v) (h2 : v ≤ 4294967295) => putL_ok l 4 v (by omega) (by omega) h (by omega)
  simp only [entL, h, if_true, accL, headL, encL]
  have z2 : ((2 : Nat) : Int) = 2 := rfl
  have z4 : ((4 : Nat) : Int) = 4 := rfl
  rw [z2] at q2
  rw [z4] at q4
  simp only [List.getD_cons_zero, List.getD_cons_succ]
  rw [q2, q4 _ st (by omega) (by omega), q4 _ sz (by omega) (by omega), q4 _ sm (by omega) (by omega)]
theorem enc_len (k st ct sz sm : Int) : (encL k st ct sz sm).length = 16 := by simp [encL, putB]
theorem gF_enc {k st ct sz sm : Int} (hk : 0 ≤ k ∧ k ≤ 255) (h1 : 0 ≤ st ∧ st ≤ 4294967295) (h2 : 0 ≤ ct ∧ ct ≤ 65535) (h3 : 0 ≤ sz ∧ sz ≤ 4294967295) (h4 : 0 ≤ sm ∧ sm ≤ 4294967295) :
    gF (encL k st ct sz sm) = ⟨k, st, ct, sz, sm⟩ ∧ (encL k st ct sz sm).getD 1 0 = 0 := by
  have a0 : (((encL k st ct sz sm).getD 0 0).toNat : Int) = k := by
    have : (encL k st ct sz sm).getD 0 0 = UInt8.ofNat k.toNat := by simp [encL]
    rw [this, UInt8.toNat_ofNat']; omega
  have g2 := (getV_put [UInt8.ofNat k.toNat, 0] (putB 4 false (st.toNat : Nat) 4 ++ putB 4 false (sz.toNat : Nat) 4 ++ putB 4 false (sm.toNat : Nat) 4) 2 false ct.toNat (by omega) (by omega) (by omega)).1
  have g4 := (getV_put ([UInt8.ofNat k.toNat, 0] ++ putB 2 false (ct.toNat : Nat) 2) (putB 4 false (sz.toNat : Nat) 4 ++ putB 4 false (sm.toNat : Nat) 4) 4 false st.toNat (by omega) (by omega) (by omega)).1
  have g8 := (getV_put ([UInt8.ofNat k.toNat, 0] ++ putB 2 false (ct.toNat : Nat) 2 ++ putB 4 false (st.toNat : Nat) 4) (putB 4 false (sm.toNat : Nat) 4) 4 false sz.toNat (by omega) (by omega) (by omega)).1
  have g12 := (getV_put ([UInt8.ofNat k.toNat, 0] ++ putB 2 false (ct.toNat : Nat) 2 ++ putB 4 false (st.toNat : Nat) 4 ++ putB 4 false (sz.toNat : Nat) 4) [] 4 false sm.toNat (by omega) (by omega) (by omega)).1
  have l4 : ([UInt8.ofNat k.toNat, 0] ++ putB 2 false (ct.toNat : Nat) 2).length = 4 := by simp [putB]
  have l8 : ([UInt8.ofNat k.toNat, 0] ++ putB 2 false (ct.toNat : Nat) 2 ++ putB 4 false (st.toNat : Nat) 4).length = 8 := by simp [putB]
  have l12 : ([UInt8.ofNat k.toNat, 0] ++ putB 2 false (ct.toNat : Nat) 2 ++ putB 4 false (st.toNat : Nat) 4 ++ putB 4 false (sz.toNat : Nat) 4).length = 12 := by simp [putB]
  rw [l4] at g4; rw [l8] at g8; rw [l12] at g12
  refine ⟨?_, by simp [encL]⟩
  simp only [gF, a0]
  have r2 : getV (encL k st ct sz sm) 2 2 false = ct := by
    have e : encL k st ct sz sm = [UInt8.ofNat k.toNat, 0] ++ putB 2 false (ct.toNat : Nat) 2 ++ (putB 4 false (st.toNat : Nat) 4 ++ putB 4 false (sz.toNat : Nat) 4 ++ putB 4 false (sm.toNat : Nat) 4) := by simp [encL]
    rw [e]
    have g2' : getV _ 2 2 false = ((ct.toNat : Nat) : Int) := g2
    rw [show (putB (2 : Int) false ((ct.toNat : Nat) : Int) 2) = putB ((2 : Nat) : Int) false ((ct.toNat : Nat) : Int) 2 from rfl, g2']; omega
  have r4 : getV (encL k st ct sz sm) 4 4 false = st := by
    have e : encL k st ct sz sm = ([UInt8.ofNat k.toNat, 0] ++ putB 2 false (ct.toNat : Nat) 2) ++ putB 4 false (st.toNat : Nat) 4 ++ (putB 4 false (sz.toNat : Nat) 4 ++ putB 4 false (sm.toNat : Nat) 4) := by simp [encL]
    rw [e]
    have g' : getV _ 4 4 false = ((st.toNat : Nat) : Int) := g4
    exact g'.trans (by omega)
  have r8 : getV (encL k st ct sz sm) 8 4 false = sz := by
    have e : encL k st ct sz sm = ([UInt8.ofNat k.toNat, 0] ++ putB 2 false (ct.toNat : Nat) 2 ++ putB 4 false (st.toNat : Nat) 4) ++ putB 4 false (sz.toNat : Nat) 4 ++ (putB 4 false (sm.toNat : Nat) 4) := by simp [encL]
    rw [e]
    have g' : getV _ 8 4 false = ((sz.toNat : Nat) : Int) := g8
    exact g'.trans (by omega)
  have r12 : getV (encL k st ct sz sm) 12 4 false = sm := by
    have e : encL k st ct sz sm = ([UInt8.ofNat k.toNat, 0] ++ putB 2 false (ct.toNat : Nat) 2 ++ putB 4 false (st.toNat : Nat) 4 ++ putB 4 false (sz.toNat : Nat) 4) ++ putB 4 false (sm.toNat : Nat) 4 ++ [] := by simp [encL]
    rw [e]
    have g' : getV _ 12 4 false = ((sm.toNat : Nat) : Int) := g12
    exact g'.trans (by omega)
  rw [r2, r4, r8, r12]

theorem get_put {k st ct sz sm c : Int} (h : mayE k st ct sz sm c = true) (hs : 0 ≤ sm ∧ sm ≤ 4294967295) : gE (entL k st ct sz sm c) c = 0 ∧ gX (entL k st ct sz sm c) c = ⟨k, st, ct, sz, sm⟩ := by
  obtain ⟨f1, f2, f3, f4, f5⟩ := may_facts h
  rw [entL_enc h hs]
  obtain ⟨g1, g2⟩ := gF_enc (k := k) (st := st) (ct := ct) (sz := sz) (sm := sm) (by omega) (by omega) (by omega) (by omega) hs
  have he : gE (encL k st ct sz sm) c = 0 := by
    unfold gE
    rw [if_pos ⟨enc_len _ _ _ _ _, by rw [g2]; rfl, by rw [g1]; exact h⟩]
  exact ⟨he, by simp only [gX, he, if_true, g1]⟩


def okS (e : Entry) : Prop := 0 ≤ e.sum ∧ e.sum ≤ 4294967295
theorem eL_ok {c : Int} {e : Entry} (h : mayX c e = true) (hs : okS e) : (eL c e).length = 16 ∧ gE (eL c e) c = 0 ∧ gX (eL c e) c = e := by
  obtain ⟨g1, g2⟩ := get_put (k := e.kind) (st := e.start) (ct := e.count) (sz := e.size) (sm := e.sum) (c := c) h hs
  refine ⟨?_, g1, g2⟩
  show (entL _ _ _ _ _ _).length = 16
  rw [entL_enc h hs]; exact enc_len _ _ _ _ _
theorem put2 {v : Nat} (h : v < 65536) : putL [] 2 false (v : Int) = putB 2 false (v : Int) 2 := by
  have := putL_ok [] 2 (v : Int) (by omega) (by omega) (by omega) (by simp; omega)
  simpa using this
theorem put2_len' {v : Nat} (h : v < 65536) : (putL [] 2 false (v : Int)).length = 2 := by rw [put2 h]; simp [putB]
theorem entsN_split (c : Int) (l : List Entry) {j m : Nat} (h : j ≤ m) : ∃ R, entsN c l m = entsN c l j ++ R := by
  induction m with
  | zero => have : j = 0 := by omega
            subst this; exact ⟨[], by simp⟩
  | succ m ih =>
    by_cases e : j = m + 1
    · subst e; exact ⟨[], by simp⟩
    · obtain ⟨R, hR⟩ := ih (by omega)
      exact ⟨R ++ eL c (l.getD m entZ), by simp only [entsN, hR, List.append_assoc]⟩
theorem entsN_16 {c : Int} {l : List Entry} (hm : ∀ j, mayX c (l.getD j entZ) = true) (hs : ∀ j, okS (l.getD j entZ)) : ∀ k, (entsN c l k).length = 16 * k := by
  intro k
  induction k with
  | zero => rfl
  | succ k ih => simp only [entsN, List.length_append, ih, (eL_ok (hm k) (hs k)).1]; omega
theorem sl_mid (X E Y : List UInt8) (h : E.length = 16) : sl (X ++ E ++ Y) X.length = E := by
  unfold sl
  rw [show ((X.length : Int) + 16).toNat = (X ++ E).length by simp [h]; omega, Int.toNat_natCast, List.take_left, List.drop_left]
theorem rdL_put {c : Int} {l : List Entry} (h8 : l.length = 8) (hm : ∀ j, mayX c (l.getD j entZ) = true) (hs : ∀ j, okS (l.getD j entZ)) (X Y : List UInt8) : ∀ j, j ≤ 8 → rdL (X ++ entsN c l 8 ++ Y) c X.length j = some (l.take j) := by
  intro j
  induction j with
  | zero => intro _; rfl
  | succ j ih =>
    intro hj
    obtain ⟨R, hR⟩ := entsN_split c l hj
    have e : X ++ entsN c l 8 ++ Y = (X ++ entsN c l j) ++ eL c (l.getD j entZ) ++ (R ++ Y) := by
      rw [hR]; simp only [entsN, List.append_assoc]
    obtain ⟨q1, q2, q3⟩ := eL_ok (hm j) (hs j)
    have hsl := sl_mid (X ++ entsN c l j) (eL c (l.getD j entZ)) (R ++ Y) q1
    rw [← e, List.length_append, entsN_16 hm hs] at hsl
    have hsl : sl (X ++ entsN c l 8 ++ Y) ((X.length : Int) + 16 * (j : Int)) = eL c (l.getD j entZ) := by
      rw [← hsl]; congr 1
    simp only [rdL, ih (by omega), hsl, decide_eq_true q2, q3]
    rw [List.take_add_one, List.getElem?_eq_getElem (by omega)]
    simp only [List.getD, List.getElem?_eq_getElem (show j < l.length by omega), Option.getD_some, Option.toList_some]
theorem bodN_split (c : Int) (t : List (List Entry)) {j m : Nat} (h : j ≤ m) : ∃ R, bodN c t m = bodN c t j ++ R := by
  induction m with
  | zero => have : j = 0 := by omega
            subst this; exact ⟨[], by simp⟩
  | succ m ih =>
    by_cases e : j = m + 1
    · subst e; exact ⟨[], by simp⟩
    · obtain ⟨R, hR⟩ := ih (by omega)
      cases hd : decide ((leaf t m).length = 0) with
      | true => exact ⟨R, by simp only [bodN, hd, hR]⟩
      | false => exact ⟨R ++ (putL [] 2 false m ++ entsN c (leaf t m) 8), by simp only [bodN, hd, hR, List.append_assoc]⟩
def okT (t : List (List Entry)) : Prop := ∀ i j, okS ((leaf t i).getD j entZ)
theorem bodN_130 {c : Int} {t : List (List Entry)} (ht : rightT t 4096 c = true) (hs : okT t) : ∀ i, i ≤ 512 → (bodN c t i).length = 130 * cntN t i := by
  intro i
  induction i with
  | zero => intro _; rfl
  | succ i ih =>
    intro hi
    cases hd : decide ((leaf t i).length = 0) with
    | true => simp only [bodN, cntN, hd]; exact ih (by omega)
    | false =>
      simp only [bodN, cntN, hd, List.length_append, ih (by omega), put2_len' (show i < 65536 by omega), entsN_16 (leaf_may ht i) (hs i)]; omega
theorem take_trim (t : List (List Entry)) : ∀ i, i ≤ t.length → t.take i = t.take (trimN t i) ++ List.replicate (i - trimN t i) [] := by
  intro i
  induction i with
  | zero => intro _; rfl
  | succ i ih =>
    intro hi
    have hle := trimN_le t i
    have hl : t[i]? = some (leaf t i) := by simp [leaf, List.getD, List.getElem?_eq_getElem (show i < t.length by omega)]
    cases hd : decide ((leaf t i).length = 0) with
    | true =>
      have hnil : leaf t i = [] := List.eq_nil_of_length_eq_zero (of_decide_eq_true hd)
      simp only [trimN, hd]
      rw [List.take_add_one, hl, hnil, ih (by omega), show i + 1 - trimN t i = (i - trimN t i) + 1 by omega, List.replicate_succ', List.append_assoc]
      rfl
    | false => simp only [trimN, hd]; simp
theorem rdT_put {c : Int} {t : List (List Entry)} (ht : rightT t 4096 c = true) (hs : okT t) (A Z : List UInt8) : ∀ i, i ≤ t.length → rdT (A ++ bodN c t t.length ++ Z) c A.length (cntN t i) = some (t.take (trimN t i)) := by
  have h512 := right_len ht
  intro i
  induction i with
  | zero => intro _; rfl
  | succ i ih =>
    intro hi
    have hle := trimN_le t i
    cases hd : decide ((leaf t i).length = 0) with
    | true => simp only [cntN, trimN, hd]; exact ih (by omega)
    | false =>
      have h8 : (leaf t i).length = 8 := by
        rcases right_row ht i with h | h
        · rw [decide_eq_false_iff_not] at hd; exact absurd h hd
        · exact h
      obtain ⟨R, hR⟩ := bodN_split c t hi
      have hb : bodN c t (i + 1) = bodN c t i ++ putL [] 2 false i ++ entsN c (leaf t i) 8 := by simp only [bodN, hd]
      have hlen := bodN_130 ht hs i (by omega)
      have e1 : A ++ bodN c t t.length ++ Z = (A ++ bodN c t i) ++ putB ((2 : Nat) : Int) false ((i : Nat) : Int) 2 ++ (entsN c (leaf t i) 8 ++ (R ++ Z)) := by
        rw [hR, hb, put2 (by omega)]; simp only [List.append_assoc]; rfl
      have e2 : A ++ bodN c t t.length ++ Z = (A ++ bodN c t i ++ putB ((2 : Nat) : Int) false ((i : Nat) : Int) 2) ++ entsN c (leaf t i) 8 ++ (R ++ Z) := by
        rw [e1]; simp only [List.append_assoc]
      obtain ⟨g1, g2⟩ := getV_put (A ++ bodN c t i) (entsN c (leaf t i) 8 ++ (R ++ Z)) 2 false i (by omega) (by omega) (by omega)
      have g3 := rdL_put h8 (leaf_may ht i) (hs i) (A ++ bodN c t i ++ putB ((2 : Nat) : Int) false ((i : Nat) : Int) 2) (R ++ Z) 8 (Nat.le_refl _)
      rw [← e1] at g1 g2
      rw [← e2] at g3
      have l1 : (((A ++ bodN c t i).length : Nat) : Int) = (A.length : Int) + 130 * ((cntN t i : Nat) : Int) := by simp [hlen]
      have l2 : (((A ++ bodN c t i ++ putB ((2 : Nat) : Int) false ((i : Nat) : Int) 2).length : Nat) : Int) = (A.length : Int) + 130 * ((cntN t i : Nat) : Int) + 2 := by
        rw [List.length_append]; simp [hlen, putB]
      rw [l1] at g1 g2
      rw [l2, List.take_of_length_le (by omega)] at g3
      have hlt : (t.take (trimN t i)).length = trimN t i := by simp; omega
      have g1' : getV (A ++ bodN c t t.length ++ Z) ((A.length : Int) + 130 * ((cntN t i : Nat) : Int)) 2 false = (i : Int) := g1
      have := rdT_next (ih (by omega)) g2 (by rw [g1', hlt]; omega) (by rw [g1']; omega) g3
      rw [g1', hlt, Int.toNat_natCast, ← take_trim t i (by omega)] at this
      simp only [cntN, trimN, hd]
      rw [this, List.take_add_one]
      congr 1
      simp [leaf, List.getD, List.getElem?_eq_getElem (show i < t.length by omega)]
/-- What was put is read, wherever it stands. -/
theorem back {c : Int} {t : List (List Entry)} (ht : rightT t 4096 c = true) (hs : okT t) (A Z : List UInt8) : rdA (A ++ tabL t c ++ Z) A.length 4096 c = some t ∧ (A.length : Int) + 2 + 130 * getV (A ++ tabL t c ++ Z) A.length 2 false = A.length + (tabL t c).length := by
  have h512 := right_len ht
  have hc := cntN_le t t.length
  have hT : tabL t c = putL [] 2 false (cntN t t.length) ++ bodN c t t.length := by unfold tabL; rw [if_pos ht]
  have hp := put2 (v := cntN t t.length) (by omega)
  have e1 : A ++ tabL t c ++ Z = A ++ putB ((2 : Nat) : Int) false ((cntN t t.length : Nat) : Int) 2 ++ (bodN c t t.length ++ Z) := by
    rw [hT, hp]; simp only [List.append_assoc]; rfl
  have e2 : A ++ tabL t c ++ Z = (A ++ putB ((2 : Nat) : Int) false ((cntN t t.length : Nat) : Int) 2) ++ bodN c t t.length ++ Z := by
    rw [e1]; simp only [List.append_assoc]
  obtain ⟨g1, g2⟩ := getV_put A (bodN c t t.length ++ Z) 2 false (cntN t t.length) (by omega) (by omega) (by omega)
  rw [← e1] at g1 g2
  have g3 := rdT_put ht hs (A ++ putB ((2 : Nat) : Int) false ((cntN t t.length : Nat) : Int) 2) Z t.length (Nat.le_refl _)
  rw [← e2] at g3
  have l2 : (((A ++ putB ((2 : Nat) : Int) false ((cntN t t.length : Nat) : Int) 2).length : Nat) : Int) = (A.length : Int) + 2 := by simp [putB]
  rw [l2] at g3
  have g1' : getV (A ++ tabL t c ++ Z) A.length 2 false = ((cntN t t.length : Nat) : Int) := g1
  have htr : t.take (trimN t t.length) = t := by
    have := trim_right ht 0
    simpa [trimT] using this
  rw [htr] at g3
  refine ⟨?_, ?_⟩
  · rw [rdA_some g2 (by rw [g1', Int.toNat_natCast]; exact g3), if_pos ht]
  · rw [g1', hT, List.length_append, put2_len' (by omega), bodN_130 ht hs _ h512]; omega
theorem tabE_ok {c : Int} {t : List (List Entry)} (ht : rightT t 4096 c = true) : tabE t c = 0 := by unfold tabE; rw [if_pos ht]
theorem tabL_len' {c : Int} {t : List (List Entry)} (ht : rightT t 4096 c = true) : (tabL t c).length ≤ 66562 := by
  have h512 := right_len ht
  have h1 := bodN_len c t t.length
  have h2 := put2_len ((cntN t t.length : Nat) : Int)
  unfold tabL; rw [if_pos ht, List.length_append]; omega
/-- Right with fewer places. -/
theorem right_less {t : List (List Entry)} {c n : Int} (ht : rightT t 4096 c = true) (hn : 0 ≤ n ∧ n ≤ 4096) (hz : ∀ j : Nat, j < 4096 → n ≤ j → atT t (j : Int) = entZ) : rightT t n c = true := by
  obtain ⟨hc, h512, hrow, hlast⟩ := right_good ht
  have e : (decide (n < 0) || decide (4096 < n) || decide (c < 0) || decide (6 < c)) = false := by simp; omega
  simp only [rightT, e, Bool.not_false, Bool.true_and]
  have key : ∀ k, k ≤ t.length → rightN t n c k = true := by
    intro k
    induction k with
    | zero => intro _; rfl
    | succ k ih =>
      intro hk
      simp only [rightN, ih (by omega), Bool.true_and, okRow, Bool.or_eq_true, Bool.and_eq_true, decide_eq_true_eq]
      rcases hrow k with h0 | ⟨h8, hm, hs⟩
      · left
        refine ⟨h0, ?_⟩
        by_cases e : k + 1 < t.length
        · exact e
        · have := hlast (by omega)
          rw [show t.length - 1 = k by omega] at this; exact absurd h0 this
      · right
        have hr : ∀ j, j ≤ 8 → rowN c n k (leaf t k) j = true := by
          intro j
          induction j with
          | zero => intro _; rfl
          | succ j ihj =>
            intro hj
            have hq : (noneX ((leaf t k).getD j entZ) || decide (((k : Int) * 8 + j) < n)) = true := by
              by_cases hp : ((k : Int) * 8 + j) < n
              · rw [decide_eq_true hp, Bool.or_true]
              · have := hz (k * 8 + j) (by omega) (by omega)
                rw [atT_nat, show (k * 8 + j) / 8 = k by omega, show (k * 8 + j) % 8 = j by omega] at this
                rw [this]; rfl
            simp only [rowN, ihj (by omega), entOk, hm, hq, Bool.and_self]
        simp only [rowB, h8, hr 8 (Nat.le_refl _), hs, decide_true, Bool.and_self]
  exact key _ (Nat.le_refl _)
theorem cut_at {t : List (List Entry)} {c : Int} (ht : rightT t 4096 c = true) (k : Nat) : rightT (cutT t (k : Int)) 4096 c = true ∧ ∀ j : Nat, j < 4096 → atT (cutT t (k : Int)) (j : Int) = if k ≤ j then entZ else atT t (j : Int) := by
  unfold cutT
  rw [zero_any ht]
  have e : (max (k : Int) 0).toNat = k := by omega
  simp only [e]
  obtain ⟨c1, c2⟩ := cutN_ok ht k (t.length * 8 - k)
  refine ⟨c1, fun j hj => ?_⟩
  rw [c2 j hj]
  by_cases h1 : k ≤ j
  · rw [if_pos h1]
    by_cases h2 : j < k + (t.length * 8 - k)
    · rw [if_pos ⟨h1, h2⟩]
    · rw [if_neg (fun h => h2 h.2)]; exact at_out (by omega)
  · rw [if_neg (fun h => h1 h.1), if_neg h1]
theorem madN_sum {ns : List Int} (hr : ∀ m ∈ ns, inR .u16 m) : ∀ k j : Nat, j < 4096 → okS (atT (madN ns k) (j : Int)) := by
  have hg := gets hr
  intro k
  induction k with
  | zero => intro j hj; rw [show madN ns 0 = [] from rfl, atnil]; exact ⟨by decide, by decide⟩
  | succ k ih =>
    intro j hj
    have := hg k
    simp only [madN]
    obtain ⟨q, hq⟩ : ∃ q : Nat, ns.getD k 0 % 300 = q := ⟨(ns.getD k 0 % 300).toNat, by omega⟩
    rw [hq, at_set (madN_right (fun i => (hg i).1) k) (madeE_may (hg k).1) (by omega)]
    split
    · unfold madeE
      split
      · exact ⟨by simp only; omega, by simp only; omega⟩
      · exact ⟨by decide, by decide⟩
    · exact ih j hj
theorem madT_sum {ns : List Int} (hr : ∀ m ∈ ns, inR .u16 m) : okT (madT ns) := by
  intro i j
  have hR := madT_right hr
  have hz : okS entZ := ⟨by decide, by decide⟩
  by_cases hj : j < 8
  · by_cases hi : i < 512
    · have := madN_sum hr (min ns.length 60) (i * 8 + j) (by omega)
      rw [atT_nat, show (i * 8 + j) / 8 = i by omega, show (i * 8 + j) % 8 = j by omega] at this
      exact this
    · rw [leaf_app (by have := right_len hR; omega)]; exact hz
  · have := right_leaf hR i
    rw [List.getD, List.getElem?_eq_none (by omega)]; exact hz
end Go.Proofs.Ytnmomckmpknbkaa
