import Derived.Test.YtndjdmnpdknneaaMapS
set_option linter.unusedSimpArgs false
set_option linter.unusedVariables false
namespace Go.Proofs.Ytndjdmnpdknneaa
open Go.Mt

/-! ### right lists below a bound -/
theorem len_fr : ∀ {l : List Span} {a b : Int}, Rt l → (∀ x ∈ l, a ≤ x.fr ∧ x.to ≤ b) → 0 ≤ a → a ≤ b → (l.length : Int) ≤ b - a := by
  intro l
  induction l with
  | nil => intro a b _ _ _ h; simp only [List.length_nil]; omega
  | cons x t ih =>
    intro a b hR h ha hab
    obtain ⟨r1, r2, r3⟩ := Rt_cons.1 hR
    have hx := h x (by simp)
    unfold Sp at r1
    have := ih (a := x.to) (b := b) r3 (fun y hy => ⟨by have := r2 y hy; omega, (h y (by simp [hy])).2⟩) (by omega) (by omega)
    rw [List.length_cons]; omega
def RtM (M : Nat) (l : List Span) : Prop := Rt l ∧ ∀ n : Int, inL l n = true → n < M
theorem RtM.nil (M : Nat) : RtM M [] := ⟨⟨by simp, by simp⟩, fun n h => by simp [inL] at h⟩
theorem RtM.to {M : Nat} {l : List Span} (h : RtM M l) : ∀ x ∈ l, x.to ≤ M := fun x hx => by
  have hs := h.1.1 x hx
  unfold Sp at hs
  have := h.2 (x.to - 1) (inL_iff.2 ⟨x, hx, by omega, by omega⟩)
  omega
theorem RtM.len {M : Nat} {l : List Span} (h : RtM M l) : l.length ≤ M := by
  have := len_fr (a := 0) (b := M) h.1 (fun x hx => ⟨(h.1.1 x hx).1, h.to x hx⟩) (by omega) (by omega)
  omega
theorem RtM.add {M : Nat} {l : List Span} {s : Span} (h : RtM M l) (hs : Sp s) (hM : s.to ≤ M) : RtM M (addL l s) := by
  refine ⟨(addL_set h.1 hs).1, fun n hn => ?_⟩
  rw [(addL_set h.1 hs).2, Bool.or_eq_true, hasX_iff] at hn
  rcases hn with hn | hn
  · exact h.2 n hn
  · omega
theorem addA_in {M : Nat} {x y : List Span} (hx : RtM M x) (hy : RtM M y) : ∀ k, k ≤ y.length → RtM M (addA x y k) ∧ ∀ n, inL (addA x y k) n = (inL x n || inL (y.take k) n) := by
  intro k
  induction k with
  | zero => intro _; exact ⟨by simpa [addA] using hx, fun n => by simp [addA, inL]⟩
  | succ k ih =>
    intro hk
    obtain ⟨i1, i2⟩ := ih (by omega)
    have hg : y[k]? = some (y.getD k ⟨0, 0⟩) := by simp [List.getD, List.getElem?_eq_getElem (show k < y.length by omega)]
    have hm := List.mem_of_getElem? hg
    have hs := hy.1.1 _ hm
    rw [addA_succ x y (by omega)]
    refine ⟨i1.add hs (hy.to _ hm), fun n => ?_⟩
    rw [(addL_set i1.1 hs).2, i2, take_succ_getD (d := (⟨0, 0⟩ : Span)) (by omega), inL_app, inL_one, Bool.or_assoc]
theorem mrg_in {M : Nat} {x y : List Span} (hx : RtM M x) (hy : RtM M y) : RtM M (mrgP x y) ∧ ∀ n, inL (mrgP x y) n = (inL x n || inL y n) := by
  have hb : rightB y = true := right_iff.2 hy.1
  have hx' : rightL x = x := rightL_of hx.1
  unfold mrgP
  rw [hb, hx']
  have := addA_in hx hy y.length (Nat.le_refl _)
  rw [List.take_length] at this
  exact this

/-! ### two bitmaps, and what is noted of them -/
abbrev bm2 (p q : Bool) (A C : List Span) : List Bitmap := [⟨[97], p, A⟩, ⟨[98], q, C⟩]
structure NI (A C : List Span) (h : List Bool) : Prop where
  ra : RtM 300 A
  rc : RtM 300 C
  len : h.length = 600
  ha : ∀ n : Nat, n < 300 → h.getD n false = inL A n
  hc : ∀ n : Nat, n < 300 → h.getD (300 + n) false = inL C n
theorem NI.ok {p q : Bool} {A C : List Span} {h : List Bool} (k : NI A C h) : BmOk (bm2 p q A C) := ⟨by simp, fun b hb => by
  have h1 := k.ra.len; have h2 := k.rc.len
  simp only [List.mem_cons, List.not_mem_nil, or_false] at hb
  rcases hb with rfl | rfl
  · simp only; omega
  · simp only; omega⟩
theorem rep_get (N n : Nat) : (List.replicate N false).getD n false = false := by
  rw [List.getD, List.getElem?_replicate]; split <;> rfl
theorem NI.start : NI [] [] (List.replicate 600 false) := ⟨RtM.nil _, RtM.nil _, List.length_replicate, fun n _ => by rw [rep_get]; rfl, fun n _ => by rw [rep_get]; rfl⟩
theorem get_set (l : List Bool) (i n : Nat) (b : Bool) : (l.set i b).getD n false = if i = n ∧ n < l.length then b else l.getD n false := by
  simp only [List.getD, List.getElem?_set]
  by_cases e : i = n
  · subst e
    by_cases h : i < l.length
    · simp [h]
    · simp [h]
  · simp [e]
/-! cleared -/
def clrW (w : Nat) (h : List Bool) : List Bool := h.take (w * 300) ++ List.replicate 300 false ++ h.drop (w * 300 + 300)
theorem clr_get {w : Nat} {h : List Bool} (hl : h.length = 600) (hw : w ≤ 1) (n : Nat) : (clrW w h).getD n false = if w * 300 ≤ n ∧ n < w * 300 + 300 then false else h.getD n false := by
  have l1 : (h.take (w * 300)).length = w * 300 := by rw [List.length_take]; omega
  unfold clrW
  rw [List.append_assoc]
  simp only [List.getD]
  by_cases h1 : n < w * 300
  · rw [List.getElem?_append_left (by omega), List.getElem?_take, if_pos h1, if_neg (by omega)]
  · rw [List.getElem?_append_right (by omega), l1]
    by_cases h2 : n < w * 300 + 300
    · rw [List.getElem?_append_left (by rw [List.length_replicate]; omega), List.getElem?_replicate, if_pos (by omega), if_pos (by omega)]; rfl
    · rw [List.getElem?_append_right (by rw [List.length_replicate]; omega), List.length_replicate, List.getElem?_drop, if_neg (by omega)]
      rw [show w * 300 + 300 + (n - w * 300 - 300) = n by omega]
theorem clr_len {w : Nat} {h : List Bool} (hl : h.length = 600) (hw : w ≤ 1) : (clrW w h).length = 600 := by
  unfold clrW
  rw [List.length_append, List.length_append, List.length_take, List.length_replicate, List.length_drop]; omega
theorem NI.cl0 {A C : List Span} {h : List Bool} (k : NI A C h) : NI [] C (clrW 0 h) := by
  refine ⟨RtM.nil _, k.rc, clr_len k.len (by omega), fun n hn => ?_, fun n hn => ?_⟩
  · rw [clr_get k.len (by omega), if_pos (by omega)]; rfl
  · rw [clr_get k.len (by omega), if_neg (by omega)]; exact k.hc n hn
theorem NI.cl1 {A C : List Span} {h : List Bool} (k : NI A C h) : NI A [] (clrW 1 h) := by
  refine ⟨k.ra, RtM.nil _, clr_len k.len (by omega), fun n hn => ?_, fun n hn => ?_⟩
  · rw [clr_get k.len (by omega), if_neg (by omega)]; exact k.ha n hn
  · rw [clr_get k.len (by omega), if_pos (by omega)]; rfl
/-! merged: so far -/
structure MI (h0 h : List Bool) (w v : Nat) (k : Nat) : Prop where
  len : h.length = 600
  le : k ≤ 300
  done : ∀ n, n < k → h.getD (w + n) false = (h0.getD (w + n) false || h0.getD (v + n) false)
  rest : ∀ n, n < 300 → k ≤ n → h.getD (w + n) false = h0.getD (w + n) false
  other : ∀ n, n < 300 → h.getD (v + n) false = h0.getD (v + n) false
theorem MI.start {h0 : List Bool} {w v : Nat} (hl : h0.length = 600) : MI h0 h0 w v 0 := ⟨hl, by omega, fun n hn => by omega, fun _ _ _ => rfl, fun _ _ => rfl⟩
theorem MI.step {h0 h : List Bool} {w v k : Nat} (H : MI h0 h w v k) (hk : k < 300) (hwv : (w = 0 ∧ v = 300) ∨ (w = 300 ∧ v = 0)) {b : Bool} (hb : b = (h.getD (w + k) false || h.getD (v + k) false)) : MI h0 (h.set (w + k) b) w v (k + 1) := by
  refine ⟨by simp [H.len], by omega, fun n hn => ?_, fun n hn hkn => ?_, fun n hn => ?_⟩
  · rw [get_set]
    by_cases e : n = k
    · subst e
      rw [if_pos ⟨rfl, by rw [H.len]; omega⟩, hb, H.rest n (by omega) (by omega), H.other n (by omega)]
    · rw [if_neg (by omega)]; exact H.done n (by omega)
  · rw [get_set, if_neg (by omega)]; exact H.rest n hn (by omega)
  · rw [get_set, if_neg (by omega)]; exact H.other n hn
theorem NI.mrg0 {A C : List Span} {h0 h : List Bool} (k : NI A C h0) (H : MI h0 h 0 300 300) : NI (mrgP A C) C h := by
  obtain ⟨m1, m2⟩ := mrg_in k.ra k.rc
  refine ⟨m1, k.rc, H.len, fun n hn => ?_, fun n hn => ?_⟩
  · have := H.done n hn
    rw [Nat.zero_add] at this
    rw [this, m2, k.ha n hn, k.hc n hn]
  · rw [H.other n hn]; exact k.hc n hn
theorem NI.mrg1 {A C : List Span} {h0 h : List Bool} (k : NI A C h0) (H : MI h0 h 300 0 300) : NI A (mrgP C A) h := by
  obtain ⟨m1, m2⟩ := mrg_in k.rc k.ra
  refine ⟨k.ra, m1, H.len, fun n hn => ?_, fun n hn => ?_⟩
  · have := H.other n hn
    rw [Nat.zero_add] at this
    rw [this]; exact k.ha n hn
  · have := H.done n hn
    rw [Nat.zero_add] at this
    rw [this, m2, k.ha n hn, k.hc n hn]
/-! touched: so far -/
structure TI (h0 h : List Bool) (p q : Bool) (fr : Nat) (k : Nat) : Prop where
  len : h.length = 600
  ha : ∀ n, n < 300 → h.getD n false = (h0.getD n false || (p && (decide (fr ≤ n) && decide (n < k))))
  hc : ∀ n, n < 300 → h.getD (300 + n) false = (h0.getD (300 + n) false || (q && (decide (fr ≤ n) && decide (n < k))))
theorem TI.start {h0 : List Bool} {p q : Bool} {fr : Nat} (hl : h0.length = 600) : TI h0 h0 p q fr fr := by
  have : ∀ n, (decide (fr ≤ n) && decide (n < fr)) = false := fun n => by
    rw [Bool.and_eq_false_iff, decide_eq_false_iff_not, decide_eq_false_iff_not]; omega
  exact ⟨hl, fun n _ => by rw [this]; simp, fun n _ => by rw [this]; simp⟩
theorem TI.step {h0 h : List Bool} {p q : Bool} {fr k : Nat} (H : TI h0 h p q fr k) (hk : k < 300) (hf : fr ≤ k) {a c : Bool} (ea : a = (h.getD k false || p)) (ec : c = ((h.set k a).getD (300 + k) false || q)) : TI h0 ((h.set k a).set (300 + k) c) p q fr (k + 1) := by
  rw [get_set, if_neg (by omega)] at ec
  have key : ∀ n, n ≠ k → (decide (fr ≤ n) && decide (n < k + 1)) = (decide (fr ≤ n) && decide (n < k)) := fun n hn => by
    congr 1; rw [decide_eq_decide]; omega
  have key2 : (decide (fr ≤ k) && decide (k < k + 1)) = true := by simp [hf]
  have key3 : (decide (fr ≤ k) && decide (k < k)) = false := by simp
  refine ⟨by simp [H.len], fun n hn => ?_, fun n hn => ?_⟩
  · rw [get_set, if_neg (by omega), get_set]
    by_cases e : n = k
    · subst e
      rw [if_pos ⟨rfl, by rw [H.len]; omega⟩, ea, H.ha n hn, key2, key3]; simp
    · rw [if_neg (by omega), H.ha n hn, key n e]
  · rw [get_set]
    by_cases e : n = k
    · subst e
      rw [if_pos ⟨rfl, by simp [H.len]; omega⟩, ec, H.hc n hn, key2, key3]; simp
    · rw [if_neg (by omega), get_set, if_neg (by omega), H.hc n hn, key n e]
theorem tch_in {M : Nat} {p : Bool} {nm : List UInt8} {A : List Span} (h : RtM M A) {fr to : Nat} (hft : fr < to) (hto : to ≤ M) (hM : M ≤ 1000000) : RtM M (tch ⟨fr, to⟩ ⟨nm, p, A⟩).l ∧ ∀ n : Nat, inL (tch ⟨fr, to⟩ ⟨nm, p, A⟩).l n = (inL A n || (p && (decide (fr ≤ n) && decide (n < to)))) := by
  cases p with
  | false => rw [tch_off rfl]; exact ⟨h, fun n => by simp⟩
  | true =>
    have hs : Sp ⟨(fr : Int), (to : Int)⟩ := ⟨by simp only; omega, by simp only; omega, by simp only; omega⟩
    have e : (tch ⟨fr, to⟩ ⟨nm, true, A⟩).l = addL A ⟨fr, to⟩ := rfl
    rw [e]
    refine ⟨h.add hs (by simp only; omega), fun n => ?_⟩
    rw [(addL_set h.1 hs).2]
    congr 1
    rw [Bool.eq_iff_iff, hasX_iff]
    simp
theorem tch2 (s : Span) (p q : Bool) (A C : List Span) : (bm2 p q A C).map (tch s) = bm2 p q (tch s ⟨[97], p, A⟩).l (tch s ⟨[98], q, C⟩).l := by
  cases p <;> cases q <;> rfl
theorem NI.tch {A C : List Span} {h0 h : List Bool} {p q : Bool} {fr to : Nat} (k : NI A C h0) (hft : fr < to) (hto : to ≤ 300) (H : TI h0 h p q fr to) : NI (tch ⟨fr, to⟩ ⟨[97], p, A⟩).l (tch ⟨fr, to⟩ ⟨[98], q, C⟩).l h := by
  obtain ⟨a1, a2⟩ := tch_in (p := p) (nm := [97]) k.ra hft hto (by omega)
  obtain ⟨c1, c2⟩ := tch_in (p := q) (nm := [98]) k.rc hft hto (by omega)
  exact ⟨a1, c1, H.len, fun n hn => by rw [H.ha n hn, a2, k.ha n hn], fun n hn => by rw [H.hc n hn, c2, k.hc n hn]⟩
/-! names -/
theorem trn_a (p q : Bool) (A C : List Span) (f : Bitmap → Bitmap) : trnE (bm2 p q A C) [97] = 0 ∧ trnL (bm2 p q A C) [97] f = [f ⟨[97], p, A⟩, ⟨[98], q, C⟩] := ⟨rfl, rfl⟩
theorem trn_b (p q : Bool) (A C : List Span) (f : Bitmap → Bitmap) : trnE (bm2 p q A C) [98] = 0 ∧ trnL (bm2 p q A C) [98] f = [⟨[97], p, A⟩, f ⟨[98], q, C⟩] := ⟨rfl, rfl⟩
theorem mrg_a (p q : Bool) (A C : List Span) : mgE (bm2 p q A C) [97] [98] = 0 ∧ mgL mrgP (bm2 p q A C) [97] [98] = bm2 p q (mrgP A C) C := ⟨rfl, rfl⟩
theorem mrg_b (p q : Bool) (A C : List Span) : mgE (bm2 p q A C) [98] [97] = 0 ∧ mgL mrgP (bm2 p q A C) [98] [97] = bm2 p q A (mrgP C A) := ⟨rfl, rfl⟩
end Go.Proofs.Ytndjdmnpdknneaa
