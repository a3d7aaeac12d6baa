import Derived.Test.YtgobmfkffhomaaaShtX
set_option linter.unusedSimpArgs false
set_option linter.unusedVariables false
set_option maxHeartbeats 1600000
namespace Go.Proofs.Ytgobmfkffhomaaa
open Go.Mt

theorem ixP_congr {α β : Type} {p : α → Bool} {q : β → Bool} {d : α} {e : β} {l : List α} {k : List β} : ∀ n, (∀ i, i < n → p (l.getD i d) = q (k.getD i e)) → ixP p d l n = ixP q e k n
  | 0, _ => rfl
  | n + 1, h => by simp only [ixP, ixP_congr n (fun i hi => h i (by omega)), h n (by omega)]
theorem getD_snoc {α : Type} (l : List α) (x d : α) {i : Nat} (h : i < l.length) : (l ++ [x]).getD i d = l.getD i d := getD_left l [x] d h
theorem getD_last {α : Type} (l : List α) (x d : α) : (l ++ [x]).getD l.length d = x := by
  simp [List.getD]
theorem spl_old {l : List Shot} {nm : List UInt8} (x : Shot) (h : 0 ≤ spl l nm) : spl (l ++ [x]) nm = spl l nm := by
  unfold spl at h ⊢
  have e : ixP (isS nm) LK.sht.dft (l ++ [x]) l.length = ixP (isS nm) LK.sht.dft l l.length := ixP_congr _ (fun i hi => by rw [getD_snoc l x _ hi])
  rw [← e] at h ⊢
  exact ixP_keep h (by simp)
theorem spl_new {l : List Shot} {nm : List UInt8} (x : Shot) (h : spl l nm < 0) (hx : x.name = nm) : spl (l ++ [x]) nm = l.length := by
  unfold spl at h ⊢
  have e : ixP (isS nm) LK.sht.dft (l ++ [x]) l.length = ixP (isS nm) LK.sht.dft l l.length := ixP_congr _ (fun i hi => by rw [getD_snoc l x _ hi])
  have h1 := (ixP_lt (isS nm) LK.sht.dft l l.length).1
  have e2 : ixP (isS nm) LK.sht.dft (l ++ [x]) l.length = -1 := by rw [e]; omega
  rw [show (l ++ [x]).length = l.length + 1 by simp]
  simp only [ixP, e2, getD_last]
  simp [isS, hx]
theorem plc_map {l : List Bitmap} {f : Bitmap → Bitmap} (hf : ∀ b, (f b).name = b.name) (nm : List UInt8) : plc (l.map f) nm = plc l nm := by
  unfold plc
  rw [List.length_map]
  refine ixP_congr _ (fun i hi => ?_)
  have : (l.map f).getD i LK.bms.dft = f (l.getD i LK.bms.dft) := by
    simp [List.getD, List.getElem?_eq_getElem hi]
  rw [this]; simp only [isN, hf]
theorem bck_name (n : Int) (b : Bitmap) : (bck n b).name = b.name := by unfold bck; split <;> rfl
theorem shRn_of {m : Mta} : ∀ n, (∀ i, i < n → shR m i = true) → shRn m n = true
  | 0, _ => rfl
  | n + 1, h => by simp only [shRn, shRn_of n (fun i hi => h i (by omega)), h n (by omega), Bool.and_self]
theorem mpRn_of {m : Mta} : ∀ n, (∀ i, i < n → mpR m i = true) → mpRn m n = true
  | 0, _ => rfl
  | n + 1, h => by simp only [mpRn, mpRn_of n (fun i hi => h i (by omega)), h n (by omega), Bool.and_self]
/-- What Back answers, when a shot was just made. -/
def jm (m : Mta) (nm : List UInt8) : Mta := ⟨m.cl, m.sz, m.bk, m.t, m.sh ++ [⟨nm, m.sz, m.t⟩], m.mp.map (bck (nowI m.cl m.sz)), m.ct⟩
theorem jm_right {m : Mta} {nm : List UInt8} (h : rtM m = true) (hn : nameB nm = true) (hs : spl m.sh nm < 0) (h8 : m.sh.length < 8) : rtM (jm m nm) = true := by
  have hk := rtM_ok h
  have hc := clu_in hk.sz hk.cl
  rw [hc.1] at hc
  have hS : shRn (jm m nm) (jm m nm).sh.length = true := by
    refine shRn_of _ (fun i hi => ?_)
    have hi' : i < m.sh.length + 1 := by simpa [jm] using hi
    by_cases e : i = m.sh.length
    · subst e
      simp only [shR, jm, getD_last, hn, spl_new ⟨nm, m.sz, m.t⟩ hs rfl, hk.sz, hk.t, decide_true, Bool.and_self]
    · have hi2 : i < m.sh.length := by omega
      have h1 := hk.sh i hi2
      simp only [shR, Bool.and_eq_true, decide_eq_true_eq] at h1
      simp only [shR, jm, getD_snoc m.sh _ _ hi2, h1.1.1.1, h1.1.2, h1.2, spl_old ⟨nm, m.sz, m.t⟩ (show 0 ≤ spl m.sh (m.sh.getD i LK.sht.dft).name by omega), h1.1.1.2, decide_true, Bool.and_self]
  have hM : mpRn (jm m nm) (jm m nm).mp.length = true := by
    refine mpRn_of _ (fun i hi => ?_)
    have hi2 : i < m.mp.length := by simpa [jm] using hi
    have h1 := hk.mp i hi2
    simp only [mpR, Bool.and_eq_true, decide_eq_true_eq] at h1
    have hg : (m.mp.map (bck (nowI m.cl m.sz))).getD i LK.bms.dft = bck (nowI m.cl m.sz) (m.mp.getD i LK.bms.dft) := by
      simp [List.getD, List.getElem?_eq_getElem hi2]
    obtain ⟨r1, r2⟩ := bck_rt h1.1.2 hc.2
    simp only [mpR, jm, hg, bck_name, plc_map (bck_name _), h1.1.1.1, h1.1.1.2, right_iff.2 r1, last_in r1 hc.2.2 r2, decide_true, Bool.and_self, Bool.not_false]
  have h0 := h
  simp only [rtM, Bool.and_eq_true, Bool.not_eq_true'] at h0
  obtain ⟨⟨a1, a2⟩, _, _, a5⟩ := h0
  have hH : hdR (jm m nm) = false := by
    simp only [hdR, Bool.or_eq_false_iff, decide_eq_false_iff_not] at a1 ⊢
    obtain ⟨⟨⟨⟨⟨⟨b1, b2⟩, b3⟩, b4⟩, b5⟩, b6⟩, b7⟩ := a1
    refine ⟨⟨⟨⟨⟨⟨b1, b2⟩, b3⟩, b4⟩, ?_⟩, ?_⟩, b7⟩
    · simp [jm]; omega
    · simp [jm]; omega
  simp only [rtM, hH, hS, hM]
  simp only [jm, a2, a5, Bool.not_false, Bool.and_self]
end Go.Proofs.Ytgobmfkffhomaaa
