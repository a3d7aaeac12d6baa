import Derived.Test.YtgobmfkffhomaaaShtP
set_option linter.unusedSimpArgs false
set_option linter.unusedVariables false
set_option maxHeartbeats 1600000
namespace Go.Proofs.Ytgobmfkffhomaaa
open Go.Mt

theorem add_wide {X : List Span} {w n : Int} (hR : Rt X) (h0 : 0 ≤ w) (h1 : w < n) (h2 : n ≤ 1073741824) : addL (addL X ⟨w, n⟩) ⟨0, n⟩ = addL X ⟨0, n⟩ := by
  have s1 : Sp ⟨w, n⟩ := by unfold Sp; simp only; omega
  have s2 : Sp ⟨0, n⟩ := by unfold Sp; simp only; omega
  obtain ⟨a1, a2⟩ := addL_set hR s1
  obtain ⟨b1, b2⟩ := addL_set a1 s2
  obtain ⟨c1, c2⟩ := addL_set hR s2
  refine Rt_ext b1 c1 (fun x => ?_)
  rw [b2, a2, c2]
  cases h3 : hasX x ⟨w, n⟩ with
  | false => simp
  | true =>
    have h4 : hasX x ⟨0, n⟩ = true := by rw [hasX_iff] at h3 ⊢; simp only at h3 ⊢; omega
    rw [h4]; simp
theorem bck_eq {b : Bitmap} {w n : Int} (hb : rightB b.l = true) (h0 : 0 ≤ w) (h2 : 0 ≤ n ∧ n ≤ 4096) : tch ⟨0, n⟩ (siz w n b) = bck n b := by
  have hR : Rt (subL b.l ⟨n, 1073741824⟩) := (subL_set (right_iff.1 hb) (s := ⟨n, 1073741824⟩) (by unfold Sp; simp only; omega)).1
  cases ho : b.on with
  | false =>
    have e1 : siz w n b = ⟨b.name, b.on, subL b.l ⟨n, 1073741824⟩⟩ := by simp only [siz, ho, Bool.false_and]
    have e2 : bck n b = ⟨b.name, b.on, subL b.l ⟨n, 1073741824⟩⟩ := by simp only [bck, ho]
    rw [e1, e2]; simp only [tch, ho]
  | true =>
    have e2 : bck n b = ⟨b.name, b.on, addL (subL b.l ⟨n, 1073741824⟩) ⟨0, n⟩⟩ := by simp only [bck, ho]
    cases hw : decide (w < n) with
    | false =>
      have e1 : siz w n b = ⟨b.name, b.on, subL b.l ⟨n, 1073741824⟩⟩ := by simp only [siz, hw, Bool.and_false]
      rw [e1, e2]; simp only [tch, ho]
    | true =>
      have hw' : w < n := by simpa using hw
      have e1 : siz w n b = ⟨b.name, b.on, addL (subL b.l ⟨n, 1073741824⟩) ⟨w, n⟩⟩ := by simp only [siz, hw, ho, Bool.and_self]
      rw [e1, e2]; simp only [tch, ho]
      rw [add_wide hR h0 hw' (by omega)]
theorem szB_iff {n c : Int} (h : szB n c = true) : 0 ≤ n ∧ n ≤ 4096 := by
  simp only [szB, Bool.and_eq_true, decide_eq_true_eq] at h; omega
theorem clu_in {n c : Int} (h : szB n c = true) (hc : 0 ≤ c ∧ c ≤ 6) : clu n c = nowI c n ∧ 0 ≤ clu n c ∧ clu n c ≤ 4096 := by
  have hn := szB_iff h
  have e1 : clu n c = n / 2 ^ c.toNat := by
    have : ((decide (n < 0) || decide (c < 0)) || decide (6 < c)) = false := by simp; omega
    simp only [clu, this]
  have e2 : nowI c n = max n 0 / 2 ^ c.toNat := by
    have : (decide (0 ≤ c) && decide (c ≤ 6)) = true := by simp; omega
    simp only [nowI, this]
  have hp := Tt.pow_c hc
  rw [e1, e2, show max n 0 = n by omega]
  exact ⟨rfl, Int.ediv_nonneg hn.1 (by omega), Int.le_trans (Int.ediv_le_self _ hn.1) hn.2⟩
theorem mpRn_all {m : Mta} : ∀ n, mpRn m n = true → ∀ i, i < n → mpR m i = true
  | 0, _, i, hi => by omega
  | n + 1, h, i, hi => by
    simp only [mpRn, Bool.and_eq_true] at h
    by_cases e : i = n
    · rw [e]; exact h.2
    · exact mpRn_all n h.1 i (by omega)
structure RtOk (m : Mta) : Prop where
  cl : 0 ≤ m.cl ∧ m.cl ≤ 6
  sz : szB m.sz m.cl = true
  t : Tt.rightT m.t (m.sz / 2 ^ m.cl.toNat) m.cl = true
  nS : m.sh.length ≤ 8
  nM : m.mp.length ≤ 8
  sh : ∀ i, i < m.sh.length → shR m i = true
  mp : ∀ i, i < m.mp.length → mpR m i = true
theorem rtM_ok {m : Mta} (h : rtM m = true) : RtOk m := by
  simp only [rtM, Bool.and_eq_true, Bool.not_eq_true'] at h
  obtain ⟨⟨h1, h2⟩, h3, h4, h5⟩ := h
  simp only [hdR, Bool.or_eq_false_iff, decide_eq_false_iff_not, Bool.not_eq_false'] at h1
  obtain ⟨⟨⟨⟨⟨⟨a1, a2⟩, a3⟩, a4⟩, a5⟩, a6⟩, a7⟩ := h1
  exact ⟨by omega, a3, h2, by omega, by omega, shRn_all _ h3, mpRn_all _ h4⟩
theorem back_same {m : Mta} (h : rtM m = true) (nm : List UInt8) : sbM m nm = rbM m nm := by
  have hk := rtM_ok h
  have hp := spl_spec m.sh nm
  unfold sbM rbM
  cases hd : decide (spl m.sh nm < 0) with
  | true => rfl
  | false =>
    have hl : (spl m.sh nm).toNat < m.sh.length := by
      simp only [decide_eq_false_iff_not] at hd
      rcases hp with hp | hp
      · omega
      · exact hp.2
    have hs := hk.sh _ hl
    simp only [shR, Bool.and_eq_true] at hs
    have c1 := clu_in hk.sz hk.cl
    have c2 := clu_in hs.1.2 hk.cl
    have hf : far (clu m.sz m.cl) (clu (thS m nm).size m.cl) = false := by
      simp only [far, Bool.or_eq_false_iff, decide_eq_false_iff_not, thS]
      omega
    have hmp : m.mp.map (bck (nowI m.cl (thS m nm).size)) = (sizL m.mp (clu m.sz m.cl) (clu (thS m nm).size m.cl)).map (tch ⟨0, clu (thS m nm).size m.cl⟩) := by
      simp only [sizL, hf, List.map_map]
      refine List.map_congr_left (fun b hb => ?_)
      obtain ⟨i, hi, rfl⟩ := getD_of_mem LK.bms.dft hb
      have hq := hk.mp i hi
      simp only [mpR, Bool.and_eq_true] at hq
      show _ = tch _ (siz _ _ _)
      rw [← c2.1]
      exact (bck_eq hq.1.2 c1.2.1 c2.2).symm
    simp only [hmp]
end Go.Proofs.Ytgobmfkffhomaaa
