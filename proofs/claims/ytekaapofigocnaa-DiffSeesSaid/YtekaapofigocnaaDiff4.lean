import Derived.Test.YtekaapofigocnaaDiff3
set_option linter.unusedSimpArgs false
set_option linter.unusedVariables false
namespace Go.Proofs.Ytekaapofigocnaa
open Go.Mt

theorem innerN_mem {a : List UInt8} {w f : Int} {r : Rcd} : ∀ {j : Nat}, r ∈ innerN a w f j → ∃ i : Nat, i < j ∧ r = recK a w (f + i)
  | 0, h => by simp [innerN] at h
  | j + 1, h => by
    simp only [innerN, List.mem_append, List.mem_singleton] at h
    rcases h with h | h
    · obtain ⟨i, h1, h2⟩ := innerN_mem h; exact ⟨i, by omega, h2⟩
    · exact ⟨j, by omega, h⟩
theorem outerN_mem {a : List UInt8} {w : Int} {l : List Span} {r : Rcd} (hw : 1 ≤ w) (hR : Rt l) : ∀ {i : Nat}, i ≤ l.length → r ∈ outerN a w l i → ∃ k : Int, 0 ≤ k ∧ k * w < allN a ∧ r = recK a w k
  | 0, _, h => by simp [outerN] at h
  | i + 1, hi, h => by
    simp only [outerN, List.mem_append] at h
    rcases h with h | h
    · exact outerN_mem hw hR (by omega) h
    · obtain ⟨j, h1, h2⟩ := innerN_mem h
      have := (cntN_iff (a := a) (s := l.getD i ⟨0, 0⟩) hw j).2 h1
      have h0 := (rt_get hR (i := i) hi).1
      exact ⟨_, by omega, this.2, h2⟩
/-- What a record says of the store it was taken from. -/
def Fits (a : List UInt8) (r : Rcd) : Prop := (r.data.length : Int) % 16 = 0 ∧ 0 ≤ r.at_ ∧ 16 * r.at_ + r.data.length ≤ a.length ∧ (a.take (16 * r.at_ + r.data.length).toNat).drop (16 * r.at_).toNat = r.data
theorem recK_fits {a : List UInt8} {w k : Int} (hw : 1 ≤ w) (hk : 0 ≤ k) (h : k * w < allN a) : Fits a (recK a w k) := by
  have hp0 : 0 ≤ k * w := Int.mul_nonneg hk (by omega)
  have e2 : (k + 1) * w = k * w + w := by rw [Int.add_mul, Int.one_mul]
  simp only [Fits, recK, e2]
  generalize hp : k * w = p at *
  have hal : allN a * 16 ≤ a.length ∧ (a.length : Int) ≤ allN a * 16 + 15 := by unfold allN; omega
  have hlen : ((List.drop (p * 16).toNat (List.take (min (p + w) (allN a) * 16).toNat a)).length : Int) = min (p + w) (allN a) * 16 - p * 16 := by
    simp only [List.length_drop, List.length_take]; omega
  rw [hlen]
  refine ⟨by omega, hp0, by omega, ?_⟩
  rw [show 16 * p + (min (p + w) (allN a) * 16 - p * 16) = min (p + w) (allN a) * 16 by omega, show 16 * p = p * 16 by omega]
theorem takeL_mem {a : List UInt8} {l : List Span} {c : Int} {r : Rcd} (h : r ∈ takeL a l c) : Fits a r := by
  unfold takeL at h
  by_cases hc : ofE c = 0 ∧ rightB l = true
  · rw [if_pos hc] at h
    have hc6 : 0 ≤ c ∧ c ≤ 6 := by
      by_cases hc' : 0 ≤ c ∧ c ≤ 6
      · exact hc'
      · have := hc.1; unfold ofE at this; rw [if_pos (by omega)] at this; omega
    have hp := pow_c hc6
    obtain ⟨k, h1, h2, h3⟩ := outerN_mem (by omega) (right_iff.1 hc.2) (Nat.le_refl _) h
    rw [h3]; exact recK_fits (by omega) h1 h2
  · rw [if_neg hc] at h; cases h
theorem right1 {x y : Int} (h : 0 ≤ x ∧ x < y ∧ y ≤ 1000) : rightB [⟨x, y⟩] = true := by
  rw [right_iff]; exact ⟨by simp [Sp]; omega, by simp⟩
theorem right2 {x y u z : Int} (h : 0 ≤ x ∧ x < y ∧ y ≤ 1000) (h2 : y < u ∧ u < z ∧ z ≤ 1000) : rightB [⟨x, y⟩, ⟨u, z⟩] = true := by
  rw [right_iff]; exact ⟨by simp [Sp]; omega, by simp; omega⟩
theorem takeL_two {a : List UInt8} {x y u z c : Int} (h : 0 ≤ x ∧ x < y ∧ y ≤ 1000) (h2 : y < u ∧ u < z ∧ z ≤ 1000) :
    takeL a [⟨x, y⟩, ⟨u, z⟩] c = takeL a [⟨x, y⟩] c ++ takeL a [⟨u, z⟩] c := by
  simp only [takeL, right1 h, right2 h h2, right1 (x := u) (y := z) (by omega), and_true]
  by_cases hc : ofE c = 0
  · simp only [if_pos hc]; rfl
  · simp only [if_neg hc]; rfl

def env_fparts : Env := ⟨T, psi_ftakes, pspNil, 156, []⟩
theorem eok_fparts : PsiOk Try.prog env_fparts := ⟨psi_ftakes_ok, pspNil_ok⟩
theorem fparts_fn (a : List UInt8) (p : Int) (q : Int) (r : Int) (c : Int) (hp : inR .u8 p) (hq : inR .u8 q) (hr : inR .u8 r) (hc : inR .u8 c) : Ctr Try.prog 8 false [lst .byt a, int .u8 p, int .u8 q, int .u8 r, int .u8 c] (.x (.c (bv true))) := by
  refine Ctr_intro (E := env_fparts) Try.func8 rfl (by decide) rfl rfl (fun M0 W hM0 => ?_)
  simp only [inR] at hp hq hr hc
  refine G_run tOk eok_fparts 60 (fun _ => none) (fun bs => rfl) (fun bs => ?_) (fun bs => ?_)
  · (repeat' apply And.intro) <;> (intros; first | exact trivial | exact rfl | omega | exact u8_lo _ | exact u8_hi _ | exact u8_in64 _ | exact u8_in63 _ | (simp only [inR, IntKind.bits]; omega) | (simp [inR, IntKind.bits]; done) | (simp [inR, IntKind.bits] at * <;> omega) | (simp_all; done) | skip)
  refine G_cond rfl rfl (fun h => ?_) (fun h => ?_)
  · refine G_run tOk eok_fparts 60 (fun _ => none) (fun bs => rfl) (fun bs => ?_) (fun bs => ?_)
    · (repeat' apply And.intro) <;> (intros; first | exact trivial | exact rfl | omega | exact u8_lo _ | exact u8_hi _ | exact u8_in64 _ | exact u8_in63 _ | (simp only [inR, IntKind.bits]; omega) | (simp [inR, IntKind.bits]; done) | (simp [inR, IntKind.bits] at * <;> omega) | (simp_all; done) | skip)
    exact G_ret tOk hM0 rfl rfl ⟨trivial, trivial⟩ rfl
  have hl2 : a.length ≤ 5000 := by simp at h; omega
  clear h
  refine G_run tOk eok_fparts 60 (fun _ => none) (fun bs => rfl) (fun bs => ?_) (fun bs => ?_)
  · (repeat' apply And.intro) <;> (intros; first | exact trivial | exact rfl | omega | exact u8_lo _ | exact u8_hi _ | exact u8_in64 _ | exact u8_in63 _ | (simp only [inR, IntKind.bits]; omega) | (simp [inR, IntKind.bits]; done) | (simp [inR, IntKind.bits] at * <;> omega) | (simp_all; done) | skip)
  refine G_freeze 0 [47] rfl ⟨rfl, trivial⟩ ?_
  refine G_run tOk eok_fparts 60 (fun _ => none) (fun bs => rfl) (fun bs => ?_) (fun bs => ?_)
  · (repeat' apply And.intro) <;> (intros; first | exact trivial | exact rfl | omega | exact u8_lo _ | exact u8_hi _ | exact u8_in64 _ | exact u8_in63 _ | (simp only [inR, IntKind.bits]; omega) | (simp [inR, IntKind.bits]; done) | (simp [inR, IntKind.bits] at * <;> omega) | (simp_all; done) | skip)
  refine G_freeze 2 [55] rfl ⟨rfl, trivial⟩ ?_
  refine G_run tOk eok_fparts 60 (fun _ => none) (fun bs => rfl) (fun bs => ?_) (fun bs => ?_)
  · (repeat' apply And.intro) <;> (intros; first | exact trivial | exact rfl | omega | exact u8_lo _ | exact u8_hi _ | exact u8_in64 _ | exact u8_in63 _ | (simp only [inR, IntKind.bits]; omega) | (simp [inR, IntKind.bits]; done) | (simp [inR, IntKind.bits] at * <;> omega) | (simp_all; done) | skip)
  refine G_freeze 4 [66] rfl ⟨rfl, trivial⟩ ?_
  obtain ⟨x, hx⟩ : ∃ x, p % 30 = x := ⟨_, rfl⟩
  obtain ⟨y, hy⟩ : ∃ y, x + 1 + q % 30 = y := ⟨_, rfl⟩
  obtain ⟨z, hz⟩ : ∃ z, y + 2 + r % 30 = z := ⟨_, rfl⟩
  have w1 : 0 ≤ p % 30 ∧ p % 30 < p % 30 + 1 + q % 30 ∧ p % 30 + 1 + q % 30 ≤ 1000 := by omega
  have w2 : p % 30 + 1 + q % 30 < p % 30 + 1 + q % 30 + 1 ∧ p % 30 + 1 + q % 30 + 1 < p % 30 + 1 + q % 30 + 2 + r % 30 ∧ p % 30 + 1 + q % 30 + 2 + r % 30 ≤ 1000 := by omega
  have hT := takeL_two (a := a) (c := c % 7) w1 w2
  have hR := right2 w1 w2
  have hm1 := takeL_len (a := a) (l := [⟨p % 30, p % 30 + 1 + q % 30⟩]) (c % 7) (by omega) (by simp)
  have hm2 := takeL_len (a := a) (l := [⟨p % 30 + 1 + q % 30 + 1, p % 30 + 1 + q % 30 + 2 + r % 30⟩]) (c % 7) (by omega) (by simp)
  have hF := fun r' => takeL_mem (a := a) (l := [⟨p % 30, p % 30 + 1 + q % 30⟩, ⟨p % 30 + 1 + q % 30 + 1, p % 30 + 1 + q % 30 + 2 + r % 30⟩]) (c := c % 7) (r := r')
  clear hx hy hz x y z
  obtain ⟨L1, h1⟩ : ∃ L, takeL a [⟨p % 30, p % 30 + 1 + q % 30⟩] (c % 7) = L := ⟨_, rfl⟩
  obtain ⟨L2, h2⟩ : ∃ L, takeL a [⟨p % 30 + 1 + q % 30 + 1, p % 30 + 1 + q % 30 + 2 + r % 30⟩] (c % 7) = L := ⟨_, rfl⟩
  rw [h1] at hm1; rw [h2] at hm2; rw [hT, h1, h2] at hF; rw [h1, h2] at hT
  refine G_run tOk eok_fparts 60 (fun _ => some false) (fun bs => rfl) (fun bs => ?_) (fun bs => ?_)
  · simp only [h1, h2, hT, hR, List.length_append]
    (repeat' apply And.intro) <;> (intros; first | exact trivial | exact rfl | omega | exact u8_lo _ | exact u8_hi _ | exact u8_in64 _ | exact u8_in63 _ | (simp only [inR, IntKind.bits]; omega) | (simp [inR, IntKind.bits]; done) | (simp [inR, IntKind.bits] at * <;> omega) | (simp_all; done) | skip)
  refine G_els rfl rfl ?_ ?_
  · simp only [h1, h2, hT, hR, List.length_append]; simp
  refine G_freeze 1 [15] rfl ⟨rfl, trivial⟩ ?_
  refine G_freeze 3 [16] rfl ⟨rfl, trivial⟩ ?_
  refine G_freeze 5 [17] rfl ⟨rfl, trivial⟩ ?_
  refine G_run tOk eok_fparts 60 (fun _ => none) (fun bs => rfl) (fun bs => ?_) (fun bs => ?_)
  · (repeat' apply And.intro) <;> (intros; first | exact trivial | exact rfl | omega | exact u8_lo _ | exact u8_hi _ | exact u8_in64 _ | exact u8_in63 _ | (simp only [inR, IntKind.bits]; omega) | (simp [inR, IntKind.bits]; done) | (simp [inR, IntKind.bits] at * <;> omega) | (simp_all; done) | skip)
  refine G_wk (ns := []) (fs := [(0, lst .byt a), (15, lst .rcd (takeL a [⟨p % 30, p % 30 + 1 + q % 30⟩] (c % 7))), (16, lst .rcd (takeL a [⟨p % 30 + 1 + q % 30 + 1, p % 30 + 1 + q % 30 + 2 + r % 30⟩] (c % 7))), (17, lst .rcd (takeL a [⟨p % 30, p % 30 + 1 + q % 30⟩, ⟨p % 30 + 1 + q % 30 + 1, p % 30 + 1 + q % 30 + 2 + r % 30⟩] (c % 7))), (18, int .i64 0)]) (hs := []) rfl ?wk0 ?_
  case wk0 => (repeat' apply And.intro) <;> (first | exact rfl | exact trivial | omega | refine sigEq ?_ | skip)
  simp only [h1, h2, hT]
  refine G_loop (fun i : Nat => [(0, lst .byt a), (15, lst .rcd L1), (16, lst .rcd L2), (17, lst .rcd (L1 ++ L2)), (18, int .i64 i)]) (fun i => []) (fun i => i ≤ (L1 ++ L2).length) (fun i => (L1 ++ L2).length - i) rfl [] 0 (Nat.zero_le _) ?wk (fun i hi => ?_)
  case wk =>
    (repeat' apply And.intro) <;> (first | exact rfl | exact trivial | omega | refine sigEq ?_ | skip)
  rw [List.length_append] at hi
  refine G_run tOk eok_fparts 60 (fun _ => none) (fun bs => rfl) (fun bs => ?_) (fun bs => ?_)
  · (repeat' apply And.intro) <;> (intros; first | exact trivial | exact rfl | omega | exact u8_lo _ | exact u8_hi _ | exact u8_in64 _ | exact u8_in63 _ | (simp only [inR, IntKind.bits]; omega) | (simp [inR, IntKind.bits]; done) | (simp [inR, IntKind.bits] at * <;> omega) | (simp_all; done) | skip)
  refine G_if rfl rfl (fun hk => ?_) (fun hk => ?_)
  · have hk' : i < (L1 ++ L2).length := by omega
    obtain ⟨f1, f2, f3, f4⟩ := hF ((L1 ++ L2).getD i ⟨0, []⟩) (by simp [List.getD, List.getElem?_eq_getElem hk'])
    rw [List.length_append] at hk'
    have eb : (L1 ++ L2).getD (Int.toNat (i : Int)) LK.rcd.dft = (L1 ++ L2).getD i ⟨0, []⟩ := rfl
    generalize hb : (L1 ++ L2).getD i ⟨0, []⟩ = b at f1 f2 f3 f4 eb
    refine G_run tOk eok_fparts 60 (fun _ => none) (fun bs => rfl) (fun bs => ?_) (fun bs => ?_)
    · (repeat' apply And.intro) <;> (intros; first | exact trivial | exact rfl | omega | exact u8_lo _ | exact u8_hi _ | exact u8_in64 _ | exact u8_in63 _ | (simp only [inR, IntKind.bits]; omega) | (simp [inR, IntKind.bits]; done) | (simp [inR, IntKind.bits] at * <;> omega) | (simp_all; done) | skip)
    refine G_if rfl rfl (fun hq => ?_) (fun hq => ?_)
    · have hq' : i < L1.length := by omega
      have e : L1.getD (Int.toNat (i : Int)) LK.rcd.dft = b := by rw [← hb]; exact (getD_left _ _ _ hq').symm
      refine G_run tOk eok_fparts 60 (fun _ => none) (fun bs => rfl) (fun bs => ?_) (fun bs => ?_)
      · (repeat' apply And.intro) <;> (intros; first | exact trivial | exact rfl | omega | exact u8_lo _ | exact u8_hi _ | exact u8_in64 _ | exact u8_in63 _ | (simp only [inR, IntKind.bits]; omega) | (simp [inR, IntKind.bits]; done) | (simp [inR, IntKind.bits] at * <;> omega) | (simp_all; done) | skip)
      refine G_draw tOk eok_fparts rfl (fun _ => some false) 38 [0, 1, 0, 4, 15, 31, 63, 127, 255, 63, 575, 1599, 4095, 8191, 16383, 32767, 65535, 131071, 262143, 524287, 1048575, 2097151, 4194303, 4194303, 12582911, 29360127, 4194303, 71303167, 205520895, 4194303, 541065215, 1614807039, 4232052735, 8589934591, 17179869183, 4194303, 34363932671, 103083409407, 274877906943, 549755813887] [] rfl (by decide +kernel) (fun bs => rfl) (fun bs => ?_) (fun bs => ?_)
      · simp only [e, eb, f4, f1]
        (repeat' apply And.intro) <;> (intros; first | exact trivial | exact rfl | omega | exact u8_lo _ | exact u8_hi _ | exact u8_in64 _ | exact u8_in63 _ | (simp only [inR, IntKind.bits]; omega) | (simp [inR, IntKind.bits]; done) | (simp [inR, IntKind.bits] at * <;> omega) | (simp_all; done) | skip)
      refine G_run tOk eok_fparts 60 (fun _ => some false) (fun bs => rfl) (fun bs => by (repeat' apply And.intro) <;> (intros; first | exact trivial | exact rfl | omega | exact u8_lo _ | exact u8_hi _ | exact u8_in64 _ | exact u8_in63 _ | (simp only [inR, IntKind.bits]; omega) | (simp [inR, IntKind.bits]; done) | (simp [inR, IntKind.bits] at * <;> omega) | (simp_all; done) | skip)) (fun bs => ?_)
      refine G_els rfl rfl ?_ ?_
      · simp only [e, eb, f4, f1]; simp
      refine G_run tOk eok_fparts 60 (fun _ => none) (fun bs => rfl) (fun bs => ?_) (fun bs => ?_)
      · (repeat' apply And.intro) <;> (intros; first | exact trivial | exact rfl | omega | exact u8_lo _ | exact u8_hi _ | exact u8_in64 _ | exact u8_in63 _ | (simp only [inR, IntKind.bits]; omega) | (simp [inR, IntKind.bits]; done) | (simp [inR, IntKind.bits] at * <;> omega) | (simp_all; done) | skip)
      refine G_lp [] (i + 1) ?ok ?wk2
      case ok => exact ⟨by simp; omega, by simp; omega⟩
      case wk2 => (repeat' apply And.intro) <;> (first | exact rfl | exact trivial | omega | refine sigEq ?_ | skip)
    · have hq' : ¬ i < L1.length := by omega
      have e : L2.getD (Int.toNat ((i : Int) - L1.length)) LK.rcd.dft = b := by
        rw [← hb, show i = L1.length + (i - L1.length) by omega, getD_right, show Int.toNat (((L1.length + (i - L1.length) : Nat) : Int) - L1.length) = i - L1.length by omega]; rfl
      refine G_run tOk eok_fparts 60 (fun _ => none) (fun bs => rfl) (fun bs => ?_) (fun bs => ?_)
      · (repeat' apply And.intro) <;> (intros; first | exact trivial | exact rfl | omega | exact u8_lo _ | exact u8_hi _ | exact u8_in64 _ | exact u8_in63 _ | (simp only [inR, IntKind.bits]; omega) | (simp [inR, IntKind.bits]; done) | (simp [inR, IntKind.bits] at * <;> omega) | (simp_all; done) | skip)
      refine G_draw tOk eok_fparts rfl (fun _ => some false) 38 [0, 1, 0, 4, 15, 31, 63, 127, 255, 63, 575, 1599, 4095, 8191, 16383, 32767, 65535, 131071, 262143, 524287, 1048575, 2097151, 4194303, 4194303, 12582911, 29360127, 4194303, 71303167, 205520895, 4194303, 541065215, 1614807039, 4232052735, 8589934591, 17179869183, 4194303, 34363932671, 103083409407, 274877906943, 549755813887] [] rfl (by decide +kernel) (fun bs => rfl) (fun bs => ?_) (fun bs => ?_)
      · simp only [e, eb, f4, f1]
        (repeat' apply And.intro) <;> (intros; first | exact trivial | exact rfl | omega | exact u8_lo _ | exact u8_hi _ | exact u8_in64 _ | exact u8_in63 _ | (simp only [inR, IntKind.bits]; omega) | (simp [inR, IntKind.bits]; done) | (simp [inR, IntKind.bits] at * <;> omega) | (simp_all; done) | skip)
      refine G_run tOk eok_fparts 60 (fun _ => some false) (fun bs => rfl) (fun bs => by (repeat' apply And.intro) <;> (intros; first | exact trivial | exact rfl | omega | exact u8_lo _ | exact u8_hi _ | exact u8_in64 _ | exact u8_in63 _ | (simp only [inR, IntKind.bits]; omega) | (simp [inR, IntKind.bits]; done) | (simp [inR, IntKind.bits] at * <;> omega) | (simp_all; done) | skip)) (fun bs => ?_)
      refine G_els rfl rfl ?_ ?_
      · simp only [e, eb, f4, f1]; simp
      refine G_run tOk eok_fparts 60 (fun _ => none) (fun bs => rfl) (fun bs => ?_) (fun bs => ?_)
      · (repeat' apply And.intro) <;> (intros; first | exact trivial | exact rfl | omega | exact u8_lo _ | exact u8_hi _ | exact u8_in64 _ | exact u8_in63 _ | (simp only [inR, IntKind.bits]; omega) | (simp [inR, IntKind.bits]; done) | (simp [inR, IntKind.bits] at * <;> omega) | (simp_all; done) | skip)
      refine G_lp [] (i + 1) ?ok ?wk2
      case ok => exact ⟨by simp; omega, by simp; omega⟩
      case wk2 => (repeat' apply And.intro) <;> (first | exact rfl | exact trivial | omega | refine sigEq ?_ | skip)
  · refine G_run tOk eok_fparts 60 (fun _ => none) (fun bs => rfl) (fun bs => ?_) (fun bs => ?_)
    · (repeat' apply And.intro) <;> (intros; first | exact trivial | exact rfl | omega | exact u8_lo _ | exact u8_hi _ | exact u8_in64 _ | exact u8_in63 _ | (simp only [inR, IntKind.bits]; omega) | (simp [inR, IntKind.bits]; done) | (simp [inR, IntKind.bits] at * <;> omega) | (simp_all; done) | skip)
    exact G_ret tOk hM0 rfl rfl ⟨trivial, trivial⟩ rfl
def fparts_s : FSpec
  | [.c (.pv (.lst .byt a)), .c (.pv (.val (.int .u8 p))), .c (.pv (.val (.int .u8 q))), .c (.pv (.val (.int .u8 r))), .c (.pv (.val (.int .u8 c)))] => some ((inR .u8 p) ∧ (inR .u8 q) ∧ (inR .u8 r) ∧ (inR .u8 c), false, .x (.c (bv true)))
  | _ => none
theorem fparts_s_ok : SpecOk Try.prog 8 fparts_s := by
  intro args pre sh rv h hp; unfold fparts_s at h; split at h
  · cases h; obtain ⟨hp, hq, hr, hc⟩ := hp; exact fparts_fn _ _ _ _ _ hp hq hr hc
  · cases h
def psi_fparts : FuncId → Option FSpec := psiCons 8 fparts_s psi_ftakes
theorem psi_fparts_ok : PsiFn Try.prog psi_fparts := psiCons_ok fparts_s_ok psi_ftakes_ok
end Go.Proofs.Ytekaapofigocnaa
