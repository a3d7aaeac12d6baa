import Derived.Test.YtekaapofigocnaaDiff4
set_option linter.unusedSimpArgs false
set_option linter.unusedVariables false
namespace Go.Proofs.Ytekaapofigocnaa
open Go.Mt

/-- Cluster k lies in a span of l. -/
def Cov (l : List Span) (k : Int) : Prop := ∃ s ∈ l, s.fr ≤ k ∧ k < s.to
theorem cov_snoc (l : List Span) (s : Span) (j : Int) : Cov (l ++ [s]) j ↔ Cov l j ∨ (s.fr ≤ j ∧ j < s.to) := by
  simp only [Cov, List.mem_append, List.mem_singleton]
  constructor
  · rintro ⟨x, h | h, h2⟩
    · exact Or.inl ⟨x, h, h2⟩
    · subst h; exact Or.inr h2
  · rintro (⟨x, h, h2⟩ | h)
    · exact ⟨x, Or.inl h, h2⟩
    · exact ⟨s, Or.inr rfl, h⟩
theorem cov_step (l : List Span) (k j : Int) (hR : Rt l) : Cov (ofStep l k) j ↔ Cov l j ∨ j = k := by
  rcases List.eq_nil_or_concat l with rfl | ⟨m, y, rfl⟩
  · have e : ofStep [] k = [⟨k, k + 1⟩] := by simp [ofStep]
    rw [e]; simp only [Cov, List.mem_singleton, exists_eq_left, List.not_mem_nil, false_and, exists_false, false_or]; omega
  · rw [List.concat_eq_append] at *
    obtain ⟨r1, r2, r3⟩ := Rt.snoc.1 hR
    have hy : y.fr < y.to := r2.2.1
    rw [ofStep_snoc]
    cases hd : decide (y.to = k) with
    | true =>
      have he : y.to = k := of_decide_eq_true hd
      show Cov (m ++ [⟨y.fr, y.to + 1⟩]) j ↔ _
      rw [cov_snoc, cov_snoc]
      by_cases hm : Cov m j <;> simp only [hm, true_or, false_or, true_iff]
      omega
    | false =>
      show Cov (m ++ [y] ++ [⟨k, k + 1⟩]) j ↔ _
      rw [cov_snoc]
      by_cases hm : Cov (m ++ [y]) j <;> simp only [hm, true_or, false_or, true_iff]
      omega
theorem cov_diffN (a b : List UInt8) (n : Int) (j : Nat) : ∀ K : Nat, K ≤ 1073741823 → (Cov (diffN a b n K) j ↔ j < K ∧ same a b n j = false)
  | 0, _ => by simp [diffN, Cov]
  | K + 1, hK => by
    have ih := cov_diffN a b n j K (by omega)
    simp only [diffN]
    cases hs : same a b n K with
    | true =>
      show Cov (diffN a b n K) _ ↔ _
      rw [ih]
      constructor
      · intro h; exact ⟨by omega, h.2⟩
      · intro h
        by_cases e : j = K
        · subst e; rw [hs] at h; exact absurd h.2 (by simp)
        · exact ⟨by omega, h.2⟩
    | false =>
      show Cov (ofStep (diffN a b n K) K) _ ↔ _
      rw [cov_step _ _ _ (diffN_right a b n K (by omega)).1, ih]
      constructor
      · rintro (h | h)
        · exact ⟨by omega, h.2⟩
        · have : j = K := by omega
          subst this; exact ⟨by omega, hs⟩
      · intro h
        by_cases e : j = K
        · right; omega
        · left; exact ⟨by omega, h.2⟩
/-- Alike clusters: alike bytes. -/
theorem cutL_get (a : List UInt8) (lo hi : Int) (h0 : 0 ≤ lo) (p : Nat) (h1 : lo ≤ p) (h2 : (p : Int) < hi) : (cutL a lo hi)[p - lo.toNat]? = a[p]? := by
  unfold cutL
  by_cases hp : p < a.length
  · rw [List.getElem?_drop, List.getElem?_take, if_pos (by omega), show (min lo (a.length : Int)).toNat + (p - lo.toNat) = p by omega]
  · rw [List.getElem?_eq_none (l := a) (by omega), List.getElem?_eq_none]
    simp only [List.length_drop, List.length_take]; omega
theorem same_get {a b : List UInt8} {n : Int} {k : Nat} (h : same a b n k = true) (hn : 0 < n) (p : Nat) (h1 : k * n ≤ p) (h2 : (p : Int) < k * n + n) : a[p]? = b[p]? := by
  have h3 := of_decide_eq_true h
  have h4 : (0 : Int) ≤ k * n := Int.mul_nonneg (by omega) (by omega)
  rw [← cutL_get a _ _ h4 p h1 h2, ← cutL_get b _ _ h4 p h1 h2, h3]
theorem clus {p : Nat} {n : Int} (hn : 0 < n) : ((p : Int) / n).toNat * n ≤ p ∧ (p : Int) < ((p : Int) / n).toNat * n + n := by
  have h0 : 0 ≤ (p : Int) / n := Int.ediv_nonneg (by omega) (by omega)
  have h := Int.mul_ediv_add_emod (p : Int) n
  have h1 := Int.emod_lt_of_pos (p : Int) hn
  have h2 := Int.emod_nonneg (p : Int) (b := n) (by omega)
  rw [Int.toNat_of_nonneg h0, Int.mul_comm]
  omega
theorem ofL_cov {a b : List UInt8} {c : Int} (hc : 0 ≤ c ∧ c ≤ 6) (ha : a.length ≤ 100000) (hab : a.length = b.length) (p : Nat) (hp : p < a.length) (hne : a[p]? ≠ b[p]?) :
    Cov (ofL a b c) ((p : Int) / (16 * 2 ^ c.toNat)).toNat := by
  have he : ofE c = 0 := by unfold ofE; rw [if_neg (by omega)]
  have hp2 := pow_c hc
  obtain ⟨n, hn⟩ : ∃ n : Int, (16 : Int) * 2 ^ c.toNat = n := ⟨_, rfl⟩
  have hcl := clus (p := p) (n := n) (by omega)
  have hle := ofC_le (a := a) (b := b) (n := n) (by omega) ha (by omega) (by omega)
  simp only [ofL, he, if_true, hn]
  rw [cov_diffN _ _ _ _ _ (by omega)]
  refine ⟨?_, ?_⟩
  · have := (cnt_lt (M := max (a.length : Int) b.length) (n := n) (by omega) (((p : Int) / n).toNat : Int)).2 (by omega)
    unfold ofC; omega
  · cases hs : same a b n ((p : Int) / n).toNat with
    | false => rfl
    | true => exact absurd (same_get hs (by omega) p hcl.1 hcl.2) hne
theorem diffN_self (a : List UInt8) (n : Int) (k : Nat) : diffN a a n k = [] := by
  induction k with
  | zero => rfl
  | succ k ih => simp only [diffN, ih, same, decide_true]
theorem ofL_self (a : List UInt8) (c : Int) : ofL a a c = [] := by
  unfold ofL; split
  · exact diffN_self _ _ _
  · rfl
theorem ofL_nil {a b : List UInt8} {c : Int} (hc : 0 ≤ c ∧ c ≤ 6) (ha : a.length ≤ 100000) (hab : a.length = b.length) : decide (((ofL a b c).length : Int) = 0) = decide (a = b) := by
  by_cases e : a = b
  · subst e; rw [ofL_self]; simp
  · rw [decide_eq_false e, decide_eq_false]
    intro h
    have h0 : ofL a b c = [] := List.eq_nil_of_length_eq_zero (by omega)
    apply e
    apply List.ext_getElem?
    intro p
    by_cases hp : p < a.length
    · by_cases hne : a[p]? = b[p]?
      · exact hne
      · have := ofL_cov hc ha hab p hp hne
        rw [h0] at this; simp [Cov] at this
    · rw [List.getElem?_eq_none (by omega), List.getElem?_eq_none (by omega)]
theorem ofL_right {a b : List UInt8} {c : Int} (hc : 0 ≤ c ∧ c ≤ 6) (ha : a.length ≤ 100000) (hb : b.length ≤ 100000) : rightB (ofL a b c) = true := by
  have he : ofE c = 0 := by unfold ofE; rw [if_neg (by omega)]
  have hp2 := pow_c hc
  obtain ⟨n, hn⟩ : ∃ n : Int, (16 : Int) * 2 ^ c.toNat = n := ⟨_, rfl⟩
  have hle := ofC_le (a := a) (b := b) (n := n) (by omega) ha hb (by omega)
  rw [right_iff]
  simp only [ofL, he, if_true, hn]
  exact (diffN_right a b n _ (by omega)).1
theorem innerN_in (a : List UInt8) (w f : Int) {j i : Nat} (h : i < j) : recK a w (f + i) ∈ innerN a w f j := by
  induction j with
  | zero => omega
  | succ j ih =>
    simp only [innerN, List.mem_append, List.mem_singleton]
    by_cases e : i = j
    · subst e; exact Or.inr rfl
    · exact Or.inl (ih (by omega))
theorem outerN_in {a : List UInt8} {w : Int} {l : List Span} (hw : 1 ≤ w) {k : Int} (hk : k * w < allN a) {i : Nat} (hi : i < l.length) (h1 : (l.getD i ⟨0, 0⟩).fr ≤ k) (h2 : k < (l.getD i ⟨0, 0⟩).to) : ∀ j, i < j → recK a w k ∈ outerN a w l j
  | 0, h => by omega
  | j + 1, h => by
    simp only [outerN, List.mem_append]
    by_cases e : i = j
    · subst e
      right
      obtain ⟨m, hm⟩ : ∃ m : Nat, k = (l.getD i ⟨0, 0⟩).fr + m := ⟨(k - (l.getD i ⟨0, 0⟩).fr).toNat, by omega⟩
      rw [hm]
      refine innerN_in _ _ _ ?_
      rw [← cntN_iff hw]
      rw [← hm]; exact ⟨h2, hk⟩
    · exact Or.inl (outerN_in hw hk hi h1 h2 j (by omega))
/-- Every byte of a covered cluster lies in a record. -/
theorem takeL_cov {a : List UInt8} {l : List Span} {c : Int} (hc : 0 ≤ c ∧ c ≤ 6) (hR : rightB l = true) (ha : (a.length : Int) % 16 = 0) (p : Nat) (hp : p < a.length) (h : Cov l ((p : Int) / (16 * 2 ^ c.toNat)).toNat) :
    ∃ i, i < (takeL a l c).length ∧ 16 * ((takeL a l c).getD i ⟨0, []⟩).at_ ≤ p ∧ (p : Int) < 16 * ((takeL a l c).getD i ⟨0, []⟩).at_ + ((takeL a l c).getD i ⟨0, []⟩).data.length := by
  have he : ofE c = 0 := by unfold ofE; rw [if_neg (by omega)]
  have hp2 := pow_c hc
  obtain ⟨w, hw⟩ : ∃ w : Int, (2 : Int) ^ c.toNat = w := ⟨_, rfl⟩
  obtain ⟨s, hs, h1, h2⟩ := h
  rw [hw] at h1 h2 hp2
  have hcl := clus (p := p) (n := 16 * w) (by omega)
  generalize hk : (((p : Int) / (16 * w)).toNat : Int) = k at *
  have e1 : k * (16 * w) = 16 * (k * w) := by rw [Int.mul_left_comm]
  have e2 : (k + 1) * w = k * w + w := by rw [Int.add_mul, Int.one_mul]
  rw [e1] at hcl
  have hal : allN a * 16 = a.length := by unfold allN; omega
  have hkw : k * w < allN a := by omega
  have hk0 : 0 ≤ k * w := Int.mul_nonneg (by omega) (by omega)
  obtain ⟨i, hi, rfl⟩ := List.mem_iff_getElem.1 hs
  have hg : l.getD i ⟨0, 0⟩ = l[i] := by simp [List.getD, List.getElem?_eq_getElem hi]
  have hin : recK a w k ∈ takeL a l c := by
    unfold takeL
    rw [if_pos ⟨he, hR⟩, hw]
    exact outerN_in (by omega) hkw hi (by rw [hg]; exact h1) (by rw [hg]; exact h2) _ hi
  obtain ⟨j, hj, hj2⟩ := List.mem_iff_getElem.1 hin
  refine ⟨j, hj, ?_⟩
  rw [show (takeL a l c).getD j ⟨0, []⟩ = recK a w k by rw [← hj2]; simp [List.getD, List.getElem?_eq_getElem hj]]
  have hlen : ((recK a w k).data.length : Int) = min (k * w + w) (allN a) * 16 - k * w * 16 := by
    simp only [recK, e2, List.length_drop, List.length_take]; omega
  rw [hlen]
  show 16 * (k * w) ≤ p ∧ (p : Int) < 16 * (k * w) + _
  omega

theorem ofL_len2 {a b : List UInt8} {c : Int} (hc : 0 ≤ c ∧ c ≤ 6) (ha : a.length ≤ 8000) (hb : b.length ≤ 8000) : (ofL a b c).length ≤ 600 := by
  have he : ofE c = 0 := by unfold ofE; rw [if_neg (by omega)]
  have hp2 := pow_c hc
  obtain ⟨n, hn⟩ : ∃ n : Int, (16 : Int) * 2 ^ c.toNat = n := ⟨_, rfl⟩
  simp only [ofL, he, if_true, hn]
  have h1 := diffN_len a b n (ofC a b n).toNat
  have h2 := cnt_lt (M := max (a.length : Int) b.length) (n := n) (by omega) 600
  unfold ofC at *
  have : ¬ (600 : Int) < (max (a.length : Int) b.length + n - 1) / n := fun h => by have := h2.1 h; omega
  omega
def cut16 (a : List UInt8) : List UInt8 := List.drop (Int.toNat 0) (List.take (((a.length : Int) / 16 * 16).toNat) a)
def env_fmakes : Env := ⟨T, psi_fparts, pspNil, 174, []⟩
theorem eok_fmakes : PsiOk Try.prog env_fmakes := ⟨psi_fparts_ok, pspNil_ok⟩
theorem fmakes_fn (a : List UInt8) (t : List Int) (c : Int) (ht : ∀ x ∈ t, inR .u16 x) (hc : inR .u8 c) : Ctr Try.prog 7 false [lst .byt a, lst (.ints .u16) t, int .u8 c] (.x (.c (bv true))) := by
  refine Ctr_intro (E := env_fmakes) Try.func7 rfl (by decide) rfl rfl (fun M0 W hM0 => ?_)
  simp only [inR] at hc
  refine G_run tOk eok_fmakes 60 (fun _ => none) (fun bs => rfl) (fun bs => ?_) (fun bs => ?_)
  · (repeat' apply And.intro) <;> (intros; first | exact trivial | exact rfl | omega | exact u8_lo _ | exact u8_hi _ | exact u8_in64 _ | exact u8_in63 _ | (simp only [inR, IntKind.bits]; omega) | (simp [inR, IntKind.bits]; done) | (simp [inR, IntKind.bits] at * <;> omega) | (simp_all; done) | skip)
  refine G_cond rfl rfl (fun h => ?_) (fun h => ?_)
  · refine G_run tOk eok_fmakes 60 (fun _ => none) (fun bs => rfl) (fun bs => ?_) (fun bs => ?_)
    · (repeat' apply And.intro) <;> (intros; first | exact trivial | exact rfl | omega | exact u8_lo _ | exact u8_hi _ | exact u8_in64 _ | exact u8_in63 _ | (simp only [inR, IntKind.bits]; omega) | (simp [inR, IntKind.bits]; done) | (simp [inR, IntKind.bits] at * <;> omega) | (simp_all; done) | skip)
    exact G_ret tOk hM0 rfl rfl ⟨trivial, trivial⟩ rfl
  have hl2 : a.length ≤ 5000 ∧ t.length ≤ 30 := by simp at h; omega
  clear h
  refine G_run tOk eok_fmakes 60 (fun _ => none) (fun bs => rfl) (fun bs => ?_) (fun bs => ?_)
  · (repeat' apply And.intro) <;> (intros; first | exact trivial | exact rfl | omega | exact u8_lo _ | exact u8_hi _ | exact u8_in64 _ | exact u8_in63 _ | (simp only [inR, IntKind.bits]; omega) | (simp [inR, IntKind.bits]; done) | (simp [inR, IntKind.bits] at * <;> omega) | (simp_all; done) | skip)
  have hdl : (cut16 a).length ≤ 5000 ∧ ((cut16 a).length : Int) % 16 = 0 := by
    rw [cut16, show Int.toNat 0 = 0 from rfl, List.drop_zero, List.length_take]; omega
  refine G_loop (fun x : Nat × List UInt8 × Value => [(0, lst .byt (cut16 a)), (1, lst (.ints .u16) t), (2, int .u8 c), (7, .c (.own 0 x.2.2)), (8, int .i64 x.1)]) (fun x => [.own x.2.2 5 .byt x.2.1])
    (fun x => x.1 ≤ t.length ∧ x.2.1.length = (cut16 a).length) (fun x => t.length - x.1) rfl [1] (0, cut16 a, ?v0) ⟨Nat.zero_le _, rfl⟩ ?wk (fun x hx => ?_)
  case wk =>
    (repeat' apply And.intro) <;> (first | exact rfl | exact trivial | omega | refine sigEq ?_ | skip)
  generalize cut16 a = d at *
  obtain ⟨i, b, v⟩ := x
  obtain ⟨hi, hbl⟩ := hx
  dsimp only at hi hbl ⊢
  refine G_run tOk eok_fmakes 60 (fun _ => none) (fun bs => rfl) (fun bs => ?_) (fun bs => ?_)
  · (repeat' apply And.intro) <;> (intros; first | exact trivial | exact rfl | omega | exact u8_lo _ | exact u8_hi _ | exact u8_in64 _ | exact u8_in63 _ | (simp only [inR, IntKind.bits]; omega) | (simp [inR, IntKind.bits]; done) | (simp [inR, IntKind.bits] at * <;> omega) | (simp_all; done) | skip)
  refine G_cond rfl rfl (fun h => ?_) (fun h => ?_)
  · have hk : i < t.length ∧ 0 < b.length := by simp at h; omega
    clear h
    have hti : inR .u16 (t.getD (Int.toNat (i : Int)) (LK.ints IntKind.u16).dft) := ht (t.getD i 0) (by simp [List.getD, List.getElem?_eq_getElem hk.1])
    simp only [inR] at hti
    have hm0 := Int.emod_nonneg (t.getD (Int.toNat (i : Int)) (LK.ints IntKind.u16).dft) (b := (b.length : Int)) (by omega)
    have hm1 := Int.emod_lt_of_pos (t.getD (Int.toNat (i : Int)) (LK.ints IntKind.u16).dft) (b := (b.length : Int)) (by omega)
    refine G_run tOk eok_fmakes 60 (fun _ => none) (fun bs => rfl) (fun bs => ?_) (fun bs => ?_)
    · (repeat' apply And.intro) <;> (intros; first | exact trivial | exact rfl | omega | exact u8_lo _ | exact u8_hi _ | exact u8_in64 _ | exact u8_in63 _ | (simp only [inR, IntKind.bits]; omega) | (simp [inR, IntKind.bits]; done) | (simp [inR, IntKind.bits] at * <;> omega) | (simp_all; done) | skip)
    refine G_lp [0] (i + 1, ?b2, v) ?ok ?wk2
    case wk2 => (repeat' apply And.intro) <;> (first | exact rfl | exact trivial | omega | refine sigEq ?_ | skip)
    case ok => exact ⟨⟨by simp; omega, by simp [hbl]⟩, by simp; omega⟩
  clear h
  have hc7 : 0 ≤ c % 7 ∧ c % 7 ≤ 6 := by omega
  have hol := ofL_len2 hc7 (a := d) (b := b) (by omega) (by omega)
  have hE : ofE (c % 7) = 0 := by unfold ofE; rw [if_neg (by omega)]
  have hN := ofL_nil hc7 (a := d) (b := b) (by omega) hbl.symm
  have hR := ofL_right hc7 (a := d) (b := b) (by omega) (by omega)
  refine G_run tOk eok_fmakes 60 (fun _ => some false) (fun bs => rfl) (fun bs => ?_) (fun bs => ?_)
  · simp only [hE, hN, hR]
    (repeat' apply And.intro) <;> (intros; first | exact trivial | exact rfl | omega | exact u8_lo _ | exact u8_hi _ | exact u8_in64 _ | exact u8_in63 _ | (simp only [inR, IntKind.bits]; omega) | (simp [inR, IntKind.bits]; done) | (simp [inR, IntKind.bits] at * <;> omega) | (simp_all; done) | skip)
  refine G_els rfl rfl ?_ ?_
  · simp only [hE, hN, hR]; simp
  refine G_run tOk eok_fmakes 60 (fun _ => none) (fun bs => rfl) (fun bs => ?_) (fun bs => ?_)
  · (repeat' apply And.intro) <;> (intros; first | exact trivial | exact rfl | omega | exact u8_lo _ | exact u8_hi _ | exact u8_in64 _ | exact u8_in63 _ | (simp only [inR, IntKind.bits]; omega) | (simp [inR, IntKind.bits]; done) | (simp [inR, IntKind.bits] at * <;> omega) | (simp_all; done) | skip)
  refine G_freeze 1 [93] rfl ⟨rfl, trivial⟩ ?_
  have htl := takeL_len (a := d) (l := ofL d b (c % 7)) (c % 7) (by omega) (by omega)
  have hF := fun r' => takeL_mem (a := d) (l := ofL d b (c % 7)) (c := c % 7) (r := r')
  have hC := takeL_cov (a := d) hc7 hR hdl.2
  refine G_run tOk eok_fmakes 60 (fun _ => none) (fun bs => rfl) (fun bs => ?_) (fun bs => ?_)
  · (repeat' apply And.intro) <;> (intros; first | exact trivial | exact rfl | omega | exact u8_lo _ | exact u8_hi _ | exact u8_in64 _ | exact u8_in63 _ | (simp only [inR, IntKind.bits]; omega) | (simp [inR, IntKind.bits]; done) | (simp [inR, IntKind.bits] at * <;> omega) | (simp_all; done) | skip)
  refine G_freeze 2 [13] rfl ⟨rfl, trivial⟩ ?_
  refine G_run tOk eok_fmakes 60 (fun _ => none) (fun bs => rfl) (fun bs => ?_) (fun bs => ?_)
  · (repeat' apply And.intro) <;> (intros; first | exact trivial | exact rfl | omega | exact u8_lo _ | exact u8_hi _ | exact u8_in64 _ | exact u8_in63 _ | (simp only [inR, IntKind.bits]; omega) | (simp [inR, IntKind.bits]; done) | (simp [inR, IntKind.bits] at * <;> omega) | (simp_all; done) | skip)
  refine G_wk (ns := [0]) (fs := [(0, lst .byt d), (7, .c (.own 0 v)), (10, int .i64 (c % 7)), (13, lst .rcd (takeL d (ofL d b (c % 7)) (c % 7))), (14, int .i64 0)]) (hs := [.own v 5 .byt b]) rfl ?wk0 ?_
  case wk0 => (repeat' apply And.intro) <;> (first | exact rfl | exact trivial | omega | refine sigEq ?_ | skip)
  have hI : ∀ p, p < d.length → b[p]? = d[p]? ∨ ∃ k, 0 ≤ k ∧ k < (takeL d (ofL d b (c % 7)) (c % 7)).length ∧ 16 * ((takeL d (ofL d b (c % 7)) (c % 7)).getD k ⟨0, []⟩).at_ ≤ p ∧ (p : Int) < 16 * ((takeL d (ofL d b (c % 7)) (c % 7)).getD k ⟨0, []⟩).at_ + ((takeL d (ofL d b (c % 7)) (c % 7)).getD k ⟨0, []⟩).data.length := by
    intro p hp
    by_cases e : b[p]? = d[p]?
    · exact Or.inl e
    · obtain ⟨k, h1, h2⟩ := hC p hp (ofL_cov hc7 (by omega) hbl.symm p hp (fun h => e h.symm))
      exact Or.inr ⟨k, Nat.zero_le _, h1, h2⟩
  generalize takeL d (ofL d b (c % 7)) (c % 7) = L at *
  refine G_loop (fun x : Nat × List UInt8 × Value => [(0, lst .byt d), (7, .c (.own 0 x.2.2)), (10, int .i64 (c % 7)), (13, lst .rcd L), (14, int .i64 x.1)]) (fun x => [.own x.2.2 5 .byt x.2.1])
    (fun x => x.1 ≤ L.length ∧ x.2.1.length = d.length ∧ ∀ p, p < d.length → x.2.1[p]? = d[p]? ∨ ∃ k, x.1 ≤ k ∧ k < L.length ∧ 16 * (L.getD k ⟨0, []⟩).at_ ≤ p ∧ (p : Int) < 16 * (L.getD k ⟨0, []⟩).at_ + (L.getD k ⟨0, []⟩).data.length)
    (fun x => L.length - x.1) rfl [0] (0, b, v) ⟨Nat.zero_le _, hbl, hI⟩ ?wk3 (fun x hx => ?_)
  case wk3 => (repeat' apply And.intro) <;> (first | exact rfl | exact trivial | omega | refine sigEq ?_ | skip)
  clear hI hC hN hR hE hbl hol hi
  obtain ⟨i, b, v⟩ := x
  obtain ⟨hi, hbl, hI⟩ := hx
  dsimp only at hi hbl hI ⊢
  refine G_run tOk eok_fmakes 60 (fun _ => none) (fun bs => rfl) (fun bs => ?_) (fun bs => ?_)
  · (repeat' apply And.intro) <;> (intros; first | exact trivial | exact rfl | omega | exact u8_lo _ | exact u8_hi _ | exact u8_in64 _ | exact u8_in63 _ | (simp only [inR, IntKind.bits]; omega) | (simp [inR, IntKind.bits]; done) | (simp [inR, IntKind.bits] at * <;> omega) | (simp_all; done) | skip)
  refine G_if rfl rfl (fun hk => ?_) (fun hk => ?_)
  · have hk' : i < L.length := by omega
    have hr : L.getD (Int.toNat (i : Int)) LK.rcd.dft = L.getD i ⟨0, []⟩ := rfl
    obtain ⟨f1, f2, f3, f4⟩ := hF (L.getD i ⟨0, []⟩) (by simp [List.getD, List.getElem?_eq_getElem hk'])
    obtain ⟨r, hr2⟩ : ∃ r, L.getD i ⟨0, []⟩ = r := ⟨_, rfl⟩
    rw [hr2] at hr f1 f2 f3 f4
    refine G_run tOk eok_fmakes 60 (fun _ => none) (fun bs => rfl) (fun bs => ?_) (fun bs => ?_)
    · (repeat' apply And.intro) <;> (intros; first | exact trivial | exact rfl | omega | exact u8_lo _ | exact u8_hi _ | exact u8_in64 _ | exact u8_in63 _ | (simp only [inR, IntKind.bits]; omega) | (simp [inR, IntKind.bits]; done) | (simp [inR, IntKind.bits] at * <;> omega) | (simp_all; done) | skip)
    refine G_loop (fun x : Nat × List UInt8 × Value => [(0, lst .byt d), (7, .c (.own 0 x.2.2)), (10, int .i64 (c % 7)), (13, lst .rcd L), (14, int .i64 i), (15, int .i64 x.1)]) (fun x => [.own x.2.2 5 .byt x.2.1])
      (fun x => x.1 ≤ r.data.length ∧ x.2.1.length = d.length ∧ ∀ p, p < d.length → x.2.1[p]? = d[p]? ∨ (16 * r.at_ + x.1 ≤ p ∧ (p : Int) < 16 * r.at_ + r.data.length) ∨ ∃ k, i + 1 ≤ k ∧ k < L.length ∧ 16 * (L.getD k ⟨0, []⟩).at_ ≤ p ∧ (p : Int) < 16 * (L.getD k ⟨0, []⟩).at_ + (L.getD k ⟨0, []⟩).data.length)
      (fun x => r.data.length - x.1) rfl [0] (0, b, v) ⟨Nat.zero_le _, hbl, ?hI0⟩ ?wk4 (fun x hx => ?_)
    case wk4 => (repeat' apply And.intro) <;> (first | exact rfl | exact trivial | omega | refine sigEq ?_ | skip)
    case hI0 =>
      intro p hp
      rcases hI p hp with h | ⟨k, h1, h2, h3⟩
      · exact Or.inl h
      · right
        by_cases e : k = i
        · subst e; rw [hr2] at h3; left; simpa using h3
        · exact Or.inr ⟨k, by omega, h2, h3⟩
    clear hI hbl
    obtain ⟨j, b, v⟩ := x
    obtain ⟨hj, hbl, hI⟩ := hx
    dsimp only at hj hbl hI ⊢
    refine G_run tOk eok_fmakes 60 (fun _ => none) (fun bs => rfl) (fun bs => ?_) (fun bs => ?_)
    · (repeat' apply And.intro) <;> (intros; first | exact trivial | exact rfl | omega | exact u8_lo _ | exact u8_hi _ | exact u8_in64 _ | exact u8_in63 _ | (simp only [inR, IntKind.bits]; omega) | (simp [inR, IntKind.bits]; done) | (simp [inR, IntKind.bits] at * <;> omega) | (simp_all; done) | skip)
    refine G_if rfl rfl (fun hq => ?_) (fun hq => ?_)
    · rw [hr] at hq
      have hq' : j < r.data.length := by omega
      refine G_run tOk eok_fmakes 60 (fun _ => some false) (fun bs => rfl) (fun bs => ?_) (fun bs => ?_)
      · simp only [hr]
        (repeat' apply And.intro) <;> (intros; first | exact trivial | exact rfl | omega | exact u8_lo _ | exact u8_hi _ | exact u8_in64 _ | exact u8_in63 _ | (simp only [inR, IntKind.bits]; omega) | (simp [inR, IntKind.bits]; done) | (simp [inR, IntKind.bits] at * <;> omega) | (simp_all; done) | skip)
      refine G_els rfl rfl ?_ ?_
      · simp only [hr]; simp; omega
      refine G_run tOk eok_fmakes 60 (fun _ => none) (fun bs => rfl) (fun bs => ?_) (fun bs => ?_)
      · (repeat' apply And.intro) <;> (intros; first | exact trivial | exact rfl | omega | exact u8_lo _ | exact u8_hi _ | exact u8_in64 _ | exact u8_in63 _ | (simp only [inR, IntKind.bits]; omega) | (simp [inR, IntKind.bits]; done) | (simp [inR, IntKind.bits] at * <;> omega) | (simp_all; done) | skip)
      rw [← hr] at f1 f2 f3 f4 hq
      refine G_draw tOk eok_fmakes rfl (fun _ => none) 17 [0, 0, 0, 6, 14, 30, 62, 0, 254, 0, 0, 1536, 3584, 7680, 0, 32256, 65024, 131071, 262143] [] rfl (by decide +kernel) (fun bs => rfl) (fun bs => ?_) (fun bs => ?_)
      · (repeat' apply And.intro) <;> (intros; first | exact trivial | exact rfl | omega | exact u8_lo _ | exact u8_hi _ | exact u8_in64 _ | exact u8_in63 _ | (simp only [inR, IntKind.bits]; omega) | (simp [inR, IntKind.bits]; done) | (simp [inR, IntKind.bits] at * <;> omega) | (simp_all; done) | skip)
      refine G_run tOk eok_fmakes 60 (fun _ => none) (fun bs => rfl) (fun bs => ?_) (fun bs => ?_)
      · (repeat' apply And.intro) <;> (intros; first | exact trivial | exact rfl | omega | exact u8_lo _ | exact u8_hi _ | exact u8_in64 _ | exact u8_in63 _ | (simp only [inR, IntKind.bits]; omega) | (simp [inR, IntKind.bits]; done) | (simp [inR, IntKind.bits] at * <;> omega) | (simp_all; done) | skip)
        exact Int.ofNat_le.2 (Nat.le_of_lt_succ (UInt8.toNat_lt _))
      refine G_lp [0] (j + 1, ?b6, v) ?ok6 ?wk6
      case wk6 => (repeat' apply And.intro) <;> (first | exact rfl | exact trivial | omega | refine sigEq ?_ | skip)
      case ok6 =>
        rw [hr] at f1 f2 f3 f4 hq ⊢
        have e8 : UInt8.ofNat (Int.toNat ((UInt8.toNat (r.data.getD (Int.toNat (j : Int)) LK.byt.dft) : Nat) : Int)) = r.data.getD j 0 := by
          rw [Int.toNat_natCast]; exact UInt8.ofNat_toNat
        have e9 : d[(16 * r.at_ + (j : Int)).toNat]? = some (r.data.getD j 0) := by
          have h1 : r.data[j]? = some (r.data.getD j 0) := by simp [List.getD, List.getElem?_eq_getElem hq']
          rw [← h1, ← f4, List.getElem?_drop, List.getElem?_take, if_pos (by omega)]
          congr 1; omega
        refine ⟨⟨by simp only; omega, by simp only [List.length_set]; exact hbl, fun p hp => ?_⟩, by simp only; omega⟩
        dsimp only
        rw [e8]
        by_cases e : p = (16 * r.at_ + (j : Int)).toNat
        · left; subst e; rw [List.getElem?_set_self (by omega), e9]
        · rw [List.getElem?_set_ne (fun h => e h.symm)]
          rcases hI p hp with h | h | h
          · exact Or.inl h
          · exact Or.inr (Or.inl ⟨by omega, h.2⟩)
          · exact Or.inr (Or.inr h)
    · rw [hr] at hq
      have hq' : j = r.data.length := by omega
      refine G_run tOk eok_fmakes 60 (fun _ => none) (fun bs => rfl) (fun bs => ?_) (fun bs => ?_)
      · (repeat' apply And.intro) <;> (intros; first | exact trivial | exact rfl | omega | exact u8_lo _ | exact u8_hi _ | exact u8_in64 _ | exact u8_in63 _ | (simp only [inR, IntKind.bits]; omega) | (simp [inR, IntKind.bits]; done) | (simp [inR, IntKind.bits] at * <;> omega) | (simp_all; done) | skip)
      refine G_lp [0] (i + 1, b, v) ?ok5 ?wk5
      case wk5 => (repeat' apply And.intro) <;> (first | exact rfl | exact trivial | omega | refine sigEq ?_ | skip)
      case ok5 =>
        refine ⟨⟨by simp only; omega, hbl, fun p hp => ?_⟩, by simp only; omega⟩
        rcases hI p hp with h | h | h
        · exact Or.inl h
        · omega
        · exact Or.inr h
  · have hk' : i = L.length := by omega
    have hbd : b = d := by
      apply List.ext_getElem?
      intro p
      by_cases hp : p < d.length
      · rcases hI p hp with h | ⟨k, h1, h2, h3⟩
        · exact h
        · omega
      · rw [List.getElem?_eq_none (by omega), List.getElem?_eq_none (by omega)]
    subst hbd
    have hE : ofE (c % 7) = 0 := by unfold ofE; rw [if_neg (by omega)]
    refine G_run tOk eok_fmakes 60 (fun _ => some true) (fun bs => rfl) (fun bs => ?_) (fun bs => ?_)
    · simp only [ofL_self, hE]
      (repeat' apply And.intro) <;> (intros; first | exact trivial | exact rfl | omega | exact u8_lo _ | exact u8_hi _ | exact u8_in64 _ | exact u8_in63 _ | (simp only [inR, IntKind.bits]; omega) | (simp [inR, IntKind.bits]; done) | (simp [inR, IntKind.bits] at * <;> omega) | (simp_all; done) | skip)
    refine G_ret tOk hM0 rfl rfl ⟨trivial, trivial⟩ ?_
    conv => whnf
    simp [ofL_self, hE]
def fmakes_s : FSpec
  | [.c (.pv (.lst .byt a)), .c (.pv (.lst (.ints .u16) t)), .c (.pv (.val (.int .u8 c)))] => some ((∀ x ∈ t, inR .u16 x) ∧ (inR .u8 c), false, .x (.c (bv true)))
  | _ => none
theorem fmakes_s_ok : SpecOk Try.prog 7 fmakes_s := by
  intro args pre sh rv h hp; unfold fmakes_s at h; split at h
  · cases h; obtain ⟨ht, hc⟩ := hp; exact fmakes_fn _ _ _ ht hc
  · cases h
def psi_fmakes : FuncId → Option FSpec := psiCons 7 fmakes_s psi_fparts
theorem psi_fmakes_ok : PsiFn Try.prog psi_fmakes := psiCons_ok fmakes_s_ok psi_fparts_ok
end Go.Proofs.Ytekaapofigocnaa
