import Derived.Test.YtekaapofigocnaaDiff5
set_option linter.unusedSimpArgs false
set_option linter.unusedVariables false
namespace Go.Proofs.Ytekaapofigocnaa
open Go.Mt

theorem same_iff {a b : List UInt8} {n : Int} {k : Nat} (hn : 0 < n) : same a b n k = true ↔ ∀ p : Nat, k * n ≤ p → (p : Int) < k * n + n → a[p]? = b[p]? := by
  constructor
  · intro h p h1 h2; exact same_get h hn p h1 h2
  · intro h
    have h4 : (0 : Int) ≤ k * n := Int.mul_nonneg (by omega) (by omega)
    simp only [same, decide_eq_true_eq]
    apply List.ext_getElem?
    intro j
    by_cases hj : (j : Int) < n
    · have e1 := cutL_get a (k * n) (k * n + n) h4 ((k * n).toNat + j) (by omega) (by omega)
      have e2 := cutL_get b (k * n) (k * n + n) h4 ((k * n).toNat + j) (by omega) (by omega)
      rw [Nat.add_sub_cancel_left] at e1 e2
      rw [e1, e2]; exact h _ (by omega) (by omega)
    · rw [List.getElem?_eq_none, List.getElem?_eq_none]
      · unfold cutL; simp only [List.length_drop, List.length_take]; omega
      · unfold cutL; simp only [List.length_drop, List.length_take]; omega
/-- One run of unlike clusters. -/
theorem diffN_run {a b : List UInt8} {n : Int} {p q : Nat} (h1 : ∀ k, k < p → same a b n k = true) (h2 : ∀ k, p ≤ k → k < q → same a b n k = false) : ∀ K, (∀ k, q ≤ k → k < K → same a b n k = true) → diffN a b n K = if K ≤ p then [] else if p < q then [⟨p, min (K : Int) q⟩] else []
  | 0, _ => by simp [diffN]
  | K + 1, h3 => by
    have ih := diffN_run h1 h2 K (fun k a b => h3 k a (by omega))
    simp only [diffN]
    by_cases e1 : K < p
    · rw [h1 K e1]; simp only [ih]; rw [if_pos (by omega), if_pos (by omega)]
    · by_cases e2 : K < q
      · rw [h2 K (by omega) e2]
        simp only [ih]
        rw [if_neg (show ¬ K + 1 ≤ p by omega), if_pos (show p < q by omega)]
        by_cases e3 : K = p
        · subst e3; rw [if_pos (Nat.le_refl _)]; simp [ofStep]; rw [if_pos e2]; congr 2; omega
        · rw [if_neg (by omega), if_pos (by omega)]
          have : min (K : Int) q = K := by omega
          rw [this]
          simp [ofStep]; omega
      · rw [h3 K (by omega) (by omega)]
        simp only [ih]
        by_cases e4 : p < q
        · rw [if_neg (by omega), if_pos e4, if_neg (by omega), if_pos e4]
          congr 2; omega
        · simp [e4]
theorem ofL_run {a b : List UInt8} {c : Int} (hc : 0 ≤ c ∧ c ≤ 6) {n : Int} (hn : (16 : Int) * 2 ^ c.toNat = n) {p q : Nat} (hpq : p < q) (hq : (q : Int) ≤ ofC a b n) (h1 : ∀ k, k < p → same a b n k = true) (h2 : ∀ k, p ≤ k → k < q → same a b n k = false) (h3 : ∀ k, q ≤ k → same a b n k = true) :
    ofL a b c = [⟨p, q⟩] := by
  have he : ofE c = 0 := by unfold ofE; rw [if_neg (by omega)]
  simp only [ofL, he, if_true, hn]
  rw [diffN_run h1 h2 _ (fun k a _ => h3 k a), if_neg (by omega), if_pos hpq]
  congr 2; omega
/-- One byte altered. -/
theorem ofL_one {a b : List UInt8} {c : Int} (hc : 0 ≤ c ∧ c ≤ 6) {n : Int} (hn : (16 : Int) * 2 ^ c.toNat = n) {i : Nat} (hi : i < a.length) (hab : a.length = b.length) (hne : a[i]? ≠ b[i]?) (heq : ∀ p, p ≠ i → a[p]? = b[p]?) :
    ofL a b c = [⟨(i : Int) / n, (i : Int) / n + 1⟩] := by
  have hp2 := pow_c hc
  have hcl := clus (p := i) (n := n) (by omega)
  have h0 : 0 ≤ (i : Int) / n := Int.ediv_nonneg (by omega) (by omega)
  have hs : ∀ k : Nat, k ≠ ((i : Int) / n).toNat → same a b n k = true := by
    intro k hk
    rw [same_iff (by omega)]
    intro p h1 h2
    refine heq p (fun e => hk ?_)
    subst e
    have : (p : Int) / n = k := Int.ediv_eq_iff_of_pos (by omega) |>.2 ⟨h1, h2⟩
    omega
  have := ofL_run (a := a) (b := b) hc hn (p := ((i : Int) / n).toNat) (q := ((i : Int) / n).toNat + 1) (by omega) ?_ (fun k h => hs k (by omega)) (fun k g1 g2 => ?_) (fun k h => hs k (by omega))
  · rw [this]; congr 2 <;> omega
  · have h2 := (cnt_lt (M := max (a.length : Int) b.length) (n := n) (by omega) ((((i : Int) / n).toNat : Nat) : Int)).2 (by omega)
    unfold ofC; omega
  · have hk : k = ((i : Int) / n).toNat := by omega
    subst hk
    cases h : same a b n ((i : Int) / n).toNat with
    | false => rfl
    | true => exact absurd (same_get h (by omega) i hcl.1 hcl.2) hne
/-- Bytes put at the end. -/
theorem ofL_more {a : List UInt8} {c : Int} (hc : 0 ≤ c ∧ c ≤ 6) {n : Int} (hn : (16 : Int) * 2 ^ c.toNat = n) {m : Nat} (hm : 0 < m) (z : UInt8) :
    ofL a (a ++ List.replicate m z) c = [⟨(a.length : Int) / n, ((a.length : Int) + m - 1) / n + 1⟩] := by
  have hp2 := pow_c hc
  have hcl := clus (p := a.length) (n := n) (by omega)
  have h0 : 0 ≤ (a.length : Int) / n := Int.ediv_nonneg (by omega) (by omega)
  have hcl2 := clus (p := a.length + m - 1) (n := n) (by omega)
  have h02 : 0 ≤ ((a.length + m - 1 : Nat) : Int) / n := Int.ediv_nonneg (by omega) (by omega)
  have ee : ((a.length : Int) + m - 1) = ((a.length + m - 1 : Nat) : Int) := by omega
  rw [ee]
  have hle : (a.length : Int) / n ≤ ((a.length + m - 1 : Nat) : Int) / n := Int.ediv_le_ediv (by omega) (by omega)
  have := ofL_run (a := a) (b := a ++ List.replicate m z) hc hn (p := ((a.length : Int) / n).toNat) (q := (((a.length + m - 1 : Nat) : Int) / n).toNat + 1) (by omega) ?_ (fun k h => ?_) (fun k g1 g2 => ?_) (fun k h => ?_)
  · rw [this]; congr 2 <;> omega
  · have h2 := (cnt_lt (M := max (a.length : Int) (a ++ List.replicate m z).length) (n := n) (by omega) ((((a.length + m - 1 : Nat) : Int) / n).toNat : Int)).2 (by rw [List.length_append, List.length_replicate]; omega)
    unfold ofC; omega
  · rw [same_iff (by omega)]
    intro p h1 h2
    have : ((k : Int) + 1) * n ≤ ((a.length : Int) / n).toNat * n := Int.mul_le_mul_of_nonneg_right (by omega) (by omega)
    rw [Int.add_mul, Int.one_mul] at this
    rw [List.getElem?_append_left (by omega)]
  · cases h : same a (a ++ List.replicate m z) n k with
    | false => rfl
    | true =>
      have g3 : (k : Int) * n ≤ (((a.length + m - 1 : Nat) : Int) / n).toNat * n := Int.mul_le_mul_of_nonneg_right (by omega) (by omega)
      have g4 : (((a.length : Int) / n).toNat : Int) * n ≤ k * n := Int.mul_le_mul_of_nonneg_right (by omega) (by omega)
      obtain ⟨x, hx⟩ : ∃ x : Nat, (k : Int) * n = x := ⟨((k : Int) * n).toNat, by have : 0 ≤ (k : Int) * n := Int.mul_nonneg (by omega) (by omega); omega⟩
      have e := same_get h (by omega) (max x a.length) (by omega) (by omega)
      rw [List.getElem?_eq_none (by omega), List.getElem?_eq_getElem (by rw [List.length_append, List.length_replicate]; omega)] at e
      cases e
  · rw [same_iff (by omega)]
    intro p h1 h2
    have g3 : ((((a.length + m - 1 : Nat) : Int) / n).toNat + 1) * n ≤ (k : Int) * n := Int.mul_le_mul_of_nonneg_right (by omega) (by omega)
    rw [Int.add_mul, Int.one_mul] at g3
    rw [List.getElem?_eq_none (by omega), List.getElem?_eq_none (by rw [List.length_append, List.length_replicate]; omega)]
theorem ixor_ne {a m : Int} (ha : 0 ≤ a ∧ a ≤ 255) (hm : 1 ≤ m ∧ m ≤ 255) : (0 ≤ ixor .u8 a m ∧ ixor .u8 a m ≤ 255) ∧ ixor .u8 a m ≠ a := by
  have e1 : BitVec.ofInt 8 a = BitVec.ofNat 8 a.toNat := by rw [show a = ((a.toNat : Nat) : Int) by omega]; exact BitVec.ofInt_natCast ..
  have e2 : BitVec.ofInt 8 m = BitVec.ofNat 8 m.toNat := by rw [show m = ((m.toNat : Nat) : Int) by omega]; exact BitVec.ofInt_natCast ..
  have hx : ixor .u8 a m = (((BitVec.ofNat 8 a.toNat ^^^ BitVec.ofNat 8 m.toNat).toNat : Nat) : Int) := by
    simp only [ixor]
    have e1' : BitVec.ofInt IntKind.u8.bits a = BitVec.ofNat 8 a.toNat := e1
    have e2' : BitVec.ofInt IntKind.u8.bits m = BitVec.ofNat 8 m.toNat := e2
    rw [e1', e2']
    have := (BitVec.ofNat 8 a.toNat ^^^ BitVec.ofNat 8 m.toNat).isLt
    have key : ∀ n : Nat, n < 256 → IntKind.u8.wrap (n : Int) = (n : Int) := by
      intro n hn; apply wrap_in; simp only [inR]; omega
    exact key _ this
  have hlt := (BitVec.ofNat 8 a.toNat ^^^ BitVec.ofNat 8 m.toNat).isLt
  rw [hx]
  refine ⟨by omega, fun h => ?_⟩
  have hA : (BitVec.ofNat 8 a.toNat).toNat = a.toNat := by rw [BitVec.toNat_ofNat]; exact Nat.mod_eq_of_lt (by omega)
  have hM : (BitVec.ofNat 8 m.toNat).toNat = m.toNat := by rw [BitVec.toNat_ofNat]; exact Nat.mod_eq_of_lt (by omega)
  have heq : BitVec.ofNat 8 a.toNat ^^^ BitVec.ofNat 8 m.toNat = BitVec.ofNat 8 a.toNat := by
    apply BitVec.eq_of_toNat_eq; rw [hA]; omega
  have h0 : BitVec.ofNat 8 m.toNat = 0#8 := by
    have := congrArg (fun z => BitVec.ofNat 8 a.toNat ^^^ z) heq
    simpa [← BitVec.xor_assoc] using this
  have := congrArg BitVec.toNat h0
  rw [hM] at this
  simp at this; omega

def env_fsees : Env := ⟨T, psi_fmakes, pspNil, 133, [35]⟩
theorem eok_fsees : PsiOk Try.prog env_fsees := ⟨psi_fmakes_ok, pspNil_ok⟩
theorem fsees_fn (a : List UInt8) (t : Int) (x : Int) (c : Int) (m : Int) (hx : inR .u8 x) (hc : inR .u8 c) (hm : inR .u8 m) : Ctr Try.prog 5 false [lst .byt a, int .i64 t, int .u8 x, int .u8 c, int .u8 m] (.x (.c (bv true))) := by
  refine Ctr_intro (E := env_fsees) Try.func5 rfl (by decide) rfl rfl (fun M0 W hM0 => ?_)
  simp only [inR] at hx hc hm
  refine G_run tOk eok_fsees 60 (fun _ => none) (fun bs => rfl) (fun bs => ?_) (fun bs => ?_)
  · (repeat' apply And.intro) <;> (intros; first | exact trivial | exact rfl | omega | exact u8_lo _ | exact u8_hi _ | exact u8_in64 _ | exact u8_in63 _ | (simp only [inR, IntKind.bits]; omega) | (simp [inR, IntKind.bits]; done) | (simp [inR, IntKind.bits] at * <;> omega) | (simp_all; done) | skip)
  refine G_cond rfl rfl (fun h => ?_) (fun h => ?_)
  · refine G_run tOk eok_fsees 60 (fun _ => none) (fun bs => rfl) (fun bs => ?_) (fun bs => ?_)
    · (repeat' apply And.intro) <;> (intros; first | exact trivial | exact rfl | omega | exact u8_lo _ | exact u8_hi _ | exact u8_in64 _ | exact u8_in63 _ | (simp only [inR, IntKind.bits]; omega) | (simp [inR, IntKind.bits]; done) | (simp [inR, IntKind.bits] at * <;> omega) | (simp_all; done) | skip)
    exact G_ret tOk hM0 rfl rfl ⟨trivial, trivial⟩ rfl
  have hl2 : 0 < a.length ∧ a.length ≤ 5000 := by simp only [Bool.or_eq_false_iff, decide_eq_false_iff_not] at h; omega
  clear h
  have hc7 : 0 ≤ c % 7 ∧ c % 7 ≤ 6 := by omega
  have hp2 := pow_c hc7
  have hw0 : 0 ≤ IntKind.u64.wrap t := by simp only [IntKind.wrap, IntKind.bits, IntKind.signed]; simp; omega
  have hm0 := Int.emod_nonneg (IntKind.u64.wrap t) (b := (a.length : Int)) (by omega)
  have hm1 := Int.emod_lt_of_pos (IntKind.u64.wrap t) (b := (a.length : Int)) (by omega)
  have hbt := (a.getD (IntKind.u64.wrap t % (a.length : Int)).toNat LK.byt.dft).toNat_lt
  have hxo := ixor_ne (a := ((a.getD (IntKind.u64.wrap t % (a.length : Int)).toNat LK.byt.dft).toNat : Int)) (m := 1 + x % 255) (by omega) (by omega)
  refine G_run tOk eok_fsees 14 (fun _ => none) (fun bs => rfl) (fun bs => ?_) (fun bs => ?_)
  · (repeat' apply And.intro) <;> (intros; first | exact trivial | exact rfl | omega | exact u8_lo _ | exact u8_hi _ | exact u8_in64 _ | exact u8_in63 _ | (simp only [inR, IntKind.bits]; omega) | (simp [inR, IntKind.bits]; done) | (simp [inR, IntKind.bits] at * <;> omega) | (simp_all; done) | skip)
  obtain ⟨j, hj⟩ : ∃ j, IntKind.u64.wrap t % (a.length : Int) = j := ⟨_, rfl⟩
  have hxw : IntKind.u8.wrap (1 + x % 255) = 1 + x % 255 := wrap_in (by simp only [inR]; omega)
  refine G_wk (ns := [1]) (fs := [(0, lst .byt a), (4, int .u8 m), (11, int .i64 (c % 7)), (12, int .i64 (IntKind.u64.wrap t % (a.length : Int))), (13, .c (.own 0 ?v))])
    (hs := [.own ?v 5 .byt (a.set (IntKind.u64.wrap t % (a.length : Int)).toNat (UInt8.ofNat (ixor .u8 ((a.getD (IntKind.u64.wrap t % (a.length : Int)).toNat LK.byt.dft).toNat : Int) (IntKind.u8.wrap (1 + x % 255))).toNat))]) rfl ?wk ?_
  case wk => (repeat' apply And.intro) <;> (first | exact rfl | exact trivial | omega | refine sigEq ?_ | skip)
  rw [hxw]
  rw [hj] at hm0 hm1 hbt hxo ⊢
  obtain ⟨V, hV⟩ : ∃ V : Int, ixor .u8 ((a.getD j.toNat LK.byt.dft).toNat : Int) (1 + x % 255) = V := ⟨_, rfl⟩
  rw [hV] at hxo ⊢
  obtain ⟨B, hB⟩ : ∃ B, a.set j.toNat (UInt8.ofNat V.toNat) = B := ⟨_, rfl⟩
  rw [hB]
  have hBl : a.length = B.length := by rw [← hB, List.length_set]
  have hne : a[j.toNat]? ≠ B[j.toNat]? := by
    rw [← hB, List.getElem?_set_self (by omega), List.getElem?_eq_getElem (by omega)]
    intro h
    have h1 := Option.some.inj h
    have h2 : (a.getD j.toNat LK.byt.dft).toNat = (UInt8.ofNat V.toNat).toNat := by
      rw [← h1]; simp [List.getD, List.getElem?_eq_getElem (show j.toNat < a.length by omega)]
    rw [UInt8.toNat_ofNat_of_lt' (show V.toNat < 256 by omega)] at h2
    omega
  have heq : ∀ p, p ≠ j.toNat → a[p]? = B[p]? := by
    intro p hp
    rw [← hB, List.getElem?_set_ne (fun h => hp h.symm)]
  obtain ⟨n, hn⟩ : ∃ n : Int, (16 : Int) * 2 ^ (c % 7).toNat = n := ⟨_, rfl⟩
  have h1 := ofL_one hc7 hn (i := j.toNat) (by omega) hBl hne heq
  have hMl : 0 < (1 + m).toNat ∧ (1 + m).toNat ≤ 256 := by omega
  have h2 := ofL_more (a := a) hc7 hn hMl.1 0
  have hE : ofE (c % 7) = 0 := by unfold ofE; rw [if_neg (by omega)]
  refine G_run tOk eok_fsees 60 (fun _ => none) (fun bs => rfl) (fun bs => ?_) (fun bs => ?_)
  · (repeat' apply And.intro) <;> (intros; first | exact trivial | exact rfl | omega | exact u8_lo _ | exact u8_hi _ | exact u8_in64 _ | exact u8_in63 _ | (simp only [inR, IntKind.bits]; omega) | (simp [inR, IntKind.bits]; done) | (simp [inR, IntKind.bits] at * <;> omega) | (simp_all; done) | skip)
  refine G_freeze 1 [15] rfl ⟨rfl, trivial⟩ ?_
  refine G_freeze 5 [18] rfl ⟨rfl, trivial⟩ ?_
  have hd1 : 0 ≤ (a.length : Int) / n ∧ (a.length : Int) / n ≤ a.length := ⟨Int.ediv_nonneg (by omega) (by omega), Int.ediv_le_self _ (by omega)⟩
  have hd2 : 0 ≤ ((a.length : Int) + (1 + m).toNat - 1) / n ∧ ((a.length : Int) + (1 + m).toNat - 1) / n ≤ (a.length : Int) + (1 + m).toNat - 1 := ⟨Int.ediv_nonneg (by omega) (by omega), Int.ediv_le_self _ (by omega)⟩
  have hd3 : 0 ≤ j / n ∧ j / n ≤ j := ⟨Int.ediv_nonneg (by omega) (by omega), Int.ediv_le_self _ (by omega)⟩
  have hjn : ((j.toNat : Nat) : Int) = j := Int.toNat_of_nonneg hm0
  rw [hjn] at h1
  refine G_draw tOk eok_fsees rfl (fun _ => none) 10 [0, 1, 0, 7, 0, 16, 48, 0, 240, 15, 1023] [] rfl (by decide +kernel) (fun bs => rfl) (fun bs => ?_) (fun bs => ?_)
  · simp only [hn, List.nil_append, List.length_append, List.length_replicate, Int.natCast_add]
    (repeat' apply And.intro) <;> (intros; first | exact trivial | exact rfl | omega | exact u8_lo _ | exact u8_hi _ | exact u8_in64 _ | exact u8_in63 _ | (simp only [inR, IntKind.bits]; omega) | (simp [inR, IntKind.bits]; done) | (simp [inR, IntKind.bits] at * <;> omega) | (simp_all; done) | skip)
  refine G_run tOk eok_fsees 60 (fun _ => none) (fun bs => rfl) (fun bs => ?_) (fun bs => ?_)
  · (repeat' apply And.intro) <;> (intros; first | exact trivial | exact rfl | omega | exact u8_lo _ | exact u8_hi _ | exact u8_in64 _ | exact u8_in63 _ | (simp only [inR, IntKind.bits]; omega) | (simp [inR, IntKind.bits]; done) | (simp [inR, IntKind.bits] at * <;> omega) | (simp_all; done) | skip)
  refine G_draw tOk eok_fsees rfl (fun _ => some true) 40 [0, 1, 3, 7, 15, 31, 63, 127, 255, 511, 1023, 2047, 4095, 8191, 16383, 32767, 65535, 16383, 16383, 409599, 16383, 16383, 3162111, 7356415, 16662527, 33554431, 67108863, 134217727, 268435455, 536870911, 1073741823, 2147483647, 4294967295, 8589934591, 17179869183, 34359738367, 8589934591, 8589934591, 146028888063, 489626271743, 1099511627775, 2199023255551, 4398046511103, 8796093022207, 17592186044415, 35184372088831] [] rfl (by decide +kernel) (fun bs => rfl) (fun bs => ?_) (fun bs => ?_)
  · simp only [hn, List.nil_append, List.length_append, List.length_replicate, Int.natCast_add, h1, h2, hE]
    (repeat' apply And.intro) <;> (intros; first | exact trivial | exact rfl | omega | exact u8_lo _ | exact u8_hi _ | exact u8_in64 _ | exact u8_in63 _ | (simp only [inR, IntKind.bits]; omega) | (simp [inR, IntKind.bits]; done) | (simp [inR, IntKind.bits] at * <;> omega) | (simp_all; done) | skip)
  refine G_run tOk eok_fsees 60 (fun _ => some true) (fun bs => rfl) (fun bs => ?_) (fun bs => ?_)
  · simp only [hn, List.nil_append, List.length_append, List.length_replicate, Int.natCast_add, h1, h2, hE]
    (repeat' apply And.intro) <;> (intros; first | exact trivial | exact rfl | omega | exact u8_lo _ | exact u8_hi _ | exact u8_in64 _ | exact u8_in63 _ | (simp only [inR, IntKind.bits]; omega) | (simp [inR, IntKind.bits]; done) | (simp [inR, IntKind.bits] at * <;> omega) | (simp_all; done) | skip)
  refine G_ret tOk hM0 rfl rfl ⟨trivial, trivial⟩ ?_
  conv => whnf
  simp only [hn, List.nil_append, List.length_append, List.length_replicate, Int.natCast_add, h1, h2, hE]
  simp [List.getD, LK.dft, hj]
def fsees_s : FSpec
  | [.c (.pv (.lst .byt a)), .c (.pv (.val (.int .i64 t))), .c (.pv (.val (.int .u8 x))), .c (.pv (.val (.int .u8 c))), .c (.pv (.val (.int .u8 m)))] => some ((inR .u8 x) ∧ (inR .u8 c) ∧ (inR .u8 m), false, .x (.c (bv true)))
  | _ => none
theorem fsees_s_ok : SpecOk Try.prog 5 fsees_s := by
  intro args pre sh rv h hp; unfold fsees_s at h; split at h
  · cases h; obtain ⟨hx, hc, hm⟩ := hp; exact fsees_fn _ _ _ _ _ hx hc hm
  · cases h
def psi_fsees : FuncId → Option FSpec := psiCons 5 fsees_s psi_fmakes
theorem psi_fsees_ok : PsiFn Try.prog psi_fsees := psiCons_ok fsees_s_ok psi_fmakes_ok
end Go.Proofs.Ytekaapofigocnaa
