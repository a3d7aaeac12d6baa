import Derived.Test.YtnmomckmpknbkaaFieldC
set_option linter.unusedSimpArgs false
set_option linter.unusedVariables false
namespace Go.Proofs.Ytnmomckmpknbkaa
open Go.Mt

def getN (f : Nat → UInt8) : Nat → Nat
  | 0 => 0
  | k + 1 => getN f k * 256 + (f k).toNat
theorem getN_lt (f : Nat → UInt8) (k : Nat) : getN f k < 256 ^ k := by
  induction k with
  | zero => simp [getN]
  | succ k ih =>
    have := (f k).toNat_lt
    simp only [getN, Nat.pow_succ]; omega
theorem ior_byte {a b : Nat} (ha : a * 256 < 18446744073709551616) (hb : b < 256) : ior .u64 (IntKind.u64.wrap ((a : Int) * 2 ^ 8)) (b : Int) = ((a * 256 + b : Nat) : Int) := by
  have hw : IntKind.u64.wrap ((a : Int) * 2 ^ 8) = ((a * 256 : Nat) : Int) := by
    rw [show (a : Int) * 2 ^ 8 = ((a * 256 : Nat) : Int) by simp]
    apply wrap_in; simp only [inR]; omega
  rw [hw]
  simp only [ior]
  have h1 : BitVec.ofInt IntKind.u64.bits ((a * 256 : Nat) : Int) = BitVec.ofNat 64 (a * 256) := BitVec.ofInt_natCast ..
  have h2 : BitVec.ofInt IntKind.u64.bits (b : Int) = BitVec.ofNat 64 b := BitVec.ofInt_natCast ..
  rw [h1, h2]
  have h3 : (BitVec.ofNat 64 (a * 256) ||| BitVec.ofNat 64 b).toNat = a * 256 + b := by
    rw [BitVec.toNat_or, BitVec.toNat_ofNat, BitVec.toNat_ofNat, Nat.mod_eq_of_lt (by omega), Nat.mod_eq_of_lt (by omega)]
    have := Nat.two_pow_add_eq_or_of_lt (i := 8) (b := b) (by omega) a
    rw [Nat.mul_comm] at this
    simpa using this.symm
  have key : ∀ n : Nat, n = a * 256 + b → IntKind.u64.wrap (n : Int) = ((a * 256 + b : Nat) : Int) := by
    intro n hn; subst hn; apply wrap_in; simp only [inR]; omega
  exact key _ h3
theorem getW_getN (f : Nat → UInt8) : ∀ k, k ≤ 8 → getW f k = (getN f k : Int) := by
  intro k
  induction k with
  | zero => intro _; rfl
  | succ k ih =>
    intro hk
    have h1 := getN_lt f k
    have h2 : 256 ^ k ≤ 256 ^ 7 := Nat.pow_le_pow_right (by omega) (by omega)
    simp only [getW, ih (by omega), getN]
    exact ior_byte (by omega) (f k).toNat_lt
theorem getV2_lt (l : List UInt8) (at_ : Int) : 0 ≤ getV l at_ 2 false ∧ getV l at_ 2 false ≤ 65535 := by
  unfold getV
  split
  · rw [show (2 : Int).toNat = 2 from rfl, getW_getN _ 2 (by omega)]
    have := getN_lt (selB l at_ 2 false) 2; omega
  · omega

theorem u8_wrap (x : Int) : IntKind.u8.wrap x = x % 256 := by simp [IntKind.wrap, IntKind.signed, IntKind.bits]
theorem byteAt_nat (v k : Nat) : (byteAt (v : Int) (k : Int)).toNat = v / 256 ^ k % 256 := by
  simp only [byteAt, u8_wrap, UInt8.toNat_ofNat']
  have e : (8 * (k : Int)).toNat = 8 * k := by omega
  have h1 : (v : Int) / 2 ^ (8 * (k : Int)).toNat = ((v / 256 ^ k : Nat) : Int) := by
    have h2 : (256 : Nat) ^ k = 2 ^ (8 * k) := by rw [Nat.pow_mul]
    rw [e, h2]; simp
  rw [h1]; omega
/-- What was put is got. -/
theorem sel_put (l r : List UInt8) (n : Nat) (big : Bool) (v : Nat) (i : Nat) (hi : i < n) : selB (l ++ putB n big v n ++ r) l.length n big i = byteAt (v : Int) ((n - 1 - i : Nat) : Int) := by
  have key : ∀ j : Nat, j < n → (l ++ putB n big v n ++ r).getD (l.length + j) 0 = byteAt (v : Int) (match big with | true => (n : Int) - 1 - j | false => j) := by
    intro j hj
    have h1 : j < (putB n big v n).length := by simp [putB, hj]
    rw [List.append_assoc]
    simp only [List.getD]
    rw [List.getElem?_append_right (by omega), Nat.add_sub_cancel_left, List.getElem?_append_left h1]
    cases big <;> simp [putB, hj]
  cases big with
  | true =>
    have := key i hi
    simp only [selB]
    rw [show ((l.length : Int) + i).toNat = l.length + i by omega, this]
    simp only
    rw [show ((n : Int) - 1 - i) = ((n - 1 - i : Nat) : Int) by omega]
  | false =>
    have := key (n - 1 - i) (by omega)
    simp only [selB]
    rw [show ((l.length : Int) + ((n : Int) - 1 - i)).toNat = l.length + (n - 1 - i) by omega, this]
theorem getN_put (f : Nat → UInt8) (n v : Nat) (hv : v < 256 ^ n) (hf : ∀ i, i < n → (f i).toNat = v / 256 ^ (n - 1 - i) % 256) : ∀ k, k ≤ n → getN f k = v / 256 ^ (n - k) := by
  intro k
  induction k with
  | zero => intro _; simp [getN, Nat.div_eq_of_lt hv]
  | succ k ih =>
    intro hk
    simp only [getN, ih (by omega), hf k (by omega)]
    have e : n - k = (n - 1 - k) + 1 := by omega
    rw [e, Nat.pow_succ, ← Nat.div_div_eq_div_mul, show n - (k + 1) = n - 1 - k by omega]
    omega
theorem getV_put (l r : List UInt8) (n : Nat) (big : Bool) (v : Nat) (h1 : 1 ≤ n) (h8 : n ≤ 8) (hv : v < 256 ^ n) : getV (l ++ putB n big v n ++ r) l.length n big = v ∧ getE (l ++ putB n big v n ++ r) l.length n = 0 := by
  have hlen : (l ++ putB n big v n ++ r).length = l.length + n + r.length := by simp [putB]; omega
  have hb : thereB (l ++ putB n big v n ++ r) l.length n = true := by simp only [thereB, hlen, decide_eq_true_eq]; omega
  have he : getE (l ++ putB n big v n ++ r) l.length n = 0 := by unfold getE; rw [if_neg (by omega), if_pos hb]
  refine ⟨?_, he⟩
  simp only [getV, he, if_true, Int.toNat_natCast]
  rw [getW_getN _ n h8, getN_put _ n v hv (fun i hi => by rw [sel_put _ _ _ _ _ _ hi, byteAt_nat]) n (Nat.le_refl _)]
  simp
theorem pow256 (k : Int) (h : 0 ≤ k) : 2 ^ (8 * k).toNat = 256 ^ k.toNat := by
  have : (8 * k).toNat = 8 * k.toNat := by omega
  rw [this, show (256 : Nat) = 2 ^ 8 from rfl, ← Nat.pow_mul]
theorem putE_ok (k : Int) (x : Nat) (h1 : 1 ≤ k) (h8 : k ≤ 8) (hx : x < 256 ^ k.toNat) : putE k (x : Int) = 0 := by
  have : (x : Int) / 2 ^ (8 * k).toNat = 0 := by
    have h2 : (x : Int) / 2 ^ (8 * k).toNat = ((x / 2 ^ (8 * k).toNat : Nat) : Int) := by simp
    rw [h2, pow256 k (by omega), Nat.div_eq_of_lt hx]; rfl
  simp only [putE]
  rw [if_neg (by omega), if_neg (by simp [this])]
theorem wrap_nat {a : Nat} (ha : a < 18446744073709551616) : IntKind.u64.wrap (a : Int) = (a : Int) := by
  apply wrap_in; simp only [inR]; omega
theorem ofInt_nat (a : Nat) : BitVec.ofInt IntKind.u64.bits (a : Int) = BitVec.ofNat 64 a := BitVec.ofInt_natCast ..
theorem ior_nat {a b : Nat} (ha : a < 2 ^ 64) (hb : b < 2 ^ 64) : ior .u64 (a : Int) (b : Int) = ((a ||| b : Nat) : Int) := by
  simp only [ior, ofInt_nat]
  have h3 : (BitVec.ofNat 64 a ||| BitVec.ofNat 64 b).toNat = a ||| b := by
    rw [BitVec.toNat_or, BitVec.toNat_ofNat, BitVec.toNat_ofNat, Nat.mod_eq_of_lt ha, Nat.mod_eq_of_lt hb]
  have hl : a ||| b < 2 ^ 64 := Nat.or_lt_two_pow ha hb
  have key : ∀ n : Nat, n = a ||| b → IntKind.u64.wrap (n : Int) = ((a ||| b : Nat) : Int) := by
    intro n hn; subst hn; exact wrap_nat hl
  exact key _ h3
theorem iand_nat {a b : Nat} (ha : a < 2 ^ 64) (hb : b < 2 ^ 64) : iand .u64 (a : Int) (b : Int) = ((a &&& b : Nat) : Int) := by
  simp only [iand, ofInt_nat]
  have h3 : (BitVec.ofNat 64 a &&& BitVec.ofNat 64 b).toNat = a &&& b := by
    rw [BitVec.toNat_and, BitVec.toNat_ofNat, BitVec.toNat_ofNat, Nat.mod_eq_of_lt ha, Nat.mod_eq_of_lt hb]
  have hl : a &&& b < 2 ^ 64 := Nat.lt_of_le_of_lt Nat.and_le_left ha
  have key : ∀ n : Nat, n = a &&& b → IntKind.u64.wrap (n : Int) = ((a &&& b : Nat) : Int) := by
    intro n hn; subst hn; exact wrap_nat hl
  exact key _ h3
theorem pow_u64 {m : Nat} (hm : m ≤ 63) : IntKind.u64.wrap (1 * 2 ^ m) = ((2 ^ m : Nat) : Int) := by
  rw [show (1 : Int) * 2 ^ m = ((2 ^ m : Nat) : Int) by simp]
  exact wrap_nat (Nat.lt_of_le_of_lt (Nat.pow_le_pow_right (by omega) hm) (by decide))
theorem mask_u64 {m : Nat} (hm : m ≤ 63) : IntKind.u64.wrap (IntKind.u64.wrap (1 * 2 ^ m) - 1) = ((2 ^ m - 1 : Nat) : Int) := by
  rw [pow_u64 hm]
  have h1 : 0 < 2 ^ m := Nat.pow_pos (by omega)
  have h2 : 2 ^ m ≤ 2 ^ 63 := Nat.pow_le_pow_right (by omega) hm
  rw [show ((2 ^ m : Nat) : Int) - 1 = ((2 ^ m - 1 : Nat) : Int) by omega]
  exact wrap_nat (by omega)
theorem iand_mask {v : Int} {m : Nat} (hv : 0 ≤ v ∧ v ≤ 18446744073709551615) (hm : m ≤ 63) : iand .u64 v (IntKind.u64.wrap (IntKind.u64.wrap (1 * 2 ^ m) - 1)) = ((v.toNat % 2 ^ m : Nat) : Int) := by
  rw [mask_u64 hm]
  have h2 : 2 ^ m ≤ 2 ^ 63 := Nat.pow_le_pow_right (by omega) hm
  have := iand_nat (a := v.toNat) (b := 2 ^ m - 1) (by omega) (by omega)
  rw [show ((v.toNat : Nat) : Int) = v by omega] at this
  rw [this, Nat.and_two_pow_sub_one_eq_mod]
theorem ior_top {r m : Nat} (hm : m ≤ 62) (hr : r < 2 ^ m) : ior .u64 (IntKind.u64.wrap (1 * 2 ^ m)) (r : Int) = ((2 ^ m + r : Nat) : Int) := by
  rw [pow_u64 (by omega)]
  have h2 : 2 ^ m ≤ 2 ^ 62 := Nat.pow_le_pow_right (by omega) hm
  rw [ior_nat (by omega) (by omega)]
  have := Nat.two_pow_add_eq_or_of_lt hr 1
  rw [Nat.mul_one] at this; rw [this]
theorem putL_len {l : List UInt8} {n : Int} {big : Bool} {v : Int} (h : putE n v = 0) : (putL l n big v).length = l.length + n.toNat := by simp [putL, h, putB]

end Go.Proofs.Ytnmomckmpknbkaa
