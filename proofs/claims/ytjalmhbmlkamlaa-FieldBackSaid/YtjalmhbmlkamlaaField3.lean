import Derived.Test.YtjalmhbmlkamlaaField2
set_option linter.unusedSimpArgs false
set_option linter.unusedVariables false
namespace Go.Proofs.Ytjalmhbmlkamlaa
open Go.Mt

theorem u8_wrap (x : Int) : IntKind.u8.wrap x = x % 256 := by simp [IntKind.wrap, IntKind.signed, IntKind.bits]
theorem byteAt_nat (v k : Nat) : (byteAt (v : Int) (k : Int)).toNat = v / 256 ^ k % 256 := by
  simp only [byteAt, u8_wrap, UInt8.toNat_ofNat']
  have e : (8 * (k : Int)).toNat = 8 * k := by omega
  have h1 : (v : Int) / 2 ^ (8 * (k : Int)).toNat = ((v / 256 ^ k : Nat) : Int) := by
    have h2 : (256 : Nat) ^ k = 2 ^ (8 * k) := by rw [Nat.pow_mul]
    rw [e, h2]; simp
  rw [h1]; omega
/-- What was put is got. -/
theorem sel_put (l r : List UInt8) (n : Nat) (big : Bool) (v : Nat) (i : Nat) (hi : i < n) : selB (l ++ putB n big v n ++ r) l.length n big i = byteAt (v : Int) ((n - 1 - i : Nat) : Int) := by
  have key : ∀ j : Nat, j < n → (l ++ putB n big v n ++ r).getD (l.length + j) 0 = byteAt (v : Int) (match big with | true => (n : Int) - 1 - j | false => j) := by
    intro j hj
    have h1 : j < (putB n big v n).length := by simp [putB, hj]
    rw [List.append_assoc]
    simp only [List.getD]
    rw [List.getElem?_append_right (by omega), Nat.add_sub_cancel_left, List.getElem?_append_left h1]
    cases big <;> simp [putB, hj]
  cases big with
  | true =>
    have := key i hi
    simp only [selB]
    rw [show ((l.length : Int) + i).toNat = l.length + i by omega, this]
    simp only
    rw [show ((n : Int) - 1 - i) = ((n - 1 - i : Nat) : Int) by omega]
  | false =>
    have := key (n - 1 - i) (by omega)
    simp only [selB]
    rw [show ((l.length : Int) + ((n : Int) - 1 - i)).toNat = l.length + (n - 1 - i) by omega, this]
theorem getN_put (f : Nat → UInt8) (n v : Nat) (hv : v < 256 ^ n) (hf : ∀ i, i < n → (f i).toNat = v / 256 ^ (n - 1 - i) % 256) : ∀ k, k ≤ n → getN f k = v / 256 ^ (n - k) := by
  intro k
  induction k with
  | zero => intro _; simp [getN, Nat.div_eq_of_lt hv]
  | succ k ih =>
    intro hk
    simp only [getN, ih (by omega), hf k (by omega)]
    have e : n - k = (n - 1 - k) + 1 := by omega
    rw [e, Nat.pow_succ, ← Nat.div_div_eq_div_mul, show n - (k + 1) = n - 1 - k by omega]
    omega
theorem getV_put (l r : List UInt8) (n : Nat) (big : Bool) (v : Nat) (h1 : 1 ≤ n) (h8 : n ≤ 8) (hv : v < 256 ^ n) : getV (l ++ putB n big v n ++ r) l.length n big = v ∧ getE (l ++ putB n big v n ++ r) l.length n = 0 := by
  have hlen : (l ++ putB n big v n ++ r).length = l.length + n + r.length := by simp [putB]; omega
  have hb : thereB (l ++ putB n big v n ++ r) l.length n = true := by simp only [thereB, hlen, decide_eq_true_eq]; omega
  have he : getE (l ++ putB n big v n ++ r) l.length n = 0 := by unfold getE; rw [if_neg (by omega), if_pos hb]
  refine ⟨?_, he⟩
  simp only [getV, he, if_true, Int.toNat_natCast]
  rw [getW_getN _ n h8, getN_put _ n v hv (fun i hi => by rw [sel_put _ _ _ _ _ _ hi, byteAt_nat]) n (Nat.le_refl _)]
  simp
theorem getV_take (l : List UInt8) (at_ n : Int) (big : Bool) (k : Nat) (h : thereB (l.take k) at_ n = true) : getV (l.take k) at_ n big = getV l at_ n big ∧ getE (l.take k) at_ n = getE l at_ n := by
  have h' := h
  simp [thereB] at h'
  have hl : thereB l at_ n = true := by simp [thereB]; omega
  have he : getE (l.take k) at_ n = getE l at_ n := by simp [getE, h, hl]
  refine ⟨?_, he⟩
  simp only [getV, he]
  split
  · have key : ∀ j, j ≤ n.toNat → getW (selB (l.take k) at_ n big) j = getW (selB l at_ n big) j := by
      intro j
      induction j with
      | zero => intro _; rfl
      | succ j ih =>
        intro hj
        have hs : selB (l.take k) at_ n big j = selB l at_ n big j := by
          simp only [selB, List.getD, List.getElem?_take]
          rw [if_pos]
          cases big <;> simp only <;> omega
        simp only [getW, ih (by omega), hs]
    exact key _ (Nat.le_refl _)
  · rfl

theorem text_ok (t s : List UInt8) (hs : s.length ≤ 65535) : textL t s = t ++ putB 2 false s.length 2 ++ s := by
  have hE : putE 2 (s.length : Int) = 0 := by simp [putE]; omega
  simp only [textL, hs, putL, hE, if_true]; rfl
theorem text_len (t s : List UInt8) (hs : s.length ≤ 65535) : (textL t s).length = t.length + 2 + s.length := by rw [text_ok t s hs]; simp [putB]; omega
theorem text_get (t s : List UInt8) (hs : s.length ≤ 65535) : getV (textL t s) t.length 2 false = s.length ∧ getE (textL t s) t.length 2 = 0 := by
  rw [text_ok t s hs]; exact getV_put t s 2 false s.length (by omega) (by omega) (by omega)
theorem text_read (t s : List UInt8) (hs : s.length ≤ 65535) : readE (textL t s) t.length = 0 ∧ readS (textL t s) t.length = s ∧ readN (textL t s) t.length = (textL t s).length := by
  obtain ⟨h1, h2⟩ := text_get t s hs
  have hl := text_len t s hs
  have hb : thereB (textL t s) ((t.length : Int) + 2) s.length = true := by simp only [thereB, hl, decide_eq_true_eq]; omega
  have he : readE (textL t s) t.length = 0 := by unfold readE; rw [if_pos ⟨h2, by rw [h1]; exact hb⟩]
  refine ⟨he, ?_, ?_⟩
  · simp only [readS, he, if_true, h1, thereL, hb]
    rw [show ((t.length : Int) + 2 + s.length).toNat = (textL t s).length by omega, List.take_length, text_ok t s hs, show ((t.length : Int) + 2).toNat = (t ++ putB 2 false s.length 2).length by simp [putB]; omega, List.drop_left]
  · simp only [readN, he, if_true, h1]; omega
theorem text_cut (t s : List UInt8) (hs : s.length ≤ 65535) (k : Nat) (h1 : t.length ≤ k) (h2 : k < (textL t s).length) :
    readE ((textL t s).take k) t.length = 6 ∧ readN ((textL t s).take k) t.length = 0 ∧ (getE ((textL t s).take k) t.length 2 = 0 ↔ t.length + 2 ≤ k) := by
  have hl := text_len t s hs
  have hlen : ((textL t s).take k).length = k := by rw [List.length_take]; omega
  have hg : getE ((textL t s).take k) t.length 2 = 0 ↔ t.length + 2 ≤ k := by
    unfold getE; rw [if_neg (by omega)]
    have : thereB ((textL t s).take k) t.length 2 = decide (t.length + 2 ≤ k) := by simp only [thereB, hlen]; congr 1; apply propext; constructor <;> intro h <;> omega
    rw [this]; by_cases h : t.length + 2 ≤ k <;> simp [h]
  have he : readE ((textL t s).take k) t.length = 6 := by
    unfold readE; rw [if_neg]
    rintro ⟨a1, a2⟩
    have hk := hg.1 a1
    have hb : thereB ((textL t s).take k) t.length 2 = true := by simp only [thereB, hlen, decide_eq_true_eq]; omega
    rw [(getV_take _ _ _ _ _ hb).1, (text_get t s hs).1] at a2
    simp only [thereB, hlen, decide_eq_true_eq] at a2
    omega
  exact ⟨he, by simp [readN, he], hg⟩

def env_fends : Env := ⟨T, psi_rread, psp_atom, 117, []⟩
theorem eok_fends : PsiOk Try.prog env_fends := ⟨psi_rread_ok, psp_atom_ok⟩
theorem fends_fn (l : List UInt8) (s : List UInt8) (c : Int) (hc : inR .u16 c) : Ctr Try.prog 9 false [lst .byt l, str s, int .u16 c] (.x (.c (bv true))) := by
  refine Ctr_intro (E := env_fends) Try.func9 rfl (by decide) rfl rfl (fun M0 W hM0 => ?_)
  simp only [inR] at hc
  refine G_run tOk eok_fends 60 (fun _ => none) (fun bs => rfl) (fun bs => ?_) (fun bs => ?_)
  · (repeat' apply And.intro) <;> (intros; first | exact trivial | exact rfl | omega | exact u8_lo _ | exact u8_hi _ | exact u8_in64 _ | exact u8_in63 _ | (simp only [inR, IntKind.bits]; omega) | (simp [inR, IntKind.bits]; done) | (simp [inR, IntKind.bits] at * <;> omega) | (simp_all; done) | skip)
  refine G_cond rfl rfl (fun h => ?_) (fun h => ?_)
  · refine G_run tOk eok_fends 60 (fun _ => none) (fun bs => rfl) (fun bs => ?_) (fun bs => ?_)
    · (repeat' apply And.intro) <;> (intros; first | exact trivial | exact rfl | omega | exact u8_lo _ | exact u8_hi _ | exact u8_in64 _ | exact u8_in63 _ | (simp only [inR, IntKind.bits]; omega) | (simp [inR, IntKind.bits]; done) | (simp [inR, IntKind.bits] at * <;> omega) | (simp_all; done) | skip)
    exact G_ret tOk hM0 rfl rfl ⟨trivial, trivial⟩ rfl
  have hl2 : l.length ≤ 100 ∧ s.length ≤ 2000 := by simp at h; omega
  have hlen := text_len l s (by omega)
  have hm : 0 ≤ c % ((s.length : Int) + 2) ∧ c % ((s.length : Int) + 2) < (s.length : Int) + 2 := ⟨Int.emod_nonneg _ (by omega), Int.emod_lt_of_pos _ (by omega)⟩
  refine G_run tOk eok_fends 60 (fun _ => none) (fun bs => rfl) (fun bs => ?_) (fun bs => ?_)
  · (repeat' apply And.intro) <;> (intros; first | exact trivial | exact rfl | omega | exact u8_lo _ | exact u8_hi _ | exact u8_in64 _ | exact u8_in63 _ | (simp only [inR, IntKind.bits]; omega) | (simp [inR, IntKind.bits]; done) | (simp [inR, IntKind.bits] at * <;> omega) | (simp_all; done) | skip)
  refine G_freeze 0 [7, 43] rfl ⟨rfl, rfl, trivial⟩ ?_
  have hmin : min ((l.length : Int) + c % ((s.length : Int) + 2)) ((textL l s).length : Int) = (l.length : Int) + c % ((s.length : Int) + 2) := by omega
  generalize hX : (l.length : Int) + c % ((s.length : Int) + 2) = X at hmin
  have hx : (l.length : Int) ≤ X ∧ X < ((textL l s).length : Int) := by omega
  obtain ⟨t1, t2, t3⟩ := text_read l s (by omega)
  obtain ⟨c1, c2, c3⟩ := text_cut l s (by omega) X.toNat (by omega) (by omega)
  have hE : textE s = 0 := by simp [textE]; omega
  have c4 : decide (getE ((textL l s).take X.toNat) l.length 2 = 0) = decide ((l.length : Int) + 2 ≤ X) := by
    apply decide_eq_decide.2; rw [c3]; omega
  have z0 : Int.toNat 0 = 0 := rfl
  have hlt : ((textL l s).take X.toNat).length ≤ 1000000 := by rw [List.length_take]; omega
  refine G_run tOk eok_fends 60 (fun _ => some true) (fun bs => rfl) (fun bs => ?_) (fun bs => ?_)
  · simp only [hX, hmin, z0, List.drop_zero, t1, t2, t3, c1, c2, hE, c4]
    (repeat' apply And.intro) <;> (intros; first | exact trivial | exact rfl | omega | exact u8_lo _ | exact u8_hi _ | exact u8_in64 _ | exact u8_in63 _ | (simp only [inR, IntKind.bits]; omega) | (simp [inR, IntKind.bits]; done) | (simp [inR, IntKind.bits] at * <;> omega) | (simp_all; done) | skip)
  refine G_ret tOk hM0 rfl rfl ⟨trivial, trivial⟩ ?_
  conv => whnf
  simp only [hX, hmin, z0, List.drop_zero, t1, t2, t3, c1, c2, hE, c4]
  simp
def fends_s : FSpec
  | [.c (.pv (.lst .byt l)), .c (.pv (.val (.string ⟨⟨s⟩⟩))), .c (.pv (.val (.int .u16 c)))] => some ((inR .u16 c), false, .x (.c (bv true)))
  | _ => none
theorem fends_s_ok : SpecOk Try.prog 9 fends_s := by
  intro args pre sh rv h hp; unfold fends_s at h; split at h
  · cases h; have hc := hp; exact fends_fn _ _ _ hc
  · cases h
def psi_fends : FuncId → Option FSpec := psiCons 9 fends_s psi_rread
theorem psi_fends_ok : PsiFn Try.prog psi_fends := psiCons_ok fends_s_ok psi_rread_ok
end Go.Proofs.Ytjalmhbmlkamlaa
