import Derived.Test.YtdombioipnhaeaaEntry3
set_option linter.unusedSimpArgs false
set_option linter.unusedVariables false
namespace Go.Proofs.Ytdombioipnhaeaa
open Go.Mt

theorem getN_digit (f : Nat → UInt8) : ∀ n j, j < n → getN f n / 256 ^ (n - 1 - j) % 256 = (f j).toNat := by
  intro n
  induction n with
  | zero => intro j h; omega
  | succ n ih =>
    intro j hj
    have hb := (f n).toNat_lt
    by_cases h : j = n
    · subst h
      simp only [getN, Nat.add_sub_cancel, Nat.sub_self, Nat.pow_zero, Nat.div_one]
      omega
    · have e : n + 1 - 1 - j = (n - 1 - j) + 1 := by omega
      rw [e, Nat.pow_succ, Nat.mul_comm, ← Nat.div_div_eq_div_mul]
      have : getN f (n + 1) / 256 = getN f n := by simp only [getN]; omega
      rw [this]; exact ih j (by omega)
theorem putB_getV (b : List UInt8) (at_ n : Nat) (hn : 1 ≤ n) (h8 : n ≤ 8) (h : at_ + n ≤ b.length) : putB n false (getV b at_ n false) n = (b.drop at_).take n := by
  have he : getE b at_ n = 0 := by
    unfold getE; rw [if_neg (by omega), if_pos]
    simp only [thereB, decide_eq_true_eq]; omega
  have hv : getV b at_ n false = ((getN (selB b at_ n false) n : Nat) : Int) := by
    simp only [getV, he, if_true, Int.toNat_natCast]
    exact getW_getN _ n h8
  rw [hv]
  apply List.ext_getElem
  · simp [putB]; omega
  · intro i h1 h2
    have hi : i < n := by simp [putB] at h1; exact h1
    have hd := getN_digit (selB b at_ n false) n (n - 1 - i) (by omega)
    rw [show n - 1 - (n - 1 - i) = i by omega] at hd
    have hs : selB b at_ n false (n - 1 - i) = b[at_ + i]'(by omega) := by
      simp only [selB]
      rw [show ((at_ : Int) + ((n : Int) - 1 - ((n - 1 - i : Nat) : Int))).toNat = at_ + i by omega]
      simp [List.getD, List.getElem?_eq_getElem (show at_ + i < b.length by omega)]
    rw [hs] at hd
    have hbt := byteAt_nat (getN (selB b at_ n false) n) i
    rw [hd] at hbt
    simp only [putB, List.getElem_map, List.getElem_range, List.getElem_take, List.getElem_drop]
    exact UInt8.toNat_inj.1 hbt
theorem enc_gF (b : List UInt8) (hl : b.length = 16) (h1 : b.getD 1 0 = 0) : encL (gF b).kind (gF b).start (gF b).count (gF b).size (gF b).sum = b := by
  have p2 := putB_getV b 2 2 (by omega) (by omega) (by omega)
  have p4 := putB_getV b 4 4 (by omega) (by omega) (by omega)
  have p8 := putB_getV b 8 4 (by omega) (by omega) (by omega)
  have p12 := putB_getV b 12 4 (by omega) (by omega) (by omega)
  have g2 := getV2_lt' b 2
  have g4 := getV4_lt b 4
  have g8 := getV4_lt b 8
  have g12 := getV4_lt b 12
  simp only [gF, encL]
  rw [show (((getV b 2 2 false).toNat : Nat) : Int) = getV b 2 2 false by omega, show (((getV b 4 4 false).toNat : Nat) : Int) = getV b 4 4 false by omega,
    show (((getV b 8 4 false).toNat : Nat) : Int) = getV b 8 4 false by omega, show (((getV b 12 4 false).toNat : Nat) : Int) = getV b 12 4 false by omega]
  have q2 : putB 2 false (getV b 2 2 false) 2 = (b.drop 2).take 2 := p2
  have q4 : putB 4 false (getV b 4 4 false) 4 = (b.drop 4).take 4 := p4
  have q8 : putB 4 false (getV b 8 4 false) 4 = (b.drop 8).take 4 := p8
  have q12 : putB 4 false (getV b 12 4 false) 4 = (b.drop 12).take 4 := p12
  rw [q2, q4, q8, q12]
  match b, hl, h1 with
  | [x0, x1, x2, x3, x4, x5, x6, x7, x8, x9, x10, x11, x12, x13, x14, x15], _, h1 =>
    simp at h1; subst h1
    simp
theorem ixor_ne {a m : Int} (ha : 0 ≤ a ∧ a ≤ 255) (hm : 1 ≤ m ∧ m ≤ 255) : (0 ≤ ixor .u8 a m ∧ ixor .u8 a m ≤ 255) ∧ ixor .u8 a m ≠ a := by
  have e1 : BitVec.ofInt 8 a = BitVec.ofNat 8 a.toNat := by rw [show a = ((a.toNat : Nat) : Int) by omega]; exact BitVec.ofInt_natCast ..
  have e2 : BitVec.ofInt 8 m = BitVec.ofNat 8 m.toNat := by rw [show m = ((m.toNat : Nat) : Int) by omega]; exact BitVec.ofInt_natCast ..
  have hx : ixor .u8 a m = (((BitVec.ofNat 8 a.toNat ^^^ BitVec.ofNat 8 m.toNat).toNat : Nat) : Int) := by
    simp only [ixor]
    have e1' : BitVec.ofInt IntKind.u8.bits a = BitVec.ofNat 8 a.toNat := e1
    have e2' : BitVec.ofInt IntKind.u8.bits m = BitVec.ofNat 8 m.toNat := e2
    rw [e1', e2']
    have := (BitVec.ofNat 8 a.toNat ^^^ BitVec.ofNat 8 m.toNat).isLt
    have key : ∀ n : Nat, n < 256 → IntKind.u8.wrap (n : Int) = (n : Int) := by
      intro n hn; apply wrap_in; simp only [inR]; omega
    exact key _ this
  have hlt := (BitVec.ofNat 8 a.toNat ^^^ BitVec.ofNat 8 m.toNat).isLt
  rw [hx]
  refine ⟨by omega, fun h => ?_⟩
  have hA : (BitVec.ofNat 8 a.toNat).toNat = a.toNat := by rw [BitVec.toNat_ofNat]; exact Nat.mod_eq_of_lt (by omega)
  have hM : (BitVec.ofNat 8 m.toNat).toNat = m.toNat := by rw [BitVec.toNat_ofNat]; exact Nat.mod_eq_of_lt (by omega)
  have heq : BitVec.ofNat 8 a.toNat ^^^ BitVec.ofNat 8 m.toNat = BitVec.ofNat 8 a.toNat := by
    apply BitVec.eq_of_toNat_eq; rw [hA]; omega
  have h0 : BitVec.ofNat 8 m.toNat = 0#8 := by
    have := congrArg (fun z => BitVec.ofNat 8 a.toNat ^^^ z) heq
    simpa [← BitVec.xor_assoc] using this
  have := congrArg BitVec.toNat h0
  rw [hM] at this
  simp at this; omega
/-- Bytes of which one is turned are no entry's that is the same. -/
theorem set_ne {k st ct sz sm c : Int} (h : mayE k st ct sz sm c = true) (hs : 0 ≤ sm ∧ sm ≤ 4294967295) {i : Nat} (hi : i < 16) {v : UInt8} (hv : v ≠ (entL k st ct sz sm c).getD i 0) (hg : gE ((entL k st ct sz sm c).set i v) c = 0) :
    gX ((entL k st ct sz sm c).set i v) c ≠ ⟨k, st, ct, sz, sm⟩ := by
  intro he
  simp only [gX, hg, if_true] at he
  rw [entL_enc h hs] at he hg hv
  have hgg : (((encL k st ct sz sm).set i v).getD 1 0).toNat = 0 := by
    unfold gE at hg
    split at hg
    · rename_i h'; exact h'.2.1
    · cases hg
  have hl : ((encL k st ct sz sm).set i v).length = 16 := by rw [List.length_set]; exact enc_len _ _ _ _ _
  have := enc_gF _ hl (UInt8.toNat_inj.1 hgg)
  rw [he] at this
  simp only at this
  apply hv
  have h2 := congrArg (fun l => l.getD i 0) this
  simp only [List.getD] at h2 ⊢
  rw [List.getElem?_set_self (by rw [enc_len]; exact hi)] at h2
  rw [h2]; rfl

def env_ebytes : Env := ⟨T, psi_eback, pspNil, 84, [28, 54]⟩
theorem eok_ebytes : PsiOk Try.prog env_ebytes := ⟨psi_eback_ok, pspNil_ok⟩
theorem ebytes_fn (a : Int) (sm : Int) (cl : Int) (p : Int) (q : Int) (ha : inR .u16 a) (hsm : inR .u16 sm) (hcl : inR .u8 cl) (hp8 : inR .u8 p) (hq8 : inR .u8 q) : Ctr Try.prog 7 false [int .u16 a, int .u16 sm, int .u8 cl, int .u8 p, int .u8 q] (.x (.c (bv true))) := by
  refine Ctr_intro (E := env_ebytes) Try.func7 rfl (by decide) rfl rfl (fun M0 W hM0 => ?_)
  simp only [inR] at ha hsm hcl hp8 hq8
  generalize hc : cl % 7 = c
  have hc7 : 0 ≤ c ∧ c ≤ 6 := by omega
  have hp := pow_c hc7
  have hcn : ¬ (c < 0 ∨ 6 < c) := by omega
  generalize hS : 2 + a % 60000 = S
  have hS2 : 2 ≤ S ∧ S ≤ 60001 := by omega
  have hs : 0 ≤ sm ∧ sm ≤ 4294967295 := by omega
  have hm : mayE 2 S (1 * 2 ^ c.toNat) 0 sm c = true := by simp only [mayE, hcn, if_false]; simp; omega
  have he : entE 2 S (1 * 2 ^ c.toNat) 0 sm c = 0 := by simp only [entE, hm, if_true]
  have hlen : (entL 2 S (1 * 2 ^ c.toNat) 0 sm c).length = 16 := by rw [entL_enc hm hs]; exact enc_len _ _ _ _ _
  refine G_run tOk eok_ebytes 60 (fun _ => some false) (fun bs => rfl) (fun bs => ?_) (fun bs => ?_)
  · simp only [hc, hS, he, hlen]
    (repeat' apply And.intro) <;> (intros; first | exact trivial | exact rfl | omega | exact u8_lo _ | exact u8_hi _ | exact u8_in64 _ | exact u8_in63 _ | (simp only [inR, IntKind.bits]; omega) | (simp [inR, IntKind.bits]; done) | (simp [inR, IntKind.bits] at * <;> omega) | (simp_all; done) | skip)
  refine G_els rfl rfl ?_ ?_
  · simp only [hc, hS, he, hlen]; simp
  generalize hpi : p % 16 = pi
  have hpi2 : 0 ≤ pi ∧ pi ≤ 15 := by omega
  generalize hqm : 1 + q % 255 = qm
  have hqm2 : 1 ≤ qm ∧ qm ≤ 255 := by omega
  obtain ⟨V, hV⟩ : ∃ V : Int, ixor .u8 (((entL 2 S (1 * 2 ^ c.toNat) 0 sm c).getD pi.toNat LK.byt.dft).toNat : Int) qm = V := ⟨_, rfl⟩
  have hbt := ((entL 2 S (1 * 2 ^ c.toNat) 0 sm c).getD pi.toNat LK.byt.dft).toNat_lt
  have hx := ixor_ne (a := (((entL 2 S (1 * 2 ^ c.toNat) 0 sm c).getD pi.toNat LK.byt.dft).toNat : Int)) (m := qm) (by omega) hqm2
  rw [hV] at hx
  have hpl : pi.toNat < 16 := by omega
  obtain ⟨L', hL'⟩ : ∃ L', (entL 2 S (1 * 2 ^ c.toNat) 0 sm c).set pi.toNat (UInt8.ofNat V.toNat) = L' := ⟨_, rfl⟩
  have hl' : L'.length = 16 := by rw [← hL', List.length_set, hlen]
  have hvne : UInt8.ofNat V.toNat ≠ (entL 2 S (1 * 2 ^ c.toNat) 0 sm c).getD pi.toNat 0 := by
    intro e
    apply hx.2
    have := congrArg UInt8.toNat e
    rw [UInt8.toNat_ofNat'] at this
    have e2 : (entL 2 S (1 * 2 ^ c.toNat) 0 sm c).getD pi.toNat LK.byt.dft = (entL 2 S (1 * 2 ^ c.toNat) 0 sm c).getD pi.toNat 0 := rfl
    rw [e2, ← this]; omega
  by_cases hg : gE L' c = 0
  · have hne : gX L' c ≠ ⟨2, S, 1 * 2 ^ c.toNat, 0, sm⟩ := by
      rw [← hL'] at hg ⊢
      exact set_ne hm hs hpl hvne hg
    have hN : (decide ((gX L' c).kind = 2) && (decide ((gX L' c).start = S) && (decide ((gX L' c).count = 1 * 2 ^ c.toNat) && (decide ((gX L' c).size = 0) && (decide ((gX L' c).sum = sm) && true))))) = false := by
      rw [Bool.eq_false_iff]
      intro h
      simp only [Bool.and_eq_true, decide_eq_true_eq, and_true] at h
      apply hne
      obtain ⟨h1, h2, h3, h4, h5⟩ := h
      cases hgx : gX L' c
      rw [hgx] at h1 h2 h3 h4 h5
      simp only at h1 h2 h3 h4 h5
      rw [h1, h2, h3, h4, h5]
    refine G_run tOk eok_ebytes 60 (fun _ => some true) (fun bs => rfl) (fun bs => ?_) (fun bs => ?_)
    · simp only [hc, hS, he, hlen, hpi, hqm, hV, hL', hl', hg, hN]
      (repeat' apply And.intro) <;> (intros; first | exact trivial | exact rfl | omega | exact u8_lo _ | exact u8_hi _ | exact u8_in64 _ | exact u8_in63 _ | (simp only [inR, IntKind.bits]; omega) | (simp [inR, IntKind.bits]; done) | (simp [inR, IntKind.bits] at * <;> omega) | (simp_all; done) | skip)
    refine G_ret tOk hM0 rfl rfl ⟨trivial, trivial⟩ ?_
    conv => whnf
    rfl
  · have hg3 : gE L' c = 3 := by
      unfold gE at hg ⊢
      split
      · rename_i h; rw [if_pos h] at hg; exact absurd rfl hg
      · rfl
    have hX : gX L' c = ⟨0, 0, 0, 0, 0⟩ := by simp [gX, hg3]
    refine G_run tOk eok_ebytes 60 (fun j => match j with | 3 => some false | 8 => some false | _ => some true) (fun bs => rfl) (fun bs => ?_) (fun bs => ?_)
    · simp only [hc, hS, he, hlen, hpi, hqm, hV, hL', hl', hg3, hX]
      (repeat' apply And.intro) <;> (intros; first | exact trivial | exact rfl | omega | exact u8_lo _ | exact u8_hi _ | exact u8_in64 _ | exact u8_in63 _ | (simp only [inR, IntKind.bits]; omega) | (simp [inR, IntKind.bits]; done) | (simp [inR, IntKind.bits] at * <;> omega) | (simp_all; done) | skip)
    refine G_ret tOk hM0 rfl rfl ⟨trivial, trivial⟩ ?_
    conv => whnf
    simp only [hc, hS, he, hlen, hpi, hqm, hV, hL', hl', hg3, hX]
    simp
def ebytes_s : FSpec
  | [.c (.pv (.val (.int .u16 a))), .c (.pv (.val (.int .u16 sm))), .c (.pv (.val (.int .u8 cl))), .c (.pv (.val (.int .u8 p))), .c (.pv (.val (.int .u8 q)))] => some ((inR .u16 a) ∧ (inR .u16 sm) ∧ (inR .u8 cl) ∧ (inR .u8 p) ∧ (inR .u8 q), false, .x (.c (bv true)))
  | _ => none
theorem ebytes_s_ok : SpecOk Try.prog 7 ebytes_s := by
  intro args pre sh rv h hp; unfold ebytes_s at h; split at h
  · cases h; obtain ⟨ha, hsm, hcl, hp8, hq8⟩ := hp; exact ebytes_fn _ _ _ _ _ ha hsm hcl hp8 hq8
  · cases h
def psi_ebytes : FuncId → Option FSpec := psiCons 7 ebytes_s psi_eback
theorem psi_ebytes_ok : PsiFn Try.prog psi_ebytes := psiCons_ok ebytes_s_ok psi_eback_ok
end Go.Proofs.Ytdombioipnhaeaa
