import Derived.Test.YtdombioipnhaeaaEntry2
set_option linter.unusedSimpArgs false
set_option linter.unusedVariables false
namespace Go.Proofs.Ytdombioipnhaeaa
open Go.Mt

theorem putL_ok (l : List UInt8) (n : Nat) (v : Int) (h1 : 1 ≤ n) (h8 : n ≤ 8) (h0 : 0 ≤ v) (hv : v < (256 ^ n : Nat)) : putL l n false v = l ++ putB n false (v.toNat : Nat) n := by
  have e : v = ((v.toNat : Nat) : Int) := by omega
  have he := putE_ok n v.toNat (by omega) (by omega) (by simp only [Int.toNat_natCast]; omega)
  rw [e]
  simp only [putL, he, if_true, Int.toNat_natCast]
def encL (k st ct sz sm : Int) : List UInt8 := [UInt8.ofNat k.toNat, 0] ++ putB 2 false (ct.toNat : Nat) 2 ++ putB 4 false (st.toNat : Nat) 4 ++ putB 4 false (sz.toNat : Nat) 4 ++ putB 4 false (sm.toNat : Nat) 4
theorem entL_enc {k st ct sz sm c : Int} (h : mayE k st ct sz sm c = true) (hs : 0 ≤ sm ∧ sm ≤ 4294967295) : entL k st ct sz sm c = encL k st ct sz sm := by
  obtain ⟨f1, f2, f3, f4, f5⟩ := may_facts h
  have e4 : ((256 ^ 4 : Nat) : Int) = 4294967296 := by decide
  have e2 : ((256 ^ 2 : Nat) : Int) = 65536 := by decide
  have q2 := fun l => putL_ok l 2 ct (by omega) (by omega) f3.1 (by omega)
  have q4 := fun l (v : Int) (h : 0 ≤ v) (h2 : v ≤ 4294967295) => putL_ok l 4 v (by omega) (by omega) h (by omega)
  simp only [entL, h, if_true, accL, headL, encL]
  have z2 : ((2 : Nat) : Int) = 2 := rfl
  have z4 : ((4 : Nat) : Int) = 4 := rfl
  rw [z2] at q2
  rw [z4] at q4
  simp only [List.getD_cons_zero, List.getD_cons_succ]
  rw [q2, q4 _ st (by omega) (by omega), q4 _ sz (by omega) (by omega), q4 _ sm (by omega) (by omega)]
theorem enc_len (k st ct sz sm : Int) : (encL k st ct sz sm).length = 16 := by simp [encL, putB]
theorem gF_enc {k st ct sz sm : Int} (hk : 0 ≤ k ∧ k ≤ 255) (h1 : 0 ≤ st ∧ st ≤ 4294967295) (h2 : 0 ≤ ct ∧ ct ≤ 65535) (h3 : 0 ≤ sz ∧ sz ≤ 4294967295) (h4 : 0 ≤ sm ∧ sm ≤ 4294967295) :
    gF (encL k st ct sz sm) = ⟨k, st, ct, sz, sm⟩ ∧ (encL k st ct sz sm).getD 1 0 = 0 := by
  have a0 : (((encL k st ct sz sm).getD 0 0).toNat : Int) = k := by
    have : (encL k st ct sz sm).getD 0 0 = UInt8.ofNat k.toNat := by simp [encL]
    rw [this, UInt8.toNat_ofNat']; omega
  have g2 := (getV_put [UInt8.ofNat k.toNat, 0] (putB 4 false (st.toNat : Nat) 4 ++ putB 4 false (sz.toNat : Nat) 4 ++ putB 4 false (sm.toNat : Nat) 4) 2 false ct.toNat (by omega) (by omega) (by omega)).1
  have g4 := (getV_put ([UInt8.ofNat k.toNat, 0] ++ putB 2 false (ct.toNat : Nat) 2) (putB 4 false (sz.toNat : Nat) 4 ++ putB 4 false (sm.toNat : Nat) 4) 4 false st.toNat (by omega) (by omega) (by omega)).1
  have g8 := (getV_put ([UInt8.ofNat k.toNat, 0] ++ putB 2 false (ct.toNat : Nat) 2 ++ putB 4 false (st.toNat : Nat) 4) (putB 4 false (sm.toNat : Nat) 4) 4 false sz.toNat (by omega) (by omega) (by omega)).1
  have g12 := (getV_put ([UInt8.ofNat k.toNat, 0] ++ putB 2 false (ct.toNat : Nat) 2 ++ putB 4 false (st.toNat : Nat) 4 ++ putB 4 false (sz.toNat : Nat) 4) [] 4 false sm.toNat (by omega) (by omega) (by omega)).1
  have l4 : ([UInt8.ofNat k.toNat, 0] ++ putB 2 false (ct.toNat : Nat) 2).length = 4 := by simp [putB]
  have l8 : ([UInt8.ofNat k.toNat, 0] ++ putB 2 false (ct.toNat : Nat) 2 ++ putB 4 false (st.toNat : Nat) 4).length = 8 := by simp [putB]
  have l12 : ([UInt8.ofNat k.toNat, 0] ++ putB 2 false (ct.toNat : Nat) 2 ++ putB 4 false (st.toNat : Nat) 4 ++ putB 4 false (sz.toNat : Nat) 4).length = 12 := by simp [putB]
  rw [l4] at g4; rw [l8] at g8; rw [l12] at g12
  refine ⟨?_, by simp [encL]⟩
  simp only [gF, a0]
  have r2 : getV (encL k st ct sz sm) 2 2 false = ct := by
    have e : encL k st ct sz sm = [UInt8.ofNat k.toNat, 0] ++ putB 2 false (ct.toNat : Nat) 2 ++ (putB 4 false (st.toNat : Nat) 4 ++ putB 4 false (sz.toNat : Nat) 4 ++ putB 4 false (sm.toNat : Nat) 4) := by simp [encL]
    rw [e]
    have g2' : getV _ 2 2 false = ((ct.toNat : Nat) : Int) := g2
    rw [show (putB (2 : Int) false ((ct.toNat : Nat) : Int) 2) = putB ((2 : Nat) : Int) false ((ct.toNat : Nat) : Int) 2 from rfl, g2']; omega
  have r4 : getV (encL k st ct sz sm) 4 4 false = st := by
    have e : encL k st ct sz sm = ([UInt8.ofNat k.toNat, 0] ++ putB 2 false (ct.toNat : Nat) 2) ++ putB 4 false (st.toNat : Nat) 4 ++ (putB 4 false (sz.toNat : Nat) 4 ++ putB 4 false (sm.toNat : Nat) 4) := by simp [encL]
    rw [e]
    have g' : getV _ 4 4 false = ((st.toNat : Nat) : Int) := g4
    exact g'.trans (by omega)
  have r8 : getV (encL k st ct sz sm) 8 4 false = sz := by
    have e : encL k st ct sz sm = ([UInt8.ofNat k.toNat, 0] ++ putB 2 false (ct.toNat : Nat) 2 ++ putB 4 false (st.toNat : Nat) 4) ++ putB 4 false (sz.toNat : Nat) 4 ++ (putB 4 false (sm.toNat : Nat) 4) := by simp [encL]
    rw [e]
    have g' : getV _ 8 4 false = ((sz.toNat : Nat) : Int) := g8
    exact g'.trans (by omega)
  have r12 : getV (encL k st ct sz sm) 12 4 false = sm := by
    have e : encL k st ct sz sm = ([UInt8.ofNat k.toNat, 0] ++ putB 2 false (ct.toNat : Nat) 2 ++ putB 4 false (st.toNat : Nat) 4 ++ putB 4 false (sz.toNat : Nat) 4) ++ putB 4 false (sm.toNat : Nat) 4 ++ [] := by simp [encL]
    rw [e]
    have g' : getV _ 12 4 false = ((sm.toNat : Nat) : Int) := g12
    exact g'.trans (by omega)
  rw [r2, r4, r8, r12]

theorem get_put {k st ct sz sm c : Int} (h : mayE k st ct sz sm c = true) (hs : 0 ≤ sm ∧ sm ≤ 4294967295) : gE (entL k st ct sz sm c) c = 0 ∧ gX (entL k st ct sz sm c) c = ⟨k, st, ct, sz, sm⟩ := by
  obtain ⟨f1, f2, f3, f4, f5⟩ := may_facts h
  rw [entL_enc h hs]
  obtain ⟨g1, g2⟩ := gF_enc (k := k) (st := st) (ct := ct) (sz := sz) (sm := sm) (by omega) (by omega) (by omega) (by omega) hs
  have he : gE (encL k st ct sz sm) c = 0 := by
    unfold gE
    rw [if_pos ⟨enc_len _ _ _ _ _, by rw [g2]; rfl, by rw [g1]; exact h⟩]
  exact ⟨he, by simp only [gX, he, if_true, g1]⟩

def env_eback : Env := ⟨T, psi_egets, pspNil, 113, []⟩
theorem eok_eback : PsiOk Try.prog env_eback := ⟨psi_egets_ok, pspNil_ok⟩
theorem eback_fn (a : Int) (n : Int) (cl : Int) (kd : Int) (sm : Int) (ha : inR .u16 a) (hn : inR .u16 n) (hcl : inR .u8 cl) (hkd : inR .u8 kd) (hsm : inR .u32 sm) : Ctr Try.prog 6 false [int .u16 a, int .u16 n, int .u8 cl, int .u8 kd, int .u32 sm] (.x (.c (bv true))) := by
  refine Ctr_intro (E := env_eback) Try.func6 rfl (by decide) rfl rfl (fun M0 W hM0 => ?_)
  simp only [inR] at ha hn hcl hkd hsm
  generalize hc : cl % 7 = c
  have hc7 : 0 ≤ c ∧ c ≤ 6 := by omega
  have hp := pow_c hc7
  have hcn : ¬ (c < 0 ∨ 6 < c) := by omega
  generalize hK : kd % 4 = K
  have hK4 : 0 ≤ K ∧ K ≤ 3 := by omega
  have hst : 0 ≤ a % 60000 ∧ a % 60000 ≤ 60000 - 1 := by omega
  generalize hS : 2 + a % 60000 = S
  have hS2 : 2 ≤ S ∧ S ≤ 60001 := by omega
  refine G_run tOk eok_eback 60 (fun _ => none) (fun bs => rfl) (fun bs => ?_) (fun bs => ?_)
  · simp only [hc, hK, hS]
    (repeat' apply And.intro) <;> (intros; first | exact trivial | exact rfl | omega | exact u8_lo _ | exact u8_hi _ | exact u8_in64 _ | exact u8_in63 _ | (simp only [inR, IntKind.bits]; omega) | (simp [inR, IntKind.bits]; done) | (simp [inR, IntKind.bits] at * <;> omega) | (simp_all; done) | skip)
  refine G_cut (X := Nat × Entry) (fun x => [(11, int .i64 c), (12, .c (.ptr 0 x.1 0))]) (fun x => [.blk x.1 24 [.pv (i64 x.2.kind), .pv (i64 x.2.start), .pv (i64 x.2.count), .pv (i64 x.2.size), .pv (.val (.int .u32 x.2.sum))]])
    (fun x => mayE x.2.kind x.2.start x.2.count x.2.size x.2.sum c = true ∧ (0 ≤ x.2.sum ∧ x.2.sum ≤ 4294967295) ∧ (x.2.kind = 2 → mayE x.2.kind x.2.start x.2.count x.2.size x.2.sum ((c + 1) % 7) = false)) rfl ?_ (fun x hx => ?_)
  · by_cases k2 : K = 2
    · refine G_thn rfl rfl (by simp [hK, k2]) ?_
      refine G_run tOk eok_eback 60 (fun _ => none) (fun bs => rfl) (fun bs => ?_) (fun bs => ?_)
      · simp only [hc, hK, hS]
        (repeat' apply And.intro) <;> (intros; first | exact trivial | exact rfl | omega | exact u8_lo _ | exact u8_hi _ | exact u8_in64 _ | exact u8_in63 _ | (simp only [inR, IntKind.bits]; omega) | (simp [inR, IntKind.bits]; done) | (simp [inR, IntKind.bits] at * <;> omega) | (simp_all; done) | skip)
      refine G_lp [0] (?b0, ⟨2, S, 1 * 2 ^ c.toNat, 0, sm⟩) ?ok ?wk
      case ok =>
        refine ⟨?_, hsm, fun _ => ?_⟩
        · simp only [mayE, hcn, if_false]; simp; omega
        · have hc2 : 0 ≤ (c + 1) % 7 ∧ (c + 1) % 7 ≤ 6 := by omega
          have hcn2 : ¬ ((c + 1) % 7 < 0 ∨ 6 < (c + 1) % 7) := by omega
          have hne : ¬ ((2 : Int) ^ c.toNat = 2 ^ ((c + 1) % 7).toNat) := by
            have : c = 0 ∨ c = 1 ∨ c = 2 ∨ c = 3 ∨ c = 4 ∨ c = 5 ∨ c = 6 := by omega
            rcases this with h | h | h | h | h | h | h <;> subst h <;> decide
          simp only [mayE, hcn2, if_false]; simp; intro h; exact absurd h hne
      case wk =>
        (repeat' apply And.intro) <;> (first | exact rfl | exact trivial | omega | refine sigEq ?_ | skip)
        all_goals simp only [hc, hS]
    · refine G_els rfl rfl (by simp [hK, k2]) ?_
      refine G_run tOk eok_eback 60 (fun _ => none) (fun bs => rfl) (fun bs => ?_) (fun bs => ?_)
      · (repeat' apply And.intro) <;> (intros; first | exact trivial | exact rfl | omega | exact u8_lo _ | exact u8_hi _ | exact u8_in64 _ | exact u8_in63 _ | (simp only [inR, IntKind.bits]; omega) | (simp [inR, IntKind.bits]; done) | (simp [inR, IntKind.bits] at * <;> omega) | (simp_all; done) | skip)
      by_cases k3 : K = 3
      · refine G_thn rfl rfl (by simp [hK, k3]) ?_
        refine G_run tOk eok_eback 60 (fun _ => none) (fun bs => rfl) (fun bs => ?_) (fun bs => ?_)
        · (repeat' apply And.intro) <;> (intros; first | exact trivial | exact rfl | omega | exact u8_lo _ | exact u8_hi _ | exact u8_in64 _ | exact u8_in63 _ | (simp only [inR, IntKind.bits]; omega) | (simp [inR, IntKind.bits]; done) | (simp [inR, IntKind.bits] at * <;> omega) | (simp_all; done) | skip)
        by_cases c0 : c = 0
        · refine G_thn rfl rfl (by simp [hc, c0]) ?_
          refine G_run tOk eok_eback 60 (fun _ => some true) (fun bs => rfl) (fun bs => ?_) (fun bs => ?_)
          · (repeat' apply And.intro) <;> (intros; first | exact trivial | exact rfl | omega | exact u8_lo _ | exact u8_hi _ | exact u8_in64 _ | exact u8_in63 _ | (simp only [inR, IntKind.bits]; omega) | (simp [inR, IntKind.bits]; done) | (simp [inR, IntKind.bits] at * <;> omega) | (simp_all; done) | skip)
          refine G_ret tOk hM0 rfl rfl ⟨trivial, trivial⟩ ?_
          conv => whnf
          decide
        · refine G_els rfl rfl (by simp [hc, c0]) ?_
          have hp2 : (2 : Int) ≤ 2 ^ c.toNat := by
            have : c = 1 ∨ c = 2 ∨ c = 3 ∨ c = 4 ∨ c = 5 ∨ c = 6 := by omega
            rcases this with h | h | h | h | h | h <;> subst h <;> decide
          obtain ⟨q, hq⟩ : ∃ q : Int, 16 * (1 * 2 ^ c.toNat - 1) = q := ⟨_, rfl⟩
          have hq1 : 16 ≤ q ∧ q ≤ 1008 := by omega
          generalize hN : 1 + n % q = N
          have hN1 : 1 ≤ N ∧ N ≤ q := by
            have h1 := Int.emod_nonneg n (show q ≠ 0 by omega)
            have h2 := Int.emod_lt_of_pos n (show 0 < q by omega)
            omega
          refine G_run tOk eok_eback 60 (fun _ => none) (fun bs => rfl) (fun bs => ?_) (fun bs => ?_)
          · simp only [hc, hK, hS, hq, hN]
            (repeat' apply And.intro) <;> (intros; first | exact trivial | exact rfl | omega | exact u8_lo _ | exact u8_hi _ | exact u8_in64 _ | exact u8_in63 _ | (simp only [inR, IntKind.bits]; omega) | (simp [inR, IntKind.bits]; done) | (simp [inR, IntKind.bits] at * <;> omega) | (simp_all; done) | skip)
          refine G_lp [0] (?b1, ⟨3, S, (N + 15) / 16, N, sm⟩) ?ok1 ?wk1
          case ok1 =>
            refine ⟨?_, hsm, fun h => by cases h⟩
            simp only [mayE, hcn, if_false]; simp; omega
          case wk1 =>
            (repeat' apply And.intro) <;> (first | exact rfl | exact trivial | omega | refine sigEq ?_ | skip)
            all_goals simp only [hc, hS, hq, hN]
      · refine G_els rfl rfl (by simp [hK, k3]) ?_
        refine G_run tOk eok_eback 60 (fun _ => none) (fun bs => rfl) (fun bs => ?_) (fun bs => ?_)
        · (repeat' apply And.intro) <;> (intros; first | exact trivial | exact rfl | omega | exact u8_lo _ | exact u8_hi _ | exact u8_in64 _ | exact u8_in63 _ | (simp only [inR, IntKind.bits]; omega) | (simp [inR, IntKind.bits]; done) | (simp [inR, IntKind.bits] at * <;> omega) | (simp_all; done) | skip)
        refine G_lp [0] (?b2, ⟨K, 0, 0, 0, 0⟩) ?ok2 ?wk2
        case ok2 =>
          refine ⟨?_, by simp, fun h => absurd h k2⟩
          have : K = 0 ∨ K = 1 := by omega
          simp [mayE, hcn, this]
        case wk2 =>
          (repeat' apply And.intro) <;> (first | exact rfl | exact trivial | omega | refine sigEq ?_ | skip)
          all_goals simp only [hc, hK]
  obtain ⟨b, x⟩ := x
  obtain ⟨hm, hs, hne⟩ := hx
  obtain ⟨k, st, ct, sz, sm'⟩ := x
  simp only at hm hs hne
  have he : entE k st ct sz sm' c = 0 := by simp [entE, hm]
  obtain ⟨r1, r2⟩ := get_put hm hs
  have hlen := entL_len k st ct sz sm' c
  have hc2 : (c + 1) % 7 ≤ 6 := by omega
  by_cases k2 : k = 2
  · subst k2
    have hne' := hne rfl
    refine G_run tOk eok_eback 60 (fun j => match j with | 22 => some false | _ => some true) (fun bs => rfl) (fun bs => ?_) (fun bs => ?_)
    · simp only [he, r1, r2, hm, hne']
      (repeat' apply And.intro) <;> (intros; first | exact trivial | exact rfl | omega | exact u8_lo _ | exact u8_hi _ | exact u8_in64 _ | exact u8_in63 _ | (simp only [inR, IntKind.bits]; omega) | (simp [inR, IntKind.bits]; done) | (simp [inR, IntKind.bits] at * <;> omega) | (simp_all; done) | skip)
    refine G_ret tOk hM0 rfl rfl ⟨trivial, trivial⟩ ?_
    conv => whnf
    simp only [he, r1, r2, hm, hne']
    simp
  · refine G_run tOk eok_eback 60 (fun _ => some true) (fun bs => rfl) (fun bs => ?_) (fun bs => ?_)
    · simp only [he, r1, r2, hm]
      (repeat' apply And.intro) <;> (intros; first | exact trivial | exact rfl | omega | exact u8_lo _ | exact u8_hi _ | exact u8_in64 _ | exact u8_in63 _ | (simp only [inR, IntKind.bits]; omega) | (simp [inR, IntKind.bits]; done) | (simp [inR, IntKind.bits] at * <;> omega) | (simp_all; done) | skip)
    refine G_ret tOk hM0 rfl rfl ⟨trivial, trivial⟩ ?_
    conv => whnf
    simp only [he, r1, r2, hm]
    simp [k2]
def eback_s : FSpec
  | [.c (.pv (.val (.int .u16 a))), .c (.pv (.val (.int .u16 n))), .c (.pv (.val (.int .u8 cl))), .c (.pv (.val (.int .u8 kd))), .c (.pv (.val (.int .u32 sm)))] => some ((inR .u16 a) ∧ (inR .u16 n) ∧ (inR .u8 cl) ∧ (inR .u8 kd) ∧ (inR .u32 sm), false, .x (.c (bv true)))
  | _ => none
theorem eback_s_ok : SpecOk Try.prog 6 eback_s := by
  intro args pre sh rv h hp; unfold eback_s at h; split at h
  · cases h; obtain ⟨ha, hn, hcl, hkd, hsm⟩ := hp; exact eback_fn _ _ _ _ _ ha hn hcl hkd hsm
  · cases h
def psi_eback : FuncId → Option FSpec := psiCons 6 eback_s psi_egets
theorem psi_eback_ok : PsiFn Try.prog psi_eback := psiCons_ok eback_s_ok psi_egets_ok
end Go.Proofs.Ytdombioipnhaeaa
