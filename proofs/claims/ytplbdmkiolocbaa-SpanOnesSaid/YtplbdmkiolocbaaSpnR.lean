import Derived.Test.YtplbdmkiolocbaaSpnQ
set_option linter.unusedSimpArgs false
set_option linter.unusedVariables false
namespace Go.Proofs.Ytplbdmkiolocbaa
open Go.Mt

theorem drop_at {α : Type} {l : List α} {i : Nat} (d : α) (h : i < l.length) : l.drop i = l.getD i d :: l.drop (i + 1) := by
  rw [List.drop_eq_getElem_cons h]; congr 1; simp [List.getD, List.getElem?_eq_getElem h]

def env_fpieces : Env := ⟨T, psi_fturns, pspNil, 88, [], none, true⟩
theorem eok_fpieces : PsiOk Try.prog env_fpieces := ⟨psi_fturns_ok, pspNil_ok⟩
theorem fpieces_fn (p : Int) (q : Int) (r : Int) (hp : inR .u16 p) (hq : inR .u16 q) (hr : inR .u8 r) : Ctr Try.prog 4 false [int .u16 p, int .u16 q, int .u8 r] (.x (.c (bv true))) := by
  refine Ctr_intro (E := env_fpieces) Try.func4 rfl (by decide) rfl rfl (fun M0 W hM0 => ?_)
  have hp' : 0 ≤ p ∧ p ≤ 65535 := hp
  have hq' : 0 ≤ q ∧ q ≤ 65535 := hq
  have hr' : 0 ≤ r ∧ r ≤ 255 := hr
  have hE : splE (p % 4097) (q % 4097) (r % 7) = 0 := by unfold splE; rw [if_neg (by omega)]
  have hc : 0 ≤ r % 7 ∧ r % 7 ≤ 6 := by omega
  have hpw := pow_c hc
  have hL : splL (p % 4097) (q % 4097) (r % 7) = splitF (2 ^ (r % 7).toNat) (q % 4097).toNat (p % 4097) (q % 4097) := by unfold splL; rw [if_pos hE]
  refine G_run tOk eok_fpieces 60 (fun _ => none) (fun bs => rfl) (fun bs => ?_) (fun bs => ?_)
  · (repeat' apply And.intro) <;> (intros; first | exact trivial | exact rfl | omega | exact u8_lo _ | exact u8_hi _ | exact u8_in64 _ | exact u8_in63 _ | (simp only [inR, IntKind.bits]; omega) | (simp [inR, IntKind.bits]; done) | (simp [inR, IntKind.bits] at * <;> omega) | (simp_all; done) | skip)
  generalize ha : p % 4097 = a at *
  generalize hn : q % 4097 = n at *
  generalize hcc : r % 7 = c at *
  have ha' : 0 ≤ a ∧ a ≤ 4096 := by omega
  have hn' : 0 ≤ n ∧ n ≤ 4096 := by omega
  have hlen := splL_len a n c
  refine G_els rfl rfl (by rw [hE]; rfl) ?_
  refine G_run tOk eok_fpieces 60 (fun _ => none) (fun bs => rfl) (fun bs => ?_) (fun bs => ?_)
  · (repeat' apply And.intro) <;> (intros; first | exact trivial | exact rfl | omega | exact u8_lo _ | exact u8_hi _ | exact u8_in64 _ | exact u8_in63 _ | (simp only [inR, IntKind.bits]; omega) | (simp [inR, IntKind.bits]; done) | (simp [inR, IntKind.bits] at * <;> omega) | (simp_all; done) | skip)
  refine G_freeze 0 [10] rfl ⟨rfl, trivial⟩ ?_
  generalize splL a n c = l at *
  obtain ⟨w, hw⟩ : ∃ w : Int, 2 ^ c.toNat = w := ⟨_, rfl⟩
  rw [hw] at hpw hL
  have hw0 : 0 < w := by omega
  refine G_loop (fun x : Nat × Int => [(7, int .i64 a), (8, int .i64 n), (9, int .i64 c), (10, lst .pcs l), (12, int .i64 x.2), (13, int .i64 x.1)]) (fun x => [])
    (fun x => x.1 ≤ l.length ∧ a ≤ x.2 ∧ x.2 ≤ a + n ∧ l.drop x.1 = splitF w (a + n - x.2).toNat x.2 (a + n - x.2)) (fun x => l.length - x.1) rfl [] (0, a) ⟨Nat.zero_le _, Int.le_refl _, by simp only; omega, ?ini⟩ ?wk (fun x hx => ?_)
  case ini => simp only [List.drop_zero]; rw [hL, show a + n - a = n by omega]
  case wk => (repeat' apply And.intro) <;> (first | exact rfl | exact trivial | omega | refine sigEq ?_ | skip)
  obtain ⟨i, nx⟩ := x
  obtain ⟨h1, h2, h3, h4⟩ := hx
  dsimp only at h1 h2 h3 h4 ⊢
  refine G_run tOk eok_fpieces 60 (fun _ => none) (fun bs => rfl) (fun bs => ?_) (fun bs => ?_)
  · (repeat' apply And.intro) <;> (intros; first | exact trivial | exact rfl | omega | exact u8_lo _ | exact u8_hi _ | exact u8_in64 _ | exact u8_in63 _ | (simp only [inR, IntKind.bits]; omega) | (simp [inR, IntKind.bits]; done) | (simp [inR, IntKind.bits] at * <;> omega) | (simp_all; done) | skip)
  refine G_if rfl rfl (fun hk => ?_) (fun hk => ?_)
  · have hk' : i < l.length := by omega
    rw [drop_at ⟨0, 0, 0⟩ hk'] at h4
    have hlt : nx < a + n := by
      by_cases hh : nx < a + n
      · exact hh
      · rw [splitF_done w _ _ _ (by omega)] at h4; cases h4
    obtain ⟨N, hN⟩ : ∃ N, (a + n - nx).toNat = N + 1 := ⟨(a + n - nx).toNat - 1, by omega⟩
    rw [hN, splitF_step w N nx _ (by omega)] at h4
    obtain ⟨h5, h6⟩ := List.cons.inj h4
    have m0 := Int.emod_nonneg nx (show w ≠ 0 by omega)
    have m1 := Int.emod_lt_of_pos nx hw0
    have m2 : 0 ≤ nx / w := Int.ediv_nonneg (by omega) (by omega)
    have m3 : nx / w ≤ nx := Int.ediv_le_self _ (by omega)
    have m4 : nx / w * w = nx - nx % w := by have := Int.mul_ediv_add_emod nx w; rw [Int.mul_comm] at this; omega
    obtain ⟨k, hkk⟩ : ∃ k : Int, min (a + n - nx) (w - nx % w) = k := ⟨_, rfl⟩
    have hk1 : 1 ≤ k ∧ k ≤ a + n - nx ∧ nx % w + k ≤ w := by omega
    have h5' : l.getD (Int.toNat (i : Int)) LK.pcs.dft = ⟨nx / w, nx % w, k⟩ := by rw [← hkk]; exact h5
    have m5 : nx - nx % w + nx % w = nx := by omega
    have hw1 : (1 : Int) * w = w := by omega
    refine G_run tOk eok_fpieces 60 (fun _ => none) (fun bs => rfl) (fun bs => ?_) (fun bs => ?_)
    · simp only [h5', hw, hw1, m4, m5]
      (repeat' apply And.intro) <;> (intros; first | exact trivial | exact rfl | omega | exact u8_lo _ | exact u8_hi _ | exact u8_in64 _ | exact u8_in63 _ | (simp only [inR, IntKind.bits]; omega) | (simp [inR, IntKind.bits]; done) | (simp [inR, IntKind.bits] at * <;> omega) | (simp_all; done) | skip)
    refine G_cond rfl rfl (fun h => ?_) (fun h => ?_)
    · exfalso
      simp only [h5', hw, hw1, m4, m5] at h
      simp at h
      omega
    · refine G_run tOk eok_fpieces 60 (fun _ => none) (fun bs => rfl) (fun bs => ?_) (fun bs => ?_)
      · simp only [h5', hw, hw1, m4, m5]
        (repeat' apply And.intro) <;> (intros; first | exact trivial | exact rfl | omega | exact u8_lo _ | exact u8_hi _ | exact u8_in64 _ | exact u8_in63 _ | (simp only [inR, IntKind.bits]; omega) | (simp [inR, IntKind.bits]; done) | (simp [inR, IntKind.bits] at * <;> omega) | (simp_all; done) | skip)
      refine G_lp [] (i + 1, nx + k) ?ok1 ?wk1
      case ok1 =>
        refine ⟨⟨hk', by simp only; omega, by simp only; omega, ?_⟩, by simp only; omega⟩
        simp only
        rw [h6, hkk, show a + n - nx - k = a + n - (nx + k) by omega]
        exact splitF_more hw0 _ _ _ _ (by omega) (by omega)
      case wk1 =>
        (repeat' apply And.intro) <;> (first | exact rfl | exact trivial | omega | refine sigEq ?_ | skip)
        all_goals simp only [h5']
  · have hk' : i = l.length := by omega
    subst hk'
    have hz : nx = a + n := by
      by_cases hh : nx < a + n
      · obtain ⟨N, hN⟩ : ∃ N, (a + n - nx).toNat = N + 1 := ⟨(a + n - nx).toNat - 1, by omega⟩
        rw [hN, splitF_step w N nx _ (by omega), List.drop_length] at h4
        cases h4
      · omega
    refine G_run tOk eok_fpieces 60 (fun _ => some true) (fun bs => rfl) (fun bs => ?_) (fun bs => ?_)
    · (repeat' apply And.intro) <;> (intros; first | exact trivial | exact rfl | omega | exact u8_lo _ | exact u8_hi _ | exact u8_in64 _ | exact u8_in63 _ | (simp only [inR, IntKind.bits]; omega) | (simp [inR, IntKind.bits, hz]; done) | (simp [inR, IntKind.bits, hz] at * <;> omega) | (simp_all; done) | skip)
    refine G_ret tOk hM0 rfl rfl ⟨trivial, trivial⟩ ?_
    conv => whnf
    simp [hz]
def fpieces_s : FSpec
  | [.c (.pv (.val (.int .u16 p))), .c (.pv (.val (.int .u16 q))), .c (.pv (.val (.int .u8 r)))] => some ((inR .u16 p) ∧ (inR .u16 q) ∧ (inR .u8 r), false, .x (.c (bv true)))
  | _ => none
theorem fpieces_s_ok : SpecOk Try.prog 4 fpieces_s := by
  intro args pre sh rv h hp; unfold fpieces_s at h; split at h
  · cases h; obtain ⟨hp, hq, hr⟩ := hp; exact fpieces_fn _ _ _ hp hq hr
  · cases h
def psi_fpieces : FuncId → Option FSpec := psiCons 4 fpieces_s psi_fturns
theorem psi_fpieces_ok : PsiFn Try.prog psi_fpieces := psiCons_ok fpieces_s_ok psi_fturns_ok
end Go.Proofs.Ytplbdmkiolocbaa
