import Derived.Test.YtplbdmkiolocbaaSpnC
set_option linter.unusedSimpArgs false
set_option linter.unusedVariables false
namespace Go.Proofs.Ytplbdmkiolocbaa
open Go.Mt

theorem pow_c {c : Int} (h : 0 ≤ c ∧ c ≤ 6) : (1 : Int) ≤ 2 ^ c.toNat ∧ (2 : Int) ^ c.toNat ≤ 64 := by
  have : c = 0 ∨ c = 1 ∨ c = 2 ∨ c = 3 ∨ c = 4 ∨ c = 5 ∨ c = 6 := by omega
  rcases this with rfl | rfl | rfl | rfl | rfl | rfl | rfl <;> decide
def pcX (w at_ n : Int) : Piece := ⟨at_ / w, at_ % w, min n (w - at_ % w)⟩
def splitF (w : Int) : Nat → Int → Int → List Piece
  | 0, _, _ => []
  | k + 1, a, n => match decide (n > 0) with
    | true => pcX w a n :: splitF w k (a + min n (w - a % w)) (n - min n (w - a % w))
    | false => []
def splE (a n c : Int) : Int := if c < 0 ∨ 6 < c ∨ a < 0 ∨ n < 0 ∨ 4096 < a ∨ 4096 < n then 1 else 0
def splL (a n c : Int) : List Piece := if splE a n c = 0 then splitF (2 ^ c.toNat) n.toNat a n else []
theorem splitF_done (w : Int) (k : Nat) (a n : Int) (h : n ≤ 0) : splitF w k a n = [] := by
  cases k with
  | zero => rfl
  | succ k => simp only [splitF, decide_eq_false (show ¬ n > 0 by omega)]
theorem splitF_step (w : Int) (k : Nat) (a n : Int) (h : 0 < n) : splitF w (k + 1) a n = pcX w a n :: splitF w k (a + min n (w - a % w)) (n - min n (w - a % w)) := by
  simp only [splitF, decide_eq_true h]
theorem splitF_more {w : Int} (hw : 0 < w) : ∀ (k k' : Nat) (a n : Int), n ≤ k → n ≤ k' → splitF w k a n = splitF w k' a n := by
  intro k
  induction k with
  | zero => intro k' a n h1 h2; rw [splitF_done w 0 a n h1, splitF_done w k' a n h1]
  | succ k ih =>
    intro k' a n h1 h2
    by_cases hn : 0 < n
    · obtain ⟨j, rfl⟩ : ∃ j, k' = j + 1 := ⟨k' - 1, by omega⟩
      have hm := Int.emod_lt_of_pos a hw
      rw [splitF_step w k a n hn, splitF_step w j a n hn, ih j _ _ (by omega) (by omega)]
    · rw [splitF_done w _ a n (by omega), splitF_done w _ a n (by omega)]
theorem splitF_len {w : Int} (hw : 0 < w) : ∀ (k : Nat) (a n : Int), (splitF w k a n).length ≤ k := by
  intro k
  induction k with
  | zero => intro a n; simp [splitF]
  | succ k ih =>
    intro a n
    simp only [splitF]
    split
    · simp only [List.length_cons]; have := ih (a + min n (w - a % w)) (n - min n (w - a % w)); omega
    · simp

def env_ssplit : Env := ⟨T, psi_rsub, pspNil, 66, [], none, true⟩
theorem eok_ssplit : PsiOk Try.prog env_ssplit := ⟨psi_rsub_ok, pspNil_ok⟩
theorem ssplit_fn (a : Int) (n : Int) (c : Int)  : Ctr Try.prog 11 false [int .i64 a, int .i64 n, int .i64 c] (.ot 34 .pcs (splL a n c) [.c (i64 (splE a n c))]) := by
  refine Ctr_intro (E := env_ssplit) Try.func11 rfl (by decide) rfl rfl (fun M0 W hM0 => ?_)
  refine G_run tOk eok_ssplit 60 (fun _ => none) (fun bs => rfl) (fun bs => ?_) (fun bs => ?_)
  · (repeat' apply And.intro) <;> (intros; first | exact trivial | exact rfl | omega | exact u8_lo _ | exact u8_hi _ | exact u8_in64 _ | exact u8_in63 _ | (simp only [inR, IntKind.bits]; omega) | (simp [inR, IntKind.bits]; done) | (simp [inR, IntKind.bits] at * <;> omega) | (simp_all; done) | skip)
  refine G_cond rfl rfl (fun h => ?_) (fun h => ?_)
  · refine G_run tOk eok_ssplit 60 (fun _ => none) (fun bs => rfl) (fun bs => ?_) (fun bs => ?_)
    · (repeat' apply And.intro) <;> (intros; first | exact trivial | exact rfl | omega | exact u8_lo _ | exact u8_hi _ | exact u8_in64 _ | exact u8_in63 _ | (simp only [inR, IntKind.bits]; omega) | (simp [inR, IntKind.bits]; done) | (simp [inR, IntKind.bits] at * <;> omega) | (simp_all; done) | skip)
    have he : splE a n c = 1 := by simp at h; unfold splE; rw [if_pos (by omega)]
    exact G_ret tOk hM0 rfl rfl ⟨trivial, trivial, trivial⟩ ⟨(show splL a n c = [] by simp [splL, he]), ⟨rfl, he.symm⟩, trivial⟩
  have hc : 0 ≤ c ∧ c ≤ 6 := by simp at h; omega
  have ha : 0 ≤ a ∧ a ≤ 4096 := by simp at h; omega
  have hn : 0 ≤ n ∧ n ≤ 4096 := by simp at h; omega
  clear h
  have he : splE a n c = 0 := by unfold splE; rw [if_neg (by omega)]
  have hp := pow_c hc
  have hu : splL a n c = splitF (2 ^ c.toNat) n.toNat a n := by unfold splL; rw [if_pos he]
  rw [hu, he]
  obtain ⟨w, hw⟩ : ∃ w : Int, 2 ^ c.toNat = w := ⟨_, rfl⟩
  rw [hw] at hp ⊢
  have hw0 : 0 < w := by omega
  have hw1 : (1 : Int) * 2 ^ c.toNat = w := by rw [hw]; omega
  refine G_run tOk eok_ssplit 60 (fun _ => none) (fun bs => rfl) (fun bs => ?_) (fun bs => ?_)
  · simp only [hw1]
    (repeat' apply And.intro) <;> (intros; first | exact trivial | exact rfl | omega | exact u8_lo _ | exact u8_hi _ | exact u8_in64 _ | exact u8_in63 _ | (simp only [inR, IntKind.bits]; omega) | (simp [inR, IntKind.bits]; done) | (simp [inR, IntKind.bits] at * <;> omega) | (simp_all; done) | skip)
  refine G_own 8 34 rfl ?_
  refine G_loop (fun x : Int × Value × List Piece => [(0, int .i64 x.1), (8, .c (.own 0 x.2.1)), (9, int .i64 w), (10, int .i64 (a + n))]) (fun x => [.own x.2.1 34 .pcs x.2.2])
    (fun x => 0 ≤ x.1 ∧ x.1 ≤ a + n ∧ x.2.2.length ≤ 8192 - (a + n - x.1).toNat ∧ x.2.2 ++ splitF w (a + n - x.1).toNat x.1 (a + n - x.1) = splitF w n.toNat a n) (fun x => (a + n - x.1).toNat) rfl [0] (a, ?v0, []) ⟨ha.1, by simp only; omega, by simp, ?ini⟩ ?wk (fun x hx => ?_)
  case ini => simp only [List.nil_append]; rw [show a + n - a = n by omega]
  case wk =>
    (repeat' apply And.intro) <;> (first | exact rfl | exact trivial | omega | refine sigEq ?_ | skip)
    all_goals simp only [hw1]
  obtain ⟨p, v, out⟩ := x
  obtain ⟨h1, h2, h3, h4⟩ := hx
  dsimp only at h1 h2 h3 h4
  refine G_run tOk eok_ssplit 60 (fun _ => none) (fun bs => rfl) (fun bs => ?_) (fun bs => ?_)
  · (repeat' apply And.intro) <;> (intros; first | exact trivial | exact rfl | omega | exact u8_lo _ | exact u8_hi _ | exact u8_in64 _ | exact u8_in63 _ | (simp only [inR, IntKind.bits]; omega) | (simp [inR, IntKind.bits]; done) | (simp [inR, IntKind.bits] at * <;> omega) | (simp_all; done) | skip)
  refine G_if rfl rfl (fun hk => ?_) (fun hk => ?_)
  · have hk' : p < a + n := hk
    have m0 := Int.emod_nonneg p (show w ≠ 0 by omega)
    have m1 := Int.emod_lt_of_pos p hw0
    have m2 : 0 ≤ p / w := Int.ediv_nonneg h1 (by omega)
    have m3 : p / w ≤ p := Int.ediv_le_self _ h1
    obtain ⟨N, hN⟩ : ∃ N, (a + n - p).toNat = N + 1 := ⟨(a + n - p).toNat - 1, by omega⟩
    rw [hN, splitF_step w N p _ (by omega)] at h4
    obtain ⟨k, hkk⟩ : ∃ k : Int, min (w - p % w) (a + n - p) = k := ⟨_, rfl⟩
    have hkk2 : min (a + n - p) (w - p % w) = k := by rw [Int.min_comm]; exact hkk
    have hk1 : 1 ≤ k ∧ k ≤ a + n - p := by omega
    refine G_run tOk eok_ssplit 60 (fun _ => none) (fun bs => rfl) (fun bs => ?_) (fun bs => ?_)
    · (repeat' apply And.intro) <;> (intros; first | exact trivial | exact rfl | omega | exact u8_lo _ | exact u8_hi _ | exact u8_in64 _ | exact u8_in63 _ | (simp only [inR, IntKind.bits]; omega) | (simp [inR, IntKind.bits]; done) | (simp [inR, IntKind.bits] at * <;> omega) | (simp_all; done) | skip)
    refine G_draw tOk eok_ssplit rfl (fun _ => none) 10 [0, 0, 0, 6, 0, 0, 48, 0, 254, 510, 1023, 2047] [] rfl (by decide +kernel) (fun bs => rfl) (fun bs => ?_) (fun bs => ?_)
    · (repeat' apply And.intro) <;> (intros; first | exact trivial | exact rfl | omega | exact u8_lo _ | exact u8_hi _ | exact u8_in64 _ | exact u8_in63 _ | (simp only [inR, IntKind.bits]; omega) | (simp [inR, IntKind.bits]; done) | (simp [inR, IntKind.bits] at * <;> omega) | (simp_all; done) | skip)
    refine G_run tOk eok_ssplit 60 (fun _ => none) (fun bs => rfl) (fun bs => by (repeat' apply And.intro) <;> (intros; first | exact trivial | exact rfl | omega | exact u8_lo _ | exact u8_hi _ | exact u8_in64 _ | exact u8_in63 _ | (simp only [inR, IntKind.bits]; omega) | (simp [inR, IntKind.bits]; done) | (simp [inR, IntKind.bits] at * <;> omega) | (simp_all; done) | skip)) (fun bs => ?_)
    refine G_lp [11] (p + k, ?v1, out ++ [pcX w p (a + n - p)]) ?ok1 ?wk1
    case ok1 =>
      refine ⟨⟨by simp only; omega, by simp only; omega, by simp; omega, ?_⟩, by simp only; omega⟩
      simp only
      rw [← h4, List.append_assoc, hkk2]
      simp only [List.singleton_append]
      rw [show a + n - p - k = a + n - (p + k) by omega]
      rw [splitF_more hw0 (a + n - (p + k)).toNat N _ _ (by omega) (by omega)]
    case wk1 =>
      (repeat' apply And.intro) <;> (first | exact rfl | exact trivial | omega | refine sigEq ?_ | skip)
      all_goals (simp only [pcX, hkk, hkk2])
  · have hk' : p = a + n := by have : ¬ p < a + n := hk; omega
    subst hk'
    refine G_run tOk eok_ssplit 60 (fun _ => none) (fun bs => rfl) (fun bs => ?_) (fun bs => ?_)
    · (repeat' apply And.intro) <;> (intros; first | exact trivial | exact rfl | omega | exact u8_lo _ | exact u8_hi _ | exact u8_in64 _ | exact u8_in63 _ | (simp only [inR, IntKind.bits]; omega) | (simp [inR, IntKind.bits]; done) | (simp [inR, IntKind.bits] at * <;> omega) | (simp_all; done) | skip)
    refine G_ret tOk hM0 rfl rfl ⟨trivial, trivial, trivial⟩ ⟨⟨rfl, rfl, rfl, sigEq ?_⟩, ⟨rfl, rfl⟩, trivial⟩
    rw [← h4, splitF_done w _ _ _ (by omega), List.append_nil]
def ssplit_s : FSpec
  | [.c (.pv (.val (.int .i64 a))), .c (.pv (.val (.int .i64 n))), .c (.pv (.val (.int .i64 c)))] => some (True, false, .ot 34 .pcs (splL a n c) [.c (i64 (splE a n c))])
  | _ => none
theorem ssplit_s_ok : SpecOk Try.prog 11 ssplit_s := by
  intro args pre sh rv h hp; unfold ssplit_s at h; split at h
  · cases h; exact ssplit_fn _ _ _ 
  · cases h
def psi_ssplit : FuncId → Option FSpec := psiCons 11 ssplit_s psi_rsub
theorem psi_ssplit_ok : PsiFn Try.prog psi_ssplit := psiCons_ok ssplit_s_ok psi_rsub_ok
end Go.Proofs.Ytplbdmkiolocbaa
