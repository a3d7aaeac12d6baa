import Derived.Test.YtplbdmkiolocbaaSpnD
set_option linter.unusedSimpArgs false
set_option linter.unusedVariables false
namespace Go.Proofs.Ytplbdmkiolocbaa
open Go.Mt

def env_rsplit : Env := ⟨T, psi_ssplit, pspNil, 67, [], none, true⟩
theorem eok_rsplit : PsiOk Try.prog env_rsplit := ⟨psi_ssplit_ok, pspNil_ok⟩
theorem rsplit_fn (a : Int) (n : Int) (c : Int)  : Ctr Try.prog 12 false [int .i64 a, int .i64 n, int .i64 c] (.ot 34 .pcs (splL a n c) [.c (i64 (splE a n c))]) := by
  refine Ctr_intro (E := env_rsplit) Try.func12 rfl (by decide) rfl rfl (fun M0 W hM0 => ?_)
  refine G_run tOk eok_rsplit 60 (fun _ => none) (fun bs => rfl) (fun bs => ?_) (fun bs => ?_)
  · (repeat' apply And.intro) <;> (intros; first | exact trivial | exact rfl | omega | exact u8_lo _ | exact u8_hi _ | exact u8_in64 _ | exact u8_in63 _ | (simp only [inR, IntKind.bits]; omega) | (simp [inR, IntKind.bits]; done) | (simp [inR, IntKind.bits] at * <;> omega) | (simp_all; done) | skip)
  refine G_cond rfl rfl (fun h => ?_) (fun h => ?_)
  · refine G_run tOk eok_rsplit 60 (fun _ => none) (fun bs => rfl) (fun bs => ?_) (fun bs => ?_)
    · (repeat' apply And.intro) <;> (intros; first | exact trivial | exact rfl | omega | exact u8_lo _ | exact u8_hi _ | exact u8_in64 _ | exact u8_in63 _ | (simp only [inR, IntKind.bits]; omega) | (simp [inR, IntKind.bits]; done) | (simp [inR, IntKind.bits] at * <;> omega) | (simp_all; done) | skip)
    have he : splE a n c = 1 := by simp at h; unfold splE; rw [if_pos (by omega)]
    exact G_ret tOk hM0 rfl rfl ⟨trivial, trivial, trivial⟩ ⟨(show splL a n c = [] by simp [splL, he]), ⟨rfl, he.symm⟩, trivial⟩
  have hc : 0 ≤ c ∧ c ≤ 6 := by simp at h; omega
  have ha : 0 ≤ a ∧ a ≤ 4096 := by simp at h; omega
  have hn : 0 ≤ n ∧ n ≤ 4096 := by simp at h; omega
  clear h
  have he : splE a n c = 0 := by unfold splE; rw [if_neg (by omega)]
  have hp := pow_c hc
  have hu : splL a n c = splitF (2 ^ c.toNat) n.toNat a n := by unfold splL; rw [if_pos he]
  rw [hu, he]
  obtain ⟨w, hw⟩ : ∃ w : Int, 2 ^ c.toNat = w := ⟨_, rfl⟩
  rw [hw] at hp ⊢
  have hw0 : 0 < w := by omega
  have hw1 : (1 : Int) * 2 ^ c.toNat = w := by rw [hw]; omega
  refine G_run tOk eok_rsplit 60 (fun _ => none) (fun bs => rfl) (fun bs => ?_) (fun bs => ?_)
  · (repeat' apply And.intro) <;> (intros; first | exact trivial | exact rfl | omega | exact u8_lo _ | exact u8_hi _ | exact u8_in64 _ | exact u8_in63 _ | (simp only [inR, IntKind.bits]; omega) | (simp [inR, IntKind.bits]; done) | (simp [inR, IntKind.bits] at * <;> omega) | (simp_all; done) | skip)
  refine G_own 8 34 rfl ?_
  refine G_loop (fun x : Int × Int × Value × List Piece => [(0, int .i64 x.1), (1, int .i64 x.2.1), (2, int .i64 c), (8, .c (.own 0 x.2.2.1))]) (fun x => [.own x.2.2.1 34 .pcs x.2.2.2])
    (fun x => 0 ≤ x.1 ∧ x.1 ≤ 8192 ∧ 0 ≤ x.2.1 ∧ x.2.1 ≤ 4096 ∧ x.1 + x.2.1 ≤ 8192 ∧ x.2.2.2.length ≤ 4096 - x.2.1.toNat ∧ x.2.2.2 ++ splitF w x.2.1.toNat x.1 x.2.1 = splitF w n.toNat a n) (fun x => x.2.1.toNat) rfl [0] (a, n, ?v0, []) ⟨ha.1, by simp only; omega, hn.1, hn.2, by simp only; omega, by simp, rfl⟩ ?wk (fun x hx => ?_)
  case wk => (repeat' apply And.intro) <;> (first | exact rfl | exact trivial | omega | refine sigEq ?_ | skip)
  obtain ⟨p, m, v, out⟩ := x
  obtain ⟨h1, h2, h3, h3', h3'', h3a, h4⟩ := hx
  dsimp only at h1 h2 h3 h3' h3'' h3a h4
  refine G_run tOk eok_rsplit 60 (fun _ => none) (fun bs => rfl) (fun bs => ?_) (fun bs => ?_)
  · (repeat' apply And.intro) <;> (intros; first | exact trivial | exact rfl | omega | exact u8_lo _ | exact u8_hi _ | exact u8_in64 _ | exact u8_in63 _ | (simp only [inR, IntKind.bits]; omega) | (simp [inR, IntKind.bits]; done) | (simp [inR, IntKind.bits] at * <;> omega) | (simp_all; done) | skip)
  refine G_if rfl rfl (fun hk => ?_) (fun hk => ?_)
  · have hk' : 0 < m := hk
    have m0 := Int.emod_nonneg p (show w ≠ 0 by omega)
    have m1 := Int.emod_lt_of_pos p hw0
    have m2 : 0 ≤ p / w := Int.ediv_nonneg h1 (by omega)
    have m3 : p / w ≤ p := Int.ediv_le_self _ h1
    have m4 : p / w * w = p - p % w := by have := Int.mul_ediv_add_emod p w; rw [Int.mul_comm] at this; omega
    have m5 : p - p / w * w = p % w := by omega
    obtain ⟨N, hN⟩ : ∃ N, m.toNat = N + 1 := ⟨m.toNat - 1, by omega⟩
    rw [hN, splitF_step w N p _ (by omega)] at h4
    obtain ⟨k, hkk⟩ : ∃ k : Int, min m (w - p % w) = k := ⟨_, rfl⟩
    rw [hkk] at h4
    have hk1 : 1 ≤ k ∧ k ≤ m := by omega
    refine G_run tOk eok_rsplit 60 (fun _ => none) (fun bs => rfl) (fun bs => ?_) (fun bs => ?_)
    · simp only [hw, hw1]
      (repeat' apply And.intro) <;> (intros; first | exact trivial | exact rfl | omega | exact u8_lo _ | exact u8_hi _ | exact u8_in64 _ | exact u8_in63 _ | (simp only [inR, IntKind.bits]; omega) | (simp [inR, IntKind.bits]; done) | (simp [inR, IntKind.bits] at * <;> omega) | (simp_all; done) | skip)
    refine G_lp [2] (p + k, m - k, ?v1, out ++ [pcX w p m]) ?ok1 ?wk1
    case ok1 =>
      refine ⟨⟨by simp only; omega, by simp only; omega, by simp only; omega, by simp only; omega, by simp only; omega, by simp; omega, ?_⟩, by simp only; omega⟩
      simp only
      rw [← h4, List.append_assoc]
      simp only [List.singleton_append]
      rw [splitF_more hw0 (m - k).toNat N _ _ (by omega) (by omega)]
    case wk1 =>
      (repeat' apply And.intro) <;> (first | exact rfl | exact trivial | omega | refine sigEq ?_ | skip)
      all_goals (simp only [pcX, hw, Int.one_mul, m5, hkk])
  · have hk' : m ≤ 0 := by have : ¬ 0 < m := hk; omega
    refine G_run tOk eok_rsplit 60 (fun _ => none) (fun bs => rfl) (fun bs => ?_) (fun bs => ?_)
    · (repeat' apply And.intro) <;> (intros; first | exact trivial | exact rfl | omega | exact u8_lo _ | exact u8_hi _ | exact u8_in64 _ | exact u8_in63 _ | (simp only [inR, IntKind.bits]; omega) | (simp [inR, IntKind.bits]; done) | (simp [inR, IntKind.bits] at * <;> omega) | (simp_all; done) | skip)
    refine G_ret tOk hM0 rfl rfl ⟨trivial, trivial, trivial⟩ ⟨⟨rfl, rfl, rfl, sigEq ?_⟩, ⟨rfl, rfl⟩, trivial⟩
    rw [← h4, splitF_done w _ _ _ (by omega), List.append_nil]

def rsplit_s : FSpec
  | [.c (.pv (.val (.int .i64 a))), .c (.pv (.val (.int .i64 n))), .c (.pv (.val (.int .i64 c)))] => some (True, false, .ot 34 .pcs (splL a n c) [.c (i64 (splE a n c))])
  | _ => none
theorem rsplit_s_ok : SpecOk Try.prog 12 rsplit_s := by
  intro args pre sh rv h hp; unfold rsplit_s at h; split at h
  · cases h; exact rsplit_fn _ _ _ 
  · cases h
def psi_rsplit : FuncId → Option FSpec := psiCons 12 rsplit_s psi_ssplit
theorem psi_rsplit_ok : PsiFn Try.prog psi_rsplit := psiCons_ok rsplit_s_ok psi_ssplit_ok
theorem pc_eq (x y : Piece) : (decide (x.cl = y.cl) && (decide (x.at_ = y.at_) && (decide (x.n = y.n) && true))) = decide (x = y) := by
  cases x; cases y; simp
def env_pieces : Env := ⟨T, psi_rsplit, pspNil, 26, [], none, true⟩
theorem eok_pieces : PsiOk Try.prog env_pieces := ⟨psi_rsplit_ok, pspNil_ok⟩
theorem pieces_fn (l : List Piece) (m : List Piece) (hl : l.length ≤ 1000000000) (hm : m.length ≤ 1000000000) : Ctr Try.prog 13 false [lst .pcs l, lst .pcs m] (.x (.c (bv (decide (l = m))))) := by
  refine Ctr_intro (E := env_pieces) Try.func13 rfl (by decide) rfl rfl (fun M0 W hM0 => ?_)
  refine G_run tOk eok_pieces 60 (fun _ => none) (fun bs => rfl) (fun bs => ?_) (fun bs => ?_)
  · (repeat' apply And.intro) <;> (intros; first | exact trivial | exact rfl | omega | exact u8_lo _ | exact u8_hi _ | exact u8_in64 _ | exact u8_in63 _ | (simp only [inR, IntKind.bits]; omega) | (simp [inR, IntKind.bits]; done) | (simp [inR, IntKind.bits] at * <;> omega) | (simp_all; done) | skip)
  refine G_cond rfl rfl (fun h => ?_) (fun h => ?_)
  · refine G_run tOk eok_pieces 60 (fun _ => none) (fun bs => rfl) (fun bs => ?_) (fun bs => ?_)
    · (repeat' apply And.intro) <;> (intros; first | exact trivial | exact rfl | omega | exact u8_lo _ | exact u8_hi _ | exact u8_in64 _ | exact u8_in63 _ | (simp only [inR, IntKind.bits]; omega) | (simp [inR, IntKind.bits]; done) | (simp [inR, IntKind.bits] at * <;> omega) | (simp_all; done) | skip)
    have hb : decide (l = m) = false := by simp; intro e; subst e; simp at h
    exact G_ret tOk hM0 rfl rfl ⟨trivial, trivial⟩ hb.symm
  have hlm : l.length = m.length := by simp at h; omega
  refine G_run tOk eok_pieces 60 (fun _ => none) (fun bs => rfl) (fun bs => ?_) (fun bs => ?_)
  · (repeat' apply And.intro) <;> (intros; first | exact trivial | exact rfl | omega | exact u8_lo _ | exact u8_hi _ | exact u8_in64 _ | exact u8_in63 _ | (simp only [inR, IntKind.bits]; omega) | (simp [inR, IntKind.bits]; done) | (simp [inR, IntKind.bits] at * <;> omega) | (simp_all; done) | skip)
  refine G_loop (fun x : Nat => [(0, lst .pcs l), (1, lst .pcs m), (5, int .i64 x)]) (fun x => []) (fun x => x ≤ l.length ∧ l.take x = m.take x) (fun x => l.length - x) rfl [] 0 ⟨Nat.zero_le _, rfl⟩ ?wk (fun x hx => ?_)
  case wk => (repeat' apply And.intro) <;> (first | exact rfl | exact trivial | omega | refine sigEq ?_ | skip)
  obtain ⟨hx, hr⟩ := hx
  refine G_run tOk eok_pieces 60 (fun _ => none) (fun bs => rfl) (fun bs => ?_) (fun bs => ?_)
  · (repeat' apply And.intro) <;> (intros; first | exact trivial | exact rfl | omega | exact u8_lo _ | exact u8_hi _ | exact u8_in64 _ | exact u8_in63 _ | (simp only [inR, IntKind.bits]; omega) | (simp [inR, IntKind.bits]; done) | (simp [inR, IntKind.bits] at * <;> omega) | (simp_all; done) | skip)
  refine G_if rfl rfl (fun hk => ?_) (fun hk => ?_)
  · have hk' : x < l.length := by omega
    have ht := take_eq (⟨0, 0, 0⟩ : Piece) hr hk' (by omega)
    refine G_run tOk eok_pieces 60 (fun _ => none) (fun bs => rfl) (fun bs => ?_) (fun bs => ?_)
    · (repeat' apply And.intro) <;> (intros; first | exact trivial | exact rfl | omega | exact u8_lo _ | exact u8_hi _ | exact u8_in64 _ | exact u8_in63 _ | (simp only [inR, IntKind.bits]; omega) | (simp [inR, IntKind.bits]; done) | (simp [inR, IntKind.bits] at * <;> omega) | (simp_all; done) | skip)
    refine G_draw tOk eok_pieces rfl (fun _ => none) 8 [0, 0, 3, 7, 0, 0, 48, 112, 255] [] rfl (by decide +kernel) (fun bs => rfl) (fun bs => ?_) (fun bs => ?_)
    · (repeat' apply And.intro) <;> (intros; first | exact trivial | exact rfl | omega | exact u8_lo _ | exact u8_hi _ | exact u8_in64 _ | exact u8_in63 _ | (simp only [inR, IntKind.bits]; omega) | (simp [inR, IntKind.bits]; done) | (simp [inR, IntKind.bits] at * <;> omega) | (simp_all; done) | skip)
    refine G_run tOk eok_pieces 60 (fun _ => none) (fun bs => rfl) (fun bs => by (repeat' apply And.intro) <;> (intros; first | exact trivial | exact rfl | omega | exact u8_lo _ | exact u8_hi _ | exact u8_in64 _ | exact u8_in63 _ | (simp only [inR, IntKind.bits]; omega) | (simp [inR, IntKind.bits]; done) | (simp [inR, IntKind.bits] at * <;> omega) | (simp_all; done) | skip)) (fun bs => ?_)
    refine G_cond (b := !decide (l.getD x ⟨0, 0, 0⟩ = m.getD x ⟨0, 0, 0⟩)) rfl (by rw [← pc_eq]; rfl) (fun h => ?_) (fun h => ?_)
    · refine G_run tOk eok_pieces 60 (fun _ => none) (fun bs => rfl) (fun bs => ?_) (fun bs => ?_)
      · (repeat' apply And.intro) <;> (intros; first | exact trivial | exact rfl | omega | exact u8_lo _ | exact u8_hi _ | exact u8_in64 _ | exact u8_in63 _ | (simp only [inR, IntKind.bits]; omega) | (simp [inR, IntKind.bits]; done) | (simp [inR, IntKind.bits] at * <;> omega) | (simp_all; done) | skip)
      have hb : decide (l = m) = false := by
        simp only [Bool.not_eq_true', decide_eq_false_iff_not] at h ⊢
        rintro rfl; exact h rfl
      exact G_ret tOk hM0 rfl rfl ⟨trivial, trivial⟩ hb.symm
    · refine G_run tOk eok_pieces 60 (fun _ => none) (fun bs => rfl) (fun bs => ?_) (fun bs => ?_)
      · (repeat' apply And.intro) <;> (intros; first | exact trivial | exact rfl | omega | exact u8_lo _ | exact u8_hi _ | exact u8_in64 _ | exact u8_in63 _ | (simp only [inR, IntKind.bits]; omega) | (simp [inR, IntKind.bits]; done) | (simp [inR, IntKind.bits] at * <;> omega) | (simp_all; done) | skip)
      refine G_lp [] (x + 1) ?ok ?wk2
      case ok =>
        refine ⟨⟨hk', ht.2 ?_⟩, by omega⟩
        simpa only [Bool.not_eq_false', decide_eq_true_eq] using h
      case wk2 => (repeat' apply And.intro) <;> (first | exact rfl | exact trivial | omega | refine sigEq ?_ | skip)
  · have hk' : x = l.length := by omega
    subst hk'
    refine G_run tOk eok_pieces 60 (fun _ => none) (fun bs => rfl) (fun bs => ?_) (fun bs => ?_)
    · (repeat' apply And.intro) <;> (intros; first | exact trivial | exact rfl | omega | exact u8_lo _ | exact u8_hi _ | exact u8_in64 _ | exact u8_in63 _ | (simp only [inR, IntKind.bits]; omega) | (simp [inR, IntKind.bits]; done) | (simp [inR, IntKind.bits] at * <;> omega) | (simp_all; done) | skip)
    have hb : decide (l = m) = true := by
      simp only [decide_eq_true_eq]
      rw [List.take_length, hlm, List.take_length] at hr; exact hr
    exact G_ret tOk hM0 rfl rfl ⟨trivial, trivial⟩ hb.symm

def pieces_s : FSpec
  | [.c (.pv (.lst .pcs l)), .c (.pv (.lst .pcs m))] => some ((l.length ≤ 1000000000) ∧ (m.length ≤ 1000000000), false, .x (.c (bv (decide (l = m)))))
  | _ => none
theorem pieces_s_ok : SpecOk Try.prog 13 pieces_s := by
  intro args pre sh rv h hp; unfold pieces_s at h; split at h
  · cases h; obtain ⟨hl, hm⟩ := hp; exact pieces_fn _ _ hl hm
  · cases h
def psi_pieces : FuncId → Option FSpec := psiCons 13 pieces_s psi_rsplit
theorem psi_pieces_ok : PsiFn Try.prog psi_pieces := psiCons_ok pieces_s_ok psi_rsplit_ok
def env_num : Env := ⟨T, psi_pieces, pspNil, 4, [], none, true⟩
theorem eok_num : PsiOk Try.prog env_num := ⟨psi_pieces_ok, pspNil_ok⟩
theorem num_fn (n : Int)  : Ctr Try.prog 14 false [int .i64 n] (.x (.c (i64 n))) := by
  refine Ctr_intro (E := env_num) Try.func14 rfl (by decide) rfl rfl (fun M0 W hM0 => ?_)
  refine G_run tOk eok_num 60 (fun _ => none) (fun bs => rfl) (fun bs => ?_) (fun bs => ?_)
  · (repeat' apply And.intro) <;> (intros; first | exact trivial | exact rfl | omega | exact u8_lo _ | exact u8_hi _ | exact u8_in64 _ | exact u8_in63 _ | (simp only [inR, IntKind.bits]; omega) | (simp [inR, IntKind.bits]; done) | (simp [inR, IntKind.bits] at * <;> omega) | (simp_all; done) | skip)
  exact G_ret tOk hM0 rfl rfl ⟨trivial, trivial⟩ ⟨rfl, rfl⟩

def num_s : FSpec
  | [.c (.pv (.val (.int .i64 n)))] => some (True, false, .x (.c (i64 n)))
  | _ => none
theorem num_s_ok : SpecOk Try.prog 14 num_s := by
  intro args pre sh rv h hp; unfold num_s at h; split at h
  · cases h; exact num_fn _ 
  · cases h
def psi_num : FuncId → Option FSpec := psiCons 14 num_s psi_pieces
theorem psi_num_ok : PsiFn Try.prog psi_num := psiCons_ok num_s_ok psi_pieces_ok
def env_awake : Env := ⟨T, psi_num, pspNil, 39, [], none, true⟩
theorem eok_awake : PsiOk Try.prog env_awake := ⟨psi_num_ok, pspNil_ok⟩
theorem awake_fn   : Ctr Try.prog 15 false [] (.x (.c (bv true))) := by
  refine Ctr_intro (E := env_awake) Try.func15 rfl (by decide) rfl rfl (fun M0 W hM0 => ?_)
  refine G_run tOk eok_awake 60 (fun _ => some true) (fun bs => rfl) (fun bs => ?_) (fun bs => ?_)
  · (repeat' apply And.intro) <;> (intros; first | exact trivial | exact rfl | decide +kernel | (simp [inR]; done))
  refine G_ret tOk hM0 rfl rfl ?_ ?_
  · (repeat' apply And.intro) <;> (intros; first | exact trivial | exact rfl | decide +kernel)
  · conv => whnf
    decide +kernel

def awake_s : FSpec
  | [] => some (True, false, .x (.c (bv true)))
  | _ => none
theorem awake_s_ok : SpecOk Try.prog 15 awake_s := by
  intro args pre sh rv h hp; unfold awake_s at h; split at h
  · cases h; exact awake_fn  
  · cases h
def psi_awake : FuncId → Option FSpec := psiCons 15 awake_s psi_num
theorem psi_awake_ok : PsiFn Try.prog psi_awake := psiCons_ok awake_s_ok psi_num_ok
def mdX (ns : List Int) (k : Nat) : Span := ⟨ns.getD (2 * k) 0 % 200, ns.getD (2 * k) 0 % 200 + 1 + ns.getD (2 * k + 1) 0 % 30⟩
def madeN (ns : List Int) : Nat → List Span
  | 0 => []
  | k + 1 => addL (madeN ns k) (mdX ns k)
def madeL (ns : List Int) : List Span := madeN ns (min (ns.length / 2) 30)
end Go.Proofs.Ytplbdmkiolocbaa
