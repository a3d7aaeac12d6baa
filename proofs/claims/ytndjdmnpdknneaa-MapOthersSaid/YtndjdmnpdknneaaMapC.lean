import Derived.Test.YtndjdmnpdknneaaSpnB
set_option linter.unusedSimpArgs false
set_option linter.unusedVariables false
namespace Go.Proofs.Ytndjdmnpdknneaa
open Go.Mt

def env_rhas : Env := ⟨T, psi_ssub, pspNil, pscNil, 30, [], none, true⟩
theorem eok_rhas : PsiOk Try.prog env_rhas := ⟨psi_ssub_ok, pspNil_ok, pscNil_ok⟩
theorem rhas_fn (l : List Span) (n : Int) (hl : l.length ≤ 1000000) : Ctr Try.prog 16 false [lst .spn l, int .i64 n] (.x (.c (bv (hasL l n)))) := by
  refine Ctr_intro (E := env_rhas) Try.func16 rfl (by decide) rfl rfl (fun M0 W hM0 => ?_)
  have hr := rightL_len hl
  refine G_run tOk eok_rhas 60 (fun _ => none) (fun bs => rfl) (fun bs => ?_) (fun bs => ?_)
  · (repeat' apply And.intro) <;> (intros; first | exact trivial | exact rfl | omega | exact u8_lo _ | exact u8_hi _ | exact u8_in64 _ | exact u8_in63 _ | (simp only [inR, IntKind.bits]; omega) | (simp [inR, IntKind.bits]; done) | (simp [inR, IntKind.bits] at * <;> omega) | (simp_all; done) | (with_reducible assumption) | skip)
  refine G_freeze 0 [0] rfl ⟨rfl, trivial⟩ ?_
  have hu : hasL l n = (rightL l).any (hasX n) := rfl
  rw [hu]
  generalize ho : rightL l = old at hr
  refine G_loop (fun x : Nat => [(0, lst .spn old), (1, int .i64 n), (5, int .i64 x)]) (fun x => []) (fun x => x ≤ old.length ∧ (old.take x).any (hasX n) = false) (fun x => old.length - x) rfl [] 0 ⟨Nat.zero_le _, rfl⟩ ?wk (fun x hx => ?_)
  case wk => (repeat' apply And.intro) <;> (first | exact rfl | exact trivial | omega | refine sigEq ?_ | skip)
  obtain ⟨hx, hn⟩ := hx
  refine G_run tOk eok_rhas 60 (fun _ => none) (fun bs => rfl) (fun bs => ?_) (fun bs => ?_)
  · (repeat' apply And.intro) <;> (intros; first | exact trivial | exact rfl | omega | exact u8_lo _ | exact u8_hi _ | exact u8_in64 _ | exact u8_in63 _ | (simp only [inR, IntKind.bits]; omega) | (simp [inR, IntKind.bits]; done) | (simp [inR, IntKind.bits] at * <;> omega) | (simp_all; done) | (with_reducible assumption) | skip)
  refine G_if rfl rfl (fun hk => ?_) (fun hk => ?_)
  · have hk' : x < old.length := by omega
    have hy : old[x]? = some (old.getD x ⟨0, 0⟩) := by simp [List.getD, List.getElem?_eq_getElem hk']
    refine G_run tOk eok_rhas 60 (fun _ => none) (fun bs => rfl) (fun bs => ?_) (fun bs => ?_)
    · (repeat' apply And.intro) <;> (intros; first | exact trivial | exact rfl | omega | exact u8_lo _ | exact u8_hi _ | exact u8_in64 _ | exact u8_in63 _ | (simp only [inR, IntKind.bits]; omega) | (simp [inR, IntKind.bits]; done) | (simp [inR, IntKind.bits] at * <;> omega) | (simp_all; done) | (with_reducible assumption) | skip)
    refine G_cond (b := hasX n (old.getD x ⟨0, 0⟩)) rfl rfl (fun h => ?_) (fun h => ?_)
    · refine G_run tOk eok_rhas 60 (fun _ => none) (fun bs => rfl) (fun bs => ?_) (fun bs => ?_)
      · (repeat' apply And.intro) <;> (intros; first | exact trivial | exact rfl | omega | exact u8_lo _ | exact u8_hi _ | exact u8_in64 _ | exact u8_in63 _ | (simp only [inR, IntKind.bits]; omega) | (simp [inR, IntKind.bits]; done) | (simp [inR, IntKind.bits] at * <;> omega) | (simp_all; done) | (with_reducible assumption) | skip)
      have hb : old.any (hasX n) = true := by rw [List.any_eq_true]; exact ⟨_, List.mem_of_getElem? hy, h⟩
      rw [hb]
      exact G_ret tOk hM0 rfl rfl ⟨trivial, trivial⟩ rfl
    · refine G_run tOk eok_rhas 60 (fun _ => none) (fun bs => rfl) (fun bs => ?_) (fun bs => ?_)
      · (repeat' apply And.intro) <;> (intros; first | exact trivial | exact rfl | omega | exact u8_lo _ | exact u8_hi _ | exact u8_in64 _ | exact u8_in63 _ | (simp only [inR, IntKind.bits]; omega) | (simp [inR, IntKind.bits]; done) | (simp [inR, IntKind.bits] at * <;> omega) | (simp_all; done) | (with_reducible assumption) | skip)
      refine G_lp [] (x + 1) ?ok ?wk2
      case ok => exact ⟨⟨hk', by rw [take_succ_of hy, List.any_append, hn]; simp only [List.any_cons, List.any_nil, h]; rfl⟩, by omega⟩
      case wk2 => (repeat' apply And.intro) <;> (first | exact rfl | exact trivial | omega | refine sigEq ?_ | skip)
  · have hk' : x = old.length := by omega
    subst hk'
    rw [List.take_length] at hn
    rw [hn]
    refine G_run tOk eok_rhas 60 (fun _ => none) (fun bs => rfl) (fun bs => ?_) (fun bs => ?_)
    · (repeat' apply And.intro) <;> (intros; first | exact trivial | exact rfl | omega | exact u8_lo _ | exact u8_hi _ | exact u8_in64 _ | exact u8_in63 _ | (simp only [inR, IntKind.bits]; omega) | (simp [inR, IntKind.bits]; done) | (simp [inR, IntKind.bits] at * <;> omega) | (simp_all; done) | (with_reducible assumption) | skip)
    exact G_ret tOk hM0 rfl rfl ⟨trivial, trivial⟩ rfl

def rhas_s : FSpec
  | [.c (.pv (.lst .spn l)), .c (.pv (.val (.int .i64 n)))] => some ((l.length ≤ 1000000), false, .x (.c (bv (hasL l n))))
  | _ => none
theorem rhas_s_ok : SpecOk Try.prog 16 rhas_s := by
  intro args pre sh rv h hp; unfold rhas_s at h; split at h
  · cases h; have hl := hp; exact rhas_fn _ _ hl
  · cases h
def psi_rhas : FuncId → Option FSpec := psiCons 16 rhas_s psi_ssub
theorem psi_rhas_ok : PsiFn Try.prog psi_rhas := psiCons_ok rhas_s_ok psi_ssub_ok
def env_rcount : Env := ⟨T, psi_rhas, pspNil, pscNil, 27, [], none, true⟩
theorem eok_rcount : PsiOk Try.prog env_rcount := ⟨psi_rhas_ok, pspNil_ok, pscNil_ok⟩
theorem rcount_fn (l : List Span) (hl : l.length ≤ 1000000) : Ctr Try.prog 29 false [lst .spn l] (.x (.c (i64 (countL l)))) := by
  refine Ctr_intro (E := env_rcount) Try.func29 rfl (by decide) rfl rfl (fun M0 W hM0 => ?_)
  have hr := rightL_len hl
  refine G_run tOk eok_rcount 60 (fun _ => none) (fun bs => rfl) (fun bs => ?_) (fun bs => ?_)
  · (repeat' apply And.intro) <;> (intros; first | exact trivial | exact rfl | omega | exact u8_lo _ | exact u8_hi _ | exact u8_in64 _ | exact u8_in63 _ | (simp only [inR, IntKind.bits]; omega) | (simp [inR, IntKind.bits]; done) | (simp [inR, IntKind.bits] at * <;> omega) | (simp_all; done) | (with_reducible assumption) | skip)
  refine G_freeze 0 [0] rfl ⟨rfl, trivial⟩ ?_
  have hu : countL l = cntS (rightL l) := rfl
  rw [hu]
  have hS : ∀ x ∈ rightL l, Sp x := fun x hx => mem_rightL hx
  generalize ho : rightL l = old at hr hS
  refine G_loop (fun x : Nat => [(0, lst .spn old), (3, int .i64 (cntS (old.take x))), (4, int .i64 x)]) (fun x => []) (fun x => x ≤ old.length) (fun x => old.length - x) rfl [] 0 (Nat.zero_le _) ?wk (fun x hx => ?_)
  case wk => (repeat' apply And.intro) <;> (first | exact rfl | exact trivial | omega | refine sigEq ?_ | skip)
  refine G_run tOk eok_rcount 60 (fun _ => none) (fun bs => rfl) (fun bs => ?_) (fun bs => ?_)
  · (repeat' apply And.intro) <;> (intros; first | exact trivial | exact rfl | omega | exact u8_lo _ | exact u8_hi _ | exact u8_in64 _ | exact u8_in63 _ | (simp only [inR, IntKind.bits]; omega) | (simp [inR, IntKind.bits]; done) | (simp [inR, IntKind.bits] at * <;> omega) | (simp_all; done) | (with_reducible assumption) | skip)
  refine G_if rfl rfl (fun hk => ?_) (fun hk => ?_)
  · have hk' : x < old.length := by omega
    have hy : old[x]? = some (old.getD x ⟨0, 0⟩) := by simp [List.getD, List.getElem?_eq_getElem hk']
    have hyS := hS _ (List.mem_of_getElem? hy)
    have ht := @cntS_le (old.take x) (fun x hx => hS x (List.mem_of_mem_take hx))
    simp only [List.length_take] at ht
    unfold Sp at hyS
    have hy1 : old.getD (Int.toNat (x : Int)) LK.spn.dft = old.getD x ⟨0, 0⟩ := rfl
    refine G_run tOk eok_rcount 60 (fun _ => none) (fun bs => rfl) (fun bs => ?_) (fun bs => ?_)
    · (repeat' apply And.intro) <;> (intros; first | exact trivial | exact rfl | omega | exact u8_lo _ | exact u8_hi _ | exact u8_in64 _ | exact u8_in63 _ | (simp only [inR, IntKind.bits]; omega) | (simp [inR, IntKind.bits]; done) | (simp [inR, IntKind.bits] at * <;> omega) | (simp_all; done) | (with_reducible assumption) | skip)
    refine G_draw tOk eok_rcount rfl (fun _ => none) 12 [0, 0, 0, 6, 14, 30, 63, 0, 0, 384, 896, 1920, 4095, 8191] [] rfl (by decide +kernel) (fun bs => rfl) (fun bs => ?_) (fun bs => ?_)
    · (repeat' apply And.intro) <;> (intros; first | exact trivial | exact rfl | omega | (simp only [inR, IntKind.bits]; omega) | (rw [hy1]; omega) | skip)
    refine G_run tOk eok_rcount 60 (fun _ => none) (fun bs => rfl) (fun bs => ?_) (fun bs => ?_)
    · (repeat' apply And.intro) <;> (intros; first | exact trivial | exact rfl | omega | (simp only [inR, IntKind.bits]; omega) | (rw [hy1]; omega) | skip)
    refine G_lp [] (x + 1) ?ok ?wk2
    case ok => exact ⟨hk', by omega⟩
    case wk2 =>
      rw [take_succ_of hy, cntS_snoc]
      (repeat' apply And.intro) <;> (first | exact rfl | exact trivial | omega | refine sigEq ?_ | skip)
      all_goals (rw [hy1]; omega)
  · have hk' : x = old.length := by omega
    subst hk'
    rw [List.take_length]
    refine G_run tOk eok_rcount 60 (fun _ => none) (fun bs => rfl) (fun bs => ?_) (fun bs => ?_)
    · (repeat' apply And.intro) <;> (intros; first | exact trivial | exact rfl | omega | exact u8_lo _ | exact u8_hi _ | exact u8_in64 _ | exact u8_in63 _ | (simp only [inR, IntKind.bits]; omega) | (simp [inR, IntKind.bits]; done) | (simp [inR, IntKind.bits] at * <;> omega) | (simp_all; done) | (with_reducible assumption) | skip)
    exact G_ret tOk hM0 rfl rfl ⟨trivial, trivial⟩ ⟨rfl, rfl⟩

def rcount_s : FSpec
  | [.c (.pv (.lst .spn l))] => some ((l.length ≤ 1000000), false, .x (.c (i64 (countL l))))
  | _ => none
theorem rcount_s_ok : SpecOk Try.prog 29 rcount_s := by
  intro args pre sh rv h hp; unfold rcount_s at h; split at h
  · cases h; have hl := hp; exact rcount_fn _ hl
  · cases h
def psi_rcount : FuncId → Option FSpec := psiCons 29 rcount_s psi_rhas
theorem psi_rcount_ok : PsiFn Try.prog psi_rcount := psiCons_ok rcount_s_ok psi_rhas_ok
def env_rsub : Env := ⟨T, psi_rcount, pspNil, pscNil, 58, [], none, true⟩
theorem eok_rsub : PsiOk Try.prog env_rsub := ⟨psi_rcount_ok, pspNil_ok, pscNil_ok⟩
theorem rsub_fn (l : List Span) (s0 : Int) (s1 : Int) (hl : l.length ≤ 1000000) : Ctr Try.prog 46 false [lst .spn l, .g [.pv (.val (.int .i64 s0)), .pv (.val (.int .i64 s1))]] (.o 38 .spn (subL l ⟨s0, s1⟩)) := by
  refine Ctr_intro (E := env_rsub) Try.func46 rfl (by decide) rfl rfl (fun M0 W hM0 => ?_)
  have hr := rightL_len hl
  refine G_run tOk eok_rsub 60 (fun _ => none) (fun bs => rfl) (fun bs => ?_) (fun bs => ?_)
  · (repeat' apply And.intro) <;> (intros; first | exact trivial | exact rfl | omega | exact u8_lo _ | exact u8_hi _ | exact u8_in64 _ | exact u8_in63 _ | (simp only [inR, IntKind.bits]; omega) | (simp [inR, IntKind.bits]; done) | (simp [inR, IntKind.bits] at * <;> omega) | (simp_all; done) | (with_reducible assumption) | skip)
  refine G_cond rfl rfl (fun h => ?_) (fun h => ?_)
  · refine G_run tOk eok_rsub 60 (fun _ => none) (fun bs => rfl) (fun bs => ?_) (fun bs => ?_)
    · (repeat' apply And.intro) <;> (intros; first | exact trivial | exact rfl | omega | exact u8_lo _ | exact u8_hi _ | exact u8_in64 _ | exact u8_in63 _ | (simp only [inR, IntKind.bits]; omega) | (simp [inR, IntKind.bits]; done) | (simp [inR, IntKind.bits] at * <;> omega) | (simp_all; done) | (with_reducible assumption) | skip)
    have hb : mayB s0 s1 = false := by simpa using h
    refine G_ret tOk hM0 rfl rfl ⟨trivial, trivial⟩ ⟨rfl, rfl, rfl, sigEq ?_⟩
    simp only [subL, hb]
  have hb : mayB s0 s1 = true := by simpa using h
  clear h
  have hu : subL l ⟨s0, s1⟩ = (rightL l).flatMap (subX ⟨s0, s1⟩) := by simp only [subL, hb]
  rw [hu]
  generalize (bs 0 0).bn = b0
  refine G_run tOk eok_rsub 60 (fun _ => none) (fun bs => rfl) (fun bs => ?_) (fun bs => ?_)
  · (repeat' apply And.intro) <;> (intros; first | exact trivial | exact rfl | omega | exact u8_lo _ | exact u8_hi _ | exact u8_in64 _ | exact u8_in63 _ | (simp only [inR, IntKind.bits]; omega) | (simp [inR, IntKind.bits]; done) | (simp [inR, IntKind.bits] at * <;> omega) | (simp_all; done) | (with_reducible assumption) | skip)
  refine G_freeze 1 [5] rfl ⟨rfl, trivial⟩ ?_
  generalize ho : rightL l = old at hr
  refine G_own 6 38 rfl ?_
  refine G_loop (fun x : Nat × Value × List Span => [(3, .c (.ptr 0 b0 0)), (5, lst .spn old), (6, .c (.own 1 x.2.1)), (7, int .i64 x.1)])
    (fun x => [.blk b0 38 [.pv (i64 s0), .pv (i64 s1)], .own x.2.1 38 .spn x.2.2])
    (fun x => x.1 ≤ old.length ∧ x.2.2 = (old.take x.1).flatMap (subX ⟨s0, s1⟩) ∧ x.2.2.length ≤ 2 * x.1) (fun x => old.length - x.1) rfl [0, 2] (0, ?v0, []) ⟨Nat.zero_le _, by simp, Nat.le_refl _⟩ ?wk (fun x hx => ?_)
  case wk => (repeat' apply And.intro) <;> (first | exact rfl | exact trivial | omega | refine sigEq ?_ | skip)
  obtain ⟨i, v, out⟩ := x
  obtain ⟨hi, ha, hn⟩ := hx
  simp only at hi ha hn
  refine G_run tOk eok_rsub 60 (fun _ => none) (fun bs => rfl) (fun bs => ?_) (fun bs => ?_)
  · (repeat' apply And.intro) <;> (intros; first | exact trivial | exact rfl | omega | exact u8_lo _ | exact u8_hi _ | exact u8_in64 _ | exact u8_in63 _ | (simp only [inR, IntKind.bits]; omega) | (simp [inR, IntKind.bits]; done) | (simp [inR, IntKind.bits] at * <;> omega) | (simp_all; done) | (with_reducible assumption) | skip)
  refine G_if rfl rfl (fun hk => ?_) (fun hk => ?_)
  · have hk' : i < old.length := by omega
    have hy : old[i]? = some (old.getD i ⟨0, 0⟩) := by simp [List.getD, List.getElem?_eq_getElem hk']
    have nxt : ∀ x' : List Span, x' = out ++ subX ⟨s0, s1⟩ (old.getD i ⟨0, 0⟩) → (i + 1 ≤ old.length ∧ x' = (old.take (i + 1)).flatMap (subX ⟨s0, s1⟩) ∧ x'.length ≤ 2 * (i + 1)) ∧ old.length - (i + 1) < old.length - i := by
      intro x' e
      have := subX_len ⟨s0, s1⟩ (old.getD i ⟨0, 0⟩)
      refine ⟨⟨hk', ?_, ?_⟩, by omega⟩
      · rw [e, take_succ_of hy, List.flatMap_append, ha]; simp
      · rw [e, List.length_append]; omega
    generalize hyy : old.getD i ⟨0, 0⟩ = y at nxt hy
    refine G_run tOk eok_rsub 60 (fun _ => none) (fun bs => rfl) (fun bs => ?_) (fun bs => ?_)
    · (repeat' apply And.intro) <;> (intros; first | exact trivial | exact rfl | omega | exact u8_lo _ | exact u8_hi _ | exact u8_in64 _ | exact u8_in63 _ | (simp only [inR, IntKind.bits]; omega) | (simp [inR, IntKind.bits]; done) | (simp [inR, IntKind.bits] at * <;> omega) | (simp_all; done) | (with_reducible assumption) | skip)
    refine G_cond (b := decide (y.fr < s0)) rfl (by rw [← hyy]; rfl) (fun h1 => ?_) (fun h1 => ?_)
    · refine G_run tOk eok_rsub 60 (fun _ => none) (fun bs => rfl) (fun bs => ?_) (fun bs => ?_)
      · (repeat' apply And.intro) <;> (intros; first | exact trivial | exact rfl | omega | exact u8_lo _ | exact u8_hi _ | exact u8_in64 _ | exact u8_in63 _ | (simp only [inR, IntKind.bits]; omega) | (simp [inR, IntKind.bits]; done) | (simp [inR, IntKind.bits] at * <;> omega) | (simp_all; done) | (with_reducible assumption) | skip)
      refine G_cond (b := decide (y.to > s1)) rfl (by rw [← hyy]; rfl) (fun h2 => ?_) (fun h2 => ?_)
      · refine G_run tOk eok_rsub 60 (fun _ => none) (fun bs => rfl) (fun bs => ?_) (fun bs => ?_)
        · (repeat' apply And.intro) <;> (intros; first | exact trivial | exact rfl | omega | exact u8_lo _ | exact u8_hi _ | exact u8_in64 _ | exact u8_in63 _ | (simp only [inR, IntKind.bits]; omega) | (simp [inR, IntKind.bits]; done) | (simp [inR, IntKind.bits] at * <;> omega) | (simp_all; done) | (with_reducible assumption) | skip)
        refine G_lp [0, 6] (i + 1, ?v1, out ++ [⟨y.fr, min y.to s0⟩] ++ [⟨max y.fr s1, y.to⟩]) ?ok1 ?wk1
        case ok1 => exact nxt _ (by simp only [subX, h1, h2, List.append_assoc])
        case wk1 =>
          (repeat' apply And.intro) <;> (first | exact rfl | exact trivial | omega | refine sigEq ?_ | skip)
          all_goals (simp only [← hyy]; rfl)
      · refine G_run tOk eok_rsub 60 (fun _ => none) (fun bs => rfl) (fun bs => ?_) (fun bs => ?_)
        · (repeat' apply And.intro) <;> (intros; first | exact trivial | exact rfl | omega | exact u8_lo _ | exact u8_hi _ | exact u8_in64 _ | exact u8_in63 _ | (simp only [inR, IntKind.bits]; omega) | (simp [inR, IntKind.bits]; done) | (simp [inR, IntKind.bits] at * <;> omega) | (simp_all; done) | (with_reducible assumption) | skip)
        refine G_lp [0, 4] (i + 1, ?v2, out ++ [⟨y.fr, min y.to s0⟩]) ?ok2 ?wk2
        case ok2 => exact nxt _ (by simp only [subX, h1, h2, List.append_nil])
        case wk2 =>
          (repeat' apply And.intro) <;> (first | exact rfl | exact trivial | omega | refine sigEq ?_ | skip)
          all_goals (simp only [← hyy]; rfl)
    · refine G_run tOk eok_rsub 60 (fun _ => none) (fun bs => rfl) (fun bs => ?_) (fun bs => ?_)
      · (repeat' apply And.intro) <;> (intros; first | exact trivial | exact rfl | omega | exact u8_lo _ | exact u8_hi _ | exact u8_in64 _ | exact u8_in63 _ | (simp only [inR, IntKind.bits]; omega) | (simp [inR, IntKind.bits]; done) | (simp [inR, IntKind.bits] at * <;> omega) | (simp_all; done) | (with_reducible assumption) | skip)
      refine G_cond (b := decide (y.to > s1)) rfl (by rw [← hyy]; rfl) (fun h2 => ?_) (fun h2 => ?_)
      · refine G_run tOk eok_rsub 60 (fun _ => none) (fun bs => rfl) (fun bs => ?_) (fun bs => ?_)
        · (repeat' apply And.intro) <;> (intros; first | exact trivial | exact rfl | omega | exact u8_lo _ | exact u8_hi _ | exact u8_in64 _ | exact u8_in63 _ | (simp only [inR, IntKind.bits]; omega) | (simp [inR, IntKind.bits]; done) | (simp [inR, IntKind.bits] at * <;> omega) | (simp_all; done) | (with_reducible assumption) | skip)
        refine G_lp [0, 4] (i + 1, ?v3, out ++ [⟨max y.fr s1, y.to⟩]) ?ok3 ?wk3
        case ok3 => exact nxt _ (by simp only [subX, h1, h2, List.nil_append])
        case wk3 =>
          (repeat' apply And.intro) <;> (first | exact rfl | exact trivial | omega | refine sigEq ?_ | skip)
          all_goals (simp only [← hyy]; rfl)
      · refine G_run tOk eok_rsub 60 (fun _ => none) (fun bs => rfl) (fun bs => ?_) (fun bs => ?_)
        · (repeat' apply And.intro) <;> (intros; first | exact trivial | exact rfl | omega | exact u8_lo _ | exact u8_hi _ | exact u8_in64 _ | exact u8_in63 _ | (simp only [inR, IntKind.bits]; omega) | (simp [inR, IntKind.bits]; done) | (simp [inR, IntKind.bits] at * <;> omega) | (simp_all; done) | (with_reducible assumption) | skip)
        refine G_lp [0, 1] (i + 1, ?v4, out) ?ok4 ?wk4
        case ok4 => exact nxt _ (by simp only [subX, h1, h2, List.append_nil])
        case wk4 => (repeat' apply And.intro) <;> (first | exact rfl | exact trivial | omega | refine sigEq ?_ | skip)
  · have hk' : i = old.length := by omega
    subst hk'
    rw [List.take_length] at ha
    refine G_run tOk eok_rsub 60 (fun _ => none) (fun bs => rfl) (fun bs => ?_) (fun bs => ?_)
    · (repeat' apply And.intro) <;> (intros; first | exact trivial | exact rfl | omega | exact u8_lo _ | exact u8_hi _ | exact u8_in64 _ | exact u8_in63 _ | (simp only [inR, IntKind.bits]; omega) | (simp [inR, IntKind.bits]; done) | (simp [inR, IntKind.bits] at * <;> omega) | (simp_all; done) | (with_reducible assumption) | skip)
    refine G_ret tOk hM0 rfl rfl ⟨trivial, trivial⟩ ⟨rfl, rfl, rfl, sigEq ha⟩
def rsub_s : FSpec
  | [.c (.pv (.lst .spn l)), .g [.pv (.val (.int .i64 s0)), .pv (.val (.int .i64 s1))]] => some ((l.length ≤ 1000000), false, .o 38 .spn (subL l ⟨s0, s1⟩))
  | _ => none
theorem rsub_s_ok : SpecOk Try.prog 46 rsub_s := by
  intro args pre sh rv h hp; unfold rsub_s at h; split at h
  · cases h; have hl := hp; exact rsub_fn _ _ _ hl
  · cases h
def psi_rsub : FuncId → Option FSpec := psiCons 46 rsub_s psi_rcount
theorem psi_rsub_ok : PsiFn Try.prog psi_rsub := psiCons_ok rsub_s_ok psi_rcount_ok
end Go.Proofs.Ytndjdmnpdknneaa
