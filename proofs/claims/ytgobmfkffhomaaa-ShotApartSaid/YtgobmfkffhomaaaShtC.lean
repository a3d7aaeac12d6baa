import Derived.Test.YtgobmfkffhomaaaSpnB
set_option linter.unusedSimpArgs false
set_option linter.unusedVariables false
namespace Go.Proofs.Ytgobmfkffhomaaa
open Go.Mt

def env_rsub : Env := ⟨T, psi_ssub, pspNil, pscNil, 58, [], none, true⟩
theorem eok_rsub : PsiOk Try.prog env_rsub := ⟨psi_ssub_ok, pspNil_ok, pscNil_ok⟩
theorem rsub_fn (l : List Span) (s0 : Int) (s1 : Int) (hl : l.length ≤ 1000000) : Ctr Try.prog 57 false [lst .spn l, .g [.pv (.val (.int .i64 s0)), .pv (.val (.int .i64 s1))]] (.o 48 .spn (subL l ⟨s0, s1⟩)) := by
  refine Ctr_intro (E := env_rsub) Try.func57 rfl (by decide) rfl rfl (fun M0 W hM0 => ?_)
  have hr := rightL_len hl
  refine G_run tOk eok_rsub 60 (fun _ => none) (fun bs => rfl) (fun bs => ?_) (fun bs => ?_)
  · (repeat' apply And.intro) <;> (intros; first | exact trivial | exact rfl | omega | exact u8_lo _ | exact u8_hi _ | exact u8_in64 _ | exact u8_in63 _ | (simp only [inR, IntKind.bits]; omega) | (simp [inR, IntKind.bits]; done) | (simp [inR, IntKind.bits] at * <;> omega) | (simp_all; done) | (with_reducible assumption) | skip)
  refine G_cond rfl rfl (fun h => ?_) (fun h => ?_)
  · refine G_run tOk eok_rsub 60 (fun _ => none) (fun bs => rfl) (fun bs => ?_) (fun bs => ?_)
    · (repeat' apply And.intro) <;> (intros; first | exact trivial | exact rfl | omega | exact u8_lo _ | exact u8_hi _ | exact u8_in64 _ | exact u8_in63 _ | (simp only [inR, IntKind.bits]; omega) | (simp [inR, IntKind.bits]; done) | (simp [inR, IntKind.bits] at * <;> omega) | (simp_all; done) | (with_reducible assumption) | skip)
    have hb : mayB s0 s1 = false := by simpa using h
    refine G_ret tOk hM0 rfl rfl ⟨trivial, trivial⟩ ⟨rfl, rfl, rfl, sigEq ?_⟩
    simp only [subL, hb]
  have hb : mayB s0 s1 = true := by simpa using h
  clear h
  have hu : subL l ⟨s0, s1⟩ = (rightL l).flatMap (subX ⟨s0, s1⟩) := by simp only [subL, hb]
  rw [hu]
  generalize (bs 0 0).bn = b0
  refine G_run tOk eok_rsub 60 (fun _ => none) (fun bs => rfl) (fun bs => ?_) (fun bs => ?_)
  · (repeat' apply And.intro) <;> (intros; first | exact trivial | exact rfl | omega | exact u8_lo _ | exact u8_hi _ | exact u8_in64 _ | exact u8_in63 _ | (simp only [inR, IntKind.bits]; omega) | (simp [inR, IntKind.bits]; done) | (simp [inR, IntKind.bits] at * <;> omega) | (simp_all; done) | (with_reducible assumption) | skip)
  refine G_freeze 1 [5] rfl ⟨rfl, trivial⟩ ?_
  generalize ho : rightL l = old at hr
  refine G_own 6 48 rfl ?_
  refine G_loop (fun x : Nat × Value × List Span => [(3, .c (.ptr 0 b0 0)), (5, lst .spn old), (6, .c (.own 1 x.2.1)), (7, int .i64 x.1)])
    (fun x => [.blk b0 48 [.pv (i64 s0), .pv (i64 s1)], .own x.2.1 48 .spn x.2.2])
    (fun x => x.1 ≤ old.length ∧ x.2.2 = (old.take x.1).flatMap (subX ⟨s0, s1⟩) ∧ x.2.2.length ≤ 2 * x.1) (fun x => old.length - x.1) rfl [0, 2] (0, ?v0, []) ⟨Nat.zero_le _, by simp, Nat.le_refl _⟩ ?wk (fun x hx => ?_)
  case wk => (repeat' apply And.intro) <;> (first | exact rfl | exact trivial | omega | refine sigEq ?_ | skip)
  obtain ⟨i, v, out⟩ := x
  obtain ⟨hi, ha, hn⟩ := hx
  simp only at hi ha hn
  refine G_run tOk eok_rsub 60 (fun _ => none) (fun bs => rfl) (fun bs => ?_) (fun bs => ?_)
  · (repeat' apply And.intro) <;> (intros; first | exact trivial | exact rfl | omega | exact u8_lo _ | exact u8_hi _ | exact u8_in64 _ | exact u8_in63 _ | (simp only [inR, IntKind.bits]; omega) | (simp [inR, IntKind.bits]; done) | (simp [inR, IntKind.bits] at * <;> omega) | (simp_all; done) | (with_reducible assumption) | skip)
  refine G_if rfl rfl (fun hk => ?_) (fun hk => ?_)
  · have hk' : i < old.length := by omega
    have hy : old[i]? = some (old.getD i ⟨0, 0⟩) := by simp [List.getD, List.getElem?_eq_getElem hk']
    have nxt : ∀ x' : List Span, x' = out ++ subX ⟨s0, s1⟩ (old.getD i ⟨0, 0⟩) → (i + 1 ≤ old.length ∧ x' = (old.take (i + 1)).flatMap (subX ⟨s0, s1⟩) ∧ x'.length ≤ 2 * (i + 1)) ∧ old.length - (i + 1) < old.length - i := by
      intro x' e
      have := subX_len ⟨s0, s1⟩ (old.getD i ⟨0, 0⟩)
      refine ⟨⟨hk', ?_, ?_⟩, by omega⟩
      · rw [e, take_succ_of hy, List.flatMap_append, ha]; simp
      · rw [e, List.length_append]; omega
    generalize hyy : old.getD i ⟨0, 0⟩ = y at nxt hy
    refine G_run tOk eok_rsub 60 (fun _ => none) (fun bs => rfl) (fun bs => ?_) (fun bs => ?_)
    · (repeat' apply And.intro) <;> (intros; first | exact trivial | exact rfl | omega | exact u8_lo _ | exact u8_hi _ | exact u8_in64 _ | exact u8_in63 _ | (simp only [inR, IntKind.bits]; omega) | (simp [inR, IntKind.bits]; done) | (simp [inR, IntKind.bits] at * <;> omega) | (simp_all; done) | (with_reducible assumption) | skip)
    refine G_cond (b := decide (y.fr < s0)) rfl (by rw [← hyy]; rfl) (fun h1 => ?_) (fun h1 => ?_)
    · refine G_run tOk eok_rsub 60 (fun _ => none) (fun bs => rfl) (fun bs => ?_) (fun bs => ?_)
      · (repeat' apply And.intro) <;> (intros; first | exact trivial | exact rfl | omega | exact u8_lo _ | exact u8_hi _ | exact u8_in64 _ | exact u8_in63 _ | (simp only [inR, IntKind.bits]; omega) | (simp [inR, IntKind.bits]; done) | (simp [inR, IntKind.bits] at * <;> omega) | (simp_all; done) | (with_reducible assumption) | skip)
      refine G_cond (b := decide (y.to > s1)) rfl (by rw [← hyy]; rfl) (fun h2 => ?_) (fun h2 => ?_)
      · refine G_run tOk eok_rsub 60 (fun _ => none) (fun bs => rfl) (fun bs => ?_) (fun bs => ?_)
        · (repeat' apply And.intro) <;> (intros; first | exact trivial | exact rfl | omega | exact u8_lo _ | exact u8_hi _ | exact u8_in64 _ | exact u8_in63 _ | (simp only [inR, IntKind.bits]; omega) | (simp [inR, IntKind.bits]; done) | (simp [inR, IntKind.bits] at * <;> omega) | (simp_all; done) | (with_reducible assumption) | skip)
        refine G_lp [0, 6] (i + 1, ?v1, out ++ [⟨y.fr, min y.to s0⟩] ++ [⟨max y.fr s1, y.to⟩]) ?ok1 ?wk1
        case ok1 => exact nxt _ (by simp only [subX, h1, h2, List.append_assoc])
        case wk1 =>
          (repeat' apply And.intro) <;> (first | exact rfl | exact trivial | omega | refine sigEq ?_ | skip)
          all_goals (simp only [← hyy]; rfl)
      · refine G_run tOk eok_rsub 60 (fun _ => none) (fun bs => rfl) (fun bs => ?_) (fun bs => ?_)
        · (repeat' apply And.intro) <;> (intros; first | exact trivial | exact rfl | omega | exact u8_lo _ | exact u8_hi _ | exact u8_in64 _ | exact u8_in63 _ | (simp only [inR, IntKind.bits]; omega) | (simp [inR, IntKind.bits]; done) | (simp [inR, IntKind.bits] at * <;> omega) | (simp_all; done) | (with_reducible assumption) | skip)
        refine G_lp [0, 4] (i + 1, ?v2, out ++ [⟨y.fr, min y.to s0⟩]) ?ok2 ?wk2
        case ok2 => exact nxt _ (by simp only [subX, h1, h2, List.append_nil])
        case wk2 =>
          (repeat' apply And.intro) <;> (first | exact rfl | exact trivial | omega | refine sigEq ?_ | skip)
          all_goals (simp only [← hyy]; rfl)
    · refine G_run tOk eok_rsub 60 (fun _ => none) (fun bs => rfl) (fun bs => ?_) (fun bs => ?_)
      · (repeat' apply And.intro) <;> (intros; first | exact trivial | exact rfl | omega | exact u8_lo _ | exact u8_hi _ | exact u8_in64 _ | exact u8_in63 _ | (simp only [inR, IntKind.bits]; omega) | (simp [inR, IntKind.bits]; done) | (simp [inR, IntKind.bits] at * <;> omega) | (simp_all; done) | (with_reducible assumption) | skip)
      refine G_cond (b := decide (y.to > s1)) rfl (by rw [← hyy]; rfl) (fun h2 => ?_) (fun h2 => ?_)
      · refine G_run tOk eok_rsub 60 (fun _ => none) (fun bs => rfl) (fun bs => ?_) (fun bs => ?_)
        · (repeat' apply And.intro) <;> (intros; first | exact trivial | exact rfl | omega | exact u8_lo _ | exact u8_hi _ | exact u8_in64 _ | exact u8_in63 _ | (simp only [inR, IntKind.bits]; omega) | (simp [inR, IntKind.bits]; done) | (simp [inR, IntKind.bits] at * <;> omega) | (simp_all; done) | (with_reducible assumption) | skip)
        refine G_lp [0, 4] (i + 1, ?v3, out ++ [⟨max y.fr s1, y.to⟩]) ?ok3 ?wk3
        case ok3 => exact nxt _ (by simp only [subX, h1, h2, List.nil_append])
        case wk3 =>
          (repeat' apply And.intro) <;> (first | exact rfl | exact trivial | omega | refine sigEq ?_ | skip)
          all_goals (simp only [← hyy]; rfl)
      · refine G_run tOk eok_rsub 60 (fun _ => none) (fun bs => rfl) (fun bs => ?_) (fun bs => ?_)
        · (repeat' apply And.intro) <;> (intros; first | exact trivial | exact rfl | omega | exact u8_lo _ | exact u8_hi _ | exact u8_in64 _ | exact u8_in63 _ | (simp only [inR, IntKind.bits]; omega) | (simp [inR, IntKind.bits]; done) | (simp [inR, IntKind.bits] at * <;> omega) | (simp_all; done) | (with_reducible assumption) | skip)
        refine G_lp [0, 1] (i + 1, ?v4, out) ?ok4 ?wk4
        case ok4 => exact nxt _ (by simp only [subX, h1, h2, List.append_nil])
        case wk4 => (repeat' apply And.intro) <;> (first | exact rfl | exact trivial | omega | refine sigEq ?_ | skip)
  · have hk' : i = old.length := by omega
    subst hk'
    rw [List.take_length] at ha
    refine G_run tOk eok_rsub 60 (fun _ => none) (fun bs => rfl) (fun bs => ?_) (fun bs => ?_)
    · (repeat' apply And.intro) <;> (intros; first | exact trivial | exact rfl | omega | exact u8_lo _ | exact u8_hi _ | exact u8_in64 _ | exact u8_in63 _ | (simp only [inR, IntKind.bits]; omega) | (simp [inR, IntKind.bits]; done) | (simp [inR, IntKind.bits] at * <;> omega) | (simp_all; done) | (with_reducible assumption) | skip)
    refine G_ret tOk hM0 rfl rfl ⟨trivial, trivial⟩ ⟨rfl, rfl, rfl, sigEq ha⟩
def rsub_s : FSpec
  | [.c (.pv (.lst .spn l)), .g [.pv (.val (.int .i64 s0)), .pv (.val (.int .i64 s1))]] => some ((l.length ≤ 1000000), false, .o 48 .spn (subL l ⟨s0, s1⟩))
  | _ => none
theorem rsub_s_ok : SpecOk Try.prog 57 rsub_s := by
  intro args pre sh rv h hp; unfold rsub_s at h; split at h
  · cases h; have hl := hp; exact rsub_fn _ _ _ hl
  · cases h
def psi_rsub : FuncId → Option FSpec := psiCons 57 rsub_s psi_ssub
theorem psi_rsub_ok : PsiFn Try.prog psi_rsub := psiCons_ok rsub_s_ok psi_ssub_ok
end Go.Proofs.Ytgobmfkffhomaaa
