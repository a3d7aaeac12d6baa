import Derived.Test.YtgobmfkffhomaaaSpn
import Derived.Test.YtgobmfkffhomaaaMtQ4
set_option linter.unusedSimpArgs false
set_option linter.unusedVariables false
namespace Go.Proofs.Ytgobmfkffhomaaa
open Go.Mt

def env_rmay : Env := ⟨T, psiNil, pspNil, pscNil, 18, [], none, true⟩
theorem eok_rmay : PsiOk Try.prog env_rmay := ⟨psiNil_ok, pspNil_ok, pscNil_ok⟩
theorem rmay_fn (s0 : Int) (s1 : Int)  : Ctr Try.prog 53 false [.g [.pv (.val (.int .i64 s0)), .pv (.val (.int .i64 s1))]] (.x (.c (bv (mayB s0 s1)))) := by
  refine Ctr_intro (E := env_rmay) Try.func53 rfl (by decide) rfl rfl (fun M0 W hM0 => ?_)
  refine G_run tOk eok_rmay 60 (fun _ => none) (fun bs => rfl) (fun bs => ?_) (fun bs => ?_)
  · (repeat' apply And.intro) <;> (intros; first | exact trivial | exact rfl | omega | exact u8_lo _ | exact u8_hi _ | exact u8_in64 _ | exact u8_in63 _ | (simp only [inR, IntKind.bits]; omega) | (simp [inR, IntKind.bits]; done) | (simp [inR, IntKind.bits] at * <;> omega) | (simp_all; done) | (with_reducible assumption) | skip)
  refine G_ret tOk hM0 rfl rfl ⟨trivial, trivial⟩ ?_
  conv => whnf
  simp [mayB]

def rmay_s : FSpec
  | [.g [.pv (.val (.int .i64 s0)), .pv (.val (.int .i64 s1))]] => some (True, false, .x (.c (bv (mayB s0 s1))))
  | _ => none
theorem rmay_s_ok : SpecOk Try.prog 53 rmay_s := by
  intro args pre sh rv h hp; unfold rmay_s at h; split at h
  · cases h; exact rmay_fn _ _ 
  · cases h
def psi_rmay : FuncId → Option FSpec := psiCons 53 rmay_s psiNil
theorem psi_rmay_ok : PsiFn Try.prog psi_rmay := psiCons_ok rmay_s_ok psiNil_ok
def env_may : Env := ⟨T, psi_rmay, pspNil, pscNil, 18, [], none, true⟩
theorem eok_may : PsiOk Try.prog env_may := ⟨psi_rmay_ok, pspNil_ok, pscNil_ok⟩
theorem may_fn (s0 : Int) (s1 : Int)  : Ctr Try.prog 55 false [.g [.pv (.val (.int .i64 s0)), .pv (.val (.int .i64 s1))]] (.x (.c (bv (mayB s0 s1)))) := by
  refine Ctr_intro (E := env_may) Try.func55 rfl (by decide) rfl rfl (fun M0 W hM0 => ?_)
  refine G_run tOk eok_may 60 (fun _ => none) (fun bs => rfl) (fun bs => ?_) (fun bs => ?_)
  · (repeat' apply And.intro) <;> (intros; first | exact trivial | exact rfl | omega | exact u8_lo _ | exact u8_hi _ | exact u8_in64 _ | exact u8_in63 _ | (simp only [inR, IntKind.bits]; omega) | (simp [inR, IntKind.bits]; done) | (simp [inR, IntKind.bits] at * <;> omega) | (simp_all; done) | (with_reducible assumption) | skip)
  refine G_ret tOk hM0 rfl rfl ⟨trivial, trivial⟩ ?_
  conv => whnf
  simp [mayB]

def may_s : FSpec
  | [.g [.pv (.val (.int .i64 s0)), .pv (.val (.int .i64 s1))]] => some (True, false, .x (.c (bv (mayB s0 s1))))
  | _ => none
theorem may_s_ok : SpecOk Try.prog 55 may_s := by
  intro args pre sh rv h hp; unfold may_s at h; split at h
  · cases h; exact may_fn _ _ 
  · cases h
def psi_may : FuncId → Option FSpec := psiCons 55 may_s psi_rmay
theorem psi_may_ok : PsiFn Try.prog psi_may := psiCons_ok may_s_ok psi_rmay_ok
def env_rRight : Env := ⟨T, psi_may, pspNil, pscNil, 34, [], none, true⟩
theorem eok_rRight : PsiOk Try.prog env_rRight := ⟨psi_may_ok, pspNil_ok, pscNil_ok⟩
theorem rRight_fn (l : List Span) (hl : l.length ≤ 1000000) : Ctr Try.prog 35 false [lst .spn l] (.x (.c (bv (rightB l)))) := by
  refine Ctr_intro (E := env_rRight) Try.func35 rfl (by decide) rfl rfl (fun M0 W hM0 => ?_)
  refine G_run tOk eok_rRight 60 (fun _ => none) (fun bs => rfl) (fun bs => ?_) (fun bs => ?_)
  · (repeat' apply And.intro) <;> (intros; first | exact trivial | exact rfl | omega | exact u8_lo _ | exact u8_hi _ | exact u8_in64 _ | exact u8_in63 _ | (simp only [inR, IntKind.bits]; omega) | (simp [inR, IntKind.bits]; done) | (simp [inR, IntKind.bits] at * <;> omega) | (simp_all; done) | (with_reducible assumption) | skip)
  refine G_loop (fun x : Nat => [(0, lst .spn l), (3, int .i64 x)]) (fun x => []) (fun x => x ≤ l.length ∧ rightN l x = true) (fun x => l.length - x) rfl [] 0 ⟨Nat.zero_le _, rfl⟩ ?wk (fun x hx => ?_)
  case wk => (repeat' apply And.intro) <;> (first | exact rfl | exact trivial | omega | refine sigEq ?_ | skip)
  obtain ⟨hx, hr⟩ := hx
  refine G_run tOk eok_rRight 60 (fun _ => none) (fun bs => rfl) (fun bs => ?_) (fun bs => ?_)
  · (repeat' apply And.intro) <;> (intros; first | exact trivial | exact rfl | omega | exact u8_lo _ | exact u8_hi _ | exact u8_in64 _ | exact u8_in63 _ | (simp only [inR, IntKind.bits]; omega) | (simp [inR, IntKind.bits]; done) | (simp [inR, IntKind.bits] at * <;> omega) | (simp_all; done) | (with_reducible assumption) | skip)
  refine G_if rfl rfl (fun hk => ?_) (fun hk => ?_)
  · have hk' : x < l.length := by omega
    refine G_run tOk eok_rRight 60 (fun _ => none) (fun bs => rfl) (fun bs => ?_) (fun bs => ?_)
    · (repeat' apply And.intro) <;> (intros; first | exact trivial | exact rfl | omega | exact u8_lo _ | exact u8_hi _ | exact u8_in64 _ | exact u8_in63 _ | (simp only [inR, IntKind.bits]; omega) | (simp [inR, IntKind.bits]; done) | (simp [inR, IntKind.bits] at * <;> omega) | (simp_all; done) | (with_reducible assumption) | skip)
    refine G_draw tOk eok_rRight rfl (fun _ => none) 21 [0, 0, 3, 7, 15, 31, 63, 127, 255, 511, 1023, 1023, 4095, 8191, 16383, 1023, 1023, 66559, 230399, 492543, 1016831, 2097151, 4194303, 8388607] [] rfl (by decide +kernel) (fun bs => rfl) (fun bs => ?_) (fun bs => ?_)
    · (repeat' apply And.intro) <;> (intros; first | exact trivial | exact rfl | omega | exact u8_lo _ | exact u8_hi _ | exact u8_in64 _ | exact u8_in63 _ | (simp only [inR, IntKind.bits]; omega) | (simp [inR, IntKind.bits]; done) | (simp [inR, IntKind.bits] at * <;> omega) | (simp_all; done) | (with_reducible assumption) | skip)
    refine G_run tOk eok_rRight 60 (fun _ => none) (fun bs => rfl) (fun bs => by (repeat' apply And.intro) <;> (intros; first | exact trivial | exact rfl | omega | exact u8_lo _ | exact u8_hi _ | exact u8_in64 _ | exact u8_in63 _ | (simp only [inR, IntKind.bits]; omega) | (simp [inR, IntKind.bits]; done) | (simp [inR, IntKind.bits] at * <;> omega) | (simp_all; done) | (with_reducible assumption) | skip)) (fun bs => ?_)
    refine G_cond (b := !okAt l x) rfl (by rw [← ok_cond l x]; rfl) (fun h => ?_) (fun h => ?_)
    · refine G_run tOk eok_rRight 60 (fun _ => none) (fun bs => rfl) (fun bs => ?_) (fun bs => ?_)
      · (repeat' apply And.intro) <;> (intros; first | exact trivial | exact rfl | omega | exact u8_lo _ | exact u8_hi _ | exact u8_in64 _ | exact u8_in63 _ | (simp only [inR, IntKind.bits]; omega) | (simp [inR, IntKind.bits]; done) | (simp [inR, IntKind.bits] at * <;> omega) | (simp_all; done) | (with_reducible assumption) | skip)
      have hb : rightB l = false := rightN_false (i := x + 1) (by simp at h; simp [rightN, h]) hk'
      exact G_ret tOk hM0 rfl rfl ⟨trivial, trivial⟩ hb.symm
    · refine G_run tOk eok_rRight 60 (fun _ => none) (fun bs => rfl) (fun bs => ?_) (fun bs => ?_)
      · (repeat' apply And.intro) <;> (intros; first | exact trivial | exact rfl | omega | exact u8_lo _ | exact u8_hi _ | exact u8_in64 _ | exact u8_in63 _ | (simp only [inR, IntKind.bits]; omega) | (simp [inR, IntKind.bits]; done) | (simp [inR, IntKind.bits] at * <;> omega) | (simp_all; done) | (with_reducible assumption) | skip)
      refine G_lp [] (x + 1) ?ok ?wk2
      case ok => exact ⟨⟨hk', by simp at h; simp [rightN, hr, h]⟩, by omega⟩
      case wk2 => (repeat' apply And.intro) <;> (first | exact rfl | exact trivial | omega | refine sigEq ?_ | skip)
  · have hk' : x = l.length := by omega
    subst hk'
    refine G_run tOk eok_rRight 60 (fun _ => none) (fun bs => rfl) (fun bs => ?_) (fun bs => ?_)
    · (repeat' apply And.intro) <;> (intros; first | exact trivial | exact rfl | omega | exact u8_lo _ | exact u8_hi _ | exact u8_in64 _ | exact u8_in63 _ | (simp only [inR, IntKind.bits]; omega) | (simp [inR, IntKind.bits]; done) | (simp [inR, IntKind.bits] at * <;> omega) | (simp_all; done) | (with_reducible assumption) | skip)
    exact G_ret tOk hM0 rfl rfl ⟨trivial, trivial⟩ hr.symm

def rRight_s : FSpec
  | [.c (.pv (.lst .spn l))] => some ((l.length ≤ 1000000), false, .x (.c (bv (rightB l))))
  | _ => none
theorem rRight_s_ok : SpecOk Try.prog 35 rRight_s := by
  intro args pre sh rv h hp; unfold rRight_s at h; split at h
  · cases h; have hl := hp; exact rRight_fn _ hl
  · cases h
def psi_rRight : FuncId → Option FSpec := psiCons 35 rRight_s psi_may
theorem psi_rRight_ok : PsiFn Try.prog psi_rRight := psiCons_ok rRight_s_ok psi_may_ok
def env_rright : Env := ⟨T, psi_rRight, pspNil, pscNil, 9, [], none, true⟩
theorem eok_rright : PsiOk Try.prog env_rright := ⟨psi_rRight_ok, pspNil_ok, pscNil_ok⟩
theorem rright_fn (l : List Span) (hl : l.length ≤ 1000000) : Ctr Try.prog 65 false [lst .spn l] (.o 48 .spn (rightL l)) := by
  refine Ctr_intro (E := env_rright) Try.func65 rfl (by decide) rfl rfl (fun M0 W hM0 => ?_)
  refine G_run tOk eok_rright 60 (fun _ => none) (fun bs => rfl) (fun bs => ?_) (fun bs => ?_)
  · (repeat' apply And.intro) <;> (intros; first | exact trivial | exact rfl | omega | exact u8_lo _ | exact u8_hi _ | exact u8_in64 _ | exact u8_in63 _ | (simp only [inR, IntKind.bits]; omega) | (simp [inR, IntKind.bits]; done) | (simp [inR, IntKind.bits] at * <;> omega) | (simp_all; done) | (with_reducible assumption) | skip)
  refine G_cond rfl rfl (fun h => ?_) (fun h => ?_)
  · refine G_run tOk eok_rright 60 (fun _ => none) (fun bs => rfl) (fun bs => ?_) (fun bs => ?_)
    · (repeat' apply And.intro) <;> (intros; first | exact trivial | exact rfl | omega | exact u8_lo _ | exact u8_hi _ | exact u8_in64 _ | exact u8_in63 _ | (simp only [inR, IntKind.bits]; omega) | (simp [inR, IntKind.bits]; done) | (simp [inR, IntKind.bits] at * <;> omega) | (simp_all; done) | (with_reducible assumption) | skip)
    have hb : rightB l = false := by simpa using h
    refine G_ret tOk hM0 rfl rfl ⟨trivial, trivial⟩ ?_
    show rightL l = []
    simp [rightL, hb]
  · refine G_run tOk eok_rright 60 (fun _ => none) (fun bs => rfl) (fun bs => ?_) (fun bs => ?_)
    · (repeat' apply And.intro) <;> (intros; first | exact trivial | exact rfl | omega | exact u8_lo _ | exact u8_hi _ | exact u8_in64 _ | exact u8_in63 _ | (simp only [inR, IntKind.bits]; omega) | (simp [inR, IntKind.bits]; done) | (simp [inR, IntKind.bits] at * <;> omega) | (simp_all; done) | (with_reducible assumption) | skip)
    have hb : rightB l = true := by simpa using h
    refine G_ret tOk hM0 rfl rfl ⟨trivial, trivial⟩ ⟨rfl, rfl, rfl, sigEq ?_⟩
    show [] ++ l = rightL l
    simp [rightL, hb]

def rright_s : FSpec
  | [.c (.pv (.lst .spn l))] => some ((l.length ≤ 1000000), false, .o 48 .spn (rightL l))
  | _ => none
theorem rright_s_ok : SpecOk Try.prog 65 rright_s := by
  intro args pre sh rv h hp; unfold rright_s at h; split at h
  · cases h; have hl := hp; exact rright_fn _ hl
  · cases h
def psi_rright : FuncId → Option FSpec := psiCons 65 rright_s psi_rRight
theorem psi_rright_ok : PsiFn Try.prog psi_rright := psiCons_ok rright_s_ok psi_rRight_ok
def env_radd : Env := ⟨T, psi_rright, pspNil, pscNil, 70, [], none, true⟩
theorem eok_radd : PsiOk Try.prog env_radd := ⟨psi_rright_ok, pspNil_ok, pscNil_ok⟩
theorem radd_fn (l : List Span) (s0 : Int) (s1 : Int) (hl : l.length ≤ 1000000) : Ctr Try.prog 56 false [lst .spn l, .g [.pv (.val (.int .i64 s0)), .pv (.val (.int .i64 s1))]] (.o 48 .spn (addL l ⟨s0, s1⟩)) := by
  refine Ctr_intro (E := env_radd) Try.func56 rfl (by decide) rfl rfl (fun M0 W hM0 => ?_)
  have hr : (rightL l).length ≤ 1000000 := by unfold rightL; split <;> first | omega | simp
  refine G_run tOk eok_radd 60 (fun _ => none) (fun bs => rfl) (fun bs => ?_) (fun bs => ?_)
  · (repeat' apply And.intro) <;> (intros; first | exact trivial | exact rfl | omega | exact u8_lo _ | exact u8_hi _ | exact u8_in64 _ | exact u8_in63 _ | (simp only [inR, IntKind.bits]; omega) | (simp [inR, IntKind.bits]; done) | (simp [inR, IntKind.bits] at * <;> omega) | (simp_all; done) | (with_reducible assumption) | skip)
  refine G_cond rfl rfl (fun h => ?_) (fun h => ?_)
  · refine G_run tOk eok_radd 60 (fun _ => none) (fun bs => rfl) (fun bs => ?_) (fun bs => ?_)
    · (repeat' apply And.intro) <;> (intros; first | exact trivial | exact rfl | omega | exact u8_lo _ | exact u8_hi _ | exact u8_in64 _ | exact u8_in63 _ | (simp only [inR, IntKind.bits]; omega) | (simp [inR, IntKind.bits]; done) | (simp [inR, IntKind.bits] at * <;> omega) | (simp_all; done) | (with_reducible assumption) | skip)
    have hb : mayB s0 s1 = false := by simpa using h
    refine G_ret tOk hM0 rfl rfl ⟨trivial, trivial⟩ ⟨rfl, rfl, rfl, sigEq ?_⟩
    simp only [addL, hb]
  have hb : mayB s0 s1 = true := by simpa using h
  clear h
  refine G_run tOk eok_radd 60 (fun _ => none) (fun bs => rfl) (fun bs => ?_) (fun bs => ?_)
  · (repeat' apply And.intro) <;> (intros; first | exact trivial | exact rfl | omega | exact u8_lo _ | exact u8_hi _ | exact u8_in64 _ | exact u8_in63 _ | (simp only [inR, IntKind.bits]; omega) | (simp [inR, IntKind.bits]; done) | (simp [inR, IntKind.bits] at * <;> omega) | (simp_all; done) | (with_reducible assumption) | skip)
  refine G_freeze 1 [5] rfl ⟨rfl, trivial⟩ ?_
  generalize ho : rightL l = old at hr
  refine G_own 6 48 rfl ?_
  refine G_loop (fun x : Nat × Nat × Value × Span × List Span × Bool => [(3, .c (.ptr 0 x.2.1 0)), (5, lst .spn old), (6, .c (.own 1 x.2.2.1)), (7, bool x.2.2.2.2.2), (8, int .i64 x.1)])
    (fun x => [.blk x.2.1 48 [.pv (i64 x.2.2.2.1.fr), .pv (i64 x.2.2.2.1.to)], .own x.2.2.1 48 .spn x.2.2.2.2.1])
    (fun x => x.1 ≤ old.length ∧ addN old ⟨s0, s1⟩ x.1 = x.2.2.2 ∧ x.2.2.2.2.1.length ≤ 2 * x.1) (fun x => old.length - x.1) rfl [0, 2] (0, ?b0, ?v0, ⟨s0, s1⟩, [], false) ⟨Nat.zero_le _, rfl, Nat.le_refl _⟩ ?wk (fun x hx => ?_)
  case wk => (repeat' apply And.intro) <;> (first | exact rfl | exact trivial | omega | refine sigEq ?_ | skip)
  obtain ⟨i, b, v, s, out, put⟩ := x
  obtain ⟨hi, ha, hn⟩ := hx
  simp only at hi ha hn
  refine G_run tOk eok_radd 60 (fun _ => none) (fun bs => rfl) (fun bs => ?_) (fun bs => ?_)
  · (repeat' apply And.intro) <;> (intros; first | exact trivial | exact rfl | omega | exact u8_lo _ | exact u8_hi _ | exact u8_in64 _ | exact u8_in63 _ | (simp only [inR, IntKind.bits]; omega) | (simp [inR, IntKind.bits]; done) | (simp [inR, IntKind.bits] at * <;> omega) | (simp_all; done) | (with_reducible assumption) | skip)
  refine G_if rfl rfl (fun hk => ?_) (fun hk => ?_)
  · have hk' : i < old.length := by omega
    have ha2 : addN old ⟨s0, s1⟩ (i + 1) = addStep (s, out, put) (old.getD i ⟨0, 0⟩) := by simp only [addN, ha]
    generalize hy : old.getD i ⟨0, 0⟩ = y at ha2
    refine G_run tOk eok_radd 60 (fun _ => none) (fun bs => rfl) (fun bs => ?_) (fun bs => ?_)
    · (repeat' apply And.intro) <;> (intros; first | exact trivial | exact rfl | omega | exact u8_lo _ | exact u8_hi _ | exact u8_in64 _ | exact u8_in63 _ | (simp only [inR, IntKind.bits]; omega) | (simp [inR, IntKind.bits]; done) | (simp [inR, IntKind.bits] at * <;> omega) | (simp_all; done) | (with_reducible assumption) | skip)
    refine G_cond rfl rfl (fun h => ?_) (fun h => ?_)
    · refine G_run tOk eok_radd 60 (fun _ => none) (fun bs => rfl) (fun bs => ?_) (fun bs => ?_)
      · (repeat' apply And.intro) <;> (intros; first | exact trivial | exact rfl | omega | exact u8_lo _ | exact u8_hi _ | exact u8_in64 _ | exact u8_in63 _ | (simp only [inR, IntKind.bits]; omega) | (simp [inR, IntKind.bits]; done) | (simp [inR, IntKind.bits] at * <;> omega) | (simp_all; done) | (with_reducible assumption) | skip)
      refine G_lp [0, 4] (i + 1, ?b1, ?v1, s, out ++ [y], put) ?ok1 ?wk1
      case ok1 =>
        refine ⟨⟨by simp only; omega, ?_, by simp; omega⟩, by simp only; omega⟩
        simp only
        have h' : decide (y.to < s.fr) = true := by rw [← hy]; exact h
        rw [ha2]; simp only [addStep, h']
      case wk1 =>
        (repeat' apply And.intro) <;> (first | exact rfl | exact trivial | omega | refine sigEq ?_ | skip)
        simp only [← hy]; rfl
    have h1 : decide (y.to < s.fr) = false := by rw [← hy]; exact h
    clear h
    refine G_run tOk eok_radd 60 (fun _ => none) (fun bs => rfl) (fun bs => ?_) (fun bs => ?_)
    · (repeat' apply And.intro) <;> (intros; first | exact trivial | exact rfl | omega | exact u8_lo _ | exact u8_hi _ | exact u8_in64 _ | exact u8_in63 _ | (simp only [inR, IntKind.bits]; omega) | (simp [inR, IntKind.bits]; done) | (simp [inR, IntKind.bits] at * <;> omega) | (simp_all; done) | (with_reducible assumption) | skip)
    refine G_cond rfl rfl (fun h => ?_) (fun h => ?_)
    · have h2 : decide (y.fr > s.to) = true := by rw [← hy]; exact h
      refine G_run tOk eok_radd 60 (fun _ => none) (fun bs => rfl) (fun bs => ?_) (fun bs => ?_)
      · (repeat' apply And.intro) <;> (intros; first | exact trivial | exact rfl | omega | exact u8_lo _ | exact u8_hi _ | exact u8_in64 _ | exact u8_in63 _ | (simp only [inR, IntKind.bits]; omega) | (simp [inR, IntKind.bits]; done) | (simp [inR, IntKind.bits] at * <;> omega) | (simp_all; done) | (with_reducible assumption) | skip)
      cases put with
      | true =>
        refine G_els rfl rfl rfl ?_
        refine G_run tOk eok_radd 60 (fun _ => none) (fun bs => rfl) (fun bs => ?_) (fun bs => ?_)
        · (repeat' apply And.intro) <;> (intros; first | exact trivial | exact rfl | omega | exact u8_lo _ | exact u8_hi _ | exact u8_in64 _ | exact u8_in63 _ | (simp only [inR, IntKind.bits]; omega) | (simp [inR, IntKind.bits]; done) | (simp [inR, IntKind.bits] at * <;> omega) | (simp_all; done) | (with_reducible assumption) | skip)
        refine G_lp [0, 4] (i + 1, ?b2, ?v2, s, out ++ [y], true) ?ok2 ?wk2
        case ok2 =>
          refine ⟨⟨by simp only; omega, ?_, by simp; omega⟩, by simp only; omega⟩
          simp only
          rw [ha2]; simp only [addStep, h1, h2]
        case wk2 =>
          (repeat' apply And.intro) <;> (first | exact rfl | exact trivial | omega | refine sigEq ?_ | skip)
          simp only [← hy]; rfl
      | false =>
        refine G_thn rfl rfl rfl ?_
        refine G_run tOk eok_radd 60 (fun _ => none) (fun bs => rfl) (fun bs => ?_) (fun bs => ?_)
        · (repeat' apply And.intro) <;> (intros; first | exact trivial | exact rfl | omega | exact u8_lo _ | exact u8_hi _ | exact u8_in64 _ | exact u8_in63 _ | (simp only [inR, IntKind.bits]; omega) | (simp [inR, IntKind.bits]; done) | (simp [inR, IntKind.bits] at * <;> omega) | (simp_all; done) | (with_reducible assumption) | skip)
        refine G_lp [0, 6] (i + 1, ?b3, ?v3, s, out ++ [s] ++ [y], true) ?ok3 ?wk3
        case ok3 =>
          refine ⟨⟨by simp only; omega, ?_, by simp; omega⟩, by simp only; omega⟩
          simp only
          rw [ha2]; simp only [addStep, h1, h2]
        case wk3 =>
          (repeat' apply And.intro) <;> (first | exact rfl | exact trivial | omega | refine sigEq ?_ | skip)
          simp only [← hy]; rfl
    · have h2 : decide (y.fr > s.to) = false := by rw [← hy]; exact h
      refine G_run tOk eok_radd 60 (fun _ => none) (fun bs => rfl) (fun bs => ?_) (fun bs => ?_)
      · (repeat' apply And.intro) <;> (intros; first | exact trivial | exact rfl | omega | exact u8_lo _ | exact u8_hi _ | exact u8_in64 _ | exact u8_in63 _ | (simp only [inR, IntKind.bits]; omega) | (simp [inR, IntKind.bits]; done) | (simp [inR, IntKind.bits] at * <;> omega) | (simp_all; done) | (with_reducible assumption) | skip)
      refine G_lp [0, 1] (i + 1, ?b4, ?v4, ⟨min s.fr y.fr, max s.to y.to⟩, out, put) ?ok4 ?wk4
      case ok4 =>
        refine ⟨⟨by simp only; omega, ?_, by simp only; omega⟩, by simp only; omega⟩
        simp only
        rw [ha2]; simp only [addStep, h1, h2]
      case wk4 =>
        (repeat' apply And.intro) <;> (first | exact rfl | exact trivial | omega | refine sigEq ?_ | skip)
        all_goals (simp only [← hy]; rfl)
  · have hk' : i = old.length := by omega
    subst hk'
    refine G_run tOk eok_radd 60 (fun _ => none) (fun bs => rfl) (fun bs => ?_) (fun bs => ?_)
    · (repeat' apply And.intro) <;> (intros; first | exact trivial | exact rfl | omega | exact u8_lo _ | exact u8_hi _ | exact u8_in64 _ | exact u8_in63 _ | (simp only [inR, IntKind.bits]; omega) | (simp [inR, IntKind.bits]; done) | (simp [inR, IntKind.bits] at * <;> omega) | (simp_all; done) | (with_reducible assumption) | skip)
    cases put with
    | true =>
      refine G_els rfl rfl rfl ?_
      refine G_run tOk eok_radd 60 (fun _ => none) (fun bs => rfl) (fun bs => ?_) (fun bs => ?_)
      · (repeat' apply And.intro) <;> (intros; first | exact trivial | exact rfl | omega | exact u8_lo _ | exact u8_hi _ | exact u8_in64 _ | exact u8_in63 _ | (simp only [inR, IntKind.bits]; omega) | (simp [inR, IntKind.bits]; done) | (simp [inR, IntKind.bits] at * <;> omega) | (simp_all; done) | (with_reducible assumption) | skip)
      refine G_ret tOk hM0 rfl rfl ⟨trivial, trivial⟩ ⟨rfl, rfl, rfl, sigEq ?_⟩
      simp only [addL, hb, ho, ha]
    | false =>
      refine G_thn rfl rfl rfl ?_
      refine G_run tOk eok_radd 60 (fun _ => none) (fun bs => rfl) (fun bs => ?_) (fun bs => ?_)
      · (repeat' apply And.intro) <;> (intros; first | exact trivial | exact rfl | omega | exact u8_lo _ | exact u8_hi _ | exact u8_in64 _ | exact u8_in63 _ | (simp only [inR, IntKind.bits]; omega) | (simp [inR, IntKind.bits]; done) | (simp [inR, IntKind.bits] at * <;> omega) | (simp_all; done) | (with_reducible assumption) | skip)
      refine G_ret tOk hM0 rfl rfl ⟨trivial, trivial⟩ ⟨rfl, rfl, rfl, sigEq ?_⟩
      simp only [addL, hb, ho, ha]

def radd_s : FSpec
  | [.c (.pv (.lst .spn l)), .g [.pv (.val (.int .i64 s0)), .pv (.val (.int .i64 s1))]] => some ((l.length ≤ 1000000), false, .o 48 .spn (addL l ⟨s0, s1⟩))
  | _ => none
theorem radd_s_ok : SpecOk Try.prog 56 radd_s := by
  intro args pre sh rv h hp; unfold radd_s at h; split at h
  · cases h; have hl := hp; exact radd_fn _ _ _ hl
  · cases h
def psi_radd : FuncId → Option FSpec := psiCons 56 radd_s psi_rright
theorem psi_radd_ok : PsiFn Try.prog psi_radd := psiCons_ok radd_s_ok psi_rright_ok
theorem sp_eq (x y : Span) : (decide (x.fr = y.fr) && (decide (x.to = y.to) && true)) = decide (x = y) := by
  cases x; cases y; simp
theorem take_eq {α : Type} {l m : List α} {i : Nat} (d : α) (h : l.take i = m.take i) (hl : i < l.length) (hm : i < m.length) : l.take (i + 1) = m.take (i + 1) ↔ l.getD i d = m.getD i d := by
  have e1 : l.getD i d = l[i] := by simp [List.getD, List.getElem?_eq_getElem hl]
  have e2 : m.getD i d = m[i] := by simp [List.getD, List.getElem?_eq_getElem hm]
  rw [List.take_succ_eq_append_getElem hl, List.take_succ_eq_append_getElem hm, h, e1, e2]
  constructor
  · intro h; simpa using List.append_cancel_left h
  · intro h; rw [h]

def env_spans : Env := ⟨T, psi_radd, pspNil, pscNil, 26, [], none, true⟩
theorem eok_spans : PsiOk Try.prog env_spans := ⟨psi_radd_ok, pspNil_ok, pscNil_ok⟩
theorem spans_fn (l : List Span) (m : List Span) (hl : l.length ≤ 1000000000) (hm : m.length ≤ 1000000000) : Ctr Try.prog 58 false [lst .spn l, lst .spn m] (.x (.c (bv (decide (l = m))))) := by
  refine Ctr_intro (E := env_spans) Try.func58 rfl (by decide) rfl rfl (fun M0 W hM0 => ?_)
  refine G_run tOk eok_spans 60 (fun _ => none) (fun bs => rfl) (fun bs => ?_) (fun bs => ?_)
  · (repeat' apply And.intro) <;> (intros; first | exact trivial | exact rfl | omega | exact u8_lo _ | exact u8_hi _ | exact u8_in64 _ | exact u8_in63 _ | (simp only [inR, IntKind.bits]; omega) | (simp [inR, IntKind.bits]; done) | (simp [inR, IntKind.bits] at * <;> omega) | (simp_all; done) | (with_reducible assumption) | skip)
  refine G_cond rfl rfl (fun h => ?_) (fun h => ?_)
  · refine G_run tOk eok_spans 60 (fun _ => none) (fun bs => rfl) (fun bs => ?_) (fun bs => ?_)
    · (repeat' apply And.intro) <;> (intros; first | exact trivial | exact rfl | omega | exact u8_lo _ | exact u8_hi _ | exact u8_in64 _ | exact u8_in63 _ | (simp only [inR, IntKind.bits]; omega) | (simp [inR, IntKind.bits]; done) | (simp [inR, IntKind.bits] at * <;> omega) | (simp_all; done) | (with_reducible assumption) | skip)
    have hb : decide (l = m) = false := by simp; intro e; subst e; simp at h
    exact G_ret tOk hM0 rfl rfl ⟨trivial, trivial⟩ hb.symm
  have hlm : l.length = m.length := by simp at h; omega
  refine G_run tOk eok_spans 60 (fun _ => none) (fun bs => rfl) (fun bs => ?_) (fun bs => ?_)
  · (repeat' apply And.intro) <;> (intros; first | exact trivial | exact rfl | omega | exact u8_lo _ | exact u8_hi _ | exact u8_in64 _ | exact u8_in63 _ | (simp only [inR, IntKind.bits]; omega) | (simp [inR, IntKind.bits]; done) | (simp [inR, IntKind.bits] at * <;> omega) | (simp_all; done) | (with_reducible assumption) | skip)
  refine G_loop (fun x : Nat => [(0, lst .spn l), (1, lst .spn m), (5, int .i64 x)]) (fun x => []) (fun x => x ≤ l.length ∧ l.take x = m.take x) (fun x => l.length - x) rfl [] 0 ⟨Nat.zero_le _, rfl⟩ ?wk (fun x hx => ?_)
  case wk => (repeat' apply And.intro) <;> (first | exact rfl | exact trivial | omega | refine sigEq ?_ | skip)
  obtain ⟨hx, hr⟩ := hx
  refine G_run tOk eok_spans 60 (fun _ => none) (fun bs => rfl) (fun bs => ?_) (fun bs => ?_)
  · (repeat' apply And.intro) <;> (intros; first | exact trivial | exact rfl | omega | exact u8_lo _ | exact u8_hi _ | exact u8_in64 _ | exact u8_in63 _ | (simp only [inR, IntKind.bits]; omega) | (simp [inR, IntKind.bits]; done) | (simp [inR, IntKind.bits] at * <;> omega) | (simp_all; done) | (with_reducible assumption) | skip)
  refine G_if rfl rfl (fun hk => ?_) (fun hk => ?_)
  · have hk' : x < l.length := by omega
    have ht := take_eq (⟨0, 0⟩ : Span) hr hk' (by omega)
    refine G_run tOk eok_spans 60 (fun _ => none) (fun bs => rfl) (fun bs => ?_) (fun bs => ?_)
    · (repeat' apply And.intro) <;> (intros; first | exact trivial | exact rfl | omega | exact u8_lo _ | exact u8_hi _ | exact u8_in64 _ | exact u8_in63 _ | (simp only [inR, IntKind.bits]; omega) | (simp [inR, IntKind.bits]; done) | (simp [inR, IntKind.bits] at * <;> omega) | (simp_all; done) | (with_reducible assumption) | skip)
    refine G_draw tOk eok_spans rfl (fun _ => none) 8 [0, 0, 3, 7, 0, 0, 48, 112, 255] [] rfl (by decide +kernel) (fun bs => rfl) (fun bs => ?_) (fun bs => ?_)
    · (repeat' apply And.intro) <;> (intros; first | exact trivial | exact rfl | omega | exact u8_lo _ | exact u8_hi _ | exact u8_in64 _ | exact u8_in63 _ | (simp only [inR, IntKind.bits]; omega) | (simp [inR, IntKind.bits]; done) | (simp [inR, IntKind.bits] at * <;> omega) | (simp_all; done) | (with_reducible assumption) | skip)
    refine G_run tOk eok_spans 60 (fun _ => none) (fun bs => rfl) (fun bs => by (repeat' apply And.intro) <;> (intros; first | exact trivial | exact rfl | omega | exact u8_lo _ | exact u8_hi _ | exact u8_in64 _ | exact u8_in63 _ | (simp only [inR, IntKind.bits]; omega) | (simp [inR, IntKind.bits]; done) | (simp [inR, IntKind.bits] at * <;> omega) | (simp_all; done) | (with_reducible assumption) | skip)) (fun bs => ?_)
    refine G_cond (b := !decide (l.getD x ⟨0, 0⟩ = m.getD x ⟨0, 0⟩)) rfl (by rw [← sp_eq]; rfl) (fun h => ?_) (fun h => ?_)
    · refine G_run tOk eok_spans 60 (fun _ => none) (fun bs => rfl) (fun bs => ?_) (fun bs => ?_)
      · (repeat' apply And.intro) <;> (intros; first | exact trivial | exact rfl | omega | exact u8_lo _ | exact u8_hi _ | exact u8_in64 _ | exact u8_in63 _ | (simp only [inR, IntKind.bits]; omega) | (simp [inR, IntKind.bits]; done) | (simp [inR, IntKind.bits] at * <;> omega) | (simp_all; done) | (with_reducible assumption) | skip)
      have hb : decide (l = m) = false := by
        simp only [Bool.not_eq_true', decide_eq_false_iff_not] at h ⊢
        rintro rfl; exact h rfl
      exact G_ret tOk hM0 rfl rfl ⟨trivial, trivial⟩ hb.symm
    · refine G_run tOk eok_spans 60 (fun _ => none) (fun bs => rfl) (fun bs => ?_) (fun bs => ?_)
      · (repeat' apply And.intro) <;> (intros; first | exact trivial | exact rfl | omega | exact u8_lo _ | exact u8_hi _ | exact u8_in64 _ | exact u8_in63 _ | (simp only [inR, IntKind.bits]; omega) | (simp [inR, IntKind.bits]; done) | (simp [inR, IntKind.bits] at * <;> omega) | (simp_all; done) | (with_reducible assumption) | skip)
      refine G_lp [] (x + 1) ?ok ?wk2
      case ok =>
        refine ⟨⟨hk', ht.2 ?_⟩, by omega⟩
        simpa only [Bool.not_eq_false', decide_eq_true_eq] using h
      case wk2 => (repeat' apply And.intro) <;> (first | exact rfl | exact trivial | omega | refine sigEq ?_ | skip)
  · have hk' : x = l.length := by omega
    subst hk'
    refine G_run tOk eok_spans 60 (fun _ => none) (fun bs => rfl) (fun bs => ?_) (fun bs => ?_)
    · (repeat' apply And.intro) <;> (intros; first | exact trivial | exact rfl | omega | exact u8_lo _ | exact u8_hi _ | exact u8_in64 _ | exact u8_in63 _ | (simp only [inR, IntKind.bits]; omega) | (simp [inR, IntKind.bits]; done) | (simp [inR, IntKind.bits] at * <;> omega) | (simp_all; done) | (with_reducible assumption) | skip)
    have hb : decide (l = m) = true := by
      simp only [decide_eq_true_eq]
      rw [List.take_length, hlm, List.take_length] at hr; exact hr
    exact G_ret tOk hM0 rfl rfl ⟨trivial, trivial⟩ hb.symm

def spans_s : FSpec
  | [.c (.pv (.lst .spn l)), .c (.pv (.lst .spn m))] => some ((l.length ≤ 1000000000) ∧ (m.length ≤ 1000000000), false, .x (.c (bv (decide (l = m)))))
  | _ => none
theorem spans_s_ok : SpecOk Try.prog 58 spans_s := by
  intro args pre sh rv h hp; unfold spans_s at h; split at h
  · cases h; obtain ⟨hl, hm⟩ := hp; exact spans_fn _ _ hl hm
  · cases h
def psi_spans : FuncId → Option FSpec := psiCons 58 spans_s psi_radd
theorem psi_spans_ok : PsiFn Try.prog psi_spans := psiCons_ok spans_s_ok psi_radd_ok
theorem s_cond (l : List Span) (i : Nat) (last : Int) (h : last = if i = 0 then -1 else (l.getD (i - 1) ⟨0, 0⟩).to) : ((!mayB (l.getD i ⟨0, 0⟩).fr (l.getD i ⟨0, 0⟩).to) || decide ((l.getD i ⟨0, 0⟩).fr ≤ last)) = !okAt l i := by
  subst h
  by_cases h0 : i = 0
  · subst h0
    simp only [okAt, if_true, decide_true, Bool.true_or, Bool.and_true]
    cases hm : mayB (l.getD 0 ⟨0, 0⟩).fr (l.getD 0 ⟨0, 0⟩).to with
    | false => rfl
    | true => simp [mayB] at hm; simp; omega
  · simp only [okAt, if_neg h0, decide_eq_false h0, Bool.false_or]
    cases mayB (l.getD i ⟨0, 0⟩).fr (l.getD i ⟨0, 0⟩).to with
    | false => rfl
    | true => simp; rw [← decide_not]; simp

def env_sRight : Env := ⟨T, psi_spans, pspNil, pscNil, 24, [], none, true⟩
theorem eok_sRight : PsiOk Try.prog env_sRight := ⟨psi_spans_ok, pspNil_ok, pscNil_ok⟩
theorem sRight_fn (l : List Span) (hl : l.length ≤ 1000000) : Ctr Try.prog 64 false [lst .spn l] (.x (.c (bv (rightB l)))) := by
  refine Ctr_intro (E := env_sRight) Try.func64 rfl (by decide) rfl rfl (fun M0 W hM0 => ?_)
  refine G_run tOk eok_sRight 60 (fun _ => none) (fun bs => rfl) (fun bs => ?_) (fun bs => ?_)
  · (repeat' apply And.intro) <;> (intros; first | exact trivial | exact rfl | omega | exact u8_lo _ | exact u8_hi _ | exact u8_in64 _ | exact u8_in63 _ | (simp only [inR, IntKind.bits]; omega) | (simp [inR, IntKind.bits]; done) | (simp [inR, IntKind.bits] at * <;> omega) | (simp_all; done) | (with_reducible assumption) | skip)
  refine G_loop (fun x : Nat × Int => [(3, int .i64 x.2), (6, lst .spn l), (7, int .i64 l.length), (8, int .i64 x.1)]) (fun x => []) (fun x => x.1 ≤ l.length ∧ rightN l x.1 = true ∧ x.2 = if x.1 = 0 then -1 else (l.getD (x.1 - 1) ⟨0, 0⟩).to) (fun x => l.length - x.1) rfl [] (0, -1) ⟨Nat.zero_le _, rfl, rfl⟩ ?wk (fun x hx => ?_)
  case wk => (repeat' apply And.intro) <;> (first | exact rfl | exact trivial | omega | refine sigEq ?_ | skip)
  obtain ⟨i, last⟩ := x
  obtain ⟨hx, hr, hlast⟩ := hx
  dsimp only at hx hr hlast ⊢
  refine G_run tOk eok_sRight 60 (fun _ => none) (fun bs => rfl) (fun bs => ?_) (fun bs => ?_)
  · (repeat' apply And.intro) <;> (intros; first | exact trivial | exact rfl | omega | exact u8_lo _ | exact u8_hi _ | exact u8_in64 _ | exact u8_in63 _ | (simp only [inR, IntKind.bits]; omega) | (simp [inR, IntKind.bits]; done) | (simp [inR, IntKind.bits] at * <;> omega) | (simp_all; done) | (with_reducible assumption) | skip)
  refine G_if rfl rfl (fun hk => ?_) (fun hk => ?_)
  · have hk' : i < l.length := by omega
    refine G_run tOk eok_sRight 60 (fun _ => none) (fun bs => rfl) (fun bs => ?_) (fun bs => ?_)
    · (repeat' apply And.intro) <;> (intros; first | exact trivial | exact rfl | omega | exact u8_lo _ | exact u8_hi _ | exact u8_in64 _ | exact u8_in63 _ | (simp only [inR, IntKind.bits]; omega) | (simp [inR, IntKind.bits]; done) | (simp [inR, IntKind.bits] at * <;> omega) | (simp_all; done) | (with_reducible assumption) | skip)
    refine G_cond (b := !okAt l i) rfl ?_ (fun h => ?_) (fun h => ?_)
    · refine congrArg (fun b => some (bool b)) (Eq.trans ?_ (s_cond l i last hlast))
      rfl
    · refine G_run tOk eok_sRight 60 (fun _ => none) (fun bs => rfl) (fun bs => ?_) (fun bs => ?_)
      · (repeat' apply And.intro) <;> (intros; first | exact trivial | exact rfl | omega | exact u8_lo _ | exact u8_hi _ | exact u8_in64 _ | exact u8_in63 _ | (simp only [inR, IntKind.bits]; omega) | (simp [inR, IntKind.bits]; done) | (simp [inR, IntKind.bits] at * <;> omega) | (simp_all; done) | (with_reducible assumption) | skip)
      have hb : rightB l = false := rightN_false (i := i + 1) (by simp at h; simp [rightN, h]) hk'
      exact G_ret tOk hM0 rfl rfl ⟨trivial, trivial⟩ hb.symm
    · refine G_run tOk eok_sRight 60 (fun _ => none) (fun bs => rfl) (fun bs => ?_) (fun bs => ?_)
      · (repeat' apply And.intro) <;> (intros; first | exact trivial | exact rfl | omega | exact u8_lo _ | exact u8_hi _ | exact u8_in64 _ | exact u8_in63 _ | (simp only [inR, IntKind.bits]; omega) | (simp [inR, IntKind.bits]; done) | (simp [inR, IntKind.bits] at * <;> omega) | (simp_all; done) | (with_reducible assumption) | skip)
      refine G_lp [] (i + 1, (l.getD i ⟨0, 0⟩).to) ?ok ?wk2
      case ok => exact ⟨⟨hk', by simp at h; simp [rightN, hr, h], by simp⟩, by omega⟩
      case wk2 => (repeat' apply And.intro) <;> (first | exact rfl | exact trivial | omega | refine sigEq ?_ | skip)
  · have hk' : i = l.length := by omega
    subst hk'
    refine G_run tOk eok_sRight 60 (fun _ => none) (fun bs => rfl) (fun bs => ?_) (fun bs => ?_)
    · (repeat' apply And.intro) <;> (intros; first | exact trivial | exact rfl | omega | exact u8_lo _ | exact u8_hi _ | exact u8_in64 _ | exact u8_in63 _ | (simp only [inR, IntKind.bits]; omega) | (simp [inR, IntKind.bits]; done) | (simp [inR, IntKind.bits] at * <;> omega) | (simp_all; done) | (with_reducible assumption) | skip)
    exact G_ret tOk hM0 rfl rfl ⟨trivial, trivial⟩ hr.symm

def sRight_s : FSpec
  | [.c (.pv (.lst .spn l))] => some ((l.length ≤ 1000000), false, .x (.c (bv (rightB l))))
  | _ => none
theorem sRight_s_ok : SpecOk Try.prog 64 sRight_s := by
  intro args pre sh rv h hp; unfold sRight_s at h; split at h
  · cases h; have hl := hp; exact sRight_fn _ hl
  · cases h
def psi_sRight : FuncId → Option FSpec := psiCons 64 sRight_s psi_spans
theorem psi_sRight_ok : PsiFn Try.prog psi_sRight := psiCons_ok sRight_s_ok psi_spans_ok
end Go.Proofs.Ytgobmfkffhomaaa
