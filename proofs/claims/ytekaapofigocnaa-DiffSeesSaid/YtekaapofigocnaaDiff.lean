import Derived.Test.YtekaapofigocnaaSpn
set_option linter.unusedSimpArgs false
set_option linter.unusedVariables false
namespace Go.Proofs.Ytekaapofigocnaa
open Go.Mt

def env_num : Env := ⟨T, psiNil, pspNil, 4, []⟩
theorem eok_num : PsiOk Try.prog env_num := ⟨psiNil_ok, pspNil_ok⟩
theorem num_fn (n : Int)  : Ctr Try.prog 13 false [int .i64 n] (.x (.c (i64 n))) := by
  refine Ctr_intro (E := env_num) Try.func13 rfl (by decide) rfl rfl (fun M0 W hM0 => ?_)
  refine G_run tOk eok_num 60 (fun _ => none) (fun bs => rfl) (fun bs => ?_) (fun bs => ?_)
  · (repeat' apply And.intro) <;> (intros; first | exact trivial | exact rfl | omega | exact u8_lo _ | exact u8_hi _ | exact u8_in64 _ | exact u8_in63 _ | (simp only [inR, IntKind.bits]; omega) | (simp [inR, IntKind.bits]; done) | (simp [inR, IntKind.bits] at * <;> omega) | (simp_all; done) | skip)
  exact G_ret tOk hM0 rfl rfl ⟨trivial, trivial⟩ ⟨rfl, rfl⟩

def num_s : FSpec
  | [.c (.pv (.val (.int .i64 n)))] => some (True, false, .x (.c (i64 n)))
  | _ => none
theorem num_s_ok : SpecOk Try.prog 13 num_s := by
  intro args pre sh rv h hp; unfold num_s at h; split at h
  · cases h; exact num_fn _ 
  · cases h
def psi_num : FuncId → Option FSpec := psiCons 13 num_s psiNil
theorem psi_num_ok : PsiFn Try.prog psi_num := psiCons_ok num_s_ok psiNil_ok
def env_rmay : Env := ⟨T, psi_num, pspNil, 18, []⟩
theorem eok_rmay : PsiOk Try.prog env_rmay := ⟨psi_num_ok, pspNil_ok⟩
theorem rmay_fn (s0 : Int) (s1 : Int)  : Ctr Try.prog 22 false [.g [.pv (.val (.int .i64 s0)), .pv (.val (.int .i64 s1))]] (.x (.c (bv (mayB s0 s1)))) := by
  refine Ctr_intro (E := env_rmay) Try.func22 rfl (by decide) rfl rfl (fun M0 W hM0 => ?_)
  refine G_run tOk eok_rmay 60 (fun _ => none) (fun bs => rfl) (fun bs => ?_) (fun bs => ?_)
  · (repeat' apply And.intro) <;> (intros; first | exact trivial | exact rfl | omega | exact u8_lo _ | exact u8_hi _ | exact u8_in64 _ | exact u8_in63 _ | (simp only [inR, IntKind.bits]; omega) | (simp [inR, IntKind.bits]; done) | (simp [inR, IntKind.bits] at * <;> omega) | (simp_all; done) | skip)
  refine G_ret tOk hM0 rfl rfl ⟨trivial, trivial⟩ ?_
  conv => whnf
  simp [mayB]

def rmay_s : FSpec
  | [.g [.pv (.val (.int .i64 s0)), .pv (.val (.int .i64 s1))]] => some (True, false, .x (.c (bv (mayB s0 s1))))
  | _ => none
theorem rmay_s_ok : SpecOk Try.prog 22 rmay_s := by
  intro args pre sh rv h hp; unfold rmay_s at h; split at h
  · cases h; exact rmay_fn _ _ 
  · cases h
def psi_rmay : FuncId → Option FSpec := psiCons 22 rmay_s psi_num
theorem psi_rmay_ok : PsiFn Try.prog psi_rmay := psiCons_ok rmay_s_ok psi_num_ok
def env_may : Env := ⟨T, psi_rmay, pspNil, 18, []⟩
theorem eok_may : PsiOk Try.prog env_may := ⟨psi_rmay_ok, pspNil_ok⟩
theorem may_fn (s0 : Int) (s1 : Int)  : Ctr Try.prog 24 false [.g [.pv (.val (.int .i64 s0)), .pv (.val (.int .i64 s1))]] (.x (.c (bv (mayB s0 s1)))) := by
  refine Ctr_intro (E := env_may) Try.func24 rfl (by decide) rfl rfl (fun M0 W hM0 => ?_)
  refine G_run tOk eok_may 60 (fun _ => none) (fun bs => rfl) (fun bs => ?_) (fun bs => ?_)
  · (repeat' apply And.intro) <;> (intros; first | exact trivial | exact rfl | omega | exact u8_lo _ | exact u8_hi _ | exact u8_in64 _ | exact u8_in63 _ | (simp only [inR, IntKind.bits]; omega) | (simp [inR, IntKind.bits]; done) | (simp [inR, IntKind.bits] at * <;> omega) | (simp_all; done) | skip)
  refine G_ret tOk hM0 rfl rfl ⟨trivial, trivial⟩ ?_
  conv => whnf
  simp [mayB]

def may_s : FSpec
  | [.g [.pv (.val (.int .i64 s0)), .pv (.val (.int .i64 s1))]] => some (True, false, .x (.c (bv (mayB s0 s1))))
  | _ => none
theorem may_s_ok : SpecOk Try.prog 24 may_s := by
  intro args pre sh rv h hp; unfold may_s at h; split at h
  · cases h; exact may_fn _ _ 
  · cases h
def psi_may : FuncId → Option FSpec := psiCons 24 may_s psi_rmay
theorem psi_may_ok : PsiFn Try.prog psi_may := psiCons_ok may_s_ok psi_rmay_ok
def env_rRight : Env := ⟨T, psi_may, pspNil, 34, []⟩
theorem eok_rRight : PsiOk Try.prog env_rRight := ⟨psi_may_ok, pspNil_ok⟩
theorem rRight_fn (l : List Span) (hl : l.length ≤ 1000000) : Ctr Try.prog 17 false [lst .spn l] (.x (.c (bv (rightB l)))) := by
  refine Ctr_intro (E := env_rRight) Try.func17 rfl (by decide) rfl rfl (fun M0 W hM0 => ?_)
  refine G_run tOk eok_rRight 60 (fun _ => none) (fun bs => rfl) (fun bs => ?_) (fun bs => ?_)
  · (repeat' apply And.intro) <;> (intros; first | exact trivial | exact rfl | omega | exact u8_lo _ | exact u8_hi _ | exact u8_in64 _ | exact u8_in63 _ | (simp only [inR, IntKind.bits]; omega) | (simp [inR, IntKind.bits]; done) | (simp [inR, IntKind.bits] at * <;> omega) | (simp_all; done) | skip)
  refine G_loop (fun x : Nat => [(0, lst .spn l), (3, int .i64 x)]) (fun x => []) (fun x => x ≤ l.length ∧ rightN l x = true) (fun x => l.length - x) rfl [] 0 ⟨Nat.zero_le _, rfl⟩ ?wk (fun x hx => ?_)
  case wk => (repeat' apply And.intro) <;> (first | exact rfl | exact trivial | omega | refine sigEq ?_ | skip)
  obtain ⟨hx, hr⟩ := hx
  refine G_run tOk eok_rRight 60 (fun _ => none) (fun bs => rfl) (fun bs => ?_) (fun bs => ?_)
  · (repeat' apply And.intro) <;> (intros; first | exact trivial | exact rfl | omega | exact u8_lo _ | exact u8_hi _ | exact u8_in64 _ | exact u8_in63 _ | (simp only [inR, IntKind.bits]; omega) | (simp [inR, IntKind.bits]; done) | (simp [inR, IntKind.bits] at * <;> omega) | (simp_all; done) | skip)
  refine G_if rfl rfl (fun hk => ?_) (fun hk => ?_)
  · have hk' : x < l.length := by omega
    refine G_run tOk eok_rRight 60 (fun _ => none) (fun bs => rfl) (fun bs => ?_) (fun bs => ?_)
    · (repeat' apply And.intro) <;> (intros; first | exact trivial | exact rfl | omega | exact u8_lo _ | exact u8_hi _ | exact u8_in64 _ | exact u8_in63 _ | (simp only [inR, IntKind.bits]; omega) | (simp [inR, IntKind.bits]; done) | (simp [inR, IntKind.bits] at * <;> omega) | (simp_all; done) | skip)
    refine G_draw tOk eok_rRight rfl (fun _ => none) 21 [0, 0, 3, 7, 15, 31, 63, 127, 255, 511, 1023, 1023, 4095, 8191, 16383, 1023, 1023, 66559, 230399, 492543, 1016831, 2097151, 4194303, 8388607] [] rfl (by decide +kernel) (fun bs => rfl) (fun bs => ?_) (fun bs => ?_)
    · (repeat' apply And.intro) <;> (intros; first | exact trivial | exact rfl | omega | exact u8_lo _ | exact u8_hi _ | exact u8_in64 _ | exact u8_in63 _ | (simp only [inR, IntKind.bits]; omega) | (simp [inR, IntKind.bits]; done) | (simp [inR, IntKind.bits] at * <;> omega) | (simp_all; done) | skip)
    refine G_run tOk eok_rRight 60 (fun _ => none) (fun bs => rfl) (fun bs => by (repeat' apply And.intro) <;> (intros; first | exact trivial | exact rfl | omega | exact u8_lo _ | exact u8_hi _ | exact u8_in64 _ | exact u8_in63 _ | (simp only [inR, IntKind.bits]; omega) | (simp [inR, IntKind.bits]; done) | (simp [inR, IntKind.bits] at * <;> omega) | (simp_all; done) | skip)) (fun bs => ?_)
    refine G_cond (b := !okAt l x) rfl (by rw [← ok_cond l x]; rfl) (fun h => ?_) (fun h => ?_)
    · refine G_run tOk eok_rRight 60 (fun _ => none) (fun bs => rfl) (fun bs => ?_) (fun bs => ?_)
      · (repeat' apply And.intro) <;> (intros; first | exact trivial | exact rfl | omega | exact u8_lo _ | exact u8_hi _ | exact u8_in64 _ | exact u8_in63 _ | (simp only [inR, IntKind.bits]; omega) | (simp [inR, IntKind.bits]; done) | (simp [inR, IntKind.bits] at * <;> omega) | (simp_all; done) | skip)
      have hb : rightB l = false := rightN_false (i := x + 1) (by simp at h; simp [rightN, h]) hk'
      exact G_ret tOk hM0 rfl rfl ⟨trivial, trivial⟩ hb.symm
    · refine G_run tOk eok_rRight 60 (fun _ => none) (fun bs => rfl) (fun bs => ?_) (fun bs => ?_)
      · (repeat' apply And.intro) <;> (intros; first | exact trivial | exact rfl | omega | exact u8_lo _ | exact u8_hi _ | exact u8_in64 _ | exact u8_in63 _ | (simp only [inR, IntKind.bits]; omega) | (simp [inR, IntKind.bits]; done) | (simp [inR, IntKind.bits] at * <;> omega) | (simp_all; done) | skip)
      refine G_lp [] (x + 1) ?ok ?wk2
      case ok => exact ⟨⟨hk', by simp at h; simp [rightN, hr, h]⟩, by omega⟩
      case wk2 => (repeat' apply And.intro) <;> (first | exact rfl | exact trivial | omega | refine sigEq ?_ | skip)
  · have hk' : x = l.length := by omega
    subst hk'
    refine G_run tOk eok_rRight 60 (fun _ => none) (fun bs => rfl) (fun bs => ?_) (fun bs => ?_)
    · (repeat' apply And.intro) <;> (intros; first | exact trivial | exact rfl | omega | exact u8_lo _ | exact u8_hi _ | exact u8_in64 _ | exact u8_in63 _ | (simp only [inR, IntKind.bits]; omega) | (simp [inR, IntKind.bits]; done) | (simp [inR, IntKind.bits] at * <;> omega) | (simp_all; done) | skip)
    exact G_ret tOk hM0 rfl rfl ⟨trivial, trivial⟩ hr.symm

def rRight_s : FSpec
  | [.c (.pv (.lst .spn l))] => some ((l.length ≤ 1000000), false, .x (.c (bv (rightB l))))
  | _ => none
theorem rRight_s_ok : SpecOk Try.prog 17 rRight_s := by
  intro args pre sh rv h hp; unfold rRight_s at h; split at h
  · cases h; have hl := hp; exact rRight_fn _ hl
  · cases h
def psi_rRight : FuncId → Option FSpec := psiCons 17 rRight_s psi_may
theorem psi_rRight_ok : PsiFn Try.prog psi_rRight := psiCons_ok rRight_s_ok psi_may_ok
def env_rright : Env := ⟨T, psi_rRight, pspNil, 9, []⟩
theorem eok_rright : PsiOk Try.prog env_rright := ⟨psi_rRight_ok, pspNil_ok⟩
theorem rright_fn (l : List Span) (hl : l.length ≤ 1000000) : Ctr Try.prog 23 false [lst .spn l] (.o 36 .spn (rightL l)) := by
  refine Ctr_intro (E := env_rright) Try.func23 rfl (by decide) rfl rfl (fun M0 W hM0 => ?_)
  refine G_run tOk eok_rright 60 (fun _ => none) (fun bs => rfl) (fun bs => ?_) (fun bs => ?_)
  · (repeat' apply And.intro) <;> (intros; first | exact trivial | exact rfl | omega | exact u8_lo _ | exact u8_hi _ | exact u8_in64 _ | exact u8_in63 _ | (simp only [inR, IntKind.bits]; omega) | (simp [inR, IntKind.bits]; done) | (simp [inR, IntKind.bits] at * <;> omega) | (simp_all; done) | skip)
  refine G_cond rfl rfl (fun h => ?_) (fun h => ?_)
  · refine G_run tOk eok_rright 60 (fun _ => none) (fun bs => rfl) (fun bs => ?_) (fun bs => ?_)
    · (repeat' apply And.intro) <;> (intros; first | exact trivial | exact rfl | omega | exact u8_lo _ | exact u8_hi _ | exact u8_in64 _ | exact u8_in63 _ | (simp only [inR, IntKind.bits]; omega) | (simp [inR, IntKind.bits]; done) | (simp [inR, IntKind.bits] at * <;> omega) | (simp_all; done) | skip)
    have hb : rightB l = false := by simpa using h
    refine G_ret tOk hM0 rfl rfl ⟨trivial, trivial⟩ ?_
    show rightL l = []
    simp [rightL, hb]
  · refine G_run tOk eok_rright 60 (fun _ => none) (fun bs => rfl) (fun bs => ?_) (fun bs => ?_)
    · (repeat' apply And.intro) <;> (intros; first | exact trivial | exact rfl | omega | exact u8_lo _ | exact u8_hi _ | exact u8_in64 _ | exact u8_in63 _ | (simp only [inR, IntKind.bits]; omega) | (simp [inR, IntKind.bits]; done) | (simp [inR, IntKind.bits] at * <;> omega) | (simp_all; done) | skip)
    have hb : rightB l = true := by simpa using h
    refine G_ret tOk hM0 rfl rfl ⟨trivial, trivial⟩ ⟨rfl, rfl, rfl, sigEq ?_⟩
    show [] ++ l = rightL l
    simp [rightL, hb]

def rright_s : FSpec
  | [.c (.pv (.lst .spn l))] => some ((l.length ≤ 1000000), false, .o 36 .spn (rightL l))
  | _ => none
theorem rright_s_ok : SpecOk Try.prog 23 rright_s := by
  intro args pre sh rv h hp; unfold rright_s at h; split at h
  · cases h; have hl := hp; exact rright_fn _ hl
  · cases h
def psi_rright : FuncId → Option FSpec := psiCons 23 rright_s psi_rRight
theorem psi_rright_ok : PsiFn Try.prog psi_rright := psiCons_ok rright_s_ok psi_rRight_ok
def env_radd : Env := ⟨T, psi_rright, pspNil, 70, []⟩
theorem eok_radd : PsiOk Try.prog env_radd := ⟨psi_rright_ok, pspNil_ok⟩
theorem radd_fn (l : List Span) (s0 : Int) (s1 : Int) (hl : l.length ≤ 1000000) : Ctr Try.prog 20 false [lst .spn l, .g [.pv (.val (.int .i64 s0)), .pv (.val (.int .i64 s1))]] (.o 36 .spn (addL l ⟨s0, s1⟩)) := by
  refine Ctr_intro (E := env_radd) Try.func20 rfl (by decide) rfl rfl (fun M0 W hM0 => ?_)
  have hr : (rightL l).length ≤ 1000000 := by unfold rightL; split <;> first | omega | simp
  refine G_run tOk eok_radd 60 (fun _ => none) (fun bs => rfl) (fun bs => ?_) (fun bs => ?_)
  · (repeat' apply And.intro) <;> (intros; first | exact trivial | exact rfl | omega | exact u8_lo _ | exact u8_hi _ | exact u8_in64 _ | exact u8_in63 _ | (simp only [inR, IntKind.bits]; omega) | (simp [inR, IntKind.bits]; done) | (simp [inR, IntKind.bits] at * <;> omega) | (simp_all; done) | skip)
  refine G_cond rfl rfl (fun h => ?_) (fun h => ?_)
  · refine G_run tOk eok_radd 60 (fun _ => none) (fun bs => rfl) (fun bs => ?_) (fun bs => ?_)
    · (repeat' apply And.intro) <;> (intros; first | exact trivial | exact rfl | omega | exact u8_lo _ | exact u8_hi _ | exact u8_in64 _ | exact u8_in63 _ | (simp only [inR, IntKind.bits]; omega) | (simp [inR, IntKind.bits]; done) | (simp [inR, IntKind.bits] at * <;> omega) | (simp_all; done) | skip)
    have hb : mayB s0 s1 = false := by simpa using h
    refine G_ret tOk hM0 rfl rfl ⟨trivial, trivial⟩ ⟨rfl, rfl, rfl, sigEq ?_⟩
    simp only [addL, hb]
  have hb : mayB s0 s1 = true := by simpa using h
  clear h
  refine G_run tOk eok_radd 60 (fun _ => none) (fun bs => rfl) (fun bs => ?_) (fun bs => ?_)
  · (repeat' apply And.intro) <;> (intros; first | exact trivial | exact rfl | omega | exact u8_lo _ | exact u8_hi _ | exact u8_in64 _ | exact u8_in63 _ | (simp only [inR, IntKind.bits]; omega) | (simp [inR, IntKind.bits]; done) | (simp [inR, IntKind.bits] at * <;> omega) | (simp_all; done) | skip)
  refine G_freeze 1 [5] rfl ⟨rfl, trivial⟩ ?_
  generalize ho : rightL l = old at hr
  refine G_own 6 36 rfl ?_
  refine G_loop (fun x : Nat × Nat × Value × Span × List Span × Bool => [(3, .c (.ptr 0 x.2.1 0)), (5, lst .spn old), (6, .c (.own 1 x.2.2.1)), (7, bool x.2.2.2.2.2), (8, int .i64 x.1)])
    (fun x => [.blk x.2.1 36 [.pv (i64 x.2.2.2.1.fr), .pv (i64 x.2.2.2.1.to)], .own x.2.2.1 36 .spn x.2.2.2.2.1])
    (fun x => x.1 ≤ old.length ∧ addN old ⟨s0, s1⟩ x.1 = x.2.2.2 ∧ x.2.2.2.2.1.length ≤ 2 * x.1) (fun x => old.length - x.1) rfl [0, 2] (0, ?b0, ?v0, ⟨s0, s1⟩, [], false) ⟨Nat.zero_le _, rfl, Nat.le_refl _⟩ ?wk (fun x hx => ?_)
  case wk => (repeat' apply And.intro) <;> (first | exact rfl | exact trivial | omega | refine sigEq ?_ | skip)
  obtain ⟨i, b, v, s, out, put⟩ := x
  obtain ⟨hi, ha, hn⟩ := hx
  simp only at hi ha hn
  refine G_run tOk eok_radd 60 (fun _ => none) (fun bs => rfl) (fun bs => ?_) (fun bs => ?_)
  · (repeat' apply And.intro) <;> (intros; first | exact trivial | exact rfl | omega | exact u8_lo _ | exact u8_hi _ | exact u8_in64 _ | exact u8_in63 _ | (simp only [inR, IntKind.bits]; omega) | (simp [inR, IntKind.bits]; done) | (simp [inR, IntKind.bits] at * <;> omega) | (simp_all; done) | skip)
  refine G_if rfl rfl (fun hk => ?_) (fun hk => ?_)
  · have hk' : i < old.length := by omega
    have ha2 : addN old ⟨s0, s1⟩ (i + 1) = addStep (s, out, put) (old.getD i ⟨0, 0⟩) := by simp only [addN, ha]
    generalize hy : old.getD i ⟨0, 0⟩ = y at ha2
    refine G_run tOk eok_radd 60 (fun _ => none) (fun bs => rfl) (fun bs => ?_) (fun bs => ?_)
    · (repeat' apply And.intro) <;> (intros; first | exact trivial | exact rfl | omega | exact u8_lo _ | exact u8_hi _ | exact u8_in64 _ | exact u8_in63 _ | (simp only [inR, IntKind.bits]; omega) | (simp [inR, IntKind.bits]; done) | (simp [inR, IntKind.bits] at * <;> omega) | (simp_all; done) | skip)
    refine G_cond rfl rfl (fun h => ?_) (fun h => ?_)
    · refine G_run tOk eok_radd 60 (fun _ => none) (fun bs => rfl) (fun bs => ?_) (fun bs => ?_)
      · (repeat' apply And.intro) <;> (intros; first | exact trivial | exact rfl | omega | exact u8_lo _ | exact u8_hi _ | exact u8_in64 _ | exact u8_in63 _ | (simp only [inR, IntKind.bits]; omega) | (simp [inR, IntKind.bits]; done) | (simp [inR, IntKind.bits] at * <;> omega) | (simp_all; done) | skip)
      refine G_lp [0, 4] (i + 1, ?b1, ?v1, s, out ++ [y], put) ?ok1 ?wk1
      case ok1 =>
        refine ⟨⟨by simp only; omega, ?_, by simp; omega⟩, by simp only; omega⟩
        simp only
        have h' : decide (y.to < s.fr) = true := by rw [← hy]; exact h
        rw [ha2]; simp only [addStep, h']
      case wk1 =>
        (repeat' apply And.intro) <;> (first | exact rfl | exact trivial | omega | refine sigEq ?_ | skip)
        simp only [← hy]; rfl
    have h1 : decide (y.to < s.fr) = false := by rw [← hy]; exact h
    clear h
    refine G_run tOk eok_radd 60 (fun _ => none) (fun bs => rfl) (fun bs => ?_) (fun bs => ?_)
    · (repeat' apply And.intro) <;> (intros; first | exact trivial | exact rfl | omega | exact u8_lo _ | exact u8_hi _ | exact u8_in64 _ | exact u8_in63 _ | (simp only [inR, IntKind.bits]; omega) | (simp [inR, IntKind.bits]; done) | (simp [inR, IntKind.bits] at * <;> omega) | (simp_all; done) | skip)
    refine G_cond rfl rfl (fun h => ?_) (fun h => ?_)
    · have h2 : decide (y.fr > s.to) = true := by rw [← hy]; exact h
      refine G_run tOk eok_radd 60 (fun _ => none) (fun bs => rfl) (fun bs => ?_) (fun bs => ?_)
      · (repeat' apply And.intro) <;> (intros; first | exact trivial | exact rfl | omega | exact u8_lo _ | exact u8_hi _ | exact u8_in64 _ | exact u8_in63 _ | (simp only [inR, IntKind.bits]; omega) | (simp [inR, IntKind.bits]; done) | (simp [inR, IntKind.bits] at * <;> omega) | (simp_all; done) | skip)
      cases put with
      | true =>
        refine G_els rfl rfl rfl ?_
        refine G_run tOk eok_radd 60 (fun _ => none) (fun bs => rfl) (fun bs => ?_) (fun bs => ?_)
        · (repeat' apply And.intro) <;> (intros; first | exact trivial | exact rfl | omega | exact u8_lo _ | exact u8_hi _ | exact u8_in64 _ | exact u8_in63 _ | (simp only [inR, IntKind.bits]; omega) | (simp [inR, IntKind.bits]; done) | (simp [inR, IntKind.bits] at * <;> omega) | (simp_all; done) | skip)
        refine G_lp [0, 4] (i + 1, ?b2, ?v2, s, out ++ [y], true) ?ok2 ?wk2
        case ok2 =>
          refine ⟨⟨by simp only; omega, ?_, by simp; omega⟩, by simp only; omega⟩
          simp only
          rw [ha2]; simp only [addStep, h1, h2]
        case wk2 =>
          (repeat' apply And.intro) <;> (first | exact rfl | exact trivial | omega | refine sigEq ?_ | skip)
          simp only [← hy]; rfl
      | false =>
        refine G_thn rfl rfl rfl ?_
        refine G_run tOk eok_radd 60 (fun _ => none) (fun bs => rfl) (fun bs => ?_) (fun bs => ?_)
        · (repeat' apply And.intro) <;> (intros; first | exact trivial | exact rfl | omega | exact u8_lo _ | exact u8_hi _ | exact u8_in64 _ | exact u8_in63 _ | (simp only [inR, IntKind.bits]; omega) | (simp [inR, IntKind.bits]; done) | (simp [inR, IntKind.bits] at * <;> omega) | (simp_all; done) | skip)
        refine G_lp [0, 6] (i + 1, ?b3, ?v3, s, out ++ [s] ++ [y], true) ?ok3 ?wk3
        case ok3 =>
          refine ⟨⟨by simp only; omega, ?_, by simp; omega⟩, by simp only; omega⟩
          simp only
          rw [ha2]; simp only [addStep, h1, h2]
        case wk3 =>
          (repeat' apply And.intro) <;> (first | exact rfl | exact trivial | omega | refine sigEq ?_ | skip)
          simp only [← hy]; rfl
    · have h2 : decide (y.fr > s.to) = false := by rw [← hy]; exact h
      refine G_run tOk eok_radd 60 (fun _ => none) (fun bs => rfl) (fun bs => ?_) (fun bs => ?_)
      · (repeat' apply And.intro) <;> (intros; first | exact trivial | exact rfl | omega | exact u8_lo _ | exact u8_hi _ | exact u8_in64 _ | exact u8_in63 _ | (simp only [inR, IntKind.bits]; omega) | (simp [inR, IntKind.bits]; done) | (simp [inR, IntKind.bits] at * <;> omega) | (simp_all; done) | skip)
      refine G_lp [0, 1] (i + 1, ?b4, ?v4, ⟨min s.fr y.fr, max s.to y.to⟩, out, put) ?ok4 ?wk4
      case ok4 =>
        refine ⟨⟨by simp only; omega, ?_, by simp only; omega⟩, by simp only; omega⟩
        simp only
        rw [ha2]; simp only [addStep, h1, h2]
      case wk4 =>
        (repeat' apply And.intro) <;> (first | exact rfl | exact trivial | omega | refine sigEq ?_ | skip)
        all_goals (simp only [← hy]; rfl)
  · have hk' : i = old.length := by omega
    subst hk'
    refine G_run tOk eok_radd 60 (fun _ => none) (fun bs => rfl) (fun bs => ?_) (fun bs => ?_)
    · (repeat' apply And.intro) <;> (intros; first | exact trivial | exact rfl | omega | exact u8_lo _ | exact u8_hi _ | exact u8_in64 _ | exact u8_in63 _ | (simp only [inR, IntKind.bits]; omega) | (simp [inR, IntKind.bits]; done) | (simp [inR, IntKind.bits] at * <;> omega) | (simp_all; done) | skip)
    cases put with
    | true =>
      refine G_els rfl rfl rfl ?_
      refine G_run tOk eok_radd 60 (fun _ => none) (fun bs => rfl) (fun bs => ?_) (fun bs => ?_)
      · (repeat' apply And.intro) <;> (intros; first | exact trivial | exact rfl | omega | exact u8_lo _ | exact u8_hi _ | exact u8_in64 _ | exact u8_in63 _ | (simp only [inR, IntKind.bits]; omega) | (simp [inR, IntKind.bits]; done) | (simp [inR, IntKind.bits] at * <;> omega) | (simp_all; done) | skip)
      refine G_ret tOk hM0 rfl rfl ⟨trivial, trivial⟩ ⟨rfl, rfl, rfl, sigEq ?_⟩
      simp only [addL, hb, ho, ha]
    | false =>
      refine G_thn rfl rfl rfl ?_
      refine G_run tOk eok_radd 60 (fun _ => none) (fun bs => rfl) (fun bs => ?_) (fun bs => ?_)
      · (repeat' apply And.intro) <;> (intros; first | exact trivial | exact rfl | omega | exact u8_lo _ | exact u8_hi _ | exact u8_in64 _ | exact u8_in63 _ | (simp only [inR, IntKind.bits]; omega) | (simp [inR, IntKind.bits]; done) | (simp [inR, IntKind.bits] at * <;> omega) | (simp_all; done) | skip)
      refine G_ret tOk hM0 rfl rfl ⟨trivial, trivial⟩ ⟨rfl, rfl, rfl, sigEq ?_⟩
      simp only [addL, hb, ho, ha]

def radd_s : FSpec
  | [.c (.pv (.lst .spn l)), .g [.pv (.val (.int .i64 s0)), .pv (.val (.int .i64 s1))]] => some ((l.length ≤ 1000000), false, .o 36 .spn (addL l ⟨s0, s1⟩))
  | _ => none
theorem radd_s_ok : SpecOk Try.prog 20 radd_s := by
  intro args pre sh rv h hp; unfold radd_s at h; split at h
  · cases h; have hl := hp; exact radd_fn _ _ _ hl
  · cases h
def psi_radd : FuncId → Option FSpec := psiCons 20 radd_s psi_rright
theorem psi_radd_ok : PsiFn Try.prog psi_radd := psiCons_ok radd_s_ok psi_rright_ok
def env_equal : Env := ⟨T, psi_radd, pspNil, 10, []⟩
theorem eok_equal : PsiOk Try.prog env_equal := ⟨psi_radd_ok, pspNil_ok⟩
theorem equal_fn (a : List UInt8) (b : List UInt8)  : Ctr Try.prog 18 false [lst .byt a, lst .byt b] (.x (.c (bv (decide (a = b))))) := by
  refine Ctr_intro (E := env_equal) Try.func18 rfl (by decide) rfl rfl (fun M0 W hM0 => ?_)
  refine G_run tOk eok_equal 60 (fun _ => none) (fun bs => rfl) (fun bs => ?_) (fun bs => ?_)
  · (repeat' apply And.intro) <;> (intros; first | exact trivial | exact rfl | omega | exact u8_lo _ | exact u8_hi _ | exact u8_in64 _ | exact u8_in63 _ | (simp only [inR, IntKind.bits]; omega) | (simp [inR, IntKind.bits]; done) | (simp [inR, IntKind.bits] at * <;> omega) | (simp_all; done) | skip)
  exact G_ret tOk hM0 rfl rfl ⟨trivial, trivial⟩ rfl

def equal_s : FSpec
  | [.c (.pv (.lst .byt a)), .c (.pv (.lst .byt b))] => some (True, false, .x (.c (bv (decide (a = b)))))
  | _ => none
theorem equal_s_ok : SpecOk Try.prog 18 equal_s := by
  intro args pre sh rv h hp; unfold equal_s at h; split at h
  · cases h; exact equal_fn _ _ 
  · cases h
def psi_equal : FuncId → Option FSpec := psiCons 18 equal_s psi_radd
theorem psi_equal_ok : PsiFn Try.prog psi_equal := psiCons_ok equal_s_ok psi_radd_ok
def cutL (l : List UInt8) (lo hi : Int) : List UInt8 := (l.take (min hi (l.length : Int)).toNat).drop (min lo (l.length : Int)).toNat
def env_cut : Env := ⟨T, psi_equal, pspNil, 17, []⟩
theorem eok_cut : PsiOk Try.prog env_cut := ⟨psi_equal_ok, pspNil_ok⟩
theorem cut_fn (l : List UInt8) (lo : Int) (hi : Int) (h0 : 0 ≤ lo) (h1 : lo ≤ hi) : Ctr Try.prog 19 true [lst .byt l, int .i64 lo, int .i64 hi] (.x (.c (.lst .byt (cutL l lo hi)))) := by
  refine Ctr_intro (E := env_cut) Try.func19 rfl (by decide) rfl rfl (fun M0 W hM0 => ?_)
  refine G_run tOk eok_cut 60 (fun _ => none) (fun bs => rfl) (fun bs => ?_) (fun bs => ?_)
  · (repeat' apply And.intro) <;> (intros; first | exact trivial | exact rfl | omega | exact u8_lo _ | exact u8_hi _ | exact u8_in64 _ | exact u8_in63 _ | (simp only [inR, IntKind.bits]; omega) | (simp [inR, IntKind.bits]; done) | (simp [inR, IntKind.bits] at * <;> omega) | (simp_all; done) | skip)
  exact G_ret tOk hM0 rfl rfl ⟨trivial, trivial⟩ rfl

/-- Clusters in which two are unlike. -/
def cut_s : FSpec
  | [.c (.pv (.lst .byt l)), .c (.pv (.val (.int .i64 lo))), .c (.pv (.val (.int .i64 hi)))] => some ((0 ≤ lo) ∧ (lo ≤ hi), true, .x (.c (.lst .byt (cutL l lo hi))))
  | _ => none
theorem cut_s_ok : SpecOk Try.prog 19 cut_s := by
  intro args pre sh rv h hp; unfold cut_s at h; split at h
  · cases h; obtain ⟨h0, h1⟩ := hp; exact cut_fn _ _ _ h0 h1
  · cases h
def psi_cut : FuncId → Option FSpec := psiCons 19 cut_s psi_equal
theorem psi_cut_ok : PsiFn Try.prog psi_cut := psiCons_ok cut_s_ok psi_equal_ok
def same (a b : List UInt8) (n : Int) (k : Nat) : Bool := decide (cutL a (k * n) (k * n + n) = cutL b (k * n) (k * n + n))
def ofStep (l : List Span) (k : Int) : List Span :=
  match decide ((l.length : Int) > 0) && decide ((l.getD ((l.length : Int) - 1).toNat ⟨0, 0⟩).to = k) with
  | true => l.set ((l.length : Int) - 1).toNat ⟨(l.getD ((l.length : Int) - 1).toNat ⟨0, 0⟩).fr, (l.getD ((l.length : Int) - 1).toNat ⟨0, 0⟩).to + 1⟩
  | false => l ++ [⟨k, k + 1⟩]
def diffN (a b : List UInt8) (n : Int) : Nat → List Span
  | 0 => []
  | k + 1 => match same a b n k with
    | true => diffN a b n k
    | false => ofStep (diffN a b n k) k
def ofE (c : Int) : Int := if c < 0 ∨ 6 < c then 1 else 0
def ofC (a b : List UInt8) (n : Int) : Int := (max (a.length : Int) b.length + n - 1) / n
def ofL (a b : List UInt8) (c : Int) : List Span := if ofE c = 0 then diffN a b (16 * 2 ^ c.toNat) (ofC a b (16 * 2 ^ c.toNat)).toNat else []
theorem ofStep_len (l : List Span) (k : Int) : (ofStep l k).length ≤ l.length + 1 := by
  unfold ofStep; split <;> simp
theorem diffN_len (a b : List UInt8) (n : Int) (k : Nat) : (diffN a b n k).length ≤ k := by
  induction k with
  | zero => simp [diffN]
  | succ k ih =>
    simp only [diffN]
    split
    · omega
    · have := ofStep_len (diffN a b n k) k; omega
theorem pow_c {c : Int} (h : 0 ≤ c ∧ c ≤ 6) : (1 : Int) ≤ 2 ^ c.toNat ∧ (2 : Int) ^ c.toNat ≤ 64 := by
  have : c = 0 ∨ c = 1 ∨ c = 2 ∨ c = 3 ∨ c = 4 ∨ c = 5 ∨ c = 6 := by omega
  rcases this with h | h | h | h | h | h | h <;> subst h <;> decide
theorem cnt_lt {M n : Int} (hn : 0 < n) (k : Int) : k < (M + n - 1) / n ↔ k * n < M := by
  have h1 : k < (M + n - 1) / n ↔ k + 1 ≤ (M + n - 1) / n := Int.lt_iff_add_one_le
  rw [h1, Int.le_ediv_iff_mul_le hn, Int.add_mul]
  omega

def env_of : Env := ⟨T, psi_cut, pspNil, 86, []⟩
theorem eok_of : PsiOk Try.prog env_of := ⟨psi_cut_ok, pspNil_ok⟩
theorem of_fn (a : List UInt8) (b : List UInt8) (c : Int) (ha : a.length ≤ 100000) (hb : b.length ≤ 100000) : Ctr Try.prog 10 false [lst .byt a, lst .byt b, int .i64 c] (.ot 36 .spn (ofL a b c) [.c (i64 (ofE c))]) := by
  refine Ctr_intro (E := env_of) Try.func10 rfl (by decide) rfl rfl (fun M0 W hM0 => ?_)
  refine G_run tOk eok_of 60 (fun _ => none) (fun bs => rfl) (fun bs => ?_) (fun bs => ?_)
  · (repeat' apply And.intro) <;> (intros; first | exact trivial | exact rfl | omega | exact u8_lo _ | exact u8_hi _ | exact u8_in64 _ | exact u8_in63 _ | (simp only [inR, IntKind.bits]; omega) | (simp [inR, IntKind.bits]; done) | (simp [inR, IntKind.bits] at * <;> omega) | (simp_all; done) | skip)
  refine G_cond rfl rfl (fun h => ?_) (fun h => ?_)
  · refine G_run tOk eok_of 60 (fun _ => none) (fun bs => rfl) (fun bs => ?_) (fun bs => ?_)
    · (repeat' apply And.intro) <;> (intros; first | exact trivial | exact rfl | omega | exact u8_lo _ | exact u8_hi _ | exact u8_in64 _ | exact u8_in63 _ | (simp only [inR, IntKind.bits]; omega) | (simp [inR, IntKind.bits]; done) | (simp [inR, IntKind.bits] at * <;> omega) | (simp_all; done) | skip)
    have he : ofE c = 1 := by simp at h; simp [ofE, h]
    exact G_ret tOk hM0 rfl rfl ⟨trivial, trivial, trivial⟩ ⟨(show ofL a b c = [] by simp [ofL, he]), ⟨rfl, he.symm⟩, trivial⟩
  have hc : 0 ≤ c ∧ c ≤ 6 := by simp at h; omega
  clear h
  have he : ofE c = 0 := by unfold ofE; rw [if_neg (by omega)]
  have hp := pow_c hc
  obtain ⟨n, hn⟩ : ∃ n : Int, 16 * 2 ^ c.toNat = n := ⟨_, rfl⟩
  have hn2 : 16 ≤ n ∧ n ≤ 1024 := by omega
  obtain ⟨cnt, hcnt⟩ : ∃ q : Int, (max (a.length : Int) b.length + n - 1) / n = q := ⟨_, rfl⟩
  have hcl := fun k => cnt_lt (M := max (a.length : Int) b.length) (n := n) (by omega) k
  rw [hcnt] at hcl
  have hc0 : 0 ≤ cnt := by rw [← hcnt]; exact Int.ediv_nonneg (by omega) (by omega)
  have hc1 : cnt ≤ 101024 := by
    rw [← hcnt]
    exact Int.le_trans (Int.ediv_le_self _ (by omega)) (by omega)
  refine G_run tOk eok_of 60 (fun _ => none) (fun bs => rfl) (fun bs => ?_) (fun bs => ?_)
  · simp only [hn]
    (repeat' apply And.intro) <;> (intros; first | exact trivial | exact rfl | omega | exact u8_lo _ | exact u8_hi _ | exact u8_in64 _ | exact u8_in63 _ | (simp only [inR, IntKind.bits]; omega) | (simp [inR, IntKind.bits]; done) | (simp [inR, IntKind.bits] at * <;> omega) | (simp_all; done) | skip)
  refine G_own 8 36 rfl ?_
  refine G_loop (fun x : Nat × Value => [(0, lst .byt a), (1, lst .byt b), (8, .c (.own 0 x.2)), (9, int .i64 n), (29, int .i64 cnt), (30, int .i64 x.1)]) (fun x => [.own x.2 36 .spn (diffN a b n x.1)])
    (fun x => (x.1 : Int) ≤ cnt) (fun x => cnt.toNat - x.1) rfl [0] (0, ?v0) hc0 ?wk (fun x hx => ?_)
  case wk =>
    (repeat' apply And.intro) <;> (first | exact rfl | exact trivial | omega | refine sigEq ?_ | skip)
    all_goals simp only [hn, hcnt]
  obtain ⟨k, v⟩ := x
  simp only at hx
  refine G_run tOk eok_of 60 (fun _ => none) (fun bs => rfl) (fun bs => ?_) (fun bs => ?_)
  · (repeat' apply And.intro) <;> (intros; first | exact trivial | exact rfl | omega | exact u8_lo _ | exact u8_hi _ | exact u8_in64 _ | exact u8_in63 _ | (simp only [inR, IntKind.bits]; omega) | (simp [inR, IntKind.bits]; done) | (simp [inR, IntKind.bits] at * <;> omega) | (simp_all; done) | skip)
  refine G_if rfl rfl (fun hk => ?_) (fun hk => ?_)
  · have hk' : (k : Int) < cnt := hk
    have hkn := (hcl k).1 hk'
    have hkn0 : 0 ≤ (k : Int) * n := Int.mul_nonneg (by omega) (by omega)
    have hlen := diffN_len a b n k
    refine G_run tOk eok_of 60 (fun _ => none) (fun bs => rfl) (fun bs => ?_) (fun bs => ?_)
    · (repeat' apply And.intro) <;> (intros; first | exact trivial | exact rfl | omega | exact u8_lo _ | exact u8_hi _ | exact u8_in64 _ | exact u8_in63 _ | (simp only [inR, IntKind.bits]; omega) | (simp [inR, IntKind.bits]; done) | (simp [inR, IntKind.bits] at * <;> omega) | (simp_all; done) | skip)
    cases hs : same a b n k with
    | true =>
      refine G_thn rfl rfl hs ?_
      refine G_run tOk eok_of 60 (fun _ => none) (fun bs => rfl) (fun bs => ?_) (fun bs => ?_)
      · (repeat' apply And.intro) <;> (intros; first | exact trivial | exact rfl | omega | exact u8_lo _ | exact u8_hi _ | exact u8_in64 _ | exact u8_in63 _ | (simp only [inR, IntKind.bits]; omega) | (simp [inR, IntKind.bits]; done) | (simp [inR, IntKind.bits] at * <;> omega) | (simp_all; done) | skip)
      refine G_lp [0] (k + 1, ?v1) ?ok1 ?wk1
      case ok1 => exact ⟨by simp only; omega, by simp only; omega⟩
      case wk1 =>
        (repeat' apply And.intro) <;> (first | exact rfl | exact trivial | omega | refine sigEq ?_ | skip)
        simp only [diffN, hs]
    | false =>
      refine G_els rfl rfl hs ?_
      refine G_run tOk eok_of 60 (fun _ => none) (fun bs => rfl) (fun bs => ?_) (fun bs => ?_)
      · (repeat' apply And.intro) <;> (intros; first | exact trivial | exact rfl | omega | exact u8_lo _ | exact u8_hi _ | exact u8_in64 _ | exact u8_in63 _ | (simp only [inR, IntKind.bits]; omega) | (simp [inR, IntKind.bits]; done) | (simp [inR, IntKind.bits] at * <;> omega) | (simp_all; done) | skip)
      refine G_cond rfl rfl (fun h => ?_) (fun h => ?_)
      · have h0 := h
        rw [Bool.and_eq_true, decide_eq_true_eq, decide_eq_true_eq] at h
        obtain ⟨q1, q2⟩ := h
        refine G_run tOk eok_of 60 (fun _ => none) (fun bs => rfl) (fun bs => ?_) (fun bs => ?_)
        · (repeat' apply And.intro) <;> (intros; first | exact trivial | exact rfl | omega | exact u8_lo _ | exact u8_hi _ | exact u8_in64 _ | exact u8_in63 _ | (simp only [inR, IntKind.bits]; omega) | (simp [inR, IntKind.bits]; done) | (simp [inR, IntKind.bits] at * <;> omega) | (simp_all; done) | skip)
        refine G_lp [0] (k + 1, ?v2) ?ok2 ?wk2
        case ok2 => exact ⟨by simp only; omega, by simp only; omega⟩
        case wk2 =>
          (repeat' apply And.intro) <;> (first | exact rfl | exact trivial | omega | refine sigEq ?_ | skip)
          simp only [diffN, hs, ofStep]
          rw [show (decide (((diffN a b n k).length : Int) > 0) && decide (((diffN a b n k).getD (((diffN a b n k).length : Int) - 1).toNat ⟨0, 0⟩).to = (k : Int))) = true from h0]
          rfl
      · refine G_run tOk eok_of 60 (fun _ => none) (fun bs => rfl) (fun bs => ?_) (fun bs => ?_)
        · (repeat' apply And.intro) <;> (intros; first | exact trivial | exact rfl | omega | exact u8_lo _ | exact u8_hi _ | exact u8_in64 _ | exact u8_in63 _ | (simp only [inR, IntKind.bits]; omega) | (simp [inR, IntKind.bits]; done) | (simp [inR, IntKind.bits] at * <;> omega) | (simp_all; done) | skip)
        refine G_lp [2] (k + 1, ?v3) ?ok3 ?wk3
        case ok3 => exact ⟨by simp only; omega, by simp only; omega⟩
        case wk3 =>
          (repeat' apply And.intro) <;> (first | exact rfl | exact trivial | omega | refine sigEq ?_ | skip)
          simp only [diffN, hs, ofStep]
          rw [show (decide (((diffN a b n k).length : Int) > 0) && decide (((diffN a b n k).getD (((diffN a b n k).length : Int) - 1).toNat ⟨0, 0⟩).to = (k : Int))) = false from h]
  · have hk' : (k : Int) = cnt := by omega
    refine G_run tOk eok_of 60 (fun _ => none) (fun bs => rfl) (fun bs => ?_) (fun bs => ?_)
    · (repeat' apply And.intro) <;> (intros; first | exact trivial | exact rfl | omega | exact u8_lo _ | exact u8_hi _ | exact u8_in64 _ | exact u8_in63 _ | (simp only [inR, IntKind.bits]; omega) | (simp [inR, IntKind.bits]; done) | (simp [inR, IntKind.bits] at * <;> omega) | (simp_all; done) | skip)
    refine G_ret tOk hM0 rfl rfl ⟨trivial, trivial, trivial⟩ ⟨⟨rfl, rfl, rfl, sigEq ?_⟩, ⟨rfl, he.symm⟩, trivial⟩
    simp only [ofL, he, if_true, hn, ofC, hcnt]
    rw [← hk', Int.toNat_natCast]

def of_s : FSpec
  | [.c (.pv (.lst .byt a)), .c (.pv (.lst .byt b)), .c (.pv (.val (.int .i64 c)))] => some ((a.length ≤ 100000) ∧ (b.length ≤ 100000), false, .ot 36 .spn (ofL a b c) [.c (i64 (ofE c))])
  | _ => none
theorem of_s_ok : SpecOk Try.prog 10 of_s := by
  intro args pre sh rv h hp; unfold of_s at h; split at h
  · cases h; obtain ⟨ha, hb⟩ := hp; exact of_fn _ _ _ ha hb
  · cases h
def psi_of : FuncId → Option FSpec := psiCons 10 of_s psi_cut
theorem psi_of_ok : PsiFn Try.prog psi_of := psiCons_ok of_s_ok psi_cut_ok
theorem ofStep_snoc (m : List Span) (y : Span) (k : Int) : ofStep (m ++ [y]) k = match decide (y.to = k) with | true => m ++ [⟨y.fr, y.to + 1⟩] | false => m ++ [y] ++ [⟨k, k + 1⟩] := by
  have e0 : (((m ++ [y]).length : Int) - 1).toNat = m.length := by simp
  have e1 : decide (((m ++ [y]).length : Int) > 0) = true := by first | (simp; done) | (simp; omega)
  have e2 : (m ++ [y]).getD m.length ⟨0, 0⟩ = y := by simp [List.getD]
  simp only [ofStep, e0, e1, e2, Bool.true_and]
  cases decide (y.to = k)
  · rfl
  · simp [List.set_append]
theorem add_of (l : List Span) (k : Int) (hR : Rt l) (hk : ∀ x ∈ l, x.to ≤ k) (h0 : 0 ≤ k) (h1 : k + 1 ≤ 1073741824) : addL l ⟨k, k + 1⟩ = ofStep l k ∧ Rt (ofStep l k) ∧ ∀ x ∈ ofStep l k, x.to ≤ k + 1 := by
  have hrl : rightL l = l := by simp [rightL, right_iff.2 hR]
  have hm : mayB k (k + 1) = true := by simp [mayB]; omega
  have hsp : Sp ⟨k, k + 1⟩ := ⟨h0, by simp only; omega, h1⟩
  rcases List.eq_nil_or_concat l with rfl | ⟨m, y, rfl⟩
  · simp only [addL, hm, hrl]
    have e : ofStep [] k = [⟨k, k + 1⟩] := by simp [ofStep]
    rw [e]
    exact ⟨rfl, (Rt.snoc (l := [])).2 ⟨Rt.nil, hsp, by simp⟩, by simp⟩
  · rw [List.concat_eq_append] at *
    obtain ⟨r1, r2, r3⟩ := Rt.snoc.1 hR
    have hy : y.fr < y.to := r2.2.1
    have hyk := hk y (by simp)
    have low : addN m ⟨k, k + 1⟩ m.length = (⟨k, k + 1⟩, m, false) := addN_low m _ (fun x hx => by have := r3 x hx; simp only; omega)
    simp only [addL, hm, hrl, addN_snoc, low, ofStep_snoc]
    cases hd : decide (y.to = k) with
    | true =>
      have he : y.to = k := of_decide_eq_true hd
      have d1 : decide (y.to < k) = false := by simp; omega
      have d2 : decide (y.fr > k + 1) = false := by simp; omega
      have d3 : (⟨min k y.fr, max (k + 1) y.to⟩ : Span) = ⟨y.fr, y.to + 1⟩ := by congr 1 <;> omega
      simp only [addStep, d1, d2, d3]
      refine ⟨trivial, Rt.snoc.2 ⟨r1, ⟨r2.1, by simp only; omega, by simp only; omega⟩, r3⟩, fun x hx => ?_⟩
      rcases List.mem_append.1 hx with hx | hx
      · have := r3 x hx; omega
      · simp at hx; subst hx; simp only; omega
    | false =>
      have he : y.to ≠ k := of_decide_eq_false hd
      have d1 : decide (y.to < k) = true := by simp; omega
      simp only [addStep, d1]
      refine ⟨trivial, Rt.snoc.2 ⟨hR, hsp, fun x hx => ?_⟩, fun x hx => ?_⟩
      · rcases List.mem_append.1 hx with hx | hx
        · have := r3 x hx; simp only; omega
        · simp at hx; subst hx; simp only; omega
      · rcases List.mem_append.1 hx with hx | hx
        · have := hk x hx; omega
        · simp at hx; subst hx; simp only; omega
theorem diffN_right (a b : List UInt8) (n : Int) : ∀ k : Nat, k ≤ 1073741823 → Rt (diffN a b n k) ∧ ∀ x ∈ diffN a b n k, x.to ≤ k := by
  intro k
  induction k with
  | zero => intro _; exact ⟨Rt.nil, by simp [diffN]⟩
  | succ k ih =>
    intro hk
    obtain ⟨i1, i2⟩ := ih (by omega)
    simp only [diffN]
    cases same a b n k with
    | true => exact ⟨i1, fun x hx => by have := i2 x hx; omega⟩
    | false =>
      obtain ⟨_, h2, h3⟩ := add_of _ k i1 i2 (by omega) (by omega)
      exact ⟨h2, fun x hx => by have := h3 x hx; simp only [Int.natCast_add, Int.natCast_one]; omega⟩

theorem ofC_le {a b : List UInt8} {n : Int} (hn : 16 ≤ n) (ha : a.length ≤ 100000) (hb : b.length ≤ 100000) (h : n ≤ 1024) : ofC a b n ≤ 101024 := by
  unfold ofC
  exact Int.le_trans (Int.ediv_le_self _ (by omega)) (by omega)
theorem ofL_len (a b : List UInt8) (c : Int) (ha : a.length ≤ 100000) (hb : b.length ≤ 100000) : (ofL a b c).length ≤ 101024 := by
  unfold ofL
  split
  · rename_i he
    have hc : 0 ≤ c ∧ c ≤ 6 := by
      unfold ofE at he
      split at he <;> omega
    have hp := pow_c hc
    have h1 := diffN_len a b (16 * 2 ^ c.toNat) (ofC a b (16 * 2 ^ c.toNat)).toNat
    have h2 := ofC_le (a := a) (b := b) (n := 16 * 2 ^ c.toNat) (by omega) ha hb (by omega)
    omega
  · simp

def env_rdiff : Env := ⟨T, psi_of, pspNil, 77, []⟩
theorem eok_rdiff : PsiOk Try.prog env_rdiff := ⟨psi_of_ok, pspNil_ok⟩
theorem rdiff_fn (a : List UInt8) (b : List UInt8) (c : Int) (ha : a.length ≤ 100000) (hb : b.length ≤ 100000) : Ctr Try.prog 11 false [lst .byt a, lst .byt b, int .i64 c] (.ot 36 .spn (ofL a b c) [.c (i64 (ofE c))]) := by
  refine Ctr_intro (E := env_rdiff) Try.func11 rfl (by decide) rfl rfl (fun M0 W hM0 => ?_)
  refine G_run tOk eok_rdiff 60 (fun _ => none) (fun bs => rfl) (fun bs => ?_) (fun bs => ?_)
  · (repeat' apply And.intro) <;> (intros; first | exact trivial | exact rfl | omega | exact u8_lo _ | exact u8_hi _ | exact u8_in64 _ | exact u8_in63 _ | (simp only [inR, IntKind.bits]; omega) | (simp [inR, IntKind.bits]; done) | (simp [inR, IntKind.bits] at * <;> omega) | (simp_all; done) | skip)
  refine G_cond rfl rfl (fun h => ?_) (fun h => ?_)
  · refine G_run tOk eok_rdiff 60 (fun _ => none) (fun bs => rfl) (fun bs => ?_) (fun bs => ?_)
    · (repeat' apply And.intro) <;> (intros; first | exact trivial | exact rfl | omega | exact u8_lo _ | exact u8_hi _ | exact u8_in64 _ | exact u8_in63 _ | (simp only [inR, IntKind.bits]; omega) | (simp [inR, IntKind.bits]; done) | (simp [inR, IntKind.bits] at * <;> omega) | (simp_all; done) | skip)
    have he : ofE c = 1 := by simp at h; simp [ofE, h]
    exact G_ret tOk hM0 rfl rfl ⟨trivial, trivial, trivial⟩ ⟨(show ofL a b c = [] by simp [ofL, he]), ⟨rfl, he.symm⟩, trivial⟩
  have hc : 0 ≤ c ∧ c ≤ 6 := by simp at h; omega
  clear h
  have he : ofE c = 0 := by unfold ofE; rw [if_neg (by omega)]
  have hp := pow_c hc
  obtain ⟨n, hn⟩ : ∃ n : Int, 16 * 2 ^ c.toNat = n := ⟨_, rfl⟩
  have hn2 : 16 ≤ n ∧ n ≤ 1024 := by omega
  obtain ⟨cnt, hcnt⟩ : ∃ q : Int, (max (a.length : Int) b.length + n - 1) / n = q := ⟨_, rfl⟩
  have hcl := fun k => cnt_lt (M := max (a.length : Int) b.length) (n := n) (by omega) k
  rw [hcnt] at hcl
  have hc0 : 0 ≤ cnt := by rw [← hcnt]; exact Int.ediv_nonneg (by omega) (by omega)
  have hc1 : cnt ≤ 101024 := by
    rw [← hcnt]
    exact Int.le_trans (Int.ediv_le_self _ (by omega)) (by omega)
  refine G_run tOk eok_rdiff 60 (fun _ => none) (fun bs => rfl) (fun bs => ?_) (fun bs => ?_)
  · simp only [hn]
    (repeat' apply And.intro) <;> (intros; first | exact trivial | exact rfl | omega | exact u8_lo _ | exact u8_hi _ | exact u8_in64 _ | exact u8_in63 _ | (simp only [inR, IntKind.bits]; omega) | (simp [inR, IntKind.bits]; done) | (simp [inR, IntKind.bits] at * <;> omega) | (simp_all; done) | skip)
  refine G_own 9 36 rfl ?_
  refine G_loop (fun x : Nat × Value => [(0, lst .byt a), (1, lst .byt b), (8, int .i64 n), (9, .c (.own 0 x.2)), (10, int .i64 x.1)]) (fun x => [.own x.2 36 .spn (diffN a b n x.1)])
    (fun x => (x.1 : Int) ≤ cnt) (fun x => cnt.toNat - x.1) rfl [0] (0, ?v0) hc0 ?wk (fun x hx => ?_)
  case wk =>
    (repeat' apply And.intro) <;> (first | exact rfl | exact trivial | omega | refine sigEq ?_ | skip)
  obtain ⟨k, v⟩ := x
  simp only at hx
  have hkn0 : 0 ≤ (k : Int) * n := Int.mul_nonneg (by omega) (by omega)
  have hkn1 : (k : Int) * n ≤ 1100000 * 1024 := Int.mul_le_mul (by omega) (by omega) (by omega) (by omega)
  refine G_run tOk eok_rdiff 60 (fun _ => none) (fun bs => rfl) (fun bs => ?_) (fun bs => ?_)
  · (repeat' apply And.intro) <;> (intros; first | exact trivial | exact rfl | omega | exact u8_lo _ | exact u8_hi _ | exact u8_in64 _ | exact u8_in63 _ | (simp only [inR, IntKind.bits]; omega) | (simp [inR, IntKind.bits]; done) | (simp [inR, IntKind.bits] at * <;> omega) | (simp_all; done) | skip)
  refine G_if rfl rfl (fun hk => ?_) (fun hk => ?_)
  · have hkn : (k : Int) * n < max (a.length : Int) b.length := hk
    have hk' : (k : Int) < cnt := (hcl k).2 hkn
    have hlen := diffN_len a b n k
    obtain ⟨r1, r2⟩ := diffN_right a b n k (by omega)
    obtain ⟨e1, _⟩ := add_of _ k r1 r2 (by omega) (by omega)
    have hlen2 : (diffN a b n (k, v).1).length ≤ 1000000 := by simp only; omega
    refine G_run tOk eok_rdiff 60 (fun _ => none) (fun bs => rfl) (fun bs => ?_) (fun bs => ?_)
    · (repeat' apply And.intro) <;> (intros; first | exact trivial | exact rfl | omega | exact u8_lo _ | exact u8_hi _ | exact u8_in64 _ | exact u8_in63 _ | (simp only [inR, IntKind.bits]; omega) | (simp [inR, IntKind.bits]; done) | (simp [inR, IntKind.bits] at * <;> omega) | (simp_all; done) | skip)
    refine G_cond (b := !same a b n k) rfl rfl (fun h => ?_) (fun h => ?_)
    · have hs : same a b n k = false := by simpa using h
      refine G_run tOk eok_rdiff 60 (fun _ => none) (fun bs => rfl) (fun bs => ?_) (fun bs => ?_)
      · (repeat' apply And.intro) <;> (intros; first | exact trivial | exact rfl | omega | exact u8_lo _ | exact u8_hi _ | exact u8_in64 _ | exact u8_in63 _ | (simp only [inR, IntKind.bits]; omega) | (simp [inR, IntKind.bits]; done) | (simp [inR, IntKind.bits] at * <;> omega) | (simp_all; done) | skip)
      refine G_lp [1] (k + 1, ?v1) ?ok1 ?wk1
      case ok1 => exact ⟨by simp only; omega, by simp only; omega⟩
      case wk1 =>
        (repeat' apply And.intro) <;> (first | exact rfl | exact trivial | omega | refine sigEq ?_ | skip)
        simp only [diffN, hs]
        exact e1
    · have hs : same a b n k = true := by simpa using h
      refine G_run tOk eok_rdiff 60 (fun _ => none) (fun bs => rfl) (fun bs => ?_) (fun bs => ?_)
      · (repeat' apply And.intro) <;> (intros; first | exact trivial | exact rfl | omega | exact u8_lo _ | exact u8_hi _ | exact u8_in64 _ | exact u8_in63 _ | (simp only [inR, IntKind.bits]; omega) | (simp [inR, IntKind.bits]; done) | (simp [inR, IntKind.bits] at * <;> omega) | (simp_all; done) | skip)
      refine G_lp [0] (k + 1, ?v2) ?ok2 ?wk2
      case ok2 => exact ⟨by simp only; omega, by simp only; omega⟩
      case wk2 =>
        (repeat' apply And.intro) <;> (first | exact rfl | exact trivial | omega | refine sigEq ?_ | skip)
        simp only [diffN, hs]
  · have hk' : (k : Int) = cnt := by
      have : ¬ (k : Int) < cnt := fun h => hk ((hcl k).1 h)
      omega
    refine G_run tOk eok_rdiff 60 (fun _ => none) (fun bs => rfl) (fun bs => ?_) (fun bs => ?_)
    · (repeat' apply And.intro) <;> (intros; first | exact trivial | exact rfl | omega | exact u8_lo _ | exact u8_hi _ | exact u8_in64 _ | exact u8_in63 _ | (simp only [inR, IntKind.bits]; omega) | (simp [inR, IntKind.bits]; done) | (simp [inR, IntKind.bits] at * <;> omega) | (simp_all; done) | skip)
    refine G_ret tOk hM0 rfl rfl ⟨trivial, trivial, trivial⟩ ⟨⟨rfl, rfl, rfl, sigEq ?_⟩, ⟨rfl, he.symm⟩, trivial⟩
    simp only [ofL, he, if_true, hn, ofC, hcnt]
    rw [← hk', Int.toNat_natCast]

def rdiff_s : FSpec
  | [.c (.pv (.lst .byt a)), .c (.pv (.lst .byt b)), .c (.pv (.val (.int .i64 c)))] => some ((a.length ≤ 100000) ∧ (b.length ≤ 100000), false, .ot 36 .spn (ofL a b c) [.c (i64 (ofE c))])
  | _ => none
theorem rdiff_s_ok : SpecOk Try.prog 11 rdiff_s := by
  intro args pre sh rv h hp; unfold rdiff_s at h; split at h
  · cases h; obtain ⟨ha, hb⟩ := hp; exact rdiff_fn _ _ _ ha hb
  · cases h
def psi_rdiff : FuncId → Option FSpec := psiCons 11 rdiff_s psi_of
theorem psi_rdiff_ok : PsiFn Try.prog psi_rdiff := psiCons_ok rdiff_s_ok psi_of_ok
theorem sp_eq (x y : Span) : (decide (x.fr = y.fr) && (decide (x.to = y.to) && true)) = decide (x = y) := by
  cases x; cases y; simp
theorem take_eq {α : Type} {l m : List α} {i : Nat} (d : α) (h : l.take i = m.take i) (hl : i < l.length) (hm : i < m.length) : l.take (i + 1) = m.take (i + 1) ↔ l.getD i d = m.getD i d := by
  have e1 : l.getD i d = l[i] := by simp [List.getD, List.getElem?_eq_getElem hl]
  have e2 : m.getD i d = m[i] := by simp [List.getD, List.getElem?_eq_getElem hm]
  rw [List.take_succ_eq_append_getElem hl, List.take_succ_eq_append_getElem hm, h, e1, e2]
  constructor
  · intro h; simpa using List.append_cancel_left h
  · intro h; rw [h]

def env_spans : Env := ⟨T, psi_rdiff, pspNil, 26, []⟩
theorem eok_spans : PsiOk Try.prog env_spans := ⟨psi_rdiff_ok, pspNil_ok⟩
theorem spans_fn (l : List Span) (m : List Span) (hl : l.length ≤ 1000000000) (hm : m.length ≤ 1000000000) : Ctr Try.prog 12 false [lst .spn l, lst .spn m] (.x (.c (bv (decide (l = m))))) := by
  refine Ctr_intro (E := env_spans) Try.func12 rfl (by decide) rfl rfl (fun M0 W hM0 => ?_)
  refine G_run tOk eok_spans 60 (fun _ => none) (fun bs => rfl) (fun bs => ?_) (fun bs => ?_)
  · (repeat' apply And.intro) <;> (intros; first | exact trivial | exact rfl | omega | exact u8_lo _ | exact u8_hi _ | exact u8_in64 _ | exact u8_in63 _ | (simp only [inR, IntKind.bits]; omega) | (simp [inR, IntKind.bits]; done) | (simp [inR, IntKind.bits] at * <;> omega) | (simp_all; done) | skip)
  refine G_cond rfl rfl (fun h => ?_) (fun h => ?_)
  · refine G_run tOk eok_spans 60 (fun _ => none) (fun bs => rfl) (fun bs => ?_) (fun bs => ?_)
    · (repeat' apply And.intro) <;> (intros; first | exact trivial | exact rfl | omega | exact u8_lo _ | exact u8_hi _ | exact u8_in64 _ | exact u8_in63 _ | (simp only [inR, IntKind.bits]; omega) | (simp [inR, IntKind.bits]; done) | (simp [inR, IntKind.bits] at * <;> omega) | (simp_all; done) | skip)
    have hb : decide (l = m) = false := by simp; intro e; subst e; simp at h
    exact G_ret tOk hM0 rfl rfl ⟨trivial, trivial⟩ hb.symm
  have hlm : l.length = m.length := by simp at h; omega
  refine G_run tOk eok_spans 60 (fun _ => none) (fun bs => rfl) (fun bs => ?_) (fun bs => ?_)
  · (repeat' apply And.intro) <;> (intros; first | exact trivial | exact rfl | omega | exact u8_lo _ | exact u8_hi _ | exact u8_in64 _ | exact u8_in63 _ | (simp only [inR, IntKind.bits]; omega) | (simp [inR, IntKind.bits]; done) | (simp [inR, IntKind.bits] at * <;> omega) | (simp_all; done) | skip)
  refine G_loop (fun x : Nat => [(0, lst .spn l), (1, lst .spn m), (5, int .i64 x)]) (fun x => []) (fun x => x ≤ l.length ∧ l.take x = m.take x) (fun x => l.length - x) rfl [] 0 ⟨Nat.zero_le _, rfl⟩ ?wk (fun x hx => ?_)
  case wk => (repeat' apply And.intro) <;> (first | exact rfl | exact trivial | omega | refine sigEq ?_ | skip)
  obtain ⟨hx, hr⟩ := hx
  refine G_run tOk eok_spans 60 (fun _ => none) (fun bs => rfl) (fun bs => ?_) (fun bs => ?_)
  · (repeat' apply And.intro) <;> (intros; first | exact trivial | exact rfl | omega | exact u8_lo _ | exact u8_hi _ | exact u8_in64 _ | exact u8_in63 _ | (simp only [inR, IntKind.bits]; omega) | (simp [inR, IntKind.bits]; done) | (simp [inR, IntKind.bits] at * <;> omega) | (simp_all; done) | skip)
  refine G_if rfl rfl (fun hk => ?_) (fun hk => ?_)
  · have hk' : x < l.length := by omega
    have ht := take_eq (⟨0, 0⟩ : Span) hr hk' (by omega)
    refine G_run tOk eok_spans 60 (fun _ => none) (fun bs => rfl) (fun bs => ?_) (fun bs => ?_)
    · (repeat' apply And.intro) <;> (intros; first | exact trivial | exact rfl | omega | exact u8_lo _ | exact u8_hi _ | exact u8_in64 _ | exact u8_in63 _ | (simp only [inR, IntKind.bits]; omega) | (simp [inR, IntKind.bits]; done) | (simp [inR, IntKind.bits] at * <;> omega) | (simp_all; done) | skip)
    refine G_draw tOk eok_spans rfl (fun _ => none) 8 [0, 0, 3, 7, 0, 0, 48, 112, 255] [] rfl (by decide +kernel) (fun bs => rfl) (fun bs => ?_) (fun bs => ?_)
    · (repeat' apply And.intro) <;> (intros; first | exact trivial | exact rfl | omega | exact u8_lo _ | exact u8_hi _ | exact u8_in64 _ | exact u8_in63 _ | (simp only [inR, IntKind.bits]; omega) | (simp [inR, IntKind.bits]; done) | (simp [inR, IntKind.bits] at * <;> omega) | (simp_all; done) | skip)
    refine G_run tOk eok_spans 60 (fun _ => none) (fun bs => rfl) (fun bs => by (repeat' apply And.intro) <;> (intros; first | exact trivial | exact rfl | omega | exact u8_lo _ | exact u8_hi _ | exact u8_in64 _ | exact u8_in63 _ | (simp only [inR, IntKind.bits]; omega) | (simp [inR, IntKind.bits]; done) | (simp [inR, IntKind.bits] at * <;> omega) | (simp_all; done) | skip)) (fun bs => ?_)
    refine G_cond (b := !decide (l.getD x ⟨0, 0⟩ = m.getD x ⟨0, 0⟩)) rfl (by rw [← sp_eq]; rfl) (fun h => ?_) (fun h => ?_)
    · refine G_run tOk eok_spans 60 (fun _ => none) (fun bs => rfl) (fun bs => ?_) (fun bs => ?_)
      · (repeat' apply And.intro) <;> (intros; first | exact trivial | exact rfl | omega | exact u8_lo _ | exact u8_hi _ | exact u8_in64 _ | exact u8_in63 _ | (simp only [inR, IntKind.bits]; omega) | (simp [inR, IntKind.bits]; done) | (simp [inR, IntKind.bits] at * <;> omega) | (simp_all; done) | skip)
      have hb : decide (l = m) = false := by
        simp only [Bool.not_eq_true', decide_eq_false_iff_not] at h ⊢
        rintro rfl; exact h rfl
      exact G_ret tOk hM0 rfl rfl ⟨trivial, trivial⟩ hb.symm
    · refine G_run tOk eok_spans 60 (fun _ => none) (fun bs => rfl) (fun bs => ?_) (fun bs => ?_)
      · (repeat' apply And.intro) <;> (intros; first | exact trivial | exact rfl | omega | exact u8_lo _ | exact u8_hi _ | exact u8_in64 _ | exact u8_in63 _ | (simp only [inR, IntKind.bits]; omega) | (simp [inR, IntKind.bits]; done) | (simp [inR, IntKind.bits] at * <;> omega) | (simp_all; done) | skip)
      refine G_lp [] (x + 1) ?ok ?wk2
      case ok =>
        refine ⟨⟨hk', ht.2 ?_⟩, by omega⟩
        simpa only [Bool.not_eq_false', decide_eq_true_eq] using h
      case wk2 => (repeat' apply And.intro) <;> (first | exact rfl | exact trivial | omega | refine sigEq ?_ | skip)
  · have hk' : x = l.length := by omega
    subst hk'
    refine G_run tOk eok_spans 60 (fun _ => none) (fun bs => rfl) (fun bs => ?_) (fun bs => ?_)
    · (repeat' apply And.intro) <;> (intros; first | exact trivial | exact rfl | omega | exact u8_lo _ | exact u8_hi _ | exact u8_in64 _ | exact u8_in63 _ | (simp only [inR, IntKind.bits]; omega) | (simp [inR, IntKind.bits]; done) | (simp [inR, IntKind.bits] at * <;> omega) | (simp_all; done) | skip)
    have hb : decide (l = m) = true := by
      simp only [decide_eq_true_eq]
      rw [List.take_length, hlm, List.take_length] at hr; exact hr
    exact G_ret tOk hM0 rfl rfl ⟨trivial, trivial⟩ hb.symm

def spans_s : FSpec
  | [.c (.pv (.lst .spn l)), .c (.pv (.lst .spn m))] => some ((l.length ≤ 1000000000) ∧ (m.length ≤ 1000000000), false, .x (.c (bv (decide (l = m)))))
  | _ => none
theorem spans_s_ok : SpecOk Try.prog 12 spans_s := by
  intro args pre sh rv h hp; unfold spans_s at h; split at h
  · cases h; obtain ⟨hl, hm⟩ := hp; exact spans_fn _ _ hl hm
  · cases h
def psi_spans : FuncId → Option FSpec := psiCons 12 spans_s psi_rdiff
theorem psi_spans_ok : PsiFn Try.prog psi_spans := psiCons_ok spans_s_ok psi_rdiff_ok
def env_awake : Env := ⟨T, psi_spans, pspNil, 26, []⟩
theorem eok_awake : PsiOk Try.prog env_awake := ⟨psi_spans_ok, pspNil_ok⟩
theorem awake_fn   : Ctr Try.prog 9 false [] (.x (.c (bv true))) := by
  refine Ctr_intro (E := env_awake) Try.func9 rfl (by decide) rfl rfl (fun M0 W hM0 => ?_)
  refine G_run tOk eok_awake 60 (fun _ => some true) (fun bs => rfl) (fun bs => ?_) (fun bs => ?_)
  · (repeat' apply And.intro) <;> (intros; first | exact trivial | exact rfl | decide +kernel | (simp [inR]; done))
  refine G_ret tOk hM0 rfl rfl ?_ ?_
  · (repeat' apply And.intro) <;> (intros; first | exact trivial | exact rfl | decide +kernel)
  · conv => whnf
    decide +kernel

def awake_s : FSpec
  | [] => some (True, false, .x (.c (bv true)))
  | _ => none
theorem awake_s_ok : SpecOk Try.prog 9 awake_s := by
  intro args pre sh rv h hp; unfold awake_s at h; split at h
  · cases h; exact awake_fn  
  · cases h
def psi_awake : FuncId → Option FSpec := psiCons 9 awake_s psi_spans
theorem psi_awake_ok : PsiFn Try.prog psi_awake := psiCons_ok awake_s_ok psi_spans_ok
def env_fofs : Env := ⟨T, psi_awake, pspNil, 46, []⟩
theorem eok_fofs : PsiOk Try.prog env_fofs := ⟨psi_awake_ok, pspNil_ok⟩
theorem fofs_fn (a : List UInt8) (b : List UInt8) (c : Int)  : Ctr Try.prog 3 false [lst .byt a, lst .byt b, int .i64 c] (.x (.c (bv true))) := by
  refine Ctr_intro (E := env_fofs) Try.func3 rfl (by decide) rfl rfl (fun M0 W hM0 => ?_)
  refine G_run tOk eok_fofs 60 (fun _ => none) (fun bs => rfl) (fun bs => ?_) (fun bs => ?_)
  · (repeat' apply And.intro) <;> (intros; first | exact trivial | exact rfl | omega | exact u8_lo _ | exact u8_hi _ | exact u8_in64 _ | exact u8_in63 _ | (simp only [inR, IntKind.bits]; omega) | (simp [inR, IntKind.bits]; done) | (simp [inR, IntKind.bits] at * <;> omega) | (simp_all; done) | skip)
  refine G_cond rfl rfl (fun h => ?_) (fun h => ?_)
  · refine G_run tOk eok_fofs 60 (fun _ => none) (fun bs => rfl) (fun bs => ?_) (fun bs => ?_)
    · (repeat' apply And.intro) <;> (intros; first | exact trivial | exact rfl | omega | exact u8_lo _ | exact u8_hi _ | exact u8_in64 _ | exact u8_in63 _ | (simp only [inR, IntKind.bits]; omega) | (simp [inR, IntKind.bits]; done) | (simp [inR, IntKind.bits] at * <;> omega) | (simp_all; done) | skip)
    exact G_ret tOk hM0 rfl rfl ⟨trivial, trivial⟩ rfl
  have hl2 : a.length ≤ 20000 ∧ b.length ≤ 20000 := by simp at h; omega
  have hol := ofL_len a b c (by omega) (by omega)
  refine G_run tOk eok_fofs 60 (fun _ => some true) (fun bs => rfl) (fun bs => ?_) (fun bs => ?_)
  · (repeat' apply And.intro) <;> (intros; first | exact trivial | exact rfl | omega | exact u8_lo _ | exact u8_hi _ | exact u8_in64 _ | exact u8_in63 _ | (simp only [inR, IntKind.bits]; omega) | (simp [inR, IntKind.bits]; done) | (simp [inR, IntKind.bits] at * <;> omega) | (simp_all; done) | skip)
  refine G_ret tOk hM0 rfl rfl ⟨trivial, trivial⟩ ?_
  conv => whnf
  simp

def fofs_s : FSpec
  | [.c (.pv (.lst .byt a)), .c (.pv (.lst .byt b)), .c (.pv (.val (.int .i64 c)))] => some (True, false, .x (.c (bv true)))
  | _ => none
theorem fofs_s_ok : SpecOk Try.prog 3 fofs_s := by
  intro args pre sh rv h hp; unfold fofs_s at h; split at h
  · cases h; exact fofs_fn _ _ _ 
  · cases h
def psi_fofs : FuncId → Option FSpec := psiCons 3 fofs_s psi_awake
theorem psi_fofs_ok : PsiFn Try.prog psi_fofs := psiCons_ok fofs_s_ok psi_awake_ok
theorem same_comm (a b : List UInt8) (n : Int) (k : Nat) : same a b n k = same b a n k := by
  simp only [same]; apply decide_eq_decide.2; exact eq_comm
theorem diffN_comm (a b : List UInt8) (n : Int) (k : Nat) : diffN a b n k = diffN b a n k := by
  induction k with
  | zero => rfl
  | succ k ih => simp only [diffN, ih, same_comm a b n k]
theorem ofL_comm (a b : List UInt8) (c : Int) : ofL a b c = ofL b a c := by
  simp only [ofL, ofC, diffN_comm a b, Int.max_comm (a.length : Int)]

def env_fturns : Env := ⟨T, psi_fofs, pspNil, 54, []⟩
theorem eok_fturns : PsiOk Try.prog env_fturns := ⟨psi_fofs_ok, pspNil_ok⟩
theorem fturns_fn (a : List UInt8) (b : List UInt8) (c : Int) (hc : inR .u8 c) : Ctr Try.prog 4 false [lst .byt a, lst .byt b, int .u8 c] (.x (.c (bv true))) := by
  refine Ctr_intro (E := env_fturns) Try.func4 rfl (by decide) rfl rfl (fun M0 W hM0 => ?_)
  simp only [inR] at hc
  refine G_run tOk eok_fturns 60 (fun _ => none) (fun bs => rfl) (fun bs => ?_) (fun bs => ?_)
  · (repeat' apply And.intro) <;> (intros; first | exact trivial | exact rfl | omega | exact u8_lo _ | exact u8_hi _ | exact u8_in64 _ | exact u8_in63 _ | (simp only [inR, IntKind.bits]; omega) | (simp [inR, IntKind.bits]; done) | (simp [inR, IntKind.bits] at * <;> omega) | (simp_all; done) | skip)
  refine G_cond rfl rfl (fun h => ?_) (fun h => ?_)
  · refine G_run tOk eok_fturns 60 (fun _ => none) (fun bs => rfl) (fun bs => ?_) (fun bs => ?_)
    · (repeat' apply And.intro) <;> (intros; first | exact trivial | exact rfl | omega | exact u8_lo _ | exact u8_hi _ | exact u8_in64 _ | exact u8_in63 _ | (simp only [inR, IntKind.bits]; omega) | (simp [inR, IntKind.bits]; done) | (simp [inR, IntKind.bits] at * <;> omega) | (simp_all; done) | skip)
    exact G_ret tOk hM0 rfl rfl ⟨trivial, trivial⟩ rfl
  have hl2 : a.length ≤ 20000 ∧ b.length ≤ 20000 := by simp at h; omega
  have hol := ofL_len a b (c % 7) (by omega) (by omega)
  have hol2 := ofL_len b a (c % 7) (by omega) (by omega)
  have hE : ofE (c % 7) = 0 := by unfold ofE; rw [if_neg (by omega)]
  refine G_run tOk eok_fturns 60 (fun _ => some true) (fun bs => rfl) (fun bs => ?_) (fun bs => ?_)
  · simp only [hE, ofL_comm b a]
    (repeat' apply And.intro) <;> (intros; first | exact trivial | exact rfl | omega | exact u8_lo _ | exact u8_hi _ | exact u8_in64 _ | exact u8_in63 _ | (simp only [inR, IntKind.bits]; omega) | (simp [inR, IntKind.bits]; done) | (simp [inR, IntKind.bits] at * <;> omega) | (simp_all; done) | skip)
  refine G_ret tOk hM0 rfl rfl ⟨trivial, trivial⟩ ?_
  conv => whnf
  simp [hE, ofL_comm b a]
def fturns_s : FSpec
  | [.c (.pv (.lst .byt a)), .c (.pv (.lst .byt b)), .c (.pv (.val (.int .u8 c)))] => some ((inR .u8 c), false, .x (.c (bv true)))
  | _ => none
theorem fturns_s_ok : SpecOk Try.prog 4 fturns_s := by
  intro args pre sh rv h hp; unfold fturns_s at h; split at h
  · cases h; have hc := hp; exact fturns_fn _ _ _ hc
  · cases h
def psi_fturns : FuncId → Option FSpec := psiCons 4 fturns_s psi_fofs
theorem psi_fturns_ok : PsiFn Try.prog psi_fturns := psiCons_ok fturns_s_ok psi_fofs_ok
end Go.Proofs.Ytekaapofigocnaa
