import Derived.Test.YtgobmfkffhomaaaSpnF
set_option linter.unusedSimpArgs false
set_option linter.unusedVariables false
namespace Go.Proofs.Ytgobmfkffhomaaa
open Go.Mt

def env_it : Env := ⟨T, psi_sRight, pspNil, pscNil, 19, [], some 0, false⟩
theorem eok_it : PsiOk Try.prog env_it := ⟨psi_sRight_ok, pspNil_ok, pscNil_ok⟩
theorem all_it : ItOk Try.prog 63 rightL := by
  refine It_intro (E := env_it) Try.func63 (by decide) rfl rfl rfl rfl rfl (fun args w => ?_) (fun M l lid J Jx w hl hJ hJx h0 hy => ?_)
  · simp [callFunc, Try.func63, Try.f63]
  refine G_run tOk eok_it 60 (fun _ => none) (fun bs => rfl) (fun bs => ?_) (fun bs => ?_)
  · (repeat' apply And.intro) <;> (intros; first | exact trivial | exact rfl | omega | exact u8_lo _ | exact u8_hi _ | exact u8_in64 _ | exact u8_in63 _ | (simp only [inR, IntKind.bits]; omega) | (simp [inR, IntKind.bits]; done) | (simp [inR, IntKind.bits] at * <;> omega) | (simp_all; done) | (with_reducible assumption) | skip)
  refine G_cond rfl rfl (fun h => ?_) (fun h => ?_)
  · have hb : rightB l = false := by simpa using h
    have e : (rightL l).length = 0 := by simp [rightL, hb]
    refine G_run tOk eok_it 60 (fun _ => none) (fun bs => rfl) (fun bs => ?_) (fun bs => ?_)
    · (repeat' apply And.intro) <;> (intros; first | exact trivial | exact rfl | omega | exact u8_lo _ | exact u8_hi _ | exact u8_in64 _ | exact u8_in63 _ | (simp only [inR, IntKind.bits]; omega) | (simp [inR, IntKind.bits]; done) | (simp [inR, IntKind.bits] at * <;> omega) | (simp_all; done) | (with_reducible assumption) | skip)
    exact G_itret rfl hJ hJx rfl (.inl (by rw [e]; exact h0))
  have hb : rightB l = true := by simpa using h
  have hrl : rightL l = l := by simp [rightL, hb]
  rw [hrl] at hy ⊢
  clear h
  refine G_run tOk eok_it 60 (fun _ => none) (fun bs => rfl) (fun bs => ?_) (fun bs => ?_)
  · (repeat' apply And.intro) <;> (intros; first | exact trivial | exact rfl | omega | exact u8_lo _ | exact u8_hi _ | exact u8_in64 _ | exact u8_in63 _ | (simp only [inR, IntKind.bits]; omega) | (simp [inR, IntKind.bits]; done) | (simp [inR, IntKind.bits] at * <;> omega) | (simp_all; done) | (with_reducible assumption) | skip)
  refine G_itloop (J := J) (n := l.length) rfl hJ (fun i => [(0, pv (.val (.func (.yield lid) #[] #[]))), (8, lst .spn l), (9, int .i64 l.length), (10, int .i64 i)]) rfl h0 ?wk (fun i w' M' hi hJi => ?_)
  case wk => (repeat' apply And.intro) <;> (first | exact rfl | exact trivial | omega | refine sigEq ?_ | skip)
  refine G_run tOk eok_it 60 (fun _ => none) (fun bs => rfl) (fun bs => ?_) (fun bs => ?_)
  · (repeat' apply And.intro) <;> (intros; first | exact trivial | exact rfl | omega | exact u8_lo _ | exact u8_hi _ | exact u8_in64 _ | exact u8_in63 _ | (simp only [inR, IntKind.bits]; omega) | (simp [inR, IntKind.bits]; done) | (simp [inR, IntKind.bits] at * <;> omega) | (simp_all; done) | (with_reducible assumption) | skip)
  refine G_if rfl rfl (fun hk => ?_) (fun hk => ?_)
  · have hk' : i < l.length := by omega
    have hg : l[i]? = some (l.getD i ⟨0, 0⟩) := by simp [List.getD, List.getElem?_eq_getElem hk']
    refine G_run tOk eok_it 60 (fun _ => none) (fun bs => rfl) (fun bs => ?_) (fun bs => ?_)
    · (repeat' apply And.intro) <;> (intros; first | exact trivial | exact rfl | omega | exact u8_lo _ | exact u8_hi _ | exact u8_in64 _ | exact u8_in63 _ | (simp only [inR, IntKind.bits]; omega) | (simp [inR, IntKind.bits]; done) | (simp [inR, IntKind.bits] at * <;> omega) | (simp_all; done) | (with_reducible assumption) | skip)
    refine G_yield (i := i) (y := l.getD i ⟨0, 0⟩) rfl rfl hJ rfl rfl rfl hJi (hy i _ hg) (fun b => rfl) (fun W2 M2 h2 => ?_) (fun W2 M2 h2 => ?_)
    · refine G_run tOk eok_it 60 (fun _ => none) (fun bs => rfl) (fun bs => ?_) (fun bs => ?_)
      · (repeat' apply And.intro) <;> (intros; first | exact trivial | exact rfl | omega | exact u8_lo _ | exact u8_hi _ | exact u8_in64 _ | exact u8_in63 _ | (simp only [inR, IntKind.bits]; omega) | (simp [inR, IntKind.bits]; done) | (simp [inR, IntKind.bits] at * <;> omega) | (simp_all; done) | (with_reducible assumption) | skip)
      refine G_els rfl rfl rfl ?_
      refine G_run tOk eok_it 60 (fun _ => none) (fun bs => rfl) (fun bs => ?_) (fun bs => ?_)
      · (repeat' apply And.intro) <;> (intros; first | exact trivial | exact rfl | omega | exact u8_lo _ | exact u8_hi _ | exact u8_in64 _ | exact u8_in63 _ | (simp only [inR, IntKind.bits]; omega) | (simp [inR, IntKind.bits]; done) | (simp [inR, IntKind.bits] at * <;> omega) | (simp_all; done) | (with_reducible assumption) | skip)
      refine G_itlp rfl hJ hk' h2 ?wk2
      case wk2 => (repeat' apply And.intro) <;> (first | exact rfl | exact trivial | omega | refine sigEq ?_ | skip)
    · refine G_run tOk eok_it 60 (fun _ => none) (fun bs => rfl) (fun bs => ?_) (fun bs => ?_)
      · (repeat' apply And.intro) <;> (intros; first | exact trivial | exact rfl | omega | exact u8_lo _ | exact u8_hi _ | exact u8_in64 _ | exact u8_in63 _ | (simp only [inR, IntKind.bits]; omega) | (simp [inR, IntKind.bits]; done) | (simp [inR, IntKind.bits] at * <;> omega) | (simp_all; done) | (with_reducible assumption) | skip)
      refine G_thn rfl rfl rfl ?_
      refine G_run tOk eok_it 60 (fun _ => none) (fun bs => rfl) (fun bs => ?_) (fun bs => ?_)
      · (repeat' apply And.intro) <;> (intros; first | exact trivial | exact rfl | omega | exact u8_lo _ | exact u8_hi _ | exact u8_in64 _ | exact u8_in63 _ | (simp only [inR, IntKind.bits]; omega) | (simp [inR, IntKind.bits]; done) | (simp [inR, IntKind.bits] at * <;> omega) | (simp_all; done) | (with_reducible assumption) | skip)
      exact G_itret rfl hJ hJx rfl (.inr ⟨i + 1, hk', h2⟩)
  · have hk' : i = l.length := by omega
    subst hk'
    refine G_run tOk eok_it 60 (fun _ => none) (fun bs => rfl) (fun bs => ?_) (fun bs => ?_)
    · (repeat' apply And.intro) <;> (intros; first | exact trivial | exact rfl | omega | exact u8_lo _ | exact u8_hi _ | exact u8_in64 _ | exact u8_in63 _ | (simp only [inR, IntKind.bits]; omega) | (simp [inR, IntKind.bits]; done) | (simp [inR, IntKind.bits] at * <;> omega) | (simp_all; done) | (with_reducible assumption) | skip)
    exact G_itend rfl hJ hJx (.inl hJi)

def env_sall : Env := ⟨T, psi_sRight, pspNil, pscNil, 4, [], none, true⟩
theorem eok_sall : PsiOk Try.prog env_sall := ⟨psi_sRight_ok, pspNil_ok, pscNil_ok⟩
theorem sall_fn (l : List Span)  : Ctr Try.prog 54 true [lst .spn l] (.x (.cl 63 [.lst .spn l])) := by
  refine Ctr_intro (E := env_sall) Try.func54 rfl (by decide) rfl rfl (fun M0 W hM0 => ?_)
  refine G_run tOk eok_sall 60 (fun _ => none) (fun bs => rfl) (fun bs => ?_) (fun bs => ?_)
  · (repeat' apply And.intro) <;> (intros; first | exact trivial | exact rfl | omega | exact u8_lo _ | exact u8_hi _ | exact u8_in64 _ | exact u8_in63 _ | (simp only [inR, IntKind.bits]; omega) | (simp [inR, IntKind.bits]; done) | (simp [inR, IntKind.bits] at * <;> omega) | (simp_all; done) | (with_reducible assumption) | skip)
  refine G_freezeB 2 0 (ys := [.lst .spn l]) rfl rfl ?_
  exact G_ret tOk hM0 rfl rfl ⟨trivial, trivial⟩ ⟨rfl, rfl, rfl⟩
def sall_s : FSpec
  | [.c (.pv (.lst .spn l))] => some (True, true, .x (.cl 63 [.lst .spn l]))
  | _ => none
theorem sall_s_ok : SpecOk Try.prog 54 sall_s := by
  intro args pre sh rv h hp; unfold sall_s at h; split at h
  · cases h; exact sall_fn _ 
  · cases h
def psi_sall : FuncId → Option FSpec := psiCons 54 sall_s psi_sRight
theorem psi_sall_ok : PsiFn Try.prog psi_sall := psiCons_ok sall_s_ok psi_sRight_ok
end Go.Proofs.Ytgobmfkffhomaaa
