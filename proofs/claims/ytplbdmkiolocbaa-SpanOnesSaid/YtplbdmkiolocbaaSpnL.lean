import Derived.Test.YtplbdmkiolocbaaSpnE
import Derived.Test.YtplbdmkiolocbaaMtQ4
set_option linter.unusedSimpArgs false
set_option linter.unusedVariables false
namespace Go.Proofs.Ytplbdmkiolocbaa
open Go.Mt

theorem G_nx {P : Program} {E : Env} {B : Nat} {W : World} {M0 : Mem} {Q : Exit → Act → World → Prop} {k : List Itm} {st : St} (n : Nat) (h : st.nx = n) (hk : G P E B W M0 Q k ⟨st.f, st.H, n⟩) : G P E B W M0 Q k st := by
  subst h; exact hk
theorem splL_len (a n c : Int) : (splL a n c).length ≤ 4096 := by
  unfold splL
  split
  · rename_i h
    unfold splE at h
    split at h
    · omega
    have := splitF_len (w := 2 ^ c.toNat) (by have := pow_c (c := c) (by omega); omega) n.toNat a n
    omega
  · simp
theorem splE_in (a n c : Int) : 0 ≤ splE a n c ∧ splE a n c ≤ 1 := by unfold splE; split <;> omega

def env_fsplits : Env := ⟨T, psi_awake, pspNil, 37, [], none, true⟩
theorem eok_fsplits : PsiOk Try.prog env_fsplits := ⟨psi_awake_ok, pspNil_ok⟩
theorem fsplits_fn (a : Int) (n : Int) (c : Int)  : Ctr Try.prog 3 false [int .i64 a, int .i64 n, int .i64 c] (.x (.c (bv true))) := by
  refine Ctr_intro (E := env_fsplits) Try.func3 rfl (by decide) rfl rfl (fun M0 W hM0 => ?_)
  have hl := splL_len a n c
  have he := splE_in a n c
  refine G_run tOk eok_fsplits 60 (fun _ => some true) (fun bs => rfl) (fun bs => ?_) (fun bs => ?_)
  · (repeat' apply And.intro) <;> (intros; first | exact trivial | exact rfl | omega | exact u8_lo _ | exact u8_hi _ | exact u8_in64 _ | exact u8_in63 _ | (simp only [inR, IntKind.bits]; omega) | (simp [inR, IntKind.bits]; done) | (simp [inR, IntKind.bits] at * <;> omega) | (simp_all; done) | skip)
  refine G_ret tOk hM0 rfl rfl ⟨trivial, trivial⟩ ?_
  conv => whnf
  simp

def fsplits_s : FSpec
  | [.c (.pv (.val (.int .i64 a))), .c (.pv (.val (.int .i64 n))), .c (.pv (.val (.int .i64 c)))] => some (True, false, .x (.c (bv true)))
  | _ => none
theorem fsplits_s_ok : SpecOk Try.prog 3 fsplits_s := by
  intro args pre sh rv h hp; unfold fsplits_s at h; split at h
  · cases h; exact fsplits_fn _ _ _ 
  · cases h
def psi_fsplits : FuncId → Option FSpec := psiCons 3 fsplits_s psi_awake
theorem psi_fsplits_ok : PsiFn Try.prog psi_fsplits := psiCons_ok fsplits_s_ok psi_awake_ok
theorem addN_len (l : List Span) (s : Span) : ∀ k, (addN l s k).2.1.length ≤ 2 * k := by
  intro k
  induction k with
  | zero => simp [addN]
  | succ k ih =>
    simp only [addN]
    unfold addStep
    split
    · simp; omega
    · split
      · split <;> simp <;> omega
      · simp; omega
theorem addL_len (l : List Span) (s : Span) : (addL l s).length ≤ 2 * l.length + 1 := by
  have hr : (rightL l).length ≤ l.length := by unfold rightL; split <;> simp
  unfold addL
  split
  · have := addN_len (rightL l) s (rightL l).length
    split <;> (rename_i h; rw [h] at this; dsimp only at this)
    · omega
    · simp; omega
  · omega
theorem subL_len (l : List Span) (s : Span) : (subL l s).length ≤ 2 * l.length := by
  have hr : (rightL l).length ≤ l.length := by unfold rightL; split <;> simp
  have hf : ∀ m : List Span, (m.flatMap (subX s)).length ≤ 2 * m.length := by
    intro m
    induction m with
    | nil => simp
    | cons x t ih => rw [List.flatMap_cons, List.length_append, List.length_cons]; have := subX_len s x; omega
  unfold subL
  split
  · have := hf (rightL l); omega
  · omega

def env_fsets : Env := ⟨T, psi_fsplits, pspNil, 64, [], none, true⟩
theorem eok_fsets : PsiOk Try.prog env_fsets := ⟨psi_fsplits_ok, pspNil_ok⟩
theorem fsets_fn (l : List Span) (s0 : Int) (s1 : Int) (n : Int)  : Ctr Try.prog 6 false [lst .spn l, .g [.pv (.val (.int .i64 s0)), .pv (.val (.int .i64 s1))], int .i64 n] (.x (.c (bv true))) := by
  refine Ctr_intro (E := env_fsets) Try.func6 rfl (by decide) rfl rfl (fun M0 W hM0 => ?_)
  refine G_run tOk eok_fsets 60 (fun _ => none) (fun bs => rfl) (fun bs => ?_) (fun bs => ?_)
  · (repeat' apply And.intro) <;> (intros; first | exact trivial | exact rfl | omega | exact u8_lo _ | exact u8_hi _ | exact u8_in64 _ | exact u8_in63 _ | (simp only [inR, IntKind.bits]; omega) | (simp [inR, IntKind.bits]; done) | (simp [inR, IntKind.bits] at * <;> omega) | (simp_all; done) | skip)
  refine G_cond rfl rfl (fun h => ?_) (fun h => ?_)
  · refine G_run tOk eok_fsets 60 (fun _ => none) (fun bs => rfl) (fun bs => ?_) (fun bs => ?_)
    · (repeat' apply And.intro) <;> (intros; first | exact trivial | exact rfl | omega | exact u8_lo _ | exact u8_hi _ | exact u8_in64 _ | exact u8_in63 _ | (simp only [inR, IntKind.bits]; omega) | (simp [inR, IntKind.bits]; done) | (simp [inR, IntKind.bits] at * <;> omega) | (simp_all; done) | skip)
    exact G_ret tOk hM0 rfl rfl ⟨trivial, trivial⟩ rfl
  have hl : l.length ≤ 500 := by simp at h; omega
  have h1 := addL_len l ⟨s0, s1⟩
  have h2 := subL_len l ⟨s0, s1⟩
  refine G_run tOk eok_fsets 60 (fun _ => none) (fun bs => rfl) (fun bs => ?_) (fun bs => ?_)
  · (repeat' apply And.intro) <;> (intros; first | exact trivial | exact rfl | omega | exact u8_lo _ | exact u8_hi _ | exact u8_in64 _ | exact u8_in63 _ | (simp only [inR, IntKind.bits]; omega) | (simp [inR, IntKind.bits]; done) | (simp [inR, IntKind.bits] at * <;> omega) | (simp_all; done) | skip)
  refine G_freeze 2 [7] rfl ⟨rfl, trivial⟩ ?_
  refine G_nx 3 rfl ?_
  refine G_draw tOk eok_fsets rfl (fun _ => some true) 36 [0, 1, 0, 7, 15, 31, 63, 63, 255, 63, 63, 2047, 4095, 8191, 16383, 32767, 32767, 131071, 32767, 32767, 1048575, 2097151, 4194303, 8388607, 16777215, 16777215, 67108863, 16777215, 16777215, 536870911, 1073741823, 2147483647, 4294967295, 8589934591, 17179869183, 8589934591, 68719476735, 137438953471, 274877906943, 549755813887] [] rfl (by decide +kernel) (fun bs => rfl) (fun bs => ?_) (fun bs => ?_)
  · (repeat' apply And.intro) <;> (intros; first | exact trivial | exact rfl | omega | (simp; done) | skip)
  refine G_run tOk eok_fsets 60 (fun _ => some true) (fun bs => rfl) (fun bs => ?_) (fun bs => ?_)
  · (repeat' apply And.intro) <;> (intros; first | exact trivial | exact rfl | omega | exact u8_lo _ | exact u8_hi _ | exact u8_in64 _ | exact u8_in63 _ | (simp only [inR, IntKind.bits]; omega) | (simp [inR, IntKind.bits]; done) | (simp [inR, IntKind.bits] at * <;> omega) | (simp_all; done) | skip)
  refine G_ret tOk hM0 rfl rfl ⟨trivial, trivial⟩ ?_
  conv => whnf
  simp
def fsets_s : FSpec
  | [.c (.pv (.lst .spn l)), .g [.pv (.val (.int .i64 s0)), .pv (.val (.int .i64 s1))], .c (.pv (.val (.int .i64 n)))] => some (True, false, .x (.c (bv true)))
  | _ => none
theorem fsets_s_ok : SpecOk Try.prog 6 fsets_s := by
  intro args pre sh rv h hp; unfold fsets_s at h; split at h
  · cases h; exact fsets_fn _ _ _ _ 
  · cases h
def psi_fsets : FuncId → Option FSpec := psiCons 6 fsets_s psi_fsplits
theorem psi_fsets_ok : PsiFn Try.prog psi_fsets := psiCons_ok fsets_s_ok psi_fsplits_ok
end Go.Proofs.Ytplbdmkiolocbaa
