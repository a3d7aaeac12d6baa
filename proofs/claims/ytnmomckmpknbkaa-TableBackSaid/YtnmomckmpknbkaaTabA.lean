import Derived.Test.YtnmomckmpknbkaaEntD
import Derived.Test.YtnmomckmpknbkaaMtQ4
set_option linter.unusedSimpArgs false
set_option linter.unusedVariables false
namespace Go.Proofs.Ytnmomckmpknbkaa
open Go.Mt

def env_num : Env := ⟨T, psi_reget, pspNil, 4, [], none, true⟩
theorem eok_num : PsiOk Try.prog env_num := ⟨psi_reget_ok, pspNil_ok⟩
theorem num_fn (n : Int)  : Ctr Try.prog 27 false [int .i64 n] (.x (.c (i64 n))) := by
  refine Ctr_intro (E := env_num) Try.func27 rfl (by decide) rfl rfl (fun M0 W hM0 => ?_)
  refine G_run tOk eok_num 60 (fun _ => none) (fun bs => rfl) (fun bs => ?_) (fun bs => ?_)
  · (repeat' apply And.intro) <;> (intros; first | exact trivial | exact rfl | omega | exact u8_lo _ | exact u8_hi _ | exact u8_in64 _ | exact u8_in63 _ | (simp only [inR, IntKind.bits]; omega) | (simp [inR, IntKind.bits]; done) | (simp [inR, IntKind.bits] at * <;> omega) | (simp_all; done) | skip)
  exact G_ret tOk hM0 rfl rfl ⟨trivial, trivial⟩ ⟨rfl, rfl⟩

def num_s : FSpec
  | [.c (.pv (.val (.int .i64 n)))] => some (True, false, .x (.c (i64 n)))
  | _ => none
theorem num_s_ok : SpecOk Try.prog 27 num_s := by
  intro args pre sh rv h hp; unfold num_s at h; split at h
  · cases h; exact num_fn _ 
  · cases h
def psi_num : FuncId → Option FSpec := psiCons 27 num_s psi_reget
theorem psi_num_ok : PsiFn Try.prog psi_num := psiCons_ok num_s_ok psi_reget_ok
def leaf (t : List (List Entry)) (i : Nat) : List Entry := t.getD i []
def gN (t : List (List Entry)) : Nat → Int
  | 0 => 0
  | k + 1 => gN t k + 1 + min ((leaf t k).length : Int) 6000
theorem gN_mono (t : List (List Entry)) : ∀ j k, j ≤ k → gN t j + (k - j) ≤ gN t k := by
  intro j k
  induction k with
  | zero => intro h; have : j = 0 := by omega
            subst this; simp
  | succ k ih =>
    intro h
    by_cases hj : j = k + 1
    · subst hj; simp
    · have := ih (by omega); simp only [gN]; omega
def greatB (t : List (List Entry)) : Bool := decide (6000 < gN t t.length)
theorem great_len {t : List (List Entry)} (h : greatB t = false) : t.length ≤ 6000 ∧ ∀ i, (leaf t i).length ≤ 6000 := by
  have h' : ¬ 6000 < gN t t.length := of_decide_eq_false h
  have h0 := gN_mono t 0 t.length (Nat.zero_le _)
  refine ⟨by simp only [gN] at h0; omega, fun i => ?_⟩
  by_cases hi : i < t.length
  · have h1 := gN_mono t (i + 1) t.length hi
    have h2 := gN_mono t 0 i (Nat.zero_le _)
    simp only [gN] at h1 h2
    omega
  · have : leaf t i = [] := by simp [leaf, List.getD, List.getElem?_eq_none (by omega : t.length ≤ i)]
    rw [this]; simp

def env_great : Env := ⟨T, psi_num, pspNil, 28, [], none, true⟩
theorem eok_great : PsiOk Try.prog env_great := ⟨psi_num_ok, pspNil_ok⟩
theorem great_fn (t0 : List (List Entry)) (hl : t0.length ≤ 9223372036854775807) : Ctr Try.prog 12 false [.g [.pv (.lst .tbl t0)]] (.x (.c (bv (greatB t0)))) := by
  refine Ctr_intro (E := env_great) Try.func12 rfl (by decide) rfl rfl (fun M0 W hM0 => ?_)
  refine G_run tOk eok_great 60 (fun _ => none) (fun bs => rfl) (fun bs => ?_) (fun bs => ?_)
  · (repeat' apply And.intro) <;> (intros; first | exact trivial | exact rfl | omega | exact u8_lo _ | exact u8_hi _ | exact u8_in64 _ | exact u8_in63 _ | (simp only [inR, IntKind.bits]; omega) | (simp [inR, IntKind.bits]; done) | (simp [inR, IntKind.bits] at * <;> omega) | (simp_all; done) | skip)
  refine G_loop (fun x : Nat => [(1, .c (.ptr 0 (bs 0 0).bn 0)), (3, int .i64 (gN t0 x)), (4, int .i64 x)]) (fun x => [.blk (bs 0 0).bn 24 [.pv (.lst .tbl t0)]]) (fun x => x ≤ t0.length ∧ gN t0 x ≤ 12001) (fun x => t0.length - x) rfl [0] 0 ⟨Nat.zero_le _, by simp [gN]⟩ ?wk (fun x hx => ?_)
  case wk => (repeat' apply And.intro) <;> (first | exact rfl | exact trivial | omega | refine sigEq ?_ | skip)
  have h0 := gN_mono t0 0 x (Nat.zero_le _)
  simp only [gN] at h0
  refine G_run tOk eok_great 60 (fun _ => none) (fun bs => rfl) (fun bs => ?_) (fun bs => ?_)
  · (repeat' apply And.intro) <;> (intros; first | exact trivial | exact rfl | omega | exact u8_lo _ | exact u8_hi _ | exact u8_in64 _ | exact u8_in63 _ | (simp only [inR, IntKind.bits]; omega) | (simp [inR, IntKind.bits]; done) | (simp [inR, IntKind.bits] at * <;> omega) | (simp_all; done) | skip)
  refine G_cond rfl rfl (fun h => ?_) (fun h => ?_)
  · have h' : (x : Int) < t0.length ∧ gN t0 x ≤ 6000 := by simpa using h
    refine G_run tOk eok_great 60 (fun _ => none) (fun bs => rfl) (fun bs => ?_) (fun bs => ?_)
    · (repeat' apply And.intro) <;> (intros; first | exact trivial | exact rfl | omega | exact u8_lo _ | exact u8_hi _ | exact u8_in64 _ | exact u8_in63 _ | (simp only [inR, IntKind.bits]; omega) | (simp [inR, IntKind.bits]; done) | (simp [inR, IntKind.bits] at * <;> omega) | (simp_all; done) | skip)
    refine G_lp [0] (x + 1) ?ok1 ?wk1
    case ok1 => exact ⟨⟨by omega, by simp only [gN]; omega⟩, by omega⟩
    case wk1 => (repeat' apply And.intro) <;> (first | exact rfl | exact trivial | omega | refine sigEq ?_ | skip)
  · have h' : ¬ ((x : Int) < t0.length ∧ gN t0 x ≤ 6000) := by simpa using h
    refine G_run tOk eok_great 60 (fun _ => none) (fun bs => rfl) (fun bs => ?_) (fun bs => ?_)
    · (repeat' apply And.intro) <;> (intros; first | exact trivial | exact rfl | omega | exact u8_lo _ | exact u8_hi _ | exact u8_in64 _ | exact u8_in63 _ | (simp only [inR, IntKind.bits]; omega) | (simp [inR, IntKind.bits]; done) | (simp [inR, IntKind.bits] at * <;> omega) | (simp_all; done) | skip)
    refine G_ret tOk hM0 rfl rfl ⟨trivial, trivial⟩ ?_
    conv => whnf
    have h1 := gN_mono t0 x t0.length hx.1
    unfold greatB
    rw [decide_eq_decide]
    by_cases e : x = t0.length
    · rw [e]
    · have : ¬ gN t0 x ≤ 6000 := fun hh => h' ⟨by omega, hh⟩
      constructor <;> intro <;> omega

def great_s : FSpec
  | [.g [.pv (.lst .tbl t0)]] => some ((t0.length ≤ 9223372036854775807), false, .x (.c (bv (greatB t0))))
  | _ => none
theorem great_s_ok : SpecOk Try.prog 12 great_s := by
  intro args pre sh rv h hp; unfold great_s at h; split at h
  · cases h; have hl := hp; exact great_fn _ hl
  · cases h
def psi_great : FuncId → Option FSpec := psiCons 12 great_s psi_num
theorem psi_great_ok : PsiFn Try.prog psi_great := psiCons_ok great_s_ok psi_num_ok
def noneE (k st ct sz sm : Int) : Bool := decide (k = 0) && decide (st = 0) && decide (ct = 0) && decide (sz = 0) && decide (sm = 0)
def env_none : Env := ⟨T, psi_great, pspNil, 6, [], none, true⟩
theorem eok_none : PsiOk Try.prog env_none := ⟨psi_great_ok, pspNil_ok⟩
theorem none_fn (e0 : Int) (e1 : Int) (e2 : Int) (e3 : Int) (e4 : Int)  : Ctr Try.prog 31 false [.g [.pv (.val (.int .i64 e0)), .pv (.val (.int .i64 e1)), .pv (.val (.int .i64 e2)), .pv (.val (.int .i64 e3)), .pv (.val (.int .u32 e4))]] (.x (.c (bv (noneE e0 e1 e2 e3 e4)))) := by
  refine Ctr_intro (E := env_none) Try.func31 rfl (by decide) rfl rfl (fun M0 W hM0 => ?_)
  refine G_run tOk eok_none 60 (fun _ => none) (fun bs => rfl) (fun bs => ?_) (fun bs => ?_)
  · (repeat' apply And.intro) <;> (intros; first | exact trivial | exact rfl | omega | exact u8_lo _ | exact u8_hi _ | exact u8_in64 _ | exact u8_in63 _ | (simp only [inR, IntKind.bits]; omega) | (simp [inR, IntKind.bits]; done) | (simp [inR, IntKind.bits] at * <;> omega) | (simp_all; done) | skip)
  refine G_ret tOk hM0 rfl rfl ⟨trivial, trivial⟩ ?_
  conv => whnf
  simp [noneE, Bool.and_assoc]
def none_s : FSpec
  | [.g [.pv (.val (.int .i64 e0)), .pv (.val (.int .i64 e1)), .pv (.val (.int .i64 e2)), .pv (.val (.int .i64 e3)), .pv (.val (.int .u32 e4))]] => some (True, false, .x (.c (bv (noneE e0 e1 e2 e3 e4))))
  | _ => none
theorem none_s_ok : SpecOk Try.prog 31 none_s := by
  intro args pre sh rv h hp; unfold none_s at h; split at h
  · cases h; exact none_fn _ _ _ _ _ 
  · cases h
def psi_none : FuncId → Option FSpec := psiCons 31 none_s psi_great
theorem psi_none_ok : PsiFn Try.prog psi_none := psiCons_ok none_s_ok psi_great_ok
end Go.Proofs.Ytnmomckmpknbkaa
