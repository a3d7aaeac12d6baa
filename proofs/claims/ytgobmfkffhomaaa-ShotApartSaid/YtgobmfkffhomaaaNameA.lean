import Derived.Test.YtgobmfkffhomaaaShtC
import Derived.Test.YtgobmfkffhomaaaMtQ4
set_option linter.unusedSimpArgs false
set_option linter.unusedVariables false
namespace Go.Proofs.Ytgobmfkffhomaaa
open Go.Mt

/-! ### names -/
def nmBad (c : Int) : Bool := ((((decide (c < 97) || decide (122 < c)) && (decide (c < 48) || decide (57 < c))) && !decide (c = 45)) && !decide (c = 95)) && !decide (c = 46)
def nmGood (c : Int) : Bool := ((((decide (97 ≤ c) && decide (c ≤ 122)) || (decide (48 ≤ c) && decide (c ≤ 57))) || decide (c = 45)) || decide (c = 95)) || decide (c = 46)
theorem nm_flip (c : Int) : (!nmGood c) = nmBad c := by
  rw [Bool.eq_iff_iff]
  simp only [nmGood, nmBad, Bool.not_eq_true', Bool.or_eq_false_iff, Bool.and_eq_false_iff, Bool.and_eq_true, Bool.or_eq_true, decide_eq_true_eq, decide_eq_false_iff_not]
  omega
def nmN (s : List UInt8) : Nat → Bool
  | 0 => true
  | k + 1 => nmN s k && !nmBad ((s.getD k 0).toNat : Int)
theorem nmN_false {s : List UInt8} {i j : Nat} (h : nmN s i = false) (hij : i ≤ j) : nmN s j = false := by
  induction j with
  | zero => have : i = 0 := by omega
            subst this; exact h
  | succ j ih =>
    by_cases hi : i = j + 1
    · subst hi; exact h
    · simp [nmN, ih (by omega)]
def nameB (s : List UInt8) : Bool := !(decide (s = []) || decide (16 < (s.length : Int))) && nmN s s.length

def env_sname : Env := ⟨T, psi_rsub, pspNil, pscNil, 47, [], none, true⟩
theorem eok_sname : PsiOk Try.prog env_sname := ⟨psi_rsub_ok, pspNil_ok, pscNil_ok⟩
theorem sname_fn (s : List UInt8) (hs : s.length ≤ 1000000000) : Ctr Try.prog 9 false [str s] (.x (.c (bv (nameB s)))) := by
  refine Ctr_intro (E := env_sname) Try.func9 rfl (by decide) rfl rfl (fun M0 W hM0 => ?_)
  refine G_run tOk eok_sname 60 (fun _ => none) (fun bs => rfl) (fun bs => ?_) (fun bs => ?_)
  · (repeat' apply And.intro) <;> (intros; first | exact trivial | exact rfl | omega | exact u8_lo _ | exact u8_hi _ | exact u8_in64 _ | exact u8_in63 _ | (simp only [inR, IntKind.bits]; omega) | (simp [inR, IntKind.bits]; done) | (simp [inR, IntKind.bits] at * <;> omega) | (simp_all; done) | (with_reducible assumption) | skip)
  refine G_cond (b := decide (s = []) || decide (16 < (s.length : Int))) rfl rfl (fun h => ?_) (fun h => ?_)
  · refine G_run tOk eok_sname 60 (fun _ => none) (fun bs => rfl) (fun bs => ?_) (fun bs => ?_)
    · (repeat' apply And.intro) <;> (intros; first | exact trivial | exact rfl | omega | exact u8_lo _ | exact u8_hi _ | exact u8_in64 _ | exact u8_in63 _ | (simp only [inR, IntKind.bits]; omega) | (simp [inR, IntKind.bits]; done) | (simp [inR, IntKind.bits] at * <;> omega) | (simp_all; done) | (with_reducible assumption) | skip)
    exact G_ret tOk hM0 rfl rfl ⟨trivial, trivial⟩ (show false = nameB s by unfold nameB; rw [h]; rfl)
  have hn : nameB s = nmN s s.length := by unfold nameB; rw [h]; rfl
  rw [hn]
  refine G_run tOk eok_sname 60 (fun _ => none) (fun bs => rfl) (fun bs => ?_) (fun bs => ?_)
  · (repeat' apply And.intro) <;> (intros; first | exact trivial | exact rfl | omega | exact u8_lo _ | exact u8_hi _ | exact u8_in64 _ | exact u8_in63 _ | (simp only [inR, IntKind.bits]; omega) | (simp [inR, IntKind.bits]; done) | (simp [inR, IntKind.bits] at * <;> omega) | (simp_all; done) | (with_reducible assumption) | skip)
  refine G_loop (fun x : Nat => [(0, str s), (13, int .i64 s.length), (14, int .i64 x)]) (fun x => []) (fun x => x ≤ s.length ∧ nmN s x = true) (fun x => s.length - x) rfl [] 0 ⟨Nat.zero_le _, rfl⟩ ?wk (fun x hx => ?_)
  case wk => (repeat' apply And.intro) <;> (first | exact rfl | exact trivial | omega | refine sigEq ?_ | skip)
  obtain ⟨hx, hr⟩ := hx
  refine G_run tOk eok_sname 60 (fun _ => none) (fun bs => rfl) (fun bs => ?_) (fun bs => ?_)
  · (repeat' apply And.intro) <;> (intros; first | exact trivial | exact rfl | omega | exact u8_lo _ | exact u8_hi _ | exact u8_in64 _ | exact u8_in63 _ | (simp only [inR, IntKind.bits]; omega) | (simp [inR, IntKind.bits]; done) | (simp [inR, IntKind.bits] at * <;> omega) | (simp_all; done) | (with_reducible assumption) | skip)
  refine G_if rfl rfl (fun hk => ?_) (fun hk => ?_)
  · have hk' : x < s.length := by omega
    refine G_run tOk eok_sname 60 (fun _ => none) (fun bs => rfl) (fun bs => ?_) (fun bs => ?_)
    · (repeat' apply And.intro) <;> (intros; first | exact trivial | exact rfl | omega | exact u8_lo _ | exact u8_hi _ | exact u8_in64 _ | exact u8_in63 _ | (simp only [inR, IntKind.bits]; omega) | (simp [inR, IntKind.bits]; done) | (simp [inR, IntKind.bits] at * <;> omega) | (simp_all; done) | (with_reducible assumption) | skip)
    refine G_cond (b := nmBad ((s.getD x 0).toNat : Int)) rfl rfl (fun h => ?_) (fun h => ?_)
    · have hb : nmN s s.length = false := nmN_false (i := x + 1) (by simp only [nmN, h, Bool.not_true, Bool.and_false]) hk'
      refine G_run tOk eok_sname 60 (fun _ => none) (fun bs => rfl) (fun bs => ?_) (fun bs => ?_)
      · (repeat' apply And.intro) <;> (intros; first | exact trivial | exact rfl | omega | exact u8_lo _ | exact u8_hi _ | exact u8_in64 _ | exact u8_in63 _ | (simp only [inR, IntKind.bits]; omega) | (simp [inR, IntKind.bits]; done) | (simp [inR, IntKind.bits] at * <;> omega) | (simp_all; done) | (with_reducible assumption) | skip)
      exact G_ret tOk hM0 rfl rfl ⟨trivial, trivial⟩ hb.symm
    · refine G_run tOk eok_sname 60 (fun _ => none) (fun bs => rfl) (fun bs => ?_) (fun bs => ?_)
      · (repeat' apply And.intro) <;> (intros; first | exact trivial | exact rfl | omega | exact u8_lo _ | exact u8_hi _ | exact u8_in64 _ | exact u8_in63 _ | (simp only [inR, IntKind.bits]; omega) | (simp [inR, IntKind.bits]; done) | (simp [inR, IntKind.bits] at * <;> omega) | (simp_all; done) | (with_reducible assumption) | skip)
      refine G_lp [] (x + 1) ?ok ?wk2
      case ok => exact ⟨⟨hk', by simp only [nmN, hr, h]; rfl⟩, by omega⟩
      case wk2 => (repeat' apply And.intro) <;> (first | exact rfl | exact trivial | omega | refine sigEq ?_ | skip)
  · have hk' : x = s.length := by omega
    subst hk'
    refine G_run tOk eok_sname 60 (fun _ => none) (fun bs => rfl) (fun bs => ?_) (fun bs => ?_)
    · (repeat' apply And.intro) <;> (intros; first | exact trivial | exact rfl | omega | exact u8_lo _ | exact u8_hi _ | exact u8_in64 _ | exact u8_in63 _ | (simp only [inR, IntKind.bits]; omega) | (simp [inR, IntKind.bits]; done) | (simp [inR, IntKind.bits] at * <;> omega) | (simp_all; done) | (with_reducible assumption) | skip)
    exact G_ret tOk hM0 rfl rfl ⟨trivial, trivial⟩ hr.symm

def sname_s : FSpec
  | [.c (.pv (.val (.string ⟨⟨s⟩⟩)))] => some ((s.length ≤ 1000000000), false, .x (.c (bv (nameB s))))
  | _ => none
theorem sname_s_ok : SpecOk Try.prog 9 sname_s := by
  intro args pre sh rv h hp; unfold sname_s at h; split at h
  · cases h; have hs := hp; exact sname_fn _ hs
  · cases h
def psi_sname : FuncId → Option FSpec := psiCons 9 sname_s psi_rsub
theorem psi_sname_ok : PsiFn Try.prog psi_sname := psiCons_ok sname_s_ok psi_rsub_ok
def env_rname : Env := ⟨T, psi_sname, pspNil, pscNil, 48, [], none, true⟩
theorem eok_rname : PsiOk Try.prog env_rname := ⟨psi_sname_ok, pspNil_ok, pscNil_ok⟩
theorem rname_fn (s : List UInt8) (hs : s.length ≤ 1000000000) : Ctr Try.prog 10 false [str s] (.x (.c (bv (nameB s)))) := by
  refine Ctr_intro (E := env_rname) Try.func10 rfl (by decide) rfl rfl (fun M0 W hM0 => ?_)
  refine G_run tOk eok_rname 60 (fun _ => none) (fun bs => rfl) (fun bs => ?_) (fun bs => ?_)
  · (repeat' apply And.intro) <;> (intros; first | exact trivial | exact rfl | omega | exact u8_lo _ | exact u8_hi _ | exact u8_in64 _ | exact u8_in63 _ | (simp only [inR, IntKind.bits]; omega) | (simp [inR, IntKind.bits]; done) | (simp [inR, IntKind.bits] at * <;> omega) | (simp_all; done) | (with_reducible assumption) | skip)
  refine G_cond (b := decide (s = []) || decide (16 < (s.length : Int))) rfl rfl (fun h => ?_) (fun h => ?_)
  · refine G_run tOk eok_rname 60 (fun _ => none) (fun bs => rfl) (fun bs => ?_) (fun bs => ?_)
    · (repeat' apply And.intro) <;> (intros; first | exact trivial | exact rfl | omega | exact u8_lo _ | exact u8_hi _ | exact u8_in64 _ | exact u8_in63 _ | (simp only [inR, IntKind.bits]; omega) | (simp [inR, IntKind.bits]; done) | (simp [inR, IntKind.bits] at * <;> omega) | (simp_all; done) | (with_reducible assumption) | skip)
    exact G_ret tOk hM0 rfl rfl ⟨trivial, trivial⟩ (show false = nameB s by unfold nameB; rw [h]; rfl)
  have hn : nameB s = nmN s s.length := by unfold nameB; rw [h]; rfl
  rw [hn]
  refine G_run tOk eok_rname 60 (fun _ => none) (fun bs => rfl) (fun bs => ?_) (fun bs => ?_)
  · (repeat' apply And.intro) <;> (intros; first | exact trivial | exact rfl | omega | exact u8_lo _ | exact u8_hi _ | exact u8_in64 _ | exact u8_in63 _ | (simp only [inR, IntKind.bits]; omega) | (simp [inR, IntKind.bits]; done) | (simp [inR, IntKind.bits] at * <;> omega) | (simp_all; done) | (with_reducible assumption) | skip)
  refine G_loop (fun x : Nat => [(0, str s), (3, int .i64 x)]) (fun x => []) (fun x => x ≤ s.length ∧ nmN s x = true) (fun x => s.length - x) rfl [] 0 ⟨Nat.zero_le _, rfl⟩ ?wk (fun x hx => ?_)
  case wk => (repeat' apply And.intro) <;> (first | exact rfl | exact trivial | omega | refine sigEq ?_ | skip)
  obtain ⟨hx, hr⟩ := hx
  refine G_run tOk eok_rname 60 (fun _ => none) (fun bs => rfl) (fun bs => ?_) (fun bs => ?_)
  · (repeat' apply And.intro) <;> (intros; first | exact trivial | exact rfl | omega | exact u8_lo _ | exact u8_hi _ | exact u8_in64 _ | exact u8_in63 _ | (simp only [inR, IntKind.bits]; omega) | (simp [inR, IntKind.bits]; done) | (simp [inR, IntKind.bits] at * <;> omega) | (simp_all; done) | (with_reducible assumption) | skip)
  refine G_if rfl rfl (fun hk => ?_) (fun hk => ?_)
  · have hk' : x < s.length := by omega
    refine G_run tOk eok_rname 60 (fun _ => none) (fun bs => rfl) (fun bs => ?_) (fun bs => ?_)
    · (repeat' apply And.intro) <;> (intros; first | exact trivial | exact rfl | omega | exact u8_lo _ | exact u8_hi _ | exact u8_in64 _ | exact u8_in63 _ | (simp only [inR, IntKind.bits]; omega) | (simp [inR, IntKind.bits]; done) | (simp [inR, IntKind.bits] at * <;> omega) | (simp_all; done) | (with_reducible assumption) | skip)
    refine G_cond (b := nmBad ((s.getD x 0).toNat : Int)) rfl (by rw [← nm_flip]; rfl) (fun h => ?_) (fun h => ?_)
    · have hb : nmN s s.length = false := nmN_false (i := x + 1) (by simp only [nmN, h, Bool.not_true, Bool.and_false]) hk'
      refine G_run tOk eok_rname 60 (fun _ => none) (fun bs => rfl) (fun bs => ?_) (fun bs => ?_)
      · (repeat' apply And.intro) <;> (intros; first | exact trivial | exact rfl | omega | exact u8_lo _ | exact u8_hi _ | exact u8_in64 _ | exact u8_in63 _ | (simp only [inR, IntKind.bits]; omega) | (simp [inR, IntKind.bits]; done) | (simp [inR, IntKind.bits] at * <;> omega) | (simp_all; done) | (with_reducible assumption) | skip)
      exact G_ret tOk hM0 rfl rfl ⟨trivial, trivial⟩ hb.symm
    · refine G_run tOk eok_rname 60 (fun _ => none) (fun bs => rfl) (fun bs => ?_) (fun bs => ?_)
      · (repeat' apply And.intro) <;> (intros; first | exact trivial | exact rfl | omega | exact u8_lo _ | exact u8_hi _ | exact u8_in64 _ | exact u8_in63 _ | (simp only [inR, IntKind.bits]; omega) | (simp [inR, IntKind.bits]; done) | (simp [inR, IntKind.bits] at * <;> omega) | (simp_all; done) | (with_reducible assumption) | skip)
      refine G_lp [] (x + 1) ?ok ?wk2
      case ok => exact ⟨⟨hk', by simp only [nmN, hr, h]; rfl⟩, by omega⟩
      case wk2 => (repeat' apply And.intro) <;> (first | exact rfl | exact trivial | omega | refine sigEq ?_ | skip)
  · have hk' : x = s.length := by omega
    subst hk'
    refine G_run tOk eok_rname 60 (fun _ => none) (fun bs => rfl) (fun bs => ?_) (fun bs => ?_)
    · (repeat' apply And.intro) <;> (intros; first | exact trivial | exact rfl | omega | exact u8_lo _ | exact u8_hi _ | exact u8_in64 _ | exact u8_in63 _ | (simp only [inR, IntKind.bits]; omega) | (simp [inR, IntKind.bits]; done) | (simp [inR, IntKind.bits] at * <;> omega) | (simp_all; done) | (with_reducible assumption) | skip)
    exact G_ret tOk hM0 rfl rfl ⟨trivial, trivial⟩ hr.symm
def rname_s : FSpec
  | [.c (.pv (.val (.string ⟨⟨s⟩⟩)))] => some ((s.length ≤ 1000000000), false, .x (.c (bv (nameB s))))
  | _ => none
theorem rname_s_ok : SpecOk Try.prog 10 rname_s := by
  intro args pre sh rv h hp; unfold rname_s at h; split at h
  · cases h; have hs := hp; exact rname_fn _ hs
  · cases h
def psi_rname : FuncId → Option FSpec := psiCons 10 rname_s psi_sname
theorem psi_rname_ok : PsiFn Try.prog psi_rname := psiCons_ok rname_s_ok psi_sname_ok
end Go.Proofs.Ytgobmfkffhomaaa
