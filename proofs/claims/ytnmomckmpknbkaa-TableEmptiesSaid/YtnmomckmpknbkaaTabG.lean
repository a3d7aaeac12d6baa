import Derived.Test.YtnmomckmpknbkaaTabF
import Derived.Test.YtnmomckmpknbkaaMtQ4
set_option linter.unusedSimpArgs false
set_option linter.unusedVariables false
namespace Go.Proofs.Ytnmomckmpknbkaa
open Go.Mt
theorem Th_tset_ok : PsiFn Try.prog Th.psi_tset := Th.psi_tset_ok

theorem leaf_nil (i : Nat) : leaf [] i = [] := by simp [leaf]
def awT : List (List Entry) := setT [] 9 ⟨1, 0, 0, 0, 0⟩
theorem awT_eq : awT = [[], [entZ, ⟨1, 0, 0, 0, 0⟩, entZ, entZ, entZ, entZ, entZ, entZ]] := by decide +kernel
theorem awT_leaf (i : Nat) : (leaf awT i).length ≤ 8 := by
  rw [awT_eq]
  match i with
  | 0 => decide
  | 1 => decide
  | i + 2 => rw [leaf_app (by simp)]; decide
def env_awake : Env := ⟨T, Th.psi_tset, pspNil, 37, [], none, true⟩
theorem eok_awake : PsiOk Try.prog env_awake := ⟨Th.psi_tset_ok, pspNil_ok⟩
theorem awake_fn   : Ctr Try.prog 13 false [] (.x (.c (bv true))) := by
  refine Ctr_intro (E := env_awake) Try.func13 rfl (by decide) rfl rfl (fun M0 W hM0 => ?_)
  refine G_run tOk eok_awake 60 (fun _ => some true) (fun bs => rfl) (fun bs => ?_) (fun bs => ?_)
  · (repeat' apply And.intro) <;> (intros; first | exact trivial | exact rfl | decide +kernel | exact Nat.le_trans (awT_leaf _) (by decide) | (rw [leaf_nil]; decide) | (simp [inR]; done))
  refine G_ret tOk hM0 rfl rfl ?_ ?_
  · (repeat' apply And.intro) <;> (intros; first | exact trivial | exact rfl | decide +kernel)
  · conv => whnf
    decide +kernel

def awake_s : FSpec
  | [] => some (True, false, .x (.c (bv true)))
  | _ => none
theorem awake_s_ok : SpecOk Try.prog 13 awake_s := by
  intro args pre sh rv h hp; unfold awake_s at h; split at h
  · cases h; exact awake_fn  
  · cases h
def psi_awake : FuncId → Option FSpec := psiCons 13 awake_s Th.psi_tset
theorem psi_awake_ok : PsiFn Try.prog psi_awake := psiCons_ok awake_s_ok Th.psi_tset_ok
def env_frights : Env := ⟨T, psi_awake, pspNil, 33, [], none, true⟩
theorem eok_frights : PsiOk Try.prog env_frights := ⟨psi_awake_ok, pspNil_ok⟩
theorem frights_fn (t0 : List (List Entry)) (n : Int) (c : Int) (i : Int) (hl : t0.length ≤ 9223372036854775807) (hi : inR .i64 i) : Ctr Try.prog 3 false [.g [.pv (.lst .tbl t0)], int .i64 n, int .i64 c, int .i64 i] (.x (.c (bv true))) := by
  refine Ctr_intro (E := env_frights) Try.func3 rfl (by decide) rfl rfl (fun M0 W hM0 => ?_)
  have hi' : i ≤ 9223372036854775807 := hi.2
  refine G_run tOk eok_frights 60 (fun _ => none) (fun bs => rfl) (fun bs => ?_) (fun bs => ?_)
  · (repeat' apply And.intro) <;> (intros; first | exact trivial | exact rfl | omega | exact u8_lo _ | exact u8_hi _ | exact u8_in64 _ | exact u8_in63 _ | (simp only [inR, IntKind.bits]; omega) | (simp [inR, IntKind.bits]; done) | (simp [inR, IntKind.bits] at * <;> omega) | (simp_all; done) | skip)
  refine G_cond (b := greatB t0) rfl rfl (fun h => ?_) (fun h => ?_)
  · refine G_run tOk eok_frights 60 (fun _ => none) (fun bs => rfl) (fun bs => ?_) (fun bs => ?_)
    · (repeat' apply And.intro) <;> (intros; first | exact trivial | exact rfl | omega | exact u8_lo _ | exact u8_hi _ | exact u8_in64 _ | exact u8_in63 _ | (simp only [inR, IntKind.bits]; omega) | (simp [inR, IntKind.bits]; done) | (simp [inR, IntKind.bits] at * <;> omega) | (simp_all; done) | skip)
    exact G_ret tOk hM0 rfl rfl ⟨trivial, trivial⟩ rfl
  obtain ⟨h1, h2⟩ := great_len h
  have h3 : ∀ i, (leaf t0 i).length ≤ 1000000000 := fun i => Nat.le_trans (h2 i) (by decide)
  refine G_run tOk eok_frights 60 (fun _ => none) (fun bs => rfl) (fun bs => ?_) (fun bs => ?_)
  · (repeat' apply And.intro) <;> (intros; first | exact trivial | exact rfl | omega | exact u8_lo _ | exact u8_hi _ | exact u8_in64 _ | exact u8_in63 _ | (simp only [inR, IntKind.bits]; omega) | (simp [inR, IntKind.bits]; done) | (simp [inR, IntKind.bits] at * <;> omega) | (simp_all; done) | skip)
  refine G_nx 1 rfl ?_
  refine G_draw tOk eok_frights rfl (fun _ => some true) 15 [0, 0, 0, 7, 0, 0, 0, 127, 255, 511, 1023, 1023, 4095, 1023, 1023, 32767, 65535, 131071, 262143, 524287, 1048575, 2097151] [] rfl (by decide +kernel) (fun bs => rfl) (fun bs => ?_) (fun bs => ?_)
  · (repeat' apply And.intro) <;> (intros; first | exact trivial | exact rfl | omega | exact h3 _ | (simp; done) | skip)
  refine G_run tOk eok_frights 60 (fun _ => some true) (fun bs => rfl) (fun bs => ?_) (fun bs => ?_)
  · (repeat' apply And.intro) <;> (intros; first | exact trivial | exact rfl | omega | exact u8_lo _ | exact u8_hi _ | exact u8_in64 _ | exact u8_in63 _ | (simp only [inR, IntKind.bits]; omega) | (simp [inR, IntKind.bits]; done) | (simp [inR, IntKind.bits] at * <;> omega) | (simp_all; done) | skip)
  refine G_ret tOk hM0 rfl rfl ⟨trivial, trivial⟩ ?_
  conv => whnf
  simp
def frights_s : FSpec
  | [.g [.pv (.lst .tbl t0)], .c (.pv (.val (.int .i64 n))), .c (.pv (.val (.int .i64 c))), .c (.pv (.val (.int .i64 i)))] => some ((t0.length ≤ 9223372036854775807) ∧ (inR .i64 i), false, .x (.c (bv true)))
  | _ => none
theorem frights_s_ok : SpecOk Try.prog 3 frights_s := by
  intro args pre sh rv h hp; unfold frights_s at h; split at h
  · cases h; obtain ⟨hl, hi⟩ := hp; exact frights_fn _ _ _ _ hl hi
  · cases h
def psi_frights : FuncId → Option FSpec := psiCons 3 frights_s psi_awake
theorem psi_frights_ok : PsiFn Try.prog psi_frights := psiCons_ok frights_s_ok psi_awake_ok
end Go.Proofs.Ytnmomckmpknbkaa
