import Derived.Test.YtndjdmnpdknneaaMapJ
set_option linter.unusedSimpArgs false
set_option linter.unusedVariables false
namespace Go.Proofs.Ytndjdmnpdknneaa
open Go.Mt

def env_awake : Env := ⟨T, psi_flet, pspNil, psc_del, 51, [], none, true⟩
theorem eok_awake : PsiOk Try.prog env_awake := ⟨psi_flet_ok, pspNil_ok, psc_del_ok⟩
theorem awake_fn   : Ctr Try.prog 9 false [] (.x (.c (bv true))) := by
  refine Ctr_intro (E := env_awake) Try.func9 rfl (by decide) rfl rfl (fun M0 W hM0 => ?_)
  have b0 : BmOk [] := ⟨by decide, by simp⟩
  have hE : mpE [] [97] = 0 := by decide +kernel
  have hL : mpL [] [97] = [⟨[97], true, []⟩] := by decide +kernel
  have b1 : BmOk [⟨[97], true, []⟩] := ⟨by decide, by simp⟩
  have hT : List.map (tch ⟨2, 4⟩) [⟨[97], true, []⟩] = [⟨[97], true, [⟨2, 4⟩]⟩] := by decide +kernel
  have b2 : BmOk [⟨[97], true, [⟨2, 4⟩]⟩] := ⟨by decide, by simp⟩
  have hC : trnL [⟨[97], true, [⟨2, 4⟩]⟩] [97] fClr = [⟨[97], true, []⟩] := by decide +kernel
  have hD : trnE [⟨[97], true, [⟨2, 4⟩]⟩] [97] = 0 := by decide +kernel
  have hN : countL [⟨2, 4⟩] = 2 := by decide +kernel
  refine G_run tOk eok_awake 60 (fun _ => none) (fun bs => rfl) (fun bs => ?_) (fun bs => ?_)
  · (repeat' apply And.intro) <;> (intros; first | exact trivial | exact rfl | omega | exact u8_lo _ | exact u8_hi _ | exact u8_in64 _ | exact u8_in63 _ | (simp only [inR, IntKind.bits]; omega) | (simp [inR, IntKind.bits]; done) | (simp [inR, IntKind.bits] at * <;> omega) | (simp_all; done) | (with_reducible assumption) | skip)
  rw [hE, hL]
  refine G_freeze 0 [7, 1, 9] rfl ⟨rfl, rfl, rfl, trivial⟩ ?_
  refine G_run tOk eok_awake 60 (fun _ => none) (fun bs => rfl) (fun bs => ?_) (fun bs => ?_)
  · (repeat' apply And.intro) <;> (intros; first | exact trivial | exact rfl | omega | exact u8_lo _ | exact u8_hi _ | exact u8_in64 _ | exact u8_in63 _ | (simp only [inR, IntKind.bits]; omega) | (simp [inR, IntKind.bits]; done) | (simp [inR, IntKind.bits] at * <;> omega) | (simp_all; done) | (with_reducible assumption) | skip)
  rw [hT]
  refine G_freeze 1 [11, 1, 13] rfl ⟨rfl, rfl, rfl, trivial⟩ ?_
  refine G_run tOk eok_awake 3 (fun _ => none) (fun bs => rfl) (fun bs => ?_) (fun bs => ?_)
  · (repeat' apply And.intro) <;> (intros; first | exact trivial | exact rfl | omega | exact u8_lo _ | exact u8_hi _ | exact u8_in64 _ | exact u8_in63 _ | (simp only [inR, IntKind.bits]; omega) | (simp [inR, IntKind.bits]; done) | (simp [inR, IntKind.bits] at * <;> omega) | (simp_all; done) | (with_reducible assumption) | skip)
  rw [hC, hD]
  refine G_run tOk eok_awake 60 (fun _ => some true) (fun bs => rfl) (fun bs => ?_) (fun bs => ?_)
  · (repeat' apply And.intro) <;> (intros; first | exact trivial | exact rfl | omega | exact u8_lo _ | exact u8_hi _ | exact u8_in64 _ | exact u8_in63 _ | (simp only [inR, IntKind.bits]; omega) | (simp [inR, IntKind.bits]; done) | (simp [inR, IntKind.bits] at * <;> omega) | (simp_all; done) | (with_reducible assumption) | skip)
  refine G_ret tOk hM0 rfl rfl ⟨trivial, trivial⟩ ?_
  conv => whnf
  simp [hN]
def awake_s : FSpec
  | [] => some (True, false, .x (.c (bv true)))
  | _ => none
theorem awake_s_ok : SpecOk Try.prog 9 awake_s := by
  intro args pre sh rv h hp; unfold awake_s at h; split at h
  · cases h; exact awake_fn  
  · cases h
def psi_awake : FuncId → Option FSpec := psiCons 9 awake_s psi_flet
theorem psi_awake_ok : PsiFn Try.prog psi_awake := psiCons_ok awake_s_ok psi_flet_ok
end Go.Proofs.Ytndjdmnpdknneaa
