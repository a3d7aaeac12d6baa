import Derived.Test.YtbhemhmdmeomdaaIdxD
set_option linter.unusedSimpArgs false
set_option linter.unusedVariables false
namespace Go.Proofs.Ytbhemhmdmeomdaa
open Go.Mt

def env_hnew : Env := ⟨T, psi_ncopy, pspNil, pscNil, 3, [], none, false⟩
theorem eok_hnew : PsiOk Try.prog env_hnew := ⟨psi_ncopy_ok, pspNil_ok, pscNil_ok⟩
theorem hnew : CtrH Try.prog 8 [] [] (fun _ : Nat × Value => True) (fun x => .c (.ptr 0 x.1 0)) (fun x => kH x.1 x.2 0 []) := by
  refine CtrH_intro (E := env_hnew) Try.func8 rfl (by decide) rfl rfl (fun M0 W hM0 => ?_)
  refine G_run tOk eok_hnew 60 (fun _ => none) (fun bs => rfl) (fun bs => ?_) (fun bs => ?_)
  · (repeat' apply And.intro) <;> (intros; first | exact trivial | exact rfl | omega | exact u8_lo _ | exact u8_hi _ | exact u8_in64 _ | exact u8_in63 _ | (simp only [inR, IntKind.bits]; omega) | (simp [inR, IntKind.bits]; done) | (simp [inR, IntKind.bits] at * <;> omega) | (simp_all; done) | (with_reducible assumption) | skip)
  refine G_ownB 0 0 58 rfl rfl ?_
  refine G_retH rfl tOk rfl rfl ⟨trivial, trivial⟩ (_, _) trivial [0, 1] id rfl (by decide) rfl

def env_awake : Env := ⟨T, psi_ncopy, pspNil, pscNil, 32, [], none, true⟩
theorem eok_awake : PsiOk Try.prog env_awake := ⟨psi_ncopy_ok, pspNil_ok, pscNil_ok⟩
theorem awake_fn   : Ctr Try.prog 12 false [] (.x (.c (bv true))) := by
  refine Ctr_intro (E := env_awake) Try.func12 rfl (by decide) rfl rfl (fun M0 W hM0 => ?_)
  refine G_run tOk eok_awake 60 (fun _ => none) (fun bs => rfl) (fun bs => ?_) (fun bs => ?_)
  · (repeat' apply And.intro) <;> (intros; first | exact trivial | exact rfl | omega | exact u8_lo _ | exact u8_hi _ | exact u8_in64 _ | exact u8_in63 _ | (simp only [inR, IntKind.bits]; omega) | (simp [inR, IntKind.bits]; done) | (simp [inR, IntKind.bits] at * <;> omega) | (simp_all; done) | (with_reducible assumption) | skip)
  refine G_nx 0 rfl ?_
  refine G_callH [] id hnew rfl trivial rfl rfl rfl rfl (by decide) rfl rfl (fun x => rfl) (fun x _ => ?_)
  obtain ⟨b, v⟩ := x
  dsimp only
  refine G_run tOk eok_awake 60 (fun _ => none) (fun bs => rfl) (fun bs => ?_) (fun bs => ?_)
  · (repeat' apply And.intro) <;> (intros; first | exact trivial | exact rfl | omega | exact u8_lo _ | exact u8_hi _ | exact u8_in64 _ | exact u8_in63 _ | (simp only [inR, IntKind.bits]; omega) | (simp [inR, IntKind.bits]; done) | (simp [inR, IntKind.bits] at * <;> omega) | (simp_all; done) | (with_reducible assumption) | skip)
  refine G_els rfl rfl rfl ?_
  refine G_run tOk eok_awake 60 (fun _ => none) (fun bs => rfl) (fun bs => ?_) (fun bs => ?_)
  · (repeat' apply And.intro) <;> (intros; first | exact trivial | exact rfl | omega | exact u8_lo _ | exact u8_hi _ | exact u8_in64 _ | exact u8_in63 _ | (simp only [inR, IntKind.bits]; omega) | (simp [inR, IntKind.bits]; done) | (simp [inR, IntKind.bits] at * <;> omega) | (simp_all; done) | (with_reducible assumption) | skip)
  refine G_nx 4 rfl ?_
  refine G_callH [0, 1] id (hadd b v 0 [] [98] 2 5 0 0 0 (by decide) (by decide)) rfl trivial rfl rfl rfl rfl (by decide) rfl rfl (fun x => rfl) (fun v _ => ?_)
  refine G_run tOk eok_awake 60 (fun _ => none) (fun bs => rfl) (fun bs => ?_) (fun bs => ?_)
  · (repeat' apply And.intro) <;> (intros; first | exact trivial | exact rfl | omega | exact u8_lo _ | exact u8_hi _ | exact u8_in64 _ | exact u8_in63 _ | (simp only [inR, IntKind.bits]; omega) | (simp [inR, IntKind.bits]; done) | (simp [inR, IntKind.bits] at * <;> omega) | (simp_all; done) | (with_reducible assumption) | skip)
  refine G_nx 7 rfl ?_
  have hA : addK [] ⟨fg [98], ⟨2, 5, 0, 0, 0⟩⟩ = [⟨fg [98], ⟨2, 5, 0, 0, 0⟩⟩] := rfl
  refine G_callH [0, 1] id (hfind b v 0 (addK [] ⟨fg [98], ⟨2, 5, 0, 0, 0⟩⟩) [98] (by decide) (by decide)) rfl trivial rfl rfl rfl rfl (by decide) rfl rfl (fun x => rfl) (fun x _ => ?_)
  obtain ⟨u, c⟩ := x
  dsimp only
  have hF : findN (addK [] ⟨fg [98], ⟨2, 5, 0, 0, 0⟩⟩) (fg [98]) (addK [] ⟨fg [98], ⟨2, 5, 0, 0, 0⟩⟩).length = [⟨2, 5, 0, 0, 0⟩] := by simp [hA, findN]
  rw [hF, hA]
  refine G_run tOk eok_awake 60 (fun _ => none) (fun bs => rfl) (fun bs => ?_) (fun bs => ?_)
  · (repeat' apply And.intro) <;> (intros; first | exact trivial | exact rfl | omega | exact u8_lo _ | exact u8_hi _ | exact u8_in64 _ | exact u8_in63 _ | (simp only [inR, IntKind.bits]; omega) | (simp [inR, IntKind.bits]; done) | (simp [inR, IntKind.bits] at * <;> omega) | (simp_all; done) | (with_reducible assumption) | skip)
  refine G_nx 10 rfl ?_
  refine G_draw tOk eok_awake rfl (fun _ => some true) 8 [0, 1, 3, 7, 15, 31, 63, 15, 255, 511, 1023, 2047, 4095, 8191, 16383, 32767] [] rfl (by decide +kernel) (fun bs => rfl) (fun bs => ?_) (fun bs => ?_)
  · (repeat' apply And.intro) <;> (intros; first | exact trivial | exact rfl | omega | exact u8_lo _ | exact u8_hi _ | exact u8_in64 _ | exact u8_in63 _ | (simp only [inR, IntKind.bits]; omega) | (simp [inR, IntKind.bits]; done) | (simp [inR, IntKind.bits] at * <;> omega) | (simp_all; done) | (with_reducible assumption) | skip)
  refine G_run tOk eok_awake 60 (fun _ => some true) (fun bs => rfl) (fun bs => ?_) (fun bs => ?_)
  · (repeat' apply And.intro) <;> (intros; first | exact trivial | exact rfl | omega | exact u8_lo _ | exact u8_hi _ | exact u8_in64 _ | exact u8_in63 _ | (simp only [inR, IntKind.bits]; omega) | (simp [inR, IntKind.bits]; done) | (simp [inR, IntKind.bits] at * <;> omega) | (simp_all; done) | (with_reducible assumption) | skip)
  refine G_nx 18 rfl ?_
  refine G_callH [0, 1] id (hlen b v c [⟨fg [98], ⟨2, 5, 0, 0, 0⟩⟩]) rfl ⟨_, rfl, ?gw⟩ rfl rfl rfl rfl (by decide) rfl rfl (fun x => rfl) (fun x _ => ?_)
  case gw => rfl
  refine G_run tOk eok_awake 60 (fun _ => some true) (fun bs => rfl) (fun bs => ?_) (fun bs => ?_)
  · (repeat' apply And.intro) <;> (intros; first | exact trivial | exact rfl | omega | exact u8_lo _ | exact u8_hi _ | exact u8_in64 _ | exact u8_in63 _ | (simp only [inR, IntKind.bits]; omega) | (simp [inR, IntKind.bits]; done) | (simp [inR, IntKind.bits] at * <;> omega) | (simp_all; done) | (with_reducible assumption) | skip)
  refine G_ret tOk hM0 rfl rfl ⟨trivial, trivial⟩ ?_
  conv => whnf
  skip
  rfl

def awake_s : FSpec
  | [] => some (True, false, .x (.c (bv true)))
  | _ => none
theorem awake_s_ok : SpecOk Try.prog 12 awake_s := by
  intro args pre sh rv h hp; unfold awake_s at h; split at h
  · cases h; exact awake_fn  
  · cases h
def psi_awake : FuncId → Option FSpec := psiCons 12 awake_s psi_ncopy
theorem psi_awake_ok : PsiFn Try.prog psi_awake := psiCons_ok awake_s_ok psi_ncopy_ok
def env_fnil : Env := ⟨T, psi_awake, pspNil, pscNil, 34, [], none, true⟩
theorem eok_fnil : PsiOk Try.prog env_fnil := ⟨psi_awake_ok, pspNil_ok, pscNil_ok⟩
theorem fnil_fn (b : List UInt8) (e0 : Int) (e1 : Int) (e2 : Int) (e3 : Int) (e4 : Int)  : Ctr Try.prog 7 false [lst .byt b, .g [.pv (.val (.int .i64 e0)), .pv (.val (.int .i64 e1)), .pv (.val (.int .i64 e2)), .pv (.val (.int .i64 e3)), .pv (.val (.int .u32 e4))]] (.x (.c (bv true))) := by
  refine Ctr_intro (E := env_fnil) Try.func7 rfl (by decide) rfl rfl (fun M0 W hM0 => ?_)
  refine G_run tOk eok_fnil 60 (fun _ => some true) (fun bs => rfl) (fun bs => ?_) (fun bs => ?_)
  · (repeat' apply And.intro) <;> (intros; first | exact trivial | exact rfl | omega | exact u8_lo _ | exact u8_hi _ | exact u8_in64 _ | exact u8_in63 _ | (simp only [inR, IntKind.bits]; omega) | (simp [inR, IntKind.bits]; done) | (simp [inR, IntKind.bits] at * <;> omega) | (simp_all; done) | (with_reducible assumption) | skip)
  refine G_ret tOk hM0 rfl rfl ⟨trivial, trivial⟩ ?_
  conv => whnf
  rfl
def fnil_s : FSpec
  | [.c (.pv (.lst .byt b)), .g [.pv (.val (.int .i64 e0)), .pv (.val (.int .i64 e1)), .pv (.val (.int .i64 e2)), .pv (.val (.int .i64 e3)), .pv (.val (.int .u32 e4))]] => some (True, false, .x (.c (bv true)))
  | _ => none
theorem fnil_s_ok : SpecOk Try.prog 7 fnil_s := by
  intro args pre sh rv h hp; unfold fnil_s at h; split at h
  · cases h; exact fnil_fn _ _ _ _ _ _ 
  · cases h
def psi_fnil : FuncId → Option FSpec := psiCons 7 fnil_s psi_awake
theorem psi_fnil_ok : PsiFn Try.prog psi_fnil := psiCons_ok fnil_s_ok psi_awake_ok
end Go.Proofs.Ytbhemhmdmeomdaa
