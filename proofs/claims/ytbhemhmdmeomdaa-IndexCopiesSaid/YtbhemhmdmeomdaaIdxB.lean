import Derived.Test.YtbhemhmdmeomdaaIdxA
set_option linter.unusedSimpArgs false
set_option linter.unusedVariables false
namespace Go.Proofs.Ytbhemhmdmeomdaa
open Go.Mt

/-! ### no index -/
def env_nadd : Env := ⟨T, psi_kcont, pspNil, pscNil, 50, [], none, true⟩
theorem eok_nadd : PsiOk Try.prog env_nadd := ⟨psi_kcont_ok, pspNil_ok, pscNil_ok⟩
theorem nadd_fn (b : List UInt8) (e0 : Int) (e1 : Int) (e2 : Int) (e3 : Int) (e4 : Int)  : Ctr Try.prog 9 false [.c (.pv (.val (.pointer none))), lst .byt b, .g [.pv (.val (.int .i64 e0)), .pv (.val (.int .i64 e1)), .pv (.val (.int .i64 e2)), .pv (.val (.int .i64 e3)), .pv (.val (.int .u32 e4))]] (.t []) := by
  refine Ctr_intro (E := env_nadd) Try.func9 rfl (by decide) rfl rfl (fun M0 W hM0 => ?_)
  refine G_run tOk eok_nadd 60 (fun _ => none) (fun bs => rfl) (fun bs => ?_) (fun bs => ?_)
  · (repeat' apply And.intro) <;> (intros; first | exact trivial | exact rfl | omega | exact u8_lo _ | exact u8_hi _ | exact u8_in64 _ | exact u8_in63 _ | (simp only [inR, IntKind.bits]; omega) | (simp [inR, IntKind.bits]; done) | (simp [inR, IntKind.bits] at * <;> omega) | (simp_all; done) | (with_reducible assumption) | skip)
  refine G_thn rfl rfl rfl ?_
  refine G_run tOk eok_nadd 60 (fun _ => none) (fun bs => rfl) (fun bs => ?_) (fun bs => ?_)
  · (repeat' apply And.intro) <;> (intros; first | exact trivial | exact rfl | omega | exact u8_lo _ | exact u8_hi _ | exact u8_in64 _ | exact u8_in63 _ | (simp only [inR, IntKind.bits]; omega) | (simp [inR, IntKind.bits]; done) | (simp [inR, IntKind.bits] at * <;> omega) | (simp_all; done) | (with_reducible assumption) | skip)
  exact G_ret tOk hM0 rfl rfl trivial trivial

def nadd_s : FSpec
  | [.c (.pv (.val (.pointer none))), .c (.pv (.lst .byt b)), .g [.pv (.val (.int .i64 e0)), .pv (.val (.int .i64 e1)), .pv (.val (.int .i64 e2)), .pv (.val (.int .i64 e3)), .pv (.val (.int .u32 e4))]] => some (True, false, .t [])
  | _ => none
theorem nadd_s_ok : SpecOk Try.prog 9 nadd_s := by
  intro args pre sh rv h hp; unfold nadd_s at h; split at h
  · cases h; exact nadd_fn _ _ _ _ _ _ 
  · cases h
def psi_nadd : FuncId → Option FSpec := psiCons 9 nadd_s psi_kcont
theorem psi_nadd_ok : PsiFn Try.prog psi_nadd := psiCons_ok nadd_s_ok psi_kcont_ok
def env_nfind : Env := ⟨T, psi_nadd, pspNil, pscNil, 37, [], none, true⟩
theorem eok_nfind : PsiOk Try.prog env_nfind := ⟨psi_nadd_ok, pspNil_ok, pscNil_ok⟩
theorem nfind_fn (b : List UInt8)  : Ctr Try.prog 10 true [.c (.pv (.val (.pointer none))), lst .byt b] (.x (.c (.lst .ent []))) := by
  refine Ctr_intro (E := env_nfind) Try.func10 rfl (by decide) rfl rfl (fun M0 W hM0 => ?_)
  refine G_run tOk eok_nfind 60 (fun _ => none) (fun bs => rfl) (fun bs => ?_) (fun bs => ?_)
  · (repeat' apply And.intro) <;> (intros; first | exact trivial | exact rfl | omega | exact u8_lo _ | exact u8_hi _ | exact u8_in64 _ | exact u8_in63 _ | (simp only [inR, IntKind.bits]; omega) | (simp [inR, IntKind.bits]; done) | (simp [inR, IntKind.bits] at * <;> omega) | (simp_all; done) | (with_reducible assumption) | skip)
  refine G_thn rfl rfl rfl ?_
  refine G_run tOk eok_nfind 60 (fun _ => none) (fun bs => rfl) (fun bs => ?_) (fun bs => ?_)
  · (repeat' apply And.intro) <;> (intros; first | exact trivial | exact rfl | omega | exact u8_lo _ | exact u8_hi _ | exact u8_in64 _ | exact u8_in63 _ | (simp only [inR, IntKind.bits]; omega) | (simp [inR, IntKind.bits]; done) | (simp [inR, IntKind.bits] at * <;> omega) | (simp_all; done) | (with_reducible assumption) | skip)
  exact G_ret tOk hM0 rfl rfl ⟨trivial, trivial⟩ ⟨rfl, rfl⟩

def nfind_s : FSpec
  | [.c (.pv (.val (.pointer none))), .c (.pv (.lst .byt b))] => some (True, true, .x (.c (.lst .ent [])))
  | _ => none
theorem nfind_s_ok : SpecOk Try.prog 10 nfind_s := by
  intro args pre sh rv h hp; unfold nfind_s at h; split at h
  · cases h; exact nfind_fn _ 
  · cases h
def psi_nfind : FuncId → Option FSpec := psiCons 10 nfind_s psi_nadd
theorem psi_nfind_ok : PsiFn Try.prog psi_nfind := psiCons_ok nfind_s_ok psi_nadd_ok
def env_nlen : Env := ⟨T, psi_nfind, pspNil, pscNil, 10, [], none, true⟩
theorem eok_nlen : PsiOk Try.prog env_nlen := ⟨psi_nfind_ok, pspNil_ok, pscNil_ok⟩
theorem nlen_fn   : Ctr Try.prog 11 false [.c (.pv (.val (.pointer none)))] (.x (.c (i64 0))) := by
  refine Ctr_intro (E := env_nlen) Try.func11 rfl (by decide) rfl rfl (fun M0 W hM0 => ?_)
  refine G_run tOk eok_nlen 60 (fun _ => none) (fun bs => rfl) (fun bs => ?_) (fun bs => ?_)
  · (repeat' apply And.intro) <;> (intros; first | exact trivial | exact rfl | omega | exact u8_lo _ | exact u8_hi _ | exact u8_in64 _ | exact u8_in63 _ | (simp only [inR, IntKind.bits]; omega) | (simp [inR, IntKind.bits]; done) | (simp [inR, IntKind.bits] at * <;> omega) | (simp_all; done) | (with_reducible assumption) | skip)
  refine G_thn rfl rfl rfl ?_
  refine G_run tOk eok_nlen 60 (fun _ => none) (fun bs => rfl) (fun bs => ?_) (fun bs => ?_)
  · (repeat' apply And.intro) <;> (intros; first | exact trivial | exact rfl | omega | exact u8_lo _ | exact u8_hi _ | exact u8_in64 _ | exact u8_in63 _ | (simp only [inR, IntKind.bits]; omega) | (simp [inR, IntKind.bits]; done) | (simp [inR, IntKind.bits] at * <;> omega) | (simp_all; done) | (with_reducible assumption) | skip)
  exact G_ret tOk hM0 rfl rfl ⟨trivial, trivial⟩ ⟨rfl, rfl⟩

def nlen_s : FSpec
  | [.c (.pv (.val (.pointer none)))] => some (True, false, .x (.c (i64 0)))
  | _ => none
theorem nlen_s_ok : SpecOk Try.prog 11 nlen_s := by
  intro args pre sh rv h hp; unfold nlen_s at h; split at h
  · cases h; exact nlen_fn  
  · cases h
def psi_nlen : FuncId → Option FSpec := psiCons 11 nlen_s psi_nfind
theorem psi_nlen_ok : PsiFn Try.prog psi_nlen := psiCons_ok nlen_s_ok psi_nfind_ok
def env_nforg : Env := ⟨T, psi_nlen, pspNil, pscNil, 29, [], none, true⟩
theorem eok_nforg : PsiOk Try.prog env_nforg := ⟨psi_nlen_ok, pspNil_ok, pscNil_ok⟩
theorem nforg_fn (e0 : Int) (e1 : Int) (e2 : Int) (e3 : Int) (e4 : Int)  : Ctr Try.prog 15 false [.c (.pv (.val (.pointer none))), .g [.pv (.val (.int .i64 e0)), .pv (.val (.int .i64 e1)), .pv (.val (.int .i64 e2)), .pv (.val (.int .i64 e3)), .pv (.val (.int .u32 e4))]] (.x (.c (bv false))) := by
  refine Ctr_intro (E := env_nforg) Try.func15 rfl (by decide) rfl rfl (fun M0 W hM0 => ?_)
  refine G_run tOk eok_nforg 60 (fun _ => none) (fun bs => rfl) (fun bs => ?_) (fun bs => ?_)
  · (repeat' apply And.intro) <;> (intros; first | exact trivial | exact rfl | omega | exact u8_lo _ | exact u8_hi _ | exact u8_in64 _ | exact u8_in63 _ | (simp only [inR, IntKind.bits]; omega) | (simp [inR, IntKind.bits]; done) | (simp [inR, IntKind.bits] at * <;> omega) | (simp_all; done) | (with_reducible assumption) | skip)
  refine G_thn rfl rfl rfl ?_
  refine G_run tOk eok_nforg 60 (fun _ => none) (fun bs => rfl) (fun bs => ?_) (fun bs => ?_)
  · (repeat' apply And.intro) <;> (intros; first | exact trivial | exact rfl | omega | exact u8_lo _ | exact u8_hi _ | exact u8_in64 _ | exact u8_in63 _ | (simp only [inR, IntKind.bits]; omega) | (simp [inR, IntKind.bits]; done) | (simp [inR, IntKind.bits] at * <;> omega) | (simp_all; done) | (with_reducible assumption) | skip)
  exact G_ret tOk hM0 rfl rfl ⟨trivial, trivial⟩ rfl

def nforg_s : FSpec
  | [.c (.pv (.val (.pointer none))), .g [.pv (.val (.int .i64 e0)), .pv (.val (.int .i64 e1)), .pv (.val (.int .i64 e2)), .pv (.val (.int .i64 e3)), .pv (.val (.int .u32 e4))]] => some (True, false, .x (.c (bv false)))
  | _ => none
theorem nforg_s_ok : SpecOk Try.prog 15 nforg_s := by
  intro args pre sh rv h hp; unfold nforg_s at h; split at h
  · cases h; exact nforg_fn _ _ _ _ _ 
  · cases h
def psi_nforg : FuncId → Option FSpec := psiCons 15 nforg_s psi_nlen
theorem psi_nforg_ok : PsiFn Try.prog psi_nforg := psiCons_ok nforg_s_ok psi_nlen_ok
def env_ncopy : Env := ⟨T, psi_nforg, pspNil, pscNil, 22, [], none, true⟩
theorem eok_ncopy : PsiOk Try.prog env_ncopy := ⟨psi_nforg_ok, pspNil_ok, pscNil_ok⟩
theorem ncopy_fn   : Ctr Try.prog 16 false [.c (.pv (.val (.pointer none)))] (.x (.c (.val (.pointer none)))) := by
  refine Ctr_intro (E := env_ncopy) Try.func16 rfl (by decide) rfl rfl (fun M0 W hM0 => ?_)
  refine G_run tOk eok_ncopy 60 (fun _ => none) (fun bs => rfl) (fun bs => ?_) (fun bs => ?_)
  · (repeat' apply And.intro) <;> (intros; first | exact trivial | exact rfl | omega | exact u8_lo _ | exact u8_hi _ | exact u8_in64 _ | exact u8_in63 _ | (simp only [inR, IntKind.bits]; omega) | (simp [inR, IntKind.bits]; done) | (simp [inR, IntKind.bits] at * <;> omega) | (simp_all; done) | (with_reducible assumption) | skip)
  refine G_thn rfl rfl rfl ?_
  refine G_run tOk eok_ncopy 60 (fun _ => none) (fun bs => rfl) (fun bs => ?_) (fun bs => ?_)
  · (repeat' apply And.intro) <;> (intros; first | exact trivial | exact rfl | omega | exact u8_lo _ | exact u8_hi _ | exact u8_in64 _ | exact u8_in63 _ | (simp only [inR, IntKind.bits]; omega) | (simp [inR, IntKind.bits]; done) | (simp [inR, IntKind.bits] at * <;> omega) | (simp_all; done) | (with_reducible assumption) | skip)
  exact G_ret tOk hM0 rfl rfl ⟨trivial, trivial⟩ rfl
def ncopy_s : FSpec
  | [.c (.pv (.val (.pointer none)))] => some (True, false, .x (.c (.val (.pointer none))))
  | _ => none
theorem ncopy_s_ok : SpecOk Try.prog 16 ncopy_s := by
  intro args pre sh rv h hp; unfold ncopy_s at h; split at h
  · cases h; exact ncopy_fn  
  · cases h
def psi_ncopy : FuncId → Option FSpec := psiCons 16 ncopy_s psi_nforg
theorem psi_ncopy_ok : PsiFn Try.prog psi_ncopy := psiCons_ok ncopy_s_ok psi_nforg_ok
end Go.Proofs.Ytbhemhmdmeomdaa
