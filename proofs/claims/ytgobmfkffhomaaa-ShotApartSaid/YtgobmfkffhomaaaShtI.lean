import Derived.Test.YtgobmfkffhomaaaShtH
set_option linter.unusedSimpArgs false
set_option linter.unusedVariables false
namespace Go.Proofs.Ytgobmfkffhomaaa
open Go.Mt

/-! ### one less -/
def sdE (m : Mta) (nm : List UInt8) : Int := match decide (spl m.sh nm < 0) with
  | true => 4
  | false => 0
def sdM (m : Mta) (nm : List UInt8) : Mta := match decide (spl m.sh nm < 0) with
  | true => Mta.z
  | false => ⟨m.cl, m.sz, m.bk, m.t, m.sh.take (spl m.sh nm).toNat ++ m.sh.drop (spl m.sh nm + 1).toNat, m.mp, m.ct⟩

def env_sdrop : Env := ⟨T, psi_sadd2, pspNil, psc_del, 23, [], none, true⟩
theorem eok_sdrop : PsiOk Try.prog env_sdrop := ⟨psi_sadd2_ok, pspNil_ok, psc_del_ok⟩
theorem sdrop_fn (m0 : Int) (m1 : Int) (m2 : List UInt8) (m3 : List (List Entry)) (m4 : List Shot) (m5 : List Bitmap) (m6 : List Int) (nm : List UInt8) (hm : MtaOk ⟨m0, m1, m2, m3, m4, m5, m6⟩) : Ctr Try.prog 14 true [.g [.pv (.val (.int .i64 m0)), .pv (.val (.int .i64 m1)), .pv (.val (.string ⟨⟨m2⟩⟩)), .pv (.lst .tbl m3), .pv (.lst .sht m4), .pv (.lst .bms m5), .pv (.lst (.ints .i64) m6)], str nm] (.t [.g (sdM ⟨m0, m1, m2, m3, m4, m5, m6⟩ nm).pvs, .c (i64 (sdE ⟨m0, m1, m2, m3, m4, m5, m6⟩ nm))]) := by
  refine Ctr_intro (E := env_sdrop) Try.func14 rfl (by decide) rfl rfl (fun M0 W hM0 => ?_)
  obtain ⟨ht, hS, hM, hC⟩ := hm
  have hSl := hS.len
  have hMl := hM.len
  simp only at ht hS hM hC hSl hMl
  have hp := spl_spec m4 nm
  refine G_run tOk eok_sdrop 60 (fun _ => none) (fun bs => rfl) (fun bs => ?_) (fun bs => ?_)
  · (repeat' apply And.intro) <;> (intros; first | exact trivial | exact rfl | omega | exact u8_lo _ | exact u8_hi _ | exact u8_in64 _ | exact u8_in63 _ | (simp only [inR, IntKind.bits]; omega) | (simp [inR, IntKind.bits]; done) | (simp [inR, IntKind.bits] at * <;> omega) | (simp_all; done) | (with_reducible assumption) | skip)
  refine G_cond (b := decide (spl m4 nm < 0)) rfl rfl (fun h => ?_) (fun h => ?_)
  · have e : sdE ⟨m0, m1, m2, m3, m4, m5, m6⟩ nm = 4 := by simp only [sdE, h]
    have e2 : sdM ⟨m0, m1, m2, m3, m4, m5, m6⟩ nm = Mta.z := by simp only [sdM, h]
    rw [e, e2]
    refine G_run tOk eok_sdrop 60 (fun _ => none) (fun bs => rfl) (fun bs => ?_) (fun bs => ?_)
    · (repeat' apply And.intro) <;> (intros; first | exact trivial | exact rfl | omega | exact u8_lo _ | exact u8_hi _ | exact u8_in64 _ | exact u8_in63 _ | (simp only [inR, IntKind.bits]; omega) | (simp [inR, IntKind.bits]; done) | (simp [inR, IntKind.bits] at * <;> omega) | (simp_all; done) | (with_reducible assumption) | skip)
    exact G_ret tOk hM0 rfl rfl ⟨rfl, trivial, trivial⟩ ⟨⟨⟨rfl, rfl⟩, ⟨rfl, rfl⟩, rfl, ⟨rfl, rfl⟩, ⟨rfl, rfl⟩, ⟨rfl, rfl⟩, ⟨rfl, rfl⟩, trivial⟩, ⟨rfl, rfl⟩, trivial⟩
  have h' : ¬ spl m4 nm < 0 := by simpa using h
  have e : sdE ⟨m0, m1, m2, m3, m4, m5, m6⟩ nm = 0 := by simp only [sdE, h]
  have e2 : sdM ⟨m0, m1, m2, m3, m4, m5, m6⟩ nm = ⟨m0, m1, m2, m3, m4.take (spl m4 nm).toNat ++ m4.drop (spl m4 nm + 1).toNat, m5, m6⟩ := by simp only [sdM, h]
  rw [e, e2]
  refine G_run tOk eok_sdrop 60 (fun _ => none) (fun bs => rfl) (fun bs => ?_) (fun bs => ?_)
  · (repeat' apply And.intro) <;> (intros; first | exact trivial | exact rfl | omega | exact u8_lo _ | exact u8_hi _ | exact u8_in64 _ | exact u8_in63 _ | (simp only [inR, IntKind.bits]; omega) | (simp [inR, IntKind.bits]; done) | (simp [inR, IntKind.bits] at * <;> omega) | (simp_all; done) | (with_reducible assumption) | skip)
  refine G_nx 2 rfl ?_
  refine G_callH [] id (sown m0 m1 m2 m3 m4 m5 m6 ht hS hM hC) rfl trivial rfl rfl rfl rfl (by decide) rfl rfl (fun x => rfl) (fun x _ => ?_)
  obtain ⟨v, u⟩ := x
  dsimp only
  refine G_run tOk eok_sdrop 60 (fun _ => none) (fun bs => rfl) (fun bs => ?_) (fun bs => ?_)
  · (repeat' apply And.intro) <;> (intros; first | exact trivial | exact rfl | omega | exact u8_lo _ | exact u8_hi _ | exact u8_in64 _ | exact u8_in63 _ | (simp only [inR, IntKind.bits]; omega) | (simp [inR, IntKind.bits]; done) | (simp [inR, IntKind.bits] at * <;> omega) | (simp_all; done) | (with_reducible assumption) | skip)
  refine G_freezeC 1 4 4 rfl rfl rfl ?_
  refine G_freezeC 1 5 3 rfl rfl rfl ?_
  exact G_ret tOk hM0 rfl rfl ⟨rfl, trivial, trivial⟩ ⟨⟨⟨rfl, rfl⟩, ⟨rfl, rfl⟩, rfl, rfl, rfl, rfl, rfl, trivial⟩, ⟨rfl, rfl⟩, trivial⟩

/-! ### by its name -/
def sdrop_s : FSpec
  | [.g [.pv (.val (.int .i64 m0)), .pv (.val (.int .i64 m1)), .pv (.val (.string ⟨⟨m2⟩⟩)), .pv (.lst .tbl m3), .pv (.lst .sht m4), .pv (.lst .bms m5), .pv (.lst (.ints .i64) m6)], .c (.pv (.val (.string ⟨⟨nm⟩⟩)))] => some ((MtaOk ⟨m0, m1, m2, m3, m4, m5, m6⟩), true, .t [.g (sdM ⟨m0, m1, m2, m3, m4, m5, m6⟩ nm).pvs, .c (i64 (sdE ⟨m0, m1, m2, m3, m4, m5, m6⟩ nm))])
  | _ => none
theorem sdrop_s_ok : SpecOk Try.prog 14 sdrop_s := by
  intro args pre sh rv h hp; unfold sdrop_s at h; split at h
  · cases h; have hm := hp; exact sdrop_fn _ _ _ _ _ _ _ _ hm
  · cases h
def psi_sdrop : FuncId → Option FSpec := psiCons 14 sdrop_s psi_sadd2
theorem psi_sdrop_ok : PsiFn Try.prog psi_sdrop := psiCons_ok sdrop_s_ok psi_sadd2_ok
def sfB (m : Mta) (nm : List UInt8) : Bool := decide (0 ≤ spl m.sh nm)
def sfS (m : Mta) (nm : List UInt8) : Shot := match decide (spl m.sh nm < 0) with
  | true => ⟨[], 0, []⟩
  | false => m.sh.getD (spl m.sh nm).toNat LK.sht.dft
abbrev Sht.pvs (s : Shot) : List PV := [.val (.string ⟨⟨s.name⟩⟩), i64 s.size, .lst .tbl s.t]

def env_sfind : Env := ⟨T, psi_sdrop, pspNil, psc_del, 24, [], none, true⟩
theorem eok_sfind : PsiOk Try.prog env_sfind := ⟨psi_sdrop_ok, pspNil_ok, psc_del_ok⟩
theorem sfind_fn (m0 : Int) (m1 : Int) (m2 : List UInt8) (m3 : List (List Entry)) (m4 : List Shot) (m5 : List Bitmap) (m6 : List Int) (nm : List UInt8) (hm : MtaOk ⟨m0, m1, m2, m3, m4, m5, m6⟩) : Ctr Try.prog 18 true [.g [.pv (.val (.int .i64 m0)), .pv (.val (.int .i64 m1)), .pv (.val (.string ⟨⟨m2⟩⟩)), .pv (.lst .tbl m3), .pv (.lst .sht m4), .pv (.lst .bms m5), .pv (.lst (.ints .i64) m6)], str nm] (.t [.g (Sht.pvs (sfS ⟨m0, m1, m2, m3, m4, m5, m6⟩ nm)), .c (bv (sfB ⟨m0, m1, m2, m3, m4, m5, m6⟩ nm))]) := by
  refine Ctr_intro (E := env_sfind) Try.func18 rfl (by decide) rfl rfl (fun M0 W hM0 => ?_)
  obtain ⟨ht, hS, hM, hC⟩ := hm
  have hSl := hS.len
  simp only at ht hS hM hC hSl
  have hp := spl_spec m4 nm
  have hTi : TlOk (m4.getD (spl m4 nm).toNat LK.sht.dft).t := hS.get _
  refine G_run tOk eok_sfind 60 (fun _ => none) (fun bs => rfl) (fun bs => ?_) (fun bs => ?_)
  · (repeat' apply And.intro) <;> (intros; first | exact trivial | exact rfl | omega | exact u8_lo _ | exact u8_hi _ | exact u8_in64 _ | exact u8_in63 _ | (simp only [inR, IntKind.bits]; omega) | (simp [inR, IntKind.bits]; done) | (simp [inR, IntKind.bits] at * <;> omega) | (simp_all; done) | (with_reducible assumption) | skip)
  refine G_cond (b := decide (spl m4 nm < 0)) rfl rfl (fun h => ?_) (fun h => ?_)
  · have h' : spl m4 nm < 0 := by simpa using h
    have e : sfB ⟨m0, m1, m2, m3, m4, m5, m6⟩ nm = false := by simp only [sfB, decide_eq_false_iff_not]; omega
    have e2 : sfS ⟨m0, m1, m2, m3, m4, m5, m6⟩ nm = ⟨[], 0, []⟩ := by simp only [sfS, h]
    rw [e, e2]
    refine G_run tOk eok_sfind 60 (fun _ => none) (fun bs => rfl) (fun bs => ?_) (fun bs => ?_)
    · (repeat' apply And.intro) <;> (intros; first | exact trivial | exact rfl | omega | exact u8_lo _ | exact u8_hi _ | exact u8_in64 _ | exact u8_in63 _ | (simp only [inR, IntKind.bits]; omega) | (simp [inR, IntKind.bits]; done) | (simp [inR, IntKind.bits] at * <;> omega) | (simp_all; done) | (with_reducible assumption) | skip)
    exact G_ret tOk hM0 rfl rfl ⟨rfl, trivial, trivial⟩ ⟨⟨rfl, ⟨rfl, rfl⟩, ⟨rfl, rfl⟩, trivial⟩, rfl, trivial⟩
  have h' : ¬ spl m4 nm < 0 := by simpa using h
  have e : sfB ⟨m0, m1, m2, m3, m4, m5, m6⟩ nm = true := by simp only [sfB, decide_eq_true_eq]; omega
  have e2 : sfS ⟨m0, m1, m2, m3, m4, m5, m6⟩ nm = m4.getD (spl m4 nm).toNat LK.sht.dft := by simp only [sfS, h]
  rw [e, e2]
  refine G_run tOk eok_sfind 60 (fun _ => none) (fun bs => rfl) (fun bs => ?_) (fun bs => ?_)
  · (repeat' apply And.intro) <;> (intros; first | exact trivial | exact rfl | omega | exact u8_lo _ | exact u8_hi _ | exact u8_in64 _ | exact u8_in63 _ | (simp only [inR, IntKind.bits]; omega) | (simp [inR, IntKind.bits]; done) | (simp [inR, IntKind.bits] at * <;> omega) | (simp_all; done) | (with_reducible assumption) | skip)
  exact G_ret tOk hM0 rfl rfl ⟨rfl, trivial, trivial⟩ ⟨⟨rfl, ⟨rfl, rfl⟩, rfl, trivial⟩, rfl, trivial⟩

def sfind_s : FSpec
  | [.g [.pv (.val (.int .i64 m0)), .pv (.val (.int .i64 m1)), .pv (.val (.string ⟨⟨m2⟩⟩)), .pv (.lst .tbl m3), .pv (.lst .sht m4), .pv (.lst .bms m5), .pv (.lst (.ints .i64) m6)], .c (.pv (.val (.string ⟨⟨nm⟩⟩)))] => some ((MtaOk ⟨m0, m1, m2, m3, m4, m5, m6⟩), true, .t [.g (Sht.pvs (sfS ⟨m0, m1, m2, m3, m4, m5, m6⟩ nm)), .c (bv (sfB ⟨m0, m1, m2, m3, m4, m5, m6⟩ nm))])
  | _ => none
theorem sfind_s_ok : SpecOk Try.prog 18 sfind_s := by
  intro args pre sh rv h hp; unfold sfind_s at h; split at h
  · cases h; have hm := hp; exact sfind_fn _ _ _ _ _ _ _ _ hm
  · cases h
def psi_sfind : FuncId → Option FSpec := psiCons 18 sfind_s psi_sdrop
theorem psi_sfind_ok : PsiFn Try.prog psi_sfind := psiCons_ok sfind_s_ok psi_sdrop_ok
def env_num : Env := ⟨T, psi_sfind, pspNil, psc_del, 4, [], none, true⟩
theorem eok_num : PsiOk Try.prog env_num := ⟨psi_sfind_ok, pspNil_ok, psc_del_ok⟩
theorem num_fn (e : Int)  : Ctr Try.prog 13 false [int .i64 e] (.x (.c (i64 e))) := by
  refine Ctr_intro (E := env_num) Try.func13 rfl (by decide) rfl rfl (fun M0 W hM0 => ?_)
  refine G_run tOk eok_num 60 (fun _ => none) (fun bs => rfl) (fun bs => ?_) (fun bs => ?_)
  · (repeat' apply And.intro) <;> (intros; first | exact trivial | exact rfl | omega | exact u8_lo _ | exact u8_hi _ | exact u8_in64 _ | exact u8_in63 _ | (simp only [inR, IntKind.bits]; omega) | (simp [inR, IntKind.bits]; done) | (simp [inR, IntKind.bits] at * <;> omega) | (simp_all; done) | (with_reducible assumption) | skip)
  exact G_ret tOk hM0 rfl rfl ⟨trivial, trivial⟩ ⟨rfl, rfl⟩

def num_s : FSpec
  | [.c (.pv (.val (.int .i64 e)))] => some (True, false, .x (.c (i64 e)))
  | _ => none
theorem num_s_ok : SpecOk Try.prog 13 num_s := by
  intro args pre sh rv h hp; unfold num_s at h; split at h
  · cases h; exact num_fn _ 
  · cases h
def psi_num : FuncId → Option FSpec := psiCons 13 num_s psi_sfind
theorem psi_num_ok : PsiFn Try.prog psi_num := psiCons_ok num_s_ok psi_sfind_ok
theorem MtaOk.z : MtaOk Mta.z := ⟨TlOk.nil, ⟨by simp [Mta.z], by simp [Mta.z]⟩, ⟨by simp [Mta.z], by simp [Mta.z]⟩, by simp [Mta.z]⟩
def env_awake : Env := ⟨T, psi_num, pspNil, psc_del, 42, [], none, true⟩
theorem eok_awake : PsiOk Try.prog env_awake := ⟨psi_num_ok, pspNil_ok, psc_del_ok⟩
theorem awake_fn   : Ctr Try.prog 11 false [] (.x (.c (bv true))) := by
  refine Ctr_intro (E := env_awake) Try.func11 rfl (by decide) rfl rfl (fun M0 W hM0 => ?_)
  have k0 : MtaOk ⟨0, 0, [], [], [], [], []⟩ := MtaOk.z
  have hE : saE ⟨0, 0, [], [], [], [], []⟩ [97] = 0 := by decide +kernel
  have hL : saM ⟨0, 0, [], [], [], [], []⟩ [97] = ⟨0, 0, [], [], [⟨[97], 0, []⟩], [], []⟩ := by decide +kernel
  have k1 : MtaOk ⟨0, 0, [], [], [⟨[97], 0, []⟩], [], []⟩ := ⟨TlOk.nil, ⟨by simp, fun b hb => by simp at hb; subst hb; exact TlOk.nil⟩, ⟨by simp, by simp⟩, by simp⟩
  have hC : sdM ⟨0, 0, [], [], [⟨[97], 0, []⟩], [], []⟩ [97] = Mta.z := by decide +kernel
  have hD : sdE ⟨0, 0, [], [], [⟨[97], 0, []⟩], [], []⟩ [97] = 0 := by decide +kernel
  have hN : nameB [97, 46, 98] = true := by decide +kernel
  have hN2 : nameB [65] = false := by decide +kernel
  refine G_run tOk eok_awake 6 (fun _ => none) (fun bs => rfl) (fun bs => ?_) (fun bs => ?_)
  · (repeat' apply And.intro) <;> (intros; first | exact trivial | exact rfl | omega | exact u8_lo _ | exact u8_hi _ | exact u8_in64 _ | exact u8_in63 _ | (simp only [inR, IntKind.bits]; omega) | (simp [inR, IntKind.bits]; done) | (simp [inR, IntKind.bits] at * <;> omega) | (simp_all; done) | (with_reducible assumption) | skip)
  rw [hE, hL]
  refine G_run tOk eok_awake 4 (fun _ => none) (fun bs => rfl) (fun bs => ?_) (fun bs => ?_)
  · (repeat' apply And.intro) <;> (intros; first | exact trivial | exact rfl | omega | exact u8_lo _ | exact u8_hi _ | exact u8_in64 _ | exact u8_in63 _ | (simp only [inR, IntKind.bits]; omega) | (simp [inR, IntKind.bits]; done) | (simp [inR, IntKind.bits] at * <;> omega) | (simp_all; done) | (with_reducible assumption) | skip)
  rw [hC, hD]
  refine G_run tOk eok_awake 60 (fun _ => some true) (fun bs => rfl) (fun bs => ?_) (fun bs => ?_)
  · (repeat' apply And.intro) <;> (intros; first | exact trivial | exact rfl | omega | exact u8_lo _ | exact u8_hi _ | exact u8_in64 _ | exact u8_in63 _ | (simp only [inR, IntKind.bits]; omega) | (simp [inR, IntKind.bits]; done) | (simp [inR, IntKind.bits] at * <;> omega) | (simp_all; done) | (with_reducible assumption) | skip)
  refine G_ret tOk hM0 rfl rfl ⟨trivial, trivial⟩ ?_
  conv => whnf
  all_goals simp [hN, hN2, Mta.z]

def awake_s : FSpec
  | [] => some (True, false, .x (.c (bv true)))
  | _ => none
theorem awake_s_ok : SpecOk Try.prog 11 awake_s := by
  intro args pre sh rv h hp; unfold awake_s at h; split at h
  · cases h; exact awake_fn  
  · cases h
def psi_awake : FuncId → Option FSpec := psiCons 11 awake_s psi_num
theorem psi_awake_ok : PsiFn Try.prog psi_awake := psiCons_ok awake_s_ok psi_num_ok
def env_snames : Env := ⟨T, psi_awake, pspNil, psc_del, 16, [], none, true⟩
theorem eok_snames : PsiOk Try.prog env_snames := ⟨psi_awake_ok, pspNil_ok, psc_del_ok⟩
theorem snames_fn (s : List UInt8) (hs : s.length ≤ 9223372036854775807) : Ctr Try.prog 3 false [str s] (.x (.c (bv true))) := by
  refine Ctr_intro (E := env_snames) Try.func3 rfl (by decide) rfl rfl (fun M0 W hM0 => ?_)
  by_cases h : (1000 : Int) < (s.length : Int)
  · refine G_run tOk eok_snames 60 (fun _ => some true) (fun bs => rfl) (fun bs => ?_) (fun bs => ?_)
    · (repeat' apply And.intro) <;> (intros; first | exact trivial | exact rfl | omega | exact u8_lo _ | exact u8_hi _ | exact u8_in64 _ | exact u8_in63 _ | (simp only [inR, IntKind.bits]; omega) | (simp [inR, IntKind.bits]; done) | (simp [inR, IntKind.bits] at * <;> omega) | (simp_all; done) | (with_reducible assumption) | skip)
    refine G_ret tOk hM0 rfl rfl ⟨trivial, trivial⟩ ?_
    conv => whnf
    all_goals simp [h]
  · have h1 : s.length ≤ 1000 := by omega
    refine G_run tOk eok_snames 60 (fun j => match j with | 3 => some false | _ => some true) (fun bs => rfl) (fun bs => ?_) (fun bs => ?_)
    · (repeat' apply And.intro) <;> (intros; first | exact trivial | exact rfl | omega | exact u8_lo _ | exact u8_hi _ | exact u8_in64 _ | exact u8_in63 _ | (simp only [inR, IntKind.bits]; omega) | (simp [inR, IntKind.bits]; done) | (simp [inR, IntKind.bits] at * <;> omega) | (simp_all; done) | (with_reducible assumption) | skip)
    refine G_ret tOk hM0 rfl rfl ⟨trivial, trivial⟩ ?_
    conv => whnf
    all_goals simp [h]
def snames_s : FSpec
  | [.c (.pv (.val (.string ⟨⟨s⟩⟩)))] => some ((s.length ≤ 9223372036854775807), false, .x (.c (bv true)))
  | _ => none
theorem snames_s_ok : SpecOk Try.prog 3 snames_s := by
  intro args pre sh rv h hp; unfold snames_s at h; split at h
  · cases h; have hs := hp; exact snames_fn _ hs
  · cases h
def psi_snames : FuncId → Option FSpec := psiCons 3 snames_s psi_awake
theorem psi_snames_ok : PsiFn Try.prog psi_snames := psiCons_ok snames_s_ok psi_awake_ok
end Go.Proofs.Ytgobmfkffhomaaa
