import Derived.Test.YtndjdmnpdknneaaMapE
set_option linter.unusedSimpArgs false
set_option linter.unusedVariables false
namespace Go.Proofs.Ytndjdmnpdknneaa
open Go.Mt

theorem plc_spec (l : List Bitmap) (nm : List UInt8) : plc l nm < 0 ∨ (0 ≤ plc l nm ∧ (plc l nm).toNat < l.length) := by
  have := ixP_lt (isN nm) LK.bms.dft l l.length
  unfold plc
  by_cases h : ixP (isN nm) LK.bms.dft l l.length < 0
  · exact .inl h
  · exact .inr ⟨by omega, by have := this.2.2 (by omega); omega⟩

/-! ### one more -/
def mpE (l : List Bitmap) (nm : List UInt8) : Int := match nameB nm with
  | false => 1
  | true => match decide (0 ≤ plc l nm) with
    | true => 5
    | false => match decide (8 ≤ (l.length : Int)) with
      | true => 9
      | false => 0
def mpL (l : List Bitmap) (nm : List UInt8) : List Bitmap := match decide (mpE l nm = 0) with
  | true => l ++ [⟨nm, true, []⟩]
  | false => []

def env_madd : Env := ⟨T, psi_rmaps, pspNil, psc_del, 25, [], none, true⟩
theorem eok_madd : PsiOk Try.prog env_madd := ⟨psi_rmaps_ok, pspNil_ok, psc_del_ok⟩
theorem madd_fn (l : List Bitmap) (nm : List UInt8) (hl : BmOk l) (hn : nm.length ≤ 1000000000) : Ctr Try.prog 10 true [lst .bms l, str nm] (.ot 43 .bms (mpL l nm) [.c (i64 (mpE l nm))]) := by
  refine Ctr_intro (E := env_madd) Try.func10 rfl (by decide) rfl rfl (fun M0 W hM0 => ?_)
  have hll := hl.len
  refine G_run tOk eok_madd 60 (fun _ => none) (fun bs => rfl) (fun bs => ?_) (fun bs => ?_)
  · (repeat' apply And.intro) <;> (intros; first | exact trivial | exact rfl | omega | exact u8_lo _ | exact u8_hi _ | exact u8_in64 _ | exact u8_in63 _ | (simp only [inR, IntKind.bits]; omega) | (simp [inR, IntKind.bits]; done) | (simp [inR, IntKind.bits] at * <;> omega) | (simp_all; done) | (with_reducible assumption) | skip)
  refine G_cond (b := !nameB nm) rfl rfl (fun h => ?_) (fun h => ?_)
  · have e : mpE l nm = 1 := by simp only [mpE, (by simpa using h : nameB nm = false)]
    have e2 : mpL l nm = [] := by simp only [mpL, e]; rfl
    refine G_run tOk eok_madd 60 (fun _ => none) (fun bs => rfl) (fun bs => ?_) (fun bs => ?_)
    · (repeat' apply And.intro) <;> (intros; first | exact trivial | exact rfl | omega | exact u8_lo _ | exact u8_hi _ | exact u8_in64 _ | exact u8_in63 _ | (simp only [inR, IntKind.bits]; omega) | (simp [inR, IntKind.bits]; done) | (simp [inR, IntKind.bits] at * <;> omega) | (simp_all; done) | (with_reducible assumption) | skip)
    exact G_ret tOk hM0 rfl rfl ⟨trivial, trivial, trivial⟩ ⟨e2, ⟨rfl, e.symm⟩, trivial⟩
  have h1 : nameB nm = true := by simpa using h
  refine G_run tOk eok_madd 60 (fun _ => none) (fun bs => rfl) (fun bs => ?_) (fun bs => ?_)
  · (repeat' apply And.intro) <;> (intros; first | exact trivial | exact rfl | omega | exact u8_lo _ | exact u8_hi _ | exact u8_in64 _ | exact u8_in63 _ | (simp only [inR, IntKind.bits]; omega) | (simp [inR, IntKind.bits]; done) | (simp [inR, IntKind.bits] at * <;> omega) | (simp_all; done) | (with_reducible assumption) | skip)
  refine G_cond (b := decide (0 ≤ plc l nm)) rfl rfl (fun h2 => ?_) (fun h2 => ?_)
  · have e : mpE l nm = 5 := by simp only [mpE, h1, h2]
    have e2 : mpL l nm = [] := by simp only [mpL, e]; rfl
    refine G_run tOk eok_madd 60 (fun _ => none) (fun bs => rfl) (fun bs => ?_) (fun bs => ?_)
    · (repeat' apply And.intro) <;> (intros; first | exact trivial | exact rfl | omega | exact u8_lo _ | exact u8_hi _ | exact u8_in64 _ | exact u8_in63 _ | (simp only [inR, IntKind.bits]; omega) | (simp [inR, IntKind.bits]; done) | (simp [inR, IntKind.bits] at * <;> omega) | (simp_all; done) | (with_reducible assumption) | skip)
    exact G_ret tOk hM0 rfl rfl ⟨trivial, trivial, trivial⟩ ⟨e2, ⟨rfl, e.symm⟩, trivial⟩
  refine G_run tOk eok_madd 60 (fun _ => none) (fun bs => rfl) (fun bs => ?_) (fun bs => ?_)
  · (repeat' apply And.intro) <;> (intros; first | exact trivial | exact rfl | omega | exact u8_lo _ | exact u8_hi _ | exact u8_in64 _ | exact u8_in63 _ | (simp only [inR, IntKind.bits]; omega) | (simp [inR, IntKind.bits]; done) | (simp [inR, IntKind.bits] at * <;> omega) | (simp_all; done) | (with_reducible assumption) | skip)
  refine G_cond (b := decide (8 ≤ (l.length : Int))) rfl rfl (fun h3 => ?_) (fun h3 => ?_)
  · have e : mpE l nm = 9 := by simp only [mpE, h1, h2, h3]
    have e2 : mpL l nm = [] := by simp only [mpL, e]; rfl
    refine G_run tOk eok_madd 60 (fun _ => none) (fun bs => rfl) (fun bs => ?_) (fun bs => ?_)
    · (repeat' apply And.intro) <;> (intros; first | exact trivial | exact rfl | omega | exact u8_lo _ | exact u8_hi _ | exact u8_in64 _ | exact u8_in63 _ | (simp only [inR, IntKind.bits]; omega) | (simp [inR, IntKind.bits]; done) | (simp [inR, IntKind.bits] at * <;> omega) | (simp_all; done) | (with_reducible assumption) | skip)
    exact G_ret tOk hM0 rfl rfl ⟨trivial, trivial, trivial⟩ ⟨e2, ⟨rfl, e.symm⟩, trivial⟩
  have e : mpE l nm = 0 := by simp only [mpE, h1, h2, h3]
  have e2 : mpL l nm = l ++ [⟨nm, true, []⟩] := by simp only [mpL, e]; rfl
  refine G_run tOk eok_madd 60 (fun _ => none) (fun bs => rfl) (fun bs => ?_) (fun bs => ?_)
  · (repeat' apply And.intro) <;> (intros; first | exact trivial | exact rfl | omega | exact u8_lo _ | exact u8_hi _ | exact u8_in64 _ | exact u8_in63 _ | (simp only [inR, IntKind.bits]; omega) | (simp [inR, IntKind.bits]; done) | (simp [inR, IntKind.bits] at * <;> omega) | (simp_all; done) | (with_reducible assumption) | skip)
  exact G_ret tOk hM0 rfl rfl ⟨trivial, trivial, trivial⟩ ⟨⟨rfl, rfl, rfl, sigEq e2.symm⟩, ⟨rfl, e.symm⟩, trivial⟩

def madd_s : FSpec
  | [.c (.pv (.lst .bms l)), .c (.pv (.val (.string ⟨⟨nm⟩⟩)))] => some ((BmOk l) ∧ (nm.length ≤ 1000000000), true, .ot 43 .bms (mpL l nm) [.c (i64 (mpE l nm))])
  | _ => none
theorem madd_s_ok : SpecOk Try.prog 10 madd_s := by
  intro args pre sh rv h hp; unfold madd_s at h; split at h
  · cases h; obtain ⟨hl, hn⟩ := hp; exact madd_fn _ _ hl hn
  · cases h
def psi_madd : FuncId → Option FSpec := psiCons 10 madd_s psi_rmaps
theorem psi_madd_ok : PsiFn Try.prog psi_madd := psiCons_ok madd_s_ok psi_rmaps_ok
def env_radd2 : Env := ⟨T, psi_madd, pspNil, psc_del, 22, [], none, true⟩
theorem eok_radd2 : PsiOk Try.prog env_radd2 := ⟨psi_madd_ok, pspNil_ok, psc_del_ok⟩
theorem radd2_fn (l : List Bitmap) (nm : List UInt8) (hl : BmOk l) (hn : nm.length ≤ 1000000000) : Ctr Try.prog 24 true [lst .bms l, str nm] (.ot 43 .bms (mpL l nm) [.c (i64 (mpE l nm))]) := by
  refine Ctr_intro (E := env_radd2) Try.func24 rfl (by decide) rfl rfl (fun M0 W hM0 => ?_)
  have hll := hl.len
  refine G_run tOk eok_radd2 60 (fun _ => none) (fun bs => rfl) (fun bs => ?_) (fun bs => ?_)
  · (repeat' apply And.intro) <;> (intros; first | exact trivial | exact rfl | omega | exact u8_lo _ | exact u8_hi _ | exact u8_in64 _ | exact u8_in63 _ | (simp only [inR, IntKind.bits]; omega) | (simp [inR, IntKind.bits]; done) | (simp [inR, IntKind.bits] at * <;> omega) | (simp_all; done) | (with_reducible assumption) | skip)
  refine G_cond (b := !nameB nm) rfl rfl (fun h => ?_) (fun h => ?_)
  · have e : mpE l nm = 1 := by simp only [mpE, (by simpa using h : nameB nm = false)]
    have e2 : mpL l nm = [] := by simp only [mpL, e]; rfl
    refine G_run tOk eok_radd2 60 (fun _ => none) (fun bs => rfl) (fun bs => ?_) (fun bs => ?_)
    · (repeat' apply And.intro) <;> (intros; first | exact trivial | exact rfl | omega | exact u8_lo _ | exact u8_hi _ | exact u8_in64 _ | exact u8_in63 _ | (simp only [inR, IntKind.bits]; omega) | (simp [inR, IntKind.bits]; done) | (simp [inR, IntKind.bits] at * <;> omega) | (simp_all; done) | (with_reducible assumption) | skip)
    exact G_ret tOk hM0 rfl rfl ⟨trivial, trivial, trivial⟩ ⟨e2, ⟨rfl, e.symm⟩, trivial⟩
  have h1 : nameB nm = true := by simpa using h
  refine G_run tOk eok_radd2 60 (fun _ => none) (fun bs => rfl) (fun bs => ?_) (fun bs => ?_)
  · (repeat' apply And.intro) <;> (intros; first | exact trivial | exact rfl | omega | exact u8_lo _ | exact u8_hi _ | exact u8_in64 _ | exact u8_in63 _ | (simp only [inR, IntKind.bits]; omega) | (simp [inR, IntKind.bits]; done) | (simp [inR, IntKind.bits] at * <;> omega) | (simp_all; done) | (with_reducible assumption) | skip)
  refine G_cond (b := decide (0 ≤ plc l nm)) rfl rfl (fun h2 => ?_) (fun h2 => ?_)
  · have e : mpE l nm = 5 := by simp only [mpE, h1, h2]
    have e2 : mpL l nm = [] := by simp only [mpL, e]; rfl
    refine G_run tOk eok_radd2 60 (fun _ => none) (fun bs => rfl) (fun bs => ?_) (fun bs => ?_)
    · (repeat' apply And.intro) <;> (intros; first | exact trivial | exact rfl | omega | exact u8_lo _ | exact u8_hi _ | exact u8_in64 _ | exact u8_in63 _ | (simp only [inR, IntKind.bits]; omega) | (simp [inR, IntKind.bits]; done) | (simp [inR, IntKind.bits] at * <;> omega) | (simp_all; done) | (with_reducible assumption) | skip)
    exact G_ret tOk hM0 rfl rfl ⟨trivial, trivial, trivial⟩ ⟨e2, ⟨rfl, e.symm⟩, trivial⟩
  refine G_run tOk eok_radd2 60 (fun _ => none) (fun bs => rfl) (fun bs => ?_) (fun bs => ?_)
  · (repeat' apply And.intro) <;> (intros; first | exact trivial | exact rfl | omega | exact u8_lo _ | exact u8_hi _ | exact u8_in64 _ | exact u8_in63 _ | (simp only [inR, IntKind.bits]; omega) | (simp [inR, IntKind.bits]; done) | (simp [inR, IntKind.bits] at * <;> omega) | (simp_all; done) | (with_reducible assumption) | skip)
  refine G_cond (b := decide (8 ≤ (l.length : Int))) rfl rfl (fun h3 => ?_) (fun h3 => ?_)
  · have e : mpE l nm = 9 := by simp only [mpE, h1, h2, h3]
    have e2 : mpL l nm = [] := by simp only [mpL, e]; rfl
    refine G_run tOk eok_radd2 60 (fun _ => none) (fun bs => rfl) (fun bs => ?_) (fun bs => ?_)
    · (repeat' apply And.intro) <;> (intros; first | exact trivial | exact rfl | omega | exact u8_lo _ | exact u8_hi _ | exact u8_in64 _ | exact u8_in63 _ | (simp only [inR, IntKind.bits]; omega) | (simp [inR, IntKind.bits]; done) | (simp [inR, IntKind.bits] at * <;> omega) | (simp_all; done) | (with_reducible assumption) | skip)
    exact G_ret tOk hM0 rfl rfl ⟨trivial, trivial, trivial⟩ ⟨e2, ⟨rfl, e.symm⟩, trivial⟩
  have e : mpE l nm = 0 := by simp only [mpE, h1, h2, h3]
  have e2 : mpL l nm = l ++ [⟨nm, true, []⟩] := by simp only [mpL, e]; rfl
  refine G_run tOk eok_radd2 60 (fun _ => none) (fun bs => rfl) (fun bs => ?_) (fun bs => ?_)
  · (repeat' apply And.intro) <;> (intros; first | exact trivial | exact rfl | omega | exact u8_lo _ | exact u8_hi _ | exact u8_in64 _ | exact u8_in63 _ | (simp only [inR, IntKind.bits]; omega) | (simp [inR, IntKind.bits]; done) | (simp [inR, IntKind.bits] at * <;> omega) | (simp_all; done) | (with_reducible assumption) | skip)
  exact G_ret tOk hM0 rfl rfl ⟨trivial, trivial, trivial⟩ ⟨⟨rfl, rfl, rfl, sigEq e2.symm⟩, ⟨rfl, e.symm⟩, trivial⟩

/-! ### one less -/
def radd2_s : FSpec
  | [.c (.pv (.lst .bms l)), .c (.pv (.val (.string ⟨⟨nm⟩⟩)))] => some ((BmOk l) ∧ (nm.length ≤ 1000000000), true, .ot 43 .bms (mpL l nm) [.c (i64 (mpE l nm))])
  | _ => none
theorem radd2_s_ok : SpecOk Try.prog 24 radd2_s := by
  intro args pre sh rv h hp; unfold radd2_s at h; split at h
  · cases h; obtain ⟨hl, hn⟩ := hp; exact radd2_fn _ _ hl hn
  · cases h
def psi_radd2 : FuncId → Option FSpec := psiCons 24 radd2_s psi_madd
theorem psi_radd2_ok : PsiFn Try.prog psi_radd2 := psiCons_ok radd2_s_ok psi_madd_ok
def drE (l : List Bitmap) (nm : List UInt8) : Int := match decide (plc l nm < 0) with
  | true => 4
  | false => 0
def drL (l : List Bitmap) (nm : List UInt8) : List Bitmap := match decide (plc l nm < 0) with
  | true => []
  | false => l.take (plc l nm).toNat ++ l.drop (plc l nm + 1).toNat

def env_mdrop : Env := ⟨T, psi_radd2, pspNil, psc_del, 18, [], none, true⟩
theorem eok_mdrop : PsiOk Try.prog env_mdrop := ⟨psi_radd2_ok, pspNil_ok, psc_del_ok⟩
theorem mdrop_fn (l : List Bitmap) (nm : List UInt8) (hl : BmOk l) : Ctr Try.prog 21 true [lst .bms l, str nm] (.ot 43 .bms (drL l nm) [.c (i64 (drE l nm))]) := by
  refine Ctr_intro (E := env_mdrop) Try.func21 rfl (by decide) rfl rfl (fun M0 W hM0 => ?_)
  have hll := hl.len
  have hp := plc_spec l nm
  have hp2 := ixP_lt (isN nm) LK.bms.dft l l.length
  have hp3 : plc l nm = ixP (isN nm) LK.bms.dft l l.length := rfl
  refine G_run tOk eok_mdrop 60 (fun _ => none) (fun bs => rfl) (fun bs => ?_) (fun bs => ?_)
  · (repeat' apply And.intro) <;> (intros; first | exact trivial | exact rfl | omega | exact u8_lo _ | exact u8_hi _ | exact u8_in64 _ | exact u8_in63 _ | (simp only [inR, IntKind.bits]; omega) | (simp [inR, IntKind.bits]; done) | (simp [inR, IntKind.bits] at * <;> omega) | (simp_all; done) | (with_reducible assumption) | skip)
  refine G_cond (b := decide (plc l nm < 0)) rfl rfl (fun h => ?_) (fun h => ?_)
  · have e : drE l nm = 4 := by simp only [drE, h]
    have e2 : drL l nm = [] := by simp only [drL, h]
    refine G_run tOk eok_mdrop 60 (fun _ => none) (fun bs => rfl) (fun bs => ?_) (fun bs => ?_)
    · (repeat' apply And.intro) <;> (intros; first | exact trivial | exact rfl | omega | exact u8_lo _ | exact u8_hi _ | exact u8_in64 _ | exact u8_in63 _ | (simp only [inR, IntKind.bits]; omega) | (simp [inR, IntKind.bits]; done) | (simp [inR, IntKind.bits] at * <;> omega) | (simp_all; done) | (with_reducible assumption) | skip)
    exact G_ret tOk hM0 rfl rfl ⟨trivial, trivial, trivial⟩ ⟨e2, ⟨rfl, e.symm⟩, trivial⟩
  have h' : ¬ plc l nm < 0 := by simpa using h
  have e : drE l nm = 0 := by simp only [drE, h]
  have e2 : drL l nm = l.take (plc l nm).toNat ++ l.drop (plc l nm + 1).toNat := by simp only [drL, h]
  refine G_run tOk eok_mdrop 60 (fun _ => none) (fun bs => rfl) (fun bs => ?_) (fun bs => ?_)
  · (repeat' apply And.intro) <;> (intros; first | exact trivial | exact rfl | omega | exact u8_lo _ | exact u8_hi _ | exact u8_in64 _ | exact u8_in63 _ | (simp only [inR, IntKind.bits]; omega) | (simp [inR, IntKind.bits]; done) | (simp [inR, IntKind.bits] at * <;> omega) | (simp_all; done) | (with_reducible assumption) | skip)
  exact G_ret tOk hM0 rfl rfl ⟨trivial, trivial, trivial⟩ ⟨⟨rfl, rfl, rfl, sigEq e2.symm⟩, ⟨rfl, e.symm⟩, trivial⟩

def mdrop_s : FSpec
  | [.c (.pv (.lst .bms l)), .c (.pv (.val (.string ⟨⟨nm⟩⟩)))] => some ((BmOk l), true, .ot 43 .bms (drL l nm) [.c (i64 (drE l nm))])
  | _ => none
theorem mdrop_s_ok : SpecOk Try.prog 21 mdrop_s := by
  intro args pre sh rv h hp; unfold mdrop_s at h; split at h
  · cases h; have hl := hp; exact mdrop_fn _ _ hl
  · cases h
def psi_mdrop : FuncId → Option FSpec := psiCons 21 mdrop_s psi_radd2
theorem psi_mdrop_ok : PsiFn Try.prog psi_mdrop := psiCons_ok mdrop_s_ok psi_radd2_ok
def env_rdrop : Env := ⟨T, psi_mdrop, pspNil, psc_del, 27, [], none, true⟩
theorem eok_rdrop : PsiOk Try.prog env_rdrop := ⟨psi_mdrop_ok, pspNil_ok, psc_del_ok⟩
theorem rdrop_fn (l : List Bitmap) (nm : List UInt8) (hl : BmOk l) : Ctr Try.prog 25 true [lst .bms l, str nm] (.ot 43 .bms (drL l nm) [.c (i64 (drE l nm))]) := by
  refine Ctr_intro (E := env_rdrop) Try.func25 rfl (by decide) rfl rfl (fun M0 W hM0 => ?_)
  have hll := hl.len
  have hp := plc_spec l nm
  have hp2 := ixP_lt (isN nm) LK.bms.dft l l.length
  have hp3 : plc l nm = ixP (isN nm) LK.bms.dft l l.length := rfl
  refine G_run tOk eok_rdrop 60 (fun _ => none) (fun bs => rfl) (fun bs => ?_) (fun bs => ?_)
  · (repeat' apply And.intro) <;> (intros; first | exact trivial | exact rfl | omega | exact u8_lo _ | exact u8_hi _ | exact u8_in64 _ | exact u8_in63 _ | (simp only [inR, IntKind.bits]; omega) | (simp [inR, IntKind.bits]; done) | (simp [inR, IntKind.bits] at * <;> omega) | (simp_all; done) | (with_reducible assumption) | skip)
  refine G_cond (b := decide (plc l nm < 0)) rfl rfl (fun h => ?_) (fun h => ?_)
  · have e : drE l nm = 4 := by simp only [drE, h]
    have e2 : drL l nm = [] := by simp only [drL, h]
    refine G_run tOk eok_rdrop 60 (fun _ => none) (fun bs => rfl) (fun bs => ?_) (fun bs => ?_)
    · (repeat' apply And.intro) <;> (intros; first | exact trivial | exact rfl | omega | exact u8_lo _ | exact u8_hi _ | exact u8_in64 _ | exact u8_in63 _ | (simp only [inR, IntKind.bits]; omega) | (simp [inR, IntKind.bits]; done) | (simp [inR, IntKind.bits] at * <;> omega) | (simp_all; done) | (with_reducible assumption) | skip)
    exact G_ret tOk hM0 rfl rfl ⟨trivial, trivial, trivial⟩ ⟨e2, ⟨rfl, e.symm⟩, trivial⟩
  have h' : ¬ plc l nm < 0 := by simpa using h
  have e : drE l nm = 0 := by simp only [drE, h]
  have e2 : drL l nm = l.take (plc l nm).toNat ++ l.drop (plc l nm + 1).toNat := by simp only [drL, h]
  refine G_run tOk eok_rdrop 60 (fun _ => none) (fun bs => rfl) (fun bs => ?_) (fun bs => ?_)
  · (repeat' apply And.intro) <;> (intros; first | exact trivial | exact rfl | omega | exact u8_lo _ | exact u8_hi _ | exact u8_in64 _ | exact u8_in63 _ | (simp only [inR, IntKind.bits]; omega) | (simp [inR, IntKind.bits]; done) | (simp [inR, IntKind.bits] at * <;> omega) | (simp_all; done) | (with_reducible assumption) | skip)
  refine G_freeze 0 [7, 17] rfl ⟨rfl, rfl, trivial⟩ ?_
  refine G_run tOk eok_rdrop 60 (fun _ => none) (fun bs => rfl) (fun bs => ?_) (fun bs => ?_)
  · (repeat' apply And.intro) <;> (intros; first | exact trivial | exact rfl | omega | exact u8_lo _ | exact u8_hi _ | exact u8_in64 _ | exact u8_in63 _ | (simp only [inR, IntKind.bits]; omega) | (simp [inR, IntKind.bits]; done) | (simp [inR, IntKind.bits] at * <;> omega) | (simp_all; done) | (with_reducible assumption) | skip)
  exact G_ret tOk hM0 rfl rfl ⟨trivial, trivial, trivial⟩ ⟨⟨rfl, rfl, rfl, sigEq (by rw [e2]; simp)⟩, ⟨rfl, e.symm⟩, trivial⟩
def rdrop_s : FSpec
  | [.c (.pv (.lst .bms l)), .c (.pv (.val (.string ⟨⟨nm⟩⟩)))] => some ((BmOk l), true, .ot 43 .bms (drL l nm) [.c (i64 (drE l nm))])
  | _ => none
theorem rdrop_s_ok : SpecOk Try.prog 25 rdrop_s := by
  intro args pre sh rv h hp; unfold rdrop_s at h; split at h
  · cases h; have hl := hp; exact rdrop_fn _ _ hl
  · cases h
def psi_rdrop : FuncId → Option FSpec := psiCons 25 rdrop_s psi_mdrop
theorem psi_rdrop_ok : PsiFn Try.prog psi_rdrop := psiCons_ok rdrop_s_ok psi_mdrop_ok
end Go.Proofs.Ytndjdmnpdknneaa
