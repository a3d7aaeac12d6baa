import Derived.Test.YtndjdmnpdknneaaMapG
set_option linter.unusedSimpArgs false
set_option linter.unusedVariables false
namespace Go.Proofs.Ytndjdmnpdknneaa
open Go.Mt

/-! ### one turned -/
def trnE (l : List Bitmap) (nm : List UInt8) : Int := match decide (plc l nm < 0) with
  | true => 4
  | false => 0
def trnL (l : List Bitmap) (nm : List UInt8) (f : Bitmap → Bitmap) : List Bitmap := match decide (plc l nm < 0) with
  | true => []
  | false => l.set (plc l nm).toNat (f (l.getD (plc l nm).toNat LK.bms.dft))
abbrev fOn (on : Bool) : Bitmap → Bitmap := fun b => ⟨b.name, on, b.l⟩
abbrev fClr : Bitmap → Bitmap := fun b => ⟨b.name, b.on, []⟩

def env_tcl : Env := ⟨T, psi_rdrop, pspNil, psc_del, 7, [], none, false⟩
theorem eok_tcl : PsiOk Try.prog env_tcl := ⟨psi_rdrop_ok, pspNil_ok, psc_del_ok⟩
theorem tcl (v : Value) (l : List Bitmap) (i : Nat) (on : Bool) (hi : i < l.length) : CtrH (X := Unit) Try.prog 34 [.c (.oel 0 v i 3 0), .c (.cel [bv on])] [.own v 43 .bms l] (fun _ => True) (fun _ => .t []) (fun _ => [.own v 43 .bms (l.set i (fOn on (l.getD i LK.bms.dft)))]) := by
  refine CtrH_intro (E := env_tcl) Try.func34 rfl (by decide) rfl rfl (fun M0 W hM0 => ?_)
  refine G_run tOk eok_tcl 60 (fun _ => none) (fun bs => rfl) (fun bs => ?_) (fun bs => ?_)
  · (repeat' apply And.intro) <;> (intros; first | exact trivial | exact rfl | omega | exact u8_lo _ | exact u8_hi _ | exact u8_in64 _ | exact u8_in63 _ | (simp only [inR, IntKind.bits]; omega) | (simp [inR, IntKind.bits]; done) | (simp [inR, IntKind.bits] at * <;> omega) | (simp_all; done) | (with_reducible assumption) | skip)
  refine G_endH rfl tOk rfl trivial () trivial [0] id rfl (by decide) rfl

def env_ccl : Env := ⟨T, psi_rdrop, pspNil, psc_del, 5, [], none, false⟩
theorem eok_ccl : PsiOk Try.prog env_ccl := ⟨psi_rdrop_ok, pspNil_ok, psc_del_ok⟩
theorem ccl (v : Value) (l : List Bitmap) (i : Nat) (hi : i < l.length) : CtrH (X := Unit) Try.prog 35 [.c (.oel 0 v i 3 0)] [.own v 43 .bms l] (fun _ => True) (fun _ => .t []) (fun _ => [.own v 43 .bms (l.set i (fClr (l.getD i LK.bms.dft)))]) := by
  refine CtrH_intro (E := env_ccl) Try.func35 rfl (by decide) rfl rfl (fun M0 W hM0 => ?_)
  refine G_run tOk eok_ccl 60 (fun _ => none) (fun bs => rfl) (fun bs => ?_) (fun bs => ?_)
  · (repeat' apply And.intro) <;> (intros; first | exact trivial | exact rfl | omega | exact u8_lo _ | exact u8_hi _ | exact u8_in64 _ | exact u8_in63 _ | (simp only [inR, IntKind.bits]; omega) | (simp [inR, IntKind.bits]; done) | (simp [inR, IntKind.bits] at * <;> omega) | (simp_all; done) | (with_reducible assumption) | skip)
  refine G_endH rfl tOk rfl trivial () trivial [0] id rfl (by decide) rfl

def env_turnedT : Env := ⟨T, psi_rdrop, pspNil, psc_del, 23, [], none, true⟩
theorem eok_turnedT : PsiOk Try.prog env_turnedT := ⟨psi_rdrop_ok, pspNil_ok, psc_del_ok⟩
theorem turnedT_fn (l : List Bitmap) (nm : List UInt8) (c0 : Bool) (hl : BmOk l) : Ctr Try.prog 33 true [lst .bms l, str nm, .c (.clo 34 [.cel [(.val (.bool c0))]])] (.ot 43 .bms (trnL l nm (fOn c0)) [.c (i64 (trnE l nm))]) := by
  refine Ctr_intro (E := env_turnedT) Try.func33 rfl (by decide) rfl rfl (fun M0 W hM0 => ?_)
  have hll := hl.len
  have hp := plc_spec l nm
  refine G_run tOk eok_turnedT 60 (fun _ => none) (fun bs => rfl) (fun bs => ?_) (fun bs => ?_)
  · (repeat' apply And.intro) <;> (intros; first | exact trivial | exact rfl | omega | exact u8_lo _ | exact u8_hi _ | exact u8_in64 _ | exact u8_in63 _ | (simp only [inR, IntKind.bits]; omega) | (simp [inR, IntKind.bits]; done) | (simp [inR, IntKind.bits] at * <;> omega) | (simp_all; done) | (with_reducible assumption) | skip)
  refine G_cond (b := decide (plc l nm < 0)) rfl rfl (fun h => ?_) (fun h => ?_)
  · have e : trnE l nm = 4 := by simp only [trnE, h]
    have e2 : trnL l nm (fOn c0) = [] := by simp only [trnL, h]
    refine G_run tOk eok_turnedT 60 (fun _ => none) (fun bs => rfl) (fun bs => ?_) (fun bs => ?_)
    · (repeat' apply And.intro) <;> (intros; first | exact trivial | exact rfl | omega | exact u8_lo _ | exact u8_hi _ | exact u8_in64 _ | exact u8_in63 _ | (simp only [inR, IntKind.bits]; omega) | (simp [inR, IntKind.bits]; done) | (simp [inR, IntKind.bits] at * <;> omega) | (simp_all; done) | (with_reducible assumption) | skip)
    exact G_ret tOk hM0 rfl rfl ⟨trivial, trivial, trivial⟩ ⟨e2, ⟨rfl, e.symm⟩, trivial⟩
  have h' : ¬ plc l nm < 0 := by simpa using h
  have hi := (hp.resolve_left h').2
  have e : trnE l nm = 0 := by simp only [trnE, h]
  have e2 : trnL l nm (fOn c0) = l.set (plc l nm).toNat (fOn c0 (l.getD (plc l nm).toNat LK.bms.dft)) := by simp only [trnL, h]
  refine G_run tOk eok_turnedT 60 (fun _ => none) (fun bs => rfl) (fun bs => ?_) (fun bs => ?_)
  · (repeat' apply And.intro) <;> (intros; first | exact trivial | exact rfl | omega | exact u8_lo _ | exact u8_hi _ | exact u8_in64 _ | exact u8_in63 _ | (simp only [inR, IntKind.bits]; omega) | (simp [inR, IntKind.bits]; done) | (simp [inR, IntKind.bits] at * <;> omega) | (simp_all; done) | (with_reducible assumption) | skip)
  refine G_nx 1 rfl ?_
  refine G_callH [0] id (tcl _ l (plc l nm).toNat c0 hi) rfl trivial rfl rfl rfl rfl (by decide) rfl rfl (fun x => rfl) (fun x _ => ?_)
  refine G_run tOk eok_turnedT 60 (fun _ => none) (fun bs => rfl) (fun bs => ?_) (fun bs => ?_)
  · (repeat' apply And.intro) <;> (intros; first | exact trivial | exact rfl | omega | exact u8_lo _ | exact u8_hi _ | exact u8_in64 _ | exact u8_in63 _ | (simp only [inR, IntKind.bits]; omega) | (simp [inR, IntKind.bits]; done) | (simp [inR, IntKind.bits] at * <;> omega) | (simp_all; done) | (with_reducible assumption) | skip)
  exact G_ret tOk hM0 rfl rfl ⟨trivial, trivial, trivial⟩ ⟨⟨rfl, rfl, rfl, sigEq e2.symm⟩, ⟨rfl, e.symm⟩, trivial⟩

def turnedT_s : FSpec
  | [.c (.pv (.lst .bms l)), .c (.pv (.val (.string ⟨⟨nm⟩⟩))), .c (.clo 34 [.cel [(.val (.bool c0))]])] => some ((BmOk l), true, .ot 43 .bms (trnL l nm (fOn c0)) [.c (i64 (trnE l nm))])
  | _ => none
theorem turnedT_s_ok : SpecOk Try.prog 33 turnedT_s := by
  intro args pre sh rv h hp; unfold turnedT_s at h; split at h
  · cases h; have hl := hp; exact turnedT_fn _ _ _ hl
  · cases h
def psi_turnedT : FuncId → Option FSpec := psiCons 33 turnedT_s psi_rdrop
theorem psi_turnedT_ok : PsiFn Try.prog psi_turnedT := psiCons_ok turnedT_s_ok psi_rdrop_ok
def env_mturn : Env := ⟨T, psi_turnedT, pspNil, psc_del, 14, [], none, true⟩
theorem eok_mturn : PsiOk Try.prog env_mturn := ⟨psi_turnedT_ok, pspNil_ok, psc_del_ok⟩
theorem mturn_fn (l : List Bitmap) (nm : List UInt8) (on : Bool) (hl : BmOk l) : Ctr Try.prog 12 true [lst .bms l, str nm, bool on] (.ot 43 .bms (trnL l nm (fOn on)) [.c (i64 (trnE l nm))]) := by
  refine Ctr_intro (E := env_mturn) Try.func12 rfl (by decide) rfl rfl (fun M0 W hM0 => ?_)
  have hll := hl.len
  refine G_run tOk eok_mturn 60 (fun _ => none) (fun bs => rfl) (fun bs => ?_) (fun bs => ?_)
  · (repeat' apply And.intro) <;> (intros; first | exact trivial | exact rfl | omega | exact u8_lo _ | exact u8_hi _ | exact u8_in64 _ | exact u8_in63 _ | (simp only [inR, IntKind.bits]; omega) | (simp [inR, IntKind.bits]; done) | (simp [inR, IntKind.bits] at * <;> omega) | (simp_all; done) | (with_reducible assumption) | skip)
  refine G_freezeB 10 0 (ys := [bv on]) rfl rfl ?_
  refine G_run tOk eok_mturn 60 (fun _ => none) (fun bs => rfl) (fun bs => ?_) (fun bs => ?_)
  · (repeat' apply And.intro) <;> (intros; first | exact trivial | exact rfl | omega | exact u8_lo _ | exact u8_hi _ | exact u8_in64 _ | exact u8_in63 _ | (simp only [inR, IntKind.bits]; omega) | (simp [inR, IntKind.bits]; done) | (simp [inR, IntKind.bits] at * <;> omega) | (simp_all; done) | (with_reducible assumption) | skip)
  exact G_ret tOk hM0 rfl rfl ⟨trivial, trivial, trivial⟩ ⟨⟨rfl, rfl, rfl, rfl⟩, ⟨rfl, rfl⟩, trivial⟩

def mturn_s : FSpec
  | [.c (.pv (.lst .bms l)), .c (.pv (.val (.string ⟨⟨nm⟩⟩))), .c (.pv (.val (.bool on)))] => some ((BmOk l), true, .ot 43 .bms (trnL l nm (fOn on)) [.c (i64 (trnE l nm))])
  | _ => none
theorem mturn_s_ok : SpecOk Try.prog 12 mturn_s := by
  intro args pre sh rv h hp; unfold mturn_s at h; split at h
  · cases h; have hl := hp; exact mturn_fn _ _ _ hl
  · cases h
def psi_mturn : FuncId → Option FSpec := psiCons 12 mturn_s psi_turnedT
theorem psi_mturn_ok : PsiFn Try.prog psi_mturn := psiCons_ok mturn_s_ok psi_turnedT_ok
def env_turnedC : Env := ⟨T, psi_mturn, pspNil, psc_del, 23, [], none, true⟩
theorem eok_turnedC : PsiOk Try.prog env_turnedC := ⟨psi_mturn_ok, pspNil_ok, psc_del_ok⟩
theorem turnedC_fn (l : List Bitmap) (nm : List UInt8) (hl : BmOk l) : Ctr Try.prog 33 true [lst .bms l, str nm, .c (.clo 35 [])] (.ot 43 .bms (trnL l nm fClr) [.c (i64 (trnE l nm))]) := by
  refine Ctr_intro (E := env_turnedC) Try.func33 rfl (by decide) rfl rfl (fun M0 W hM0 => ?_)
  have hll := hl.len
  have hp := plc_spec l nm
  refine G_run tOk eok_turnedC 60 (fun _ => none) (fun bs => rfl) (fun bs => ?_) (fun bs => ?_)
  · (repeat' apply And.intro) <;> (intros; first | exact trivial | exact rfl | omega | exact u8_lo _ | exact u8_hi _ | exact u8_in64 _ | exact u8_in63 _ | (simp only [inR, IntKind.bits]; omega) | (simp [inR, IntKind.bits]; done) | (simp [inR, IntKind.bits] at * <;> omega) | (simp_all; done) | (with_reducible assumption) | skip)
  refine G_cond (b := decide (plc l nm < 0)) rfl rfl (fun h => ?_) (fun h => ?_)
  · have e : trnE l nm = 4 := by simp only [trnE, h]
    have e2 : trnL l nm fClr = [] := by simp only [trnL, h]
    refine G_run tOk eok_turnedC 60 (fun _ => none) (fun bs => rfl) (fun bs => ?_) (fun bs => ?_)
    · (repeat' apply And.intro) <;> (intros; first | exact trivial | exact rfl | omega | exact u8_lo _ | exact u8_hi _ | exact u8_in64 _ | exact u8_in63 _ | (simp only [inR, IntKind.bits]; omega) | (simp [inR, IntKind.bits]; done) | (simp [inR, IntKind.bits] at * <;> omega) | (simp_all; done) | (with_reducible assumption) | skip)
    exact G_ret tOk hM0 rfl rfl ⟨trivial, trivial, trivial⟩ ⟨e2, ⟨rfl, e.symm⟩, trivial⟩
  have h' : ¬ plc l nm < 0 := by simpa using h
  have hi := (hp.resolve_left h').2
  have e : trnE l nm = 0 := by simp only [trnE, h]
  have e2 : trnL l nm fClr = l.set (plc l nm).toNat (fClr (l.getD (plc l nm).toNat LK.bms.dft)) := by simp only [trnL, h]
  refine G_run tOk eok_turnedC 60 (fun _ => none) (fun bs => rfl) (fun bs => ?_) (fun bs => ?_)
  · (repeat' apply And.intro) <;> (intros; first | exact trivial | exact rfl | omega | exact u8_lo _ | exact u8_hi _ | exact u8_in64 _ | exact u8_in63 _ | (simp only [inR, IntKind.bits]; omega) | (simp [inR, IntKind.bits]; done) | (simp [inR, IntKind.bits] at * <;> omega) | (simp_all; done) | (with_reducible assumption) | skip)
  refine G_nx 1 rfl ?_
  refine G_callH [0] id (ccl _ l (plc l nm).toNat hi) rfl trivial rfl rfl rfl rfl (by decide) rfl rfl (fun x => rfl) (fun x _ => ?_)
  refine G_run tOk eok_turnedC 60 (fun _ => none) (fun bs => rfl) (fun bs => ?_) (fun bs => ?_)
  · (repeat' apply And.intro) <;> (intros; first | exact trivial | exact rfl | omega | exact u8_lo _ | exact u8_hi _ | exact u8_in64 _ | exact u8_in63 _ | (simp only [inR, IntKind.bits]; omega) | (simp [inR, IntKind.bits]; done) | (simp [inR, IntKind.bits] at * <;> omega) | (simp_all; done) | (with_reducible assumption) | skip)
  exact G_ret tOk hM0 rfl rfl ⟨trivial, trivial, trivial⟩ ⟨⟨rfl, rfl, rfl, sigEq e2.symm⟩, ⟨rfl, e.symm⟩, trivial⟩

def turnedC_s : FSpec
  | [.c (.pv (.lst .bms l)), .c (.pv (.val (.string ⟨⟨nm⟩⟩))), .c (.clo 35 [])] => some ((BmOk l), true, .ot 43 .bms (trnL l nm fClr) [.c (i64 (trnE l nm))])
  | _ => none
theorem turnedC_s_ok : SpecOk Try.prog 33 turnedC_s := by
  intro args pre sh rv h hp; unfold turnedC_s at h; split at h
  · cases h; have hl := hp; exact turnedC_fn _ _ hl
  · cases h
def psi_turnedC : FuncId → Option FSpec := psiCons 33 turnedC_s psi_mturn
theorem psi_turnedC_ok : PsiFn Try.prog psi_turnedC := psiCons_ok turnedC_s_ok psi_mturn_ok
def env_mclear : Env := ⟨T, psi_turnedC, pspNil, psc_del, 11, [], none, true⟩
theorem eok_mclear : PsiOk Try.prog env_mclear := ⟨psi_turnedC_ok, pspNil_ok, psc_del_ok⟩
theorem mclear_fn (l : List Bitmap) (nm : List UInt8) (hl : BmOk l) : Ctr Try.prog 13 true [lst .bms l, str nm] (.ot 43 .bms (trnL l nm fClr) [.c (i64 (trnE l nm))]) := by
  refine Ctr_intro (E := env_mclear) Try.func13 rfl (by decide) rfl rfl (fun M0 W hM0 => ?_)
  have hll := hl.len
  refine G_run tOk eok_mclear 60 (fun _ => none) (fun bs => rfl) (fun bs => ?_) (fun bs => ?_)
  · (repeat' apply And.intro) <;> (intros; first | exact trivial | exact rfl | omega | exact u8_lo _ | exact u8_hi _ | exact u8_in64 _ | exact u8_in63 _ | (simp only [inR, IntKind.bits]; omega) | (simp [inR, IntKind.bits]; done) | (simp [inR, IntKind.bits] at * <;> omega) | (simp_all; done) | (with_reducible assumption) | skip)
  exact G_ret tOk hM0 rfl rfl ⟨trivial, trivial, trivial⟩ ⟨⟨rfl, rfl, rfl, rfl⟩, ⟨rfl, rfl⟩, trivial⟩

def mclear_s : FSpec
  | [.c (.pv (.lst .bms l)), .c (.pv (.val (.string ⟨⟨nm⟩⟩)))] => some ((BmOk l), true, .ot 43 .bms (trnL l nm fClr) [.c (i64 (trnE l nm))])
  | _ => none
theorem mclear_s_ok : SpecOk Try.prog 13 mclear_s := by
  intro args pre sh rv h hp; unfold mclear_s at h; split at h
  · cases h; have hl := hp; exact mclear_fn _ _ hl
  · cases h
def psi_mclear : FuncId → Option FSpec := psiCons 13 mclear_s psi_turnedC
theorem psi_mclear_ok : PsiFn Try.prog psi_mclear := psiCons_ok mclear_s_ok psi_turnedC_ok
def env_rturn : Env := ⟨T, psi_mclear, pspNil, psc_del, 23, [], none, true⟩
theorem eok_rturn : PsiOk Try.prog env_rturn := ⟨psi_mclear_ok, pspNil_ok, psc_del_ok⟩
theorem rturn_fn (l : List Bitmap) (nm : List UInt8) (on : Bool) (hl : BmOk l) : Ctr Try.prog 26 true [lst .bms l, str nm, bool on] (.ot 43 .bms (trnL l nm (fOn on)) [.c (i64 (trnE l nm))]) := by
  refine Ctr_intro (E := env_rturn) Try.func26 rfl (by decide) rfl rfl (fun M0 W hM0 => ?_)
  have hll := hl.len
  have hp := plc_spec l nm
  refine G_run tOk eok_rturn 60 (fun _ => none) (fun bs => rfl) (fun bs => ?_) (fun bs => ?_)
  · (repeat' apply And.intro) <;> (intros; first | exact trivial | exact rfl | omega | exact u8_lo _ | exact u8_hi _ | exact u8_in64 _ | exact u8_in63 _ | (simp only [inR, IntKind.bits]; omega) | (simp [inR, IntKind.bits]; done) | (simp [inR, IntKind.bits] at * <;> omega) | (simp_all; done) | (with_reducible assumption) | skip)
  refine G_cond (b := decide (plc l nm < 0)) rfl rfl (fun h => ?_) (fun h => ?_)
  · have e : trnE l nm = 4 := by simp only [trnE, h]
    have e2 : trnL l nm (fOn on) = [] := by simp only [trnL, h]
    refine G_run tOk eok_rturn 60 (fun _ => none) (fun bs => rfl) (fun bs => ?_) (fun bs => ?_)
    · (repeat' apply And.intro) <;> (intros; first | exact trivial | exact rfl | omega | exact u8_lo _ | exact u8_hi _ | exact u8_in64 _ | exact u8_in63 _ | (simp only [inR, IntKind.bits]; omega) | (simp [inR, IntKind.bits]; done) | (simp [inR, IntKind.bits] at * <;> omega) | (simp_all; done) | (with_reducible assumption) | skip)
    exact G_ret tOk hM0 rfl rfl ⟨trivial, trivial, trivial⟩ ⟨e2, ⟨rfl, e.symm⟩, trivial⟩
  have h' : ¬ plc l nm < 0 := by simpa using h
  have hi := (hp.resolve_left h').2
  have e : trnE l nm = 0 := by simp only [trnE, h]
  have e2 : trnL l nm (fOn on) = l.set (plc l nm).toNat (fOn on (l.getD (plc l nm).toNat LK.bms.dft)) := by simp only [trnL, h]
  refine G_run tOk eok_rturn 60 (fun _ => none) (fun bs => rfl) (fun bs => ?_) (fun bs => ?_)
  · (repeat' apply And.intro) <;> (intros; first | exact trivial | exact rfl | omega | exact u8_lo _ | exact u8_hi _ | exact u8_in64 _ | exact u8_in63 _ | (simp only [inR, IntKind.bits]; omega) | (simp [inR, IntKind.bits]; done) | (simp [inR, IntKind.bits] at * <;> omega) | (simp_all; done) | (with_reducible assumption) | skip)
  exact G_ret tOk hM0 rfl rfl ⟨trivial, trivial, trivial⟩ ⟨⟨rfl, rfl, rfl, sigEq e2.symm⟩, ⟨rfl, e.symm⟩, trivial⟩

def rturn_s : FSpec
  | [.c (.pv (.lst .bms l)), .c (.pv (.val (.string ⟨⟨nm⟩⟩))), .c (.pv (.val (.bool on)))] => some ((BmOk l), true, .ot 43 .bms (trnL l nm (fOn on)) [.c (i64 (trnE l nm))])
  | _ => none
theorem rturn_s_ok : SpecOk Try.prog 26 rturn_s := by
  intro args pre sh rv h hp; unfold rturn_s at h; split at h
  · cases h; have hl := hp; exact rturn_fn _ _ _ hl
  · cases h
def psi_rturn : FuncId → Option FSpec := psiCons 26 rturn_s psi_mclear
theorem psi_rturn_ok : PsiFn Try.prog psi_rturn := psiCons_ok rturn_s_ok psi_mclear_ok
def env_rclear : Env := ⟨T, psi_rturn, pspNil, psc_del, 20, [], none, true⟩
theorem eok_rclear : PsiOk Try.prog env_rclear := ⟨psi_rturn_ok, pspNil_ok, psc_del_ok⟩
theorem rclear_fn (l : List Bitmap) (nm : List UInt8) (hl : BmOk l) : Ctr Try.prog 27 true [lst .bms l, str nm] (.ot 43 .bms (trnL l nm fClr) [.c (i64 (trnE l nm))]) := by
  refine Ctr_intro (E := env_rclear) Try.func27 rfl (by decide) rfl rfl (fun M0 W hM0 => ?_)
  have hll := hl.len
  have hp := plc_spec l nm
  refine G_run tOk eok_rclear 60 (fun _ => none) (fun bs => rfl) (fun bs => ?_) (fun bs => ?_)
  · (repeat' apply And.intro) <;> (intros; first | exact trivial | exact rfl | omega | exact u8_lo _ | exact u8_hi _ | exact u8_in64 _ | exact u8_in63 _ | (simp only [inR, IntKind.bits]; omega) | (simp [inR, IntKind.bits]; done) | (simp [inR, IntKind.bits] at * <;> omega) | (simp_all; done) | (with_reducible assumption) | skip)
  refine G_cond (b := decide (plc l nm < 0)) rfl rfl (fun h => ?_) (fun h => ?_)
  · have e : trnE l nm = 4 := by simp only [trnE, h]
    have e2 : trnL l nm fClr = [] := by simp only [trnL, h]
    refine G_run tOk eok_rclear 60 (fun _ => none) (fun bs => rfl) (fun bs => ?_) (fun bs => ?_)
    · (repeat' apply And.intro) <;> (intros; first | exact trivial | exact rfl | omega | exact u8_lo _ | exact u8_hi _ | exact u8_in64 _ | exact u8_in63 _ | (simp only [inR, IntKind.bits]; omega) | (simp [inR, IntKind.bits]; done) | (simp [inR, IntKind.bits] at * <;> omega) | (simp_all; done) | (with_reducible assumption) | skip)
    exact G_ret tOk hM0 rfl rfl ⟨trivial, trivial, trivial⟩ ⟨e2, ⟨rfl, e.symm⟩, trivial⟩
  have h' : ¬ plc l nm < 0 := by simpa using h
  have hi := (hp.resolve_left h').2
  have e : trnE l nm = 0 := by simp only [trnE, h]
  have e2 : trnL l nm fClr = l.set (plc l nm).toNat (fClr (l.getD (plc l nm).toNat LK.bms.dft)) := by simp only [trnL, h]
  refine G_run tOk eok_rclear 60 (fun _ => none) (fun bs => rfl) (fun bs => ?_) (fun bs => ?_)
  · (repeat' apply And.intro) <;> (intros; first | exact trivial | exact rfl | omega | exact u8_lo _ | exact u8_hi _ | exact u8_in64 _ | exact u8_in63 _ | (simp only [inR, IntKind.bits]; omega) | (simp [inR, IntKind.bits]; done) | (simp [inR, IntKind.bits] at * <;> omega) | (simp_all; done) | (with_reducible assumption) | skip)
  exact G_ret tOk hM0 rfl rfl ⟨trivial, trivial, trivial⟩ ⟨⟨rfl, rfl, rfl, sigEq e2.symm⟩, ⟨rfl, e.symm⟩, trivial⟩
def rclear_s : FSpec
  | [.c (.pv (.lst .bms l)), .c (.pv (.val (.string ⟨⟨nm⟩⟩)))] => some ((BmOk l), true, .ot 43 .bms (trnL l nm fClr) [.c (i64 (trnE l nm))])
  | _ => none
theorem rclear_s_ok : SpecOk Try.prog 27 rclear_s := by
  intro args pre sh rv h hp; unfold rclear_s at h; split at h
  · cases h; have hl := hp; exact rclear_fn _ _ hl
  · cases h
def psi_rclear : FuncId → Option FSpec := psiCons 27 rclear_s psi_rturn
theorem psi_rclear_ok : PsiFn Try.prog psi_rclear := psiCons_ok rclear_s_ok psi_rturn_ok
end Go.Proofs.Ytndjdmnpdknneaa
