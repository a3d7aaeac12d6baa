import Derived.Test.YtndjdmnpdknneaaMapI
set_option linter.unusedSimpArgs false
set_option linter.unusedVariables false
namespace Go.Proofs.Ytndjdmnpdknneaa
open Go.Mt

def env_rmerge : Env := ⟨T, psi_mmerge, pspNil, psc_del, 61, [], none, true⟩
theorem eok_rmerge : PsiOk Try.prog env_rmerge := ⟨psi_mmerge_ok, pspNil_ok, psc_del_ok⟩
theorem rmerge_fn (l : List Bitmap) (nm : List UInt8) (ot : List UInt8) (hl : BmOk l) : Ctr Try.prog 28 true [lst .bms l, str nm, str ot] (.ot 43 .bms (mgL mrgR l nm ot) [.c (i64 (mgE l nm ot))]) := by
  refine Ctr_intro (E := env_rmerge) Try.func28 rfl (by decide) rfl rfl (fun M0 W hM0 => ?_)
  have hll := hl.len
  have hp := plc_spec l nm
  have hq := plc_spec l ot
  have hql := hl.get (plc l ot).toNat
  have hpl := hl.get (plc l nm).toNat
  refine G_run tOk eok_rmerge 60 (fun _ => none) (fun bs => rfl) (fun bs => ?_) (fun bs => ?_)
  · (repeat' apply And.intro) <;> (intros; first | exact trivial | exact rfl | omega | exact u8_lo _ | exact u8_hi _ | exact u8_in64 _ | exact u8_in63 _ | (simp only [inR, IntKind.bits]; omega) | (simp [inR, IntKind.bits]; done) | (simp [inR, IntKind.bits] at * <;> omega) | (simp_all; done) | (with_reducible assumption) | skip)
  refine G_cond (b := decide (plc l nm < 0) || decide (plc l ot < 0)) rfl rfl (fun h => ?_) (fun h => ?_)
  · have e : mgE l nm ot = 4 := by simp only [mgE, h]
    have e2 : mgL mrgR l nm ot = [] := by simp only [mgL, h]
    refine G_run tOk eok_rmerge 60 (fun _ => none) (fun bs => rfl) (fun bs => ?_) (fun bs => ?_)
    · (repeat' apply And.intro) <;> (intros; first | exact trivial | exact rfl | omega | exact u8_lo _ | exact u8_hi _ | exact u8_in64 _ | exact u8_in63 _ | (simp only [inR, IntKind.bits]; omega) | (simp [inR, IntKind.bits]; done) | (simp [inR, IntKind.bits] at * <;> omega) | (simp_all; done) | (with_reducible assumption) | skip)
    exact G_ret tOk hM0 rfl rfl ⟨trivial, trivial, trivial⟩ ⟨e2, ⟨rfl, e.symm⟩, trivial⟩
  have h' := h
  simp only [Bool.or_eq_false_iff, decide_eq_false_iff_not] at h'
  have hqi := (hq.resolve_left h'.2).2
  have hpi := (hp.resolve_left h'.1).2
  have e : mgE l nm ot = 0 := by simp only [mgE, h]
  have e2 : mgL mrgR l nm ot = l.set (plc l nm).toNat ⟨(l.getD (plc l nm).toNat LK.bms.dft).name, (l.getD (plc l nm).toNat LK.bms.dft).on, mrgR (l.getD (plc l nm).toNat LK.bms.dft).l (l.getD (plc l ot).toNat LK.bms.dft).l⟩ := by
    simp only [mgL, h]
  refine G_run tOk eok_rmerge 60 (fun _ => none) (fun bs => rfl) (fun bs => ?_) (fun bs => ?_)
  · (repeat' apply And.intro) <;> (intros; first | exact trivial | exact rfl | omega | exact u8_lo _ | exact u8_hi _ | exact u8_in64 _ | exact u8_in63 _ | (simp only [inR, IntKind.bits]; omega) | (simp [inR, IntKind.bits]; done) | (simp [inR, IntKind.bits] at * <;> omega) | (simp_all; done) | (with_reducible assumption) | skip)
  generalize hm : (l.getD (plc l ot).toNat LK.bms.dft).l = m at e2 hql
  generalize hB : l.getD (plc l nm).toNat LK.bms.dft = B at e2 hpl
  refine G_cond (b := rightB m) rfl (by rw [← hm]; rfl) (fun h2 => ?_) (fun h2 => ?_)
  · refine G_run tOk eok_rmerge 60 (fun _ => none) (fun bs => rfl) (fun bs => ?_) (fun bs => ?_)
    · (repeat' apply And.intro) <;> (intros; first | exact trivial | exact rfl | omega | exact u8_lo _ | exact u8_hi _ | exact u8_in64 _ | exact u8_in63 _ | (simp only [inR, IntKind.bits]; omega) | (simp [inR, IntKind.bits]; done) | (simp [inR, IntKind.bits] at * <;> omega) | (simp_all; done) | (with_reducible assumption) | skip)
    refine G_loop (fun x : Nat × Value => [(0, lst .bms l), (8, int .i64 (plc l nm)), (9, int .i64 (plc l ot)), (10, .c (.own 0 x.2)), (11, int .i64 x.1)]) (fun x => [.own x.2 43 .bms (l.set (plc l nm).toNat ⟨B.name, B.on, addA B.l m x.1⟩)]) (fun x => x.1 ≤ m.length) (fun x => m.length - x.1) rfl [0] (0, ?v0) (Nat.zero_le _) ?wk (fun x hx => ?_)
    case wk =>
      (repeat' apply And.intro) <;> (first | exact rfl | exact trivial | omega | refine sigEq ?_ | skip)
      all_goals first | (show l = l.set _ _; rw [show (⟨B.name, B.on, addA B.l m 0⟩ : Bitmap) = l.getD (plc l nm).toNat LK.bms.dft from hB.symm, set_getD]) | skip
    obtain ⟨k, v⟩ := x
    simp only at hx ⊢
    have hget : (l.set (plc l nm).toNat ⟨B.name, B.on, addA B.l m k⟩).getD (plc l nm).toNat LK.bms.dft = ⟨B.name, B.on, addA B.l m k⟩ := getD_set_self _ _ hpi
    have ha := addA_len B.l m k hx
    have hgl : ((l.set (plc l nm).toNat ⟨B.name, B.on, addA B.l m k⟩).getD (plc l nm).toNat LK.bms.dft).l.length ≤ 1000000 := by rw [hget]; simp only; omega
    have hml : (l.getD (plc l ot).toNat LK.bms.dft).l.length = m.length := by rw [hm]
    refine G_run tOk eok_rmerge 60 (fun _ => none) (fun bs => rfl) (fun bs => ?_) (fun bs => ?_)
    · (repeat' apply And.intro) <;> (intros; first | exact trivial | exact rfl | omega | exact u8_lo _ | exact u8_hi _ | exact u8_in64 _ | exact u8_in63 _ | (simp only [inR, IntKind.bits]; omega) | (simp [inR, IntKind.bits]; done) | (simp [inR, IntKind.bits] at * <;> omega) | (simp_all; done) | (with_reducible assumption) | skip)
    refine G_if rfl rfl (fun hk => ?_) (fun hk => ?_)
    · have hk' : k < m.length := by omega
      refine G_run tOk eok_rmerge 60 (fun _ => none) (fun bs => rfl) (fun bs => ?_) (fun bs => ?_)
      · (repeat' apply And.intro) <;> (intros; first | exact trivial | exact rfl | omega | exact u8_lo _ | exact u8_hi _ | exact u8_in64 _ | exact u8_in63 _ | (simp only [inR, IntKind.bits]; omega) | (simp [inR, IntKind.bits]; done) | (simp [inR, IntKind.bits] at * <;> omega) | (simp_all; done) | (with_reducible assumption) | skip)
      refine G_nx 1 rfl ?_
      refine G_draw tOk eok_rmerge rfl (fun _ => none) 16 [0, 0, 0, 0, 12, 28, 60, 0, 0, 384, 896, 1920, 0, 8064, 16256, 32764, 65535, 131071, 262143] [] rfl (by decide +kernel) (fun bs => rfl) (fun bs => ?_) (fun bs => ?_)
      · (repeat' apply And.intro) <;> (intros; first | exact trivial | exact rfl | omega | exact u8_lo _ | exact u8_hi _ | exact u8_in64 _ | exact u8_in63 _ | (simp only [inR, IntKind.bits]; omega) | (simp [inR, IntKind.bits]; done) | (simp [inR, IntKind.bits] at * <;> omega) | (simp_all; done) | (with_reducible assumption) | skip)
      refine G_freeze 16 [57] rfl ⟨rfl, trivial⟩ ?_
      refine G_run tOk eok_rmerge 60 (fun _ => none) (fun bs => rfl) (fun bs => ?_) (fun bs => ?_)
      · (repeat' apply And.intro) <;> (intros; first | exact trivial | exact rfl | omega | exact u8_lo _ | exact u8_hi _ | exact u8_in64 _ | exact u8_in63 _ | (simp only [inR, IntKind.bits]; omega) | (simp [inR, IntKind.bits]; done) | (simp [inR, IntKind.bits] at * <;> omega) | (simp_all; done) | (with_reducible assumption) | skip)
      refine G_lp [0] (k + 1, v) ?ok ?wk1
      case ok => exact ⟨hk', by simp only; omega⟩
      case wk1 =>
        (repeat' apply And.intro) <;> (first | exact rfl | exact trivial | omega | refine sigEq ?_ | skip)
        show (l.set (plc l nm).toNat _).set (plc l nm).toNat _ = l.set (plc l nm).toNat _
        rw [set_set]
        refine set_ext ?_
        rw [addA_succ _ _ hk']
        exact bm_ext (by show ((l.set _ _).getD _ _).name = _; rw [hget]) (by show ((l.set _ _).getD _ _).on = _; rw [hget]) (by show addL ((l.set _ _).getD _ _).l _ = _; rw [hget, ← hm]; rfl)
    · have hk' : k = m.length := by omega
      subst hk'
      refine G_run tOk eok_rmerge 60 (fun _ => none) (fun bs => rfl) (fun bs => ?_) (fun bs => ?_)
      · (repeat' apply And.intro) <;> (intros; first | exact trivial | exact rfl | omega | exact u8_lo _ | exact u8_hi _ | exact u8_in64 _ | exact u8_in63 _ | (simp only [inR, IntKind.bits]; omega) | (simp [inR, IntKind.bits]; done) | (simp [inR, IntKind.bits] at * <;> omega) | (simp_all; done) | (with_reducible assumption) | skip)
      refine G_ret tOk hM0 rfl rfl ⟨trivial, trivial, trivial⟩ ⟨⟨rfl, rfl, rfl, sigEq ?_⟩, ⟨rfl, e.symm⟩, trivial⟩
      rw [e2]; simp only [mrgR, h2]
  · refine G_run tOk eok_rmerge 60 (fun _ => none) (fun bs => rfl) (fun bs => ?_) (fun bs => ?_)
    · (repeat' apply And.intro) <;> (intros; first | exact trivial | exact rfl | omega | exact u8_lo _ | exact u8_hi _ | exact u8_in64 _ | exact u8_in63 _ | (simp only [inR, IntKind.bits]; omega) | (simp [inR, IntKind.bits]; done) | (simp [inR, IntKind.bits] at * <;> omega) | (simp_all; done) | (with_reducible assumption) | skip)
    refine G_ret tOk hM0 rfl rfl ⟨trivial, trivial, trivial⟩ ⟨⟨rfl, rfl, rfl, sigEq ?_⟩, ⟨rfl, e.symm⟩, trivial⟩
    rw [e2]; simp only [mrgR, h2]
    rw [show (⟨B.name, B.on, B.l⟩ : Bitmap) = l.getD (plc l nm).toNat LK.bms.dft from hB.symm, set_getD]

/-! ### too much, or not right -/
def rmerge_s : FSpec
  | [.c (.pv (.lst .bms l)), .c (.pv (.val (.string ⟨⟨nm⟩⟩))), .c (.pv (.val (.string ⟨⟨ot⟩⟩)))] => some ((BmOk l), true, .ot 43 .bms (mgL mrgR l nm ot) [.c (i64 (mgE l nm ot))])
  | _ => none
theorem rmerge_s_ok : SpecOk Try.prog 28 rmerge_s := by
  intro args pre sh rv h hp; unfold rmerge_s at h; split at h
  · cases h; have hl := hp; exact rmerge_fn _ _ _ hl
  · cases h
def psi_rmerge : FuncId → Option FSpec := psiCons 28 rmerge_s psi_mmerge
theorem psi_rmerge_ok : PsiFn Try.prog psi_rmerge := psiCons_ok rmerge_s_ok psi_mmerge_ok
def badB (b : Bitmap) : Bool := (decide (300 < (b.l.length : Int)) || decide (1000 < (b.name.length : Int))) || !rightB b.l
def letN (l : List Bitmap) : Nat → Bool
  | 0 => false
  | k + 1 => letN l k || badB (l.getD k LK.bms.dft)
theorem letN_true {l : List Bitmap} {i j : Nat} (h : letN l i = true) (hij : i ≤ j) : letN l j = true := by
  induction j with
  | zero => have : i = 0 := by omega
            subst this; exact h
  | succ j ih =>
    by_cases hi : i = j + 1
    · subst hi; exact h
    · simp [letN, ih (by omega)]
def letB (l : List Bitmap) : Bool := letN l (min l.length 30) || decide (30 < (l.length : Int))

def env_flet : Env := ⟨T, psi_rmerge, pspNil, psc_del, 42, [], none, true⟩
theorem eok_flet : PsiOk Try.prog env_flet := ⟨psi_rmerge_ok, pspNil_ok, psc_del_ok⟩
theorem flet_fn (l : List Bitmap) (hl : l.length ≤ 9223372036854775807) : Ctr Try.prog 18 false [lst .bms l] (.x (.c (bv (letB l)))) := by
  refine Ctr_intro (E := env_flet) Try.func18 rfl (by decide) rfl rfl (fun M0 W hM0 => ?_)
  refine G_run tOk eok_flet 60 (fun _ => none) (fun bs => rfl) (fun bs => ?_) (fun bs => ?_)
  · (repeat' apply And.intro) <;> (intros; first | exact trivial | exact rfl | omega | exact u8_lo _ | exact u8_hi _ | exact u8_in64 _ | exact u8_in63 _ | (simp only [inR, IntKind.bits]; omega) | (simp [inR, IntKind.bits]; done) | (simp [inR, IntKind.bits] at * <;> omega) | (simp_all; done) | (with_reducible assumption) | skip)
  refine G_loop (fun x : Nat => [(0, lst .bms l), (3, int .i64 x)]) (fun x => []) (fun x => x ≤ min l.length 30 ∧ letN l x = false) (fun x => 30 - x) rfl [] 0 ⟨Nat.zero_le _, rfl⟩ ?wk (fun x hx => ?_)
  case wk => (repeat' apply And.intro) <;> (first | exact rfl | exact trivial | omega | refine sigEq ?_ | skip)
  obtain ⟨hx, hr⟩ := hx
  refine G_run tOk eok_flet 60 (fun _ => none) (fun bs => rfl) (fun bs => ?_) (fun bs => ?_)
  · (repeat' apply And.intro) <;> (intros; first | exact trivial | exact rfl | omega | exact u8_lo _ | exact u8_hi _ | exact u8_in64 _ | exact u8_in63 _ | (simp only [inR, IntKind.bits]; omega) | (simp [inR, IntKind.bits]; done) | (simp [inR, IntKind.bits] at * <;> omega) | (simp_all; done) | (with_reducible assumption) | skip)
  refine G_cond (b := decide ((x : Int) < l.length) && decide ((x : Int) < 30)) rfl rfl (fun h => ?_) (fun h => ?_)
  · simp only [Bool.and_eq_true, decide_eq_true_eq] at h
    have hk' : x < l.length := by omega
    have fin : ∀ b, badB (l.getD x LK.bms.dft) = b → letN l (x + 1) = b := fun b hb => by simp only [letN, hr, hb]; simp
    have g1 : (l.getD (x : Int).toNat LK.bms.dft) = l.getD x LK.bms.dft := rfl
    by_cases c1 : (300 : Int) < ((l.getD x LK.bms.dft).l.length : Int)
    · refine G_run tOk eok_flet 60 (fun j => match j with | 7 => some true | 16 => some true | _ => none) (fun bs => rfl) (fun bs => ?_) (fun bs => ?_)
      · (repeat' apply And.intro) <;> (intros; first | exact trivial | exact rfl | omega | exact u8_lo _ | exact u8_hi _ | exact u8_in64 _ | exact u8_in63 _ | (simp only [inR, IntKind.bits]; omega) | (simp [inR, IntKind.bits]; done) | (simp [inR, IntKind.bits] at * <;> omega) | (simp_all; done) | (with_reducible assumption) | skip)
        all_goals first | (rw [g1]; simp [c1]; done) | (rw [g1]; omega) | skip
      refine G_thn rfl rfl ?b1 ?_
      case b1 => first | rfl | (rw [g1]; simp [c1])
      have hb := letN_true (fin true (by unfold badB; rw [decide_eq_true c1]; rfl)) (show x + 1 ≤ min l.length 30 by omega)
      refine G_run tOk eok_flet 60 (fun _ => none) (fun bs => rfl) (fun bs => ?_) (fun bs => ?_)
      · (repeat' apply And.intro) <;> (intros; first | exact trivial | exact rfl | omega | exact u8_lo _ | exact u8_hi _ | exact u8_in64 _ | exact u8_in63 _ | (simp only [inR, IntKind.bits]; omega) | (simp [inR, IntKind.bits]; done) | (simp [inR, IntKind.bits] at * <;> omega) | (simp_all; done) | (with_reducible assumption) | skip)
      exact G_ret tOk hM0 rfl rfl ⟨trivial, trivial⟩ (show true = letB l by simp only [letB, hb]; rfl)
    · by_cases c2 : (1000 : Int) < ((l.getD x LK.bms.dft).name.length : Int)
      · refine G_run tOk eok_flet 60 (fun j => match j with | 7 => some false | 16 => some true | _ => none) (fun bs => rfl) (fun bs => ?_) (fun bs => ?_)
        · (repeat' apply And.intro) <;> (intros; first | exact trivial | exact rfl | omega | exact u8_lo _ | exact u8_hi _ | exact u8_in64 _ | exact u8_in63 _ | (simp only [inR, IntKind.bits]; omega) | (simp [inR, IntKind.bits]; done) | (simp [inR, IntKind.bits] at * <;> omega) | (simp_all; done) | (with_reducible assumption) | skip)
          all_goals first | (rw [g1]; simp [c1, c2]; done) | (rw [g1]; omega) | skip
        refine G_thn rfl rfl ?b2 ?_
        case b2 => first | rfl | (rw [g1]; simp [c1, c2])
        have hb := letN_true (fin true (by unfold badB; rw [decide_eq_true c2]; simp)) (show x + 1 ≤ min l.length 30 by omega)
        refine G_run tOk eok_flet 60 (fun _ => none) (fun bs => rfl) (fun bs => ?_) (fun bs => ?_)
        · (repeat' apply And.intro) <;> (intros; first | exact trivial | exact rfl | omega | exact u8_lo _ | exact u8_hi _ | exact u8_in64 _ | exact u8_in63 _ | (simp only [inR, IntKind.bits]; omega) | (simp [inR, IntKind.bits]; done) | (simp [inR, IntKind.bits] at * <;> omega) | (simp_all; done) | (with_reducible assumption) | skip)
        exact G_ret tOk hM0 rfl rfl ⟨trivial, trivial⟩ (show true = letB l by simp only [letB, hb]; rfl)
      · have g3 : (l.getD (x : Int).toNat LK.bms.dft).l.length ≤ 1000000 := by rw [g1]; omega
        refine G_run tOk eok_flet 60 (fun j => match j with | 7 => some false | 16 => some false | _ => none) (fun bs => rfl) (fun bs => ?_) (fun bs => ?_)
        · (repeat' apply And.intro) <;> (intros; first | exact trivial | exact rfl | omega | exact u8_lo _ | exact u8_hi _ | exact u8_in64 _ | exact u8_in63 _ | (simp only [inR, IntKind.bits]; omega) | (simp [inR, IntKind.bits]; done) | (simp [inR, IntKind.bits] at * <;> omega) | (simp_all; done) | (with_reducible assumption) | skip)
          all_goals first | (rw [g1]; simp [c1, c2]; done) | (rw [g1]; omega) | skip
        refine G_cond rfl rfl (fun h3 => ?_) (fun h3 => ?_)
        · have hbad : badB (l.getD x LK.bms.dft) = true := h3
          have hb := letN_true (fin true hbad) (show x + 1 ≤ min l.length 30 by omega)
          refine G_run tOk eok_flet 60 (fun _ => none) (fun bs => rfl) (fun bs => ?_) (fun bs => ?_)
          · (repeat' apply And.intro) <;> (intros; first | exact trivial | exact rfl | omega | exact u8_lo _ | exact u8_hi _ | exact u8_in64 _ | exact u8_in63 _ | (simp only [inR, IntKind.bits]; omega) | (simp [inR, IntKind.bits]; done) | (simp [inR, IntKind.bits] at * <;> omega) | (simp_all; done) | (with_reducible assumption) | skip)
          exact G_ret tOk hM0 rfl rfl ⟨trivial, trivial⟩ (show true = letB l by simp only [letB, hb]; rfl)
        · have hbad : badB (l.getD x LK.bms.dft) = false := h3
          refine G_run tOk eok_flet 60 (fun _ => none) (fun bs => rfl) (fun bs => ?_) (fun bs => ?_)
          · (repeat' apply And.intro) <;> (intros; first | exact trivial | exact rfl | omega | exact u8_lo _ | exact u8_hi _ | exact u8_in64 _ | exact u8_in63 _ | (simp only [inR, IntKind.bits]; omega) | (simp [inR, IntKind.bits]; done) | (simp [inR, IntKind.bits] at * <;> omega) | (simp_all; done) | (with_reducible assumption) | skip)
          refine G_lp [] (x + 1) ?ok ?wk2
          case ok => exact ⟨⟨by omega, fin false hbad⟩, by omega⟩
          case wk2 => (repeat' apply And.intro) <;> (first | exact rfl | exact trivial | omega | refine sigEq ?_ | skip)
  · have hk' : x = min l.length 30 := by
      simp only [Bool.and_eq_false_iff, decide_eq_false_iff_not] at h; omega
    have hb : letB l = decide (30 < (l.length : Int)) := by unfold letB; rw [← hk', hr]; rfl
    refine G_run tOk eok_flet 60 (fun _ => none) (fun bs => rfl) (fun bs => ?_) (fun bs => ?_)
    · (repeat' apply And.intro) <;> (intros; first | exact trivial | exact rfl | omega | exact u8_lo _ | exact u8_hi _ | exact u8_in64 _ | exact u8_in63 _ | (simp only [inR, IntKind.bits]; omega) | (simp [inR, IntKind.bits]; done) | (simp [inR, IntKind.bits] at * <;> omega) | (simp_all; done) | (with_reducible assumption) | skip)
    exact G_ret tOk hM0 rfl rfl ⟨trivial, trivial⟩ hb.symm
def flet_s : FSpec
  | [.c (.pv (.lst .bms l))] => some ((l.length ≤ 9223372036854775807), false, .x (.c (bv (letB l))))
  | _ => none
theorem flet_s_ok : SpecOk Try.prog 18 flet_s := by
  intro args pre sh rv h hp; unfold flet_s at h; split at h
  · cases h; have hl := hp; exact flet_fn _ hl
  · cases h
def psi_flet : FuncId → Option FSpec := psiCons 18 flet_s psi_rmerge
theorem psi_flet_ok : PsiFn Try.prog psi_flet := psiCons_ok flet_s_ok psi_rmerge_ok
end Go.Proofs.Ytndjdmnpdknneaa
