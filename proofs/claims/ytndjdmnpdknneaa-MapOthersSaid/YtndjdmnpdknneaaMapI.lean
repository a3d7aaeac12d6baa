import Derived.Test.YtndjdmnpdknneaaMapH
set_option linter.unusedSimpArgs false
set_option linter.unusedVariables false
namespace Go.Proofs.Ytndjdmnpdknneaa
open Go.Mt

/-! ### merged -/
theorem addN_len (l : List Span) (s : Span) : ∀ k, (addN l s k).2.1.length + (match (addN l s k).2.2 with | true => 0 | false => 1) ≤ k + 1 := by
  intro k
  induction k with
  | zero => simp [addN]
  | succ k ih =>
    simp only [addN]
    generalize addN l s k = z at ih ⊢
    obtain ⟨x, out, put⟩ := z
    simp only [addStep]
    dsimp only at ih
    split
    · simp only [List.length_append, List.length_singleton]; omega
    · split
      · cases put <;> simp only [List.length_append, List.length_singleton] at ih ⊢ <;> omega
      · simp only; omega
theorem addL_len (l : List Span) (s : Span) : (addL l s).length ≤ l.length + 1 := by
  have h1 := rightL_le l
  unfold addL
  split
  · have := addN_len (rightL l) s (rightL l).length
    split <;> rename_i heq <;> rw [heq] at this <;> simp only [List.length_append, List.length_singleton] at this ⊢ <;> omega
  · omega
theorem addL_none (l : List Span) : addL l ⟨0, 0⟩ = rightL l := rfl
def addA (l m : List Span) (k : Nat) : List Span := (m.take k).foldl addL l
theorem addA_succ (l m : List Span) {k : Nat} (h : k < m.length) : addA l m (k + 1) = addL (addA l m k) (m.getD k ⟨0, 0⟩) := by
  unfold addA
  rw [take_succ_getD (d := (⟨0, 0⟩ : Span)) h, List.foldl_append]; rfl
theorem addA_len (l m : List Span) : ∀ k, k ≤ m.length → (addA l m k).length ≤ l.length + k := by
  intro k
  induction k with
  | zero => intro _; simp [addA]
  | succ k ih =>
    intro h
    rw [addA_succ l m h]
    have := addL_len (addA l m k) (m.getD k ⟨0, 0⟩)
    have := ih (by omega)
    omega
/-- As the program merges, as the document does. -/
def mrgP (l m : List Span) : List Span := match rightB m with | true => addA (rightL l) m m.length | false => rightL l
def mrgR (l m : List Span) : List Span := match rightB m with | true => addA l m m.length | false => l
abbrev fMrg (m : List Span) : Bitmap → Bitmap := fun b => ⟨b.name, b.on, mrgP b.l m⟩

theorem set_ext {l : List Bitmap} {i : Nat} {x y : Bitmap} (h : x = y) : l.set i x = l.set i y := by rw [h]
def env_mcl : Env := ⟨T, psi_rclear, pspNil, psc_del, 32, [], none, false⟩
theorem eok_mcl : PsiOk Try.prog env_mcl := ⟨psi_rclear_ok, pspNil_ok, psc_del_ok⟩
theorem mcl (v : Value) (l : List Bitmap) (i : Nat) (m : List Span) (hi : i < l.length) (hl : (l.getD i LK.bms.dft).l.length ≤ 100000) (hm : m.length ≤ 100000) : CtrH (X := Unit) Try.prog 36 [.c (.oel 0 v i 3 0), .c (.cel [.lst .spn m])] [.own v 43 .bms l] (fun _ => True) (fun _ => .t []) (fun _ => [.own v 43 .bms (l.set i (fMrg m (l.getD i LK.bms.dft)))]) := by
  refine CtrH_intro (E := env_mcl) Try.func36 rfl (by decide) rfl rfl (fun M0 W hM0 => ?_)
  generalize hB : l.getD i LK.bms.dft = B at hl
  have hl1 : (l.getD i LK.bms.dft).l.length ≤ 1000000 := by rw [hB]; omega
  have hr1 := rightL_le B.l
  refine G_run tOk eok_mcl 60 (fun _ => none) (fun bs => rfl) (fun bs => ?_) (fun bs => ?_)
  · (repeat' apply And.intro) <;> (intros; first | exact trivial | exact rfl | omega | exact u8_lo _ | exact u8_hi _ | exact u8_in64 _ | exact u8_in63 _ | (simp only [inR, IntKind.bits]; omega) | (simp [inR, IntKind.bits]; done) | (simp [inR, IntKind.bits] at * <;> omega) | (simp_all; done) | (with_reducible assumption) | skip)
  refine G_freeze 1 [11] rfl ⟨rfl, trivial⟩ ?_
  refine G_run tOk eok_mcl 60 (fun _ => none) (fun bs => rfl) (fun bs => ?_) (fun bs => ?_)
  · (repeat' apply And.intro) <;> (intros; first | exact trivial | exact rfl | omega | exact u8_lo _ | exact u8_hi _ | exact u8_in64 _ | exact u8_in63 _ | (simp only [inR, IntKind.bits]; omega) | (simp [inR, IntKind.bits]; done) | (simp [inR, IntKind.bits] at * <;> omega) | (simp_all; done) | (with_reducible assumption) | skip)
  refine G_cond (b := rightB m) rfl rfl (fun h => ?_) (fun h => ?_)
  · refine G_run tOk eok_mcl 60 (fun _ => none) (fun bs => rfl) (fun bs => ?_) (fun bs => ?_)
    · (repeat' apply And.intro) <;> (intros; first | exact trivial | exact rfl | omega | exact u8_lo _ | exact u8_hi _ | exact u8_in64 _ | exact u8_in63 _ | (simp only [inR, IntKind.bits]; omega) | (simp [inR, IntKind.bits]; done) | (simp [inR, IntKind.bits] at * <;> omega) | (simp_all; done) | (with_reducible assumption) | skip)
    have e0 : fMrg m B = ⟨B.name, B.on, addA (rightL B.l) m m.length⟩ := by simp only [fMrg, mrgP, h]
    rw [e0]
    refine G_loop (fun k : Nat => [(0, .c (.oel 0 v i 3 0)), (1, .c (.cel [.lst .spn m])), (16, lst .spn m), (17, int .i64 m.length), (18, int .i64 k)]) (fun k => [.own v 43 .bms (l.set i ⟨B.name, B.on, addA (rightL B.l) m k⟩)]) (fun k => k ≤ m.length) (fun k => m.length - k) rfl [0] 0 (Nat.zero_le _) ?wk (fun k hx => ?_)
    case wk =>
      (repeat' apply And.intro) <;> (first | exact rfl | exact trivial | omega | refine sigEq ?_ | skip)
      all_goals first | (show l.set i _ = l.set i _; subst hB; rfl) | skip
    have hli : i < (l.set i ⟨B.name, B.on, addA (rightL B.l) m k⟩).length := by simpa using hi
    have hget : (l.set i ⟨B.name, B.on, addA (rightL B.l) m k⟩).getD i LK.bms.dft = ⟨B.name, B.on, addA (rightL B.l) m k⟩ := getD_set_self _ _ hi
    have ha := addA_len (rightL B.l) m k hx
    have hgl : ((l.set i ⟨B.name, B.on, addA (rightL B.l) m k⟩).getD i LK.bms.dft).l.length ≤ 1000000 := by rw [hget]; simp only; omega
    refine G_run tOk eok_mcl 60 (fun _ => none) (fun bs => rfl) (fun bs => ?_) (fun bs => ?_)
    · (repeat' apply And.intro) <;> (intros; first | exact trivial | exact rfl | omega | exact u8_lo _ | exact u8_hi _ | exact u8_in64 _ | exact u8_in63 _ | (simp only [inR, IntKind.bits]; omega) | (simp [inR, IntKind.bits]; done) | (simp [inR, IntKind.bits] at * <;> omega) | (simp_all; done) | (with_reducible assumption) | skip)
    refine G_if rfl rfl (fun hk => ?_) (fun hk => ?_)
    · have hk' : k < m.length := by omega
      refine G_run tOk eok_mcl 60 (fun _ => none) (fun bs => rfl) (fun bs => ?_) (fun bs => ?_)
      · (repeat' apply And.intro) <;> (intros; first | exact trivial | exact rfl | omega | exact u8_lo _ | exact u8_hi _ | exact u8_in64 _ | exact u8_in63 _ | (simp only [inR, IntKind.bits]; omega) | (simp [inR, IntKind.bits]; done) | (simp [inR, IntKind.bits] at * <;> omega) | (simp_all; done) | (with_reducible assumption) | skip)
      refine G_nx 2 rfl ?_
      refine G_draw tOk eok_mcl rfl (fun _ => none) 7 [0, 0, 2, 6, 14, 0, 62, 127, 255, 511] [] rfl (by decide +kernel) (fun bs => rfl) (fun bs => ?_) (fun bs => ?_)
      · (repeat' apply And.intro) <;> (intros; first | exact trivial | exact rfl | omega | exact u8_lo _ | exact u8_hi _ | exact u8_in64 _ | exact u8_in63 _ | (simp only [inR, IntKind.bits]; omega) | (simp [inR, IntKind.bits]; done) | (simp [inR, IntKind.bits] at * <;> omega) | (simp_all; done) | (with_reducible assumption) | skip)
      refine G_freeze 8 [28] rfl ⟨rfl, trivial⟩ ?_
      refine G_run tOk eok_mcl 60 (fun _ => none) (fun bs => rfl) (fun bs => ?_) (fun bs => ?_)
      · (repeat' apply And.intro) <;> (intros; first | exact trivial | exact rfl | omega | exact u8_lo _ | exact u8_hi _ | exact u8_in64 _ | exact u8_in63 _ | (simp only [inR, IntKind.bits]; omega) | (simp [inR, IntKind.bits]; done) | (simp [inR, IntKind.bits] at * <;> omega) | (simp_all; done) | (with_reducible assumption) | skip)
      refine G_lp [0] (k + 1) ?ok ?wk1
      case ok => exact ⟨hk', by omega⟩
      case wk1 =>
        (repeat' apply And.intro) <;> (first | exact rfl | exact trivial | omega | refine sigEq ?_ | skip)
        show (l.set i _).set i _ = l.set i _
        rw [set_set]
        refine set_ext ?_
        rw [addA_succ _ _ hk']
        exact bm_ext (by show ((l.set i _).getD i _).name = _; rw [hget]) (by show ((l.set i _).getD i _).on = _; rw [hget]) (by show addL ((l.set i _).getD i _).l _ = _; rw [hget]; rfl)
    · have hk' : k = m.length := by omega
      subst hk'
      refine G_run tOk eok_mcl 60 (fun _ => none) (fun bs => rfl) (fun bs => ?_) (fun bs => ?_)
      · (repeat' apply And.intro) <;> (intros; first | exact trivial | exact rfl | omega | exact u8_lo _ | exact u8_hi _ | exact u8_in64 _ | exact u8_in63 _ | (simp only [inR, IntKind.bits]; omega) | (simp [inR, IntKind.bits]; done) | (simp [inR, IntKind.bits] at * <;> omega) | (simp_all; done) | (with_reducible assumption) | skip)
      refine G_endH rfl tOk rfl trivial () trivial [0] id rfl (by decide) rfl
  · refine G_run tOk eok_mcl 60 (fun _ => none) (fun bs => rfl) (fun bs => ?_) (fun bs => ?_)
    · (repeat' apply And.intro) <;> (intros; first | exact trivial | exact rfl | omega | exact u8_lo _ | exact u8_hi _ | exact u8_in64 _ | exact u8_in63 _ | (simp only [inR, IntKind.bits]; omega) | (simp [inR, IntKind.bits]; done) | (simp [inR, IntKind.bits] at * <;> omega) | (simp_all; done) | (with_reducible assumption) | skip)
    refine G_endH rfl tOk rfl trivial () trivial [0] id rfl (by decide) ?_
    have e0 : fMrg m B = ⟨B.name, B.on, rightL B.l⟩ := by simp only [fMrg, mrgP, h]
    rw [e0, ← hB]
    rfl

def env_turnedM : Env := ⟨T, psi_rclear, pspNil, psc_del, 23, [], none, true⟩
theorem eok_turnedM : PsiOk Try.prog env_turnedM := ⟨psi_rclear_ok, pspNil_ok, psc_del_ok⟩
theorem turnedM_fn (l : List Bitmap) (nm : List UInt8) (c0 : List Span) (hl : BmOk l) (hm : c0.length ≤ 100000) : Ctr Try.prog 33 true [lst .bms l, str nm, .c (.clo 36 [.cel [(.lst .spn c0)]])] (.ot 43 .bms (trnL l nm (fMrg c0)) [.c (i64 (trnE l nm))]) := by
  refine Ctr_intro (E := env_turnedM) Try.func33 rfl (by decide) rfl rfl (fun M0 W hM0 => ?_)
  have hll := hl.len
  have hp := plc_spec l nm
  refine G_run tOk eok_turnedM 60 (fun _ => none) (fun bs => rfl) (fun bs => ?_) (fun bs => ?_)
  · (repeat' apply And.intro) <;> (intros; first | exact trivial | exact rfl | omega | exact u8_lo _ | exact u8_hi _ | exact u8_in64 _ | exact u8_in63 _ | (simp only [inR, IntKind.bits]; omega) | (simp [inR, IntKind.bits]; done) | (simp [inR, IntKind.bits] at * <;> omega) | (simp_all; done) | (with_reducible assumption) | skip)
  refine G_cond (b := decide (plc l nm < 0)) rfl rfl (fun h => ?_) (fun h => ?_)
  · have e : trnE l nm = 4 := by simp only [trnE, h]
    have e2 : trnL l nm (fMrg c0) = [] := by simp only [trnL, h]
    refine G_run tOk eok_turnedM 60 (fun _ => none) (fun bs => rfl) (fun bs => ?_) (fun bs => ?_)
    · (repeat' apply And.intro) <;> (intros; first | exact trivial | exact rfl | omega | exact u8_lo _ | exact u8_hi _ | exact u8_in64 _ | exact u8_in63 _ | (simp only [inR, IntKind.bits]; omega) | (simp [inR, IntKind.bits]; done) | (simp [inR, IntKind.bits] at * <;> omega) | (simp_all; done) | (with_reducible assumption) | skip)
    exact G_ret tOk hM0 rfl rfl ⟨trivial, trivial, trivial⟩ ⟨e2, ⟨rfl, e.symm⟩, trivial⟩
  have h' : ¬ plc l nm < 0 := by simpa using h
  have hi := (hp.resolve_left h').2
  have e : trnE l nm = 0 := by simp only [trnE, h]
  have e2 : trnL l nm (fMrg c0) = l.set (plc l nm).toNat (fMrg c0 (l.getD (plc l nm).toNat LK.bms.dft)) := by simp only [trnL, h]
  refine G_run tOk eok_turnedM 60 (fun _ => none) (fun bs => rfl) (fun bs => ?_) (fun bs => ?_)
  · (repeat' apply And.intro) <;> (intros; first | exact trivial | exact rfl | omega | exact u8_lo _ | exact u8_hi _ | exact u8_in64 _ | exact u8_in63 _ | (simp only [inR, IntKind.bits]; omega) | (simp [inR, IntKind.bits]; done) | (simp [inR, IntKind.bits] at * <;> omega) | (simp_all; done) | (with_reducible assumption) | skip)
  refine G_nx 1 rfl ?_
  refine G_callH [0] id (mcl _ l (plc l nm).toNat c0 hi (hl.get _) hm) rfl trivial rfl rfl rfl rfl (by decide) rfl rfl (fun x => rfl) (fun x _ => ?_)
  refine G_run tOk eok_turnedM 60 (fun _ => none) (fun bs => rfl) (fun bs => ?_) (fun bs => ?_)
  · (repeat' apply And.intro) <;> (intros; first | exact trivial | exact rfl | omega | exact u8_lo _ | exact u8_hi _ | exact u8_in64 _ | exact u8_in63 _ | (simp only [inR, IntKind.bits]; omega) | (simp [inR, IntKind.bits]; done) | (simp [inR, IntKind.bits] at * <;> omega) | (simp_all; done) | (with_reducible assumption) | skip)
  exact G_ret tOk hM0 rfl rfl ⟨trivial, trivial, trivial⟩ ⟨⟨rfl, rfl, rfl, sigEq e2.symm⟩, ⟨rfl, e.symm⟩, trivial⟩

/-! ### Merge -/
def turnedM_s : FSpec
  | [.c (.pv (.lst .bms l)), .c (.pv (.val (.string ⟨⟨nm⟩⟩))), .c (.clo 36 [.cel [(.lst .spn c0)]])] => some ((BmOk l) ∧ (c0.length ≤ 100000), true, .ot 43 .bms (trnL l nm (fMrg c0)) [.c (i64 (trnE l nm))])
  | _ => none
theorem turnedM_s_ok : SpecOk Try.prog 33 turnedM_s := by
  intro args pre sh rv h hp; unfold turnedM_s at h; split at h
  · cases h; obtain ⟨hl, hm⟩ := hp; exact turnedM_fn _ _ _ hl hm
  · cases h
def psi_turnedM : FuncId → Option FSpec := psiCons 33 turnedM_s psi_rclear
theorem psi_turnedM_ok : PsiFn Try.prog psi_turnedM := psiCons_ok turnedM_s_ok psi_rclear_ok
def mgE (l : List Bitmap) (nm ot : List UInt8) : Int := match decide (plc l nm < 0) || decide (plc l ot < 0) with
  | true => 4
  | false => 0
def mgL (g : List Span → List Span → List Span) (l : List Bitmap) (nm ot : List UInt8) : List Bitmap := match decide (plc l nm < 0) || decide (plc l ot < 0) with
  | true => []
  | false => l.set (plc l nm).toNat ⟨(l.getD (plc l nm).toNat LK.bms.dft).name, (l.getD (plc l nm).toNat LK.bms.dft).on, g (l.getD (plc l nm).toNat LK.bms.dft).l (l.getD (plc l ot).toNat LK.bms.dft).l⟩

def env_mmerge : Env := ⟨T, psi_turnedM, pspNil, psc_del, 32, [], none, true⟩
theorem eok_mmerge : PsiOk Try.prog env_mmerge := ⟨psi_turnedM_ok, pspNil_ok, psc_del_ok⟩
theorem mmerge_fn (l : List Bitmap) (nm : List UInt8) (ot : List UInt8) (hl : BmOk l) : Ctr Try.prog 14 true [lst .bms l, str nm, str ot] (.ot 43 .bms (mgL mrgP l nm ot) [.c (i64 (mgE l nm ot))]) := by
  refine Ctr_intro (E := env_mmerge) Try.func14 rfl (by decide) rfl rfl (fun M0 W hM0 => ?_)
  have hll := hl.len
  have hp := plc_spec l nm
  have hq := plc_spec l ot
  have hql := hl.get (plc l ot).toNat
  refine G_run tOk eok_mmerge 60 (fun _ => none) (fun bs => rfl) (fun bs => ?_) (fun bs => ?_)
  · (repeat' apply And.intro) <;> (intros; first | exact trivial | exact rfl | omega | exact u8_lo _ | exact u8_hi _ | exact u8_in64 _ | exact u8_in63 _ | (simp only [inR, IntKind.bits]; omega) | (simp [inR, IntKind.bits]; done) | (simp [inR, IntKind.bits] at * <;> omega) | (simp_all; done) | (with_reducible assumption) | skip)
  refine G_cond (b := decide (plc l nm < 0) || decide (plc l ot < 0)) rfl rfl (fun h => ?_) (fun h => ?_)
  · have e : mgE l nm ot = 4 := by simp only [mgE, h]
    have e2 : mgL mrgP l nm ot = [] := by simp only [mgL, h]
    refine G_run tOk eok_mmerge 60 (fun _ => none) (fun bs => rfl) (fun bs => ?_) (fun bs => ?_)
    · (repeat' apply And.intro) <;> (intros; first | exact trivial | exact rfl | omega | exact u8_lo _ | exact u8_hi _ | exact u8_in64 _ | exact u8_in63 _ | (simp only [inR, IntKind.bits]; omega) | (simp [inR, IntKind.bits]; done) | (simp [inR, IntKind.bits] at * <;> omega) | (simp_all; done) | (with_reducible assumption) | skip)
    exact G_ret tOk hM0 rfl rfl ⟨trivial, trivial, trivial⟩ ⟨e2, ⟨rfl, e.symm⟩, trivial⟩
  have h' := h
  simp only [Bool.or_eq_false_iff, decide_eq_false_iff_not] at h'
  have hqi := (hq.resolve_left h'.2).2
  have e : mgE l nm ot = 0 := by simp only [mgE, h]
  have e1 : trnE l nm = 0 := by simp only [trnE, decide_eq_false h'.1]
  have e2 : mgL mrgP l nm ot = trnL l nm (fMrg (l.getD (plc l ot).toNat LK.bms.dft).l) := by
    unfold mgL trnL
    rw [h, decide_eq_false h'.1]
  rw [e, e2, ← e1]
  refine G_run tOk eok_mmerge 60 (fun _ => none) (fun bs => rfl) (fun bs => ?_) (fun bs => ?_)
  · (repeat' apply And.intro) <;> (intros; first | exact trivial | exact rfl | omega | exact u8_lo _ | exact u8_hi _ | exact u8_in64 _ | exact u8_in63 _ | (simp only [inR, IntKind.bits]; omega) | (simp [inR, IntKind.bits]; done) | (simp [inR, IntKind.bits] at * <;> omega) | (simp_all; done) | (with_reducible assumption) | skip)
  refine G_freezeB 28 0 (ys := [.lst .spn (l.getD (plc l ot).toNat LK.bms.dft).l]) rfl rfl ?_
  refine G_run tOk eok_mmerge 60 (fun _ => none) (fun bs => rfl) (fun bs => ?_) (fun bs => ?_)
  · (repeat' apply And.intro) <;> (intros; first | exact trivial | exact rfl | omega | exact u8_lo _ | exact u8_hi _ | exact u8_in64 _ | exact u8_in63 _ | (simp only [inR, IntKind.bits]; omega) | (simp [inR, IntKind.bits]; done) | (simp [inR, IntKind.bits] at * <;> omega) | (simp_all; done) | (with_reducible assumption) | skip)
  exact G_ret tOk hM0 rfl rfl ⟨trivial, trivial, trivial⟩ ⟨⟨rfl, rfl, rfl, rfl⟩, ⟨rfl, rfl⟩, trivial⟩
def mmerge_s : FSpec
  | [.c (.pv (.lst .bms l)), .c (.pv (.val (.string ⟨⟨nm⟩⟩))), .c (.pv (.val (.string ⟨⟨ot⟩⟩)))] => some ((BmOk l), true, .ot 43 .bms (mgL mrgP l nm ot) [.c (i64 (mgE l nm ot))])
  | _ => none
theorem mmerge_s_ok : SpecOk Try.prog 14 mmerge_s := by
  intro args pre sh rv h hp; unfold mmerge_s at h; split at h
  · cases h; have hl := hp; exact mmerge_fn _ _ _ hl
  · cases h
def psi_mmerge : FuncId → Option FSpec := psiCons 14 mmerge_s psi_turnedM
theorem psi_mmerge_ok : PsiFn Try.prog psi_mmerge := psiCons_ok mmerge_s_ok psi_turnedM_ok
end Go.Proofs.Ytndjdmnpdknneaa
