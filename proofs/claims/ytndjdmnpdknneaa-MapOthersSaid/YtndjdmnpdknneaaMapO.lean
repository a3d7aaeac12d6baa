import Derived.Test.YtndjdmnpdknneaaMapZ
set_option linter.unusedSimpArgs false
set_option linter.unusedVariables false
set_option maxRecDepth 10000
namespace Go.Proofs.Ytndjdmnpdknneaa
open Go.Mt
def psi_vt := psiOff 12 (psiOff 13 (psiOff 14 psi_fsizes))
theorem psi_vt_ok : PsiFn Try.prog psi_vt := psiOff_ok (psiOff_ok (psiOff_ok psi_fsizes_ok))

theorem plc_at {l : List Bitmap} {k : Nat} (hk : k < l.length) (h : ∀ j, j < k → (l.getD j LK.bms.dft).name ≠ (l.getD k LK.bms.dft).name) : plc l (l.getD k LK.bms.dft).name = k := by
  rcases ixP_spec (isN (l.getD k LK.bms.dft).name) LK.bms.dft l l.length with ⟨h1, h2⟩ | ⟨i, h1, h2, h3, h4⟩
  · have := h2 k hk
    simp [isN] at this
  · have e : i = k := by
      rcases Nat.lt_trichotomy i k with hlt | he | hgt
      · exact absurd (by simpa [isN] using h3) (h i hlt)
      · exact he
      · have := h4 k hgt
        simp [isN] at this
    subst e
    exact h2

def env_fothers : Env := ⟨T, psi_vt, pspNil, psc_del, 150, [], none, true⟩
theorem eok_fothers : PsiOk Try.prog env_fothers := ⟨psi_vt_ok, pspNil_ok, psc_del_ok⟩
theorem fothers_fn (l : List Bitmap) (w : Int) (t : Int) (hl : l.length ≤ 9223372036854775807) (hw : 0 ≤ w ∧ w ≤ 255) (ht : 0 ≤ t ∧ t ≤ 255) : Ctr Try.prog 4 false [lst .bms l, int .u8 w, int .u8 t] (.x (.c (bv true))) := by
  refine Ctr_intro (E := env_fothers) Try.func4 rfl (by decide) rfl rfl (fun M0 W hM0 => ?_)
  cases hv : letB l with
  | true =>
    refine G_run tOk eok_fothers 60 (fun _ => some true) (fun bs => rfl) (fun bs => ?_) (fun bs => ?_)
    · (repeat' apply And.intro) <;> (intros; first | exact trivial | exact rfl | omega | exact u8_lo _ | exact u8_hi _ | exact u8_in64 _ | exact u8_in63 _ | (simp only [inR, IntKind.bits]; omega) | (simp [inR, IntKind.bits]; done) | (simp [inR, IntKind.bits] at * <;> omega) | (simp_all; done) | (with_reducible assumption) | skip)
    refine G_thn rfl rfl (by simp [hv]) ?_
    refine G_run tOk eok_fothers 60 (fun _ => none) (fun bs => rfl) (fun bs => ?_) (fun bs => ?_)
    · (repeat' apply And.intro) <;> (intros; first | exact trivial | exact rfl | omega | exact u8_lo _ | exact u8_hi _ | exact u8_in64 _ | exact u8_in63 _ | (simp only [inR, IntKind.bits]; omega) | (simp [inR, IntKind.bits]; done) | (simp [inR, IntKind.bits] at * <;> omega) | (simp_all; done) | (with_reducible assumption) | skip)
    exact G_ret tOk hM0 rfl rfl ⟨trivial, trivial⟩ rfl
  | false =>
  have hL := let_ok hv
  have hl30 := hL.len
  refine G_run tOk eok_fothers 60 (fun _ => some false) (fun bs => rfl) (fun bs => ?_) (fun bs => ?_)
  · (repeat' apply And.intro) <;> (intros; first | exact trivial | exact rfl | omega | exact u8_lo _ | exact u8_hi _ | exact u8_in64 _ | exact u8_in63 _ | (simp only [inR, IntKind.bits]; omega) | (simp [inR, IntKind.bits]; done) | (simp [inR, IntKind.bits] at * <;> omega) | (simp_all; done) | (with_reducible assumption) | skip)
  refine G_cond (b := letB l || decide ((l.length : Int) = 0)) rfl rfl (fun h => ?_) (fun h => ?_)
  · refine G_run tOk eok_fothers 60 (fun _ => none) (fun bs => rfl) (fun bs => ?_) (fun bs => ?_)
    · (repeat' apply And.intro) <;> (intros; first | exact trivial | exact rfl | omega | exact u8_lo _ | exact u8_hi _ | exact u8_in64 _ | exact u8_in63 _ | (simp only [inR, IntKind.bits]; omega) | (simp [inR, IntKind.bits]; done) | (simp [inR, IntKind.bits] at * <;> omega) | (simp_all; done) | (with_reducible assumption) | skip)
    exact G_ret tOk hM0 rfl rfl ⟨trivial, trivial⟩ rfl
  have hn0 : 0 < l.length := by
    rw [hv] at h; simp at h
    exact List.length_pos_iff.2 h
  have hk1 := Int.emod_nonneg w (b := (l.length : Int)) (by omega)
  have hk2 := Int.emod_lt_of_pos w (b := (l.length : Int)) (by omega)
  obtain ⟨k, hkw⟩ : ∃ k : Nat, w % (l.length : Int) = k := ⟨(w % (l.length : Int)).toNat, by omega⟩
  have hkl : k < l.length := by omega
  refine G_run tOk eok_fothers 60 (fun _ => none) (fun bs => rfl) (fun bs => ?_) (fun bs => ?_)
  · (repeat' apply And.intro) <;> (intros; first | exact trivial | exact rfl | omega | exact u8_lo _ | exact u8_hi _ | exact u8_in64 _ | exact u8_in63 _ | (simp only [inR, IntKind.bits]; omega) | (simp [inR, IntKind.bits]; done) | (simp [inR, IntKind.bits] at * <;> omega) | (simp_all; done) | (with_reducible assumption) | skip)
  rw [hkw]
  refine G_loop (fun i : Nat => [(0, lst .bms l), (2, int .u8 t), (7, int .i64 k), (8, int .i64 i)]) (fun i => []) (fun i => i ≤ l.length ∧ ∀ j, j < i → j ≠ k → (l.getD j LK.bms.dft).name ≠ (l.getD k LK.bms.dft).name) (fun i => l.length - i) rfl [] 0 ⟨Nat.zero_le _, fun j h => by omega⟩ ?wk (fun i hx => ?_)
  case wk => (repeat' apply And.intro) <;> (first | exact rfl | exact trivial | omega | refine sigEq ?_ | skip)
  obtain ⟨hi, hnm⟩ := hx
  refine G_run tOk eok_fothers 60 (fun _ => none) (fun bs => rfl) (fun bs => ?_) (fun bs => ?_)
  · (repeat' apply And.intro) <;> (intros; first | exact trivial | exact rfl | omega | exact u8_lo _ | exact u8_hi _ | exact u8_in64 _ | exact u8_in63 _ | (simp only [inR, IntKind.bits]; omega) | (simp [inR, IntKind.bits]; done) | (simp [inR, IntKind.bits] at * <;> omega) | (simp_all; done) | (with_reducible assumption) | skip)
  refine G_if rfl rfl (fun hk3 => ?_) (fun hk3 => ?_)
  · have hil : i < l.length := by omega
    refine G_run tOk eok_fothers 60 (fun _ => none) (fun bs => rfl) (fun bs => ?_) (fun bs => ?_)
    · (repeat' apply And.intro) <;> (intros; first | exact trivial | exact rfl | omega | exact u8_lo _ | exact u8_hi _ | exact u8_in64 _ | exact u8_in63 _ | (simp only [inR, IntKind.bits]; omega) | (simp [inR, IntKind.bits]; done) | (simp [inR, IntKind.bits] at * <;> omega) | (simp_all; done) | (with_reducible assumption) | skip)
    by_cases hik : i = k
    · refine G_nx 0 rfl ?_
      refine G_draw tOk eok_fothers rfl (fun _ => some false) 14 [0, 0, 3, 7, 15, 15, 63, 127, 255, 15, 15, 1551, 3599, 7695, 16383, 32767] [] rfl (by decide +kernel) (fun bs => rfl) (fun bs => ?_) (fun bs => ?_)
      · (repeat' apply And.intro) <;> (intros; first | exact trivial | exact rfl | omega | exact u8_lo _ | exact u8_hi _ | exact u8_in64 _ | exact u8_in63 _ | (simp only [inR, IntKind.bits]; omega) | (simp [inR, IntKind.bits]; done) | (simp [inR, IntKind.bits] at * <;> omega) | (simp_all; done) | (with_reducible assumption) | skip)
      refine G_run tOk eok_fothers 60 (fun _ => some false) (fun bs => rfl) (fun bs => ?_) (fun bs => ?_)
      · (repeat' apply And.intro) <;> (intros; first | exact trivial | exact rfl | omega | exact u8_lo _ | exact u8_hi _ | exact u8_in64 _ | exact u8_in63 _ | (simp only [inR, IntKind.bits]; omega) | (simp [inR, IntKind.bits]; done) | (simp [inR, IntKind.bits] at * <;> omega) | (simp_all; done) | (with_reducible assumption) | skip)
      refine G_els rfl rfl ?hf ?_
      case hf => simp [hik]
      refine G_run tOk eok_fothers 60 (fun _ => none) (fun bs => rfl) (fun bs => ?_) (fun bs => ?_)
      · (repeat' apply And.intro) <;> (intros; first | exact trivial | exact rfl | omega | exact u8_lo _ | exact u8_hi _ | exact u8_in64 _ | exact u8_in63 _ | (simp only [inR, IntKind.bits]; omega) | (simp [inR, IntKind.bits]; done) | (simp [inR, IntKind.bits] at * <;> omega) | (simp_all; done) | (with_reducible assumption) | skip)
      refine G_lp [] (i + 1) ?ok ?wk1
      case ok => exact ⟨⟨hil, fun j h1 h2 => hnm j (by omega) h2⟩, by omega⟩
      case wk1 => (repeat' apply And.intro) <;> (first | exact rfl | exact trivial | omega | refine sigEq ?_ | skip)
    · refine G_nx 0 rfl ?_
      refine G_draw tOk eok_fothers rfl (fun _ => some true) 14 [0, 0, 3, 7, 15, 15, 63, 127, 255, 15, 15, 1551, 3599, 7695, 16383, 32767] [] rfl (by decide +kernel) (fun bs => rfl) (fun bs => ?_) (fun bs => ?_)
      · (repeat' apply And.intro) <;> (intros; first | exact trivial | exact rfl | omega | exact u8_lo _ | exact u8_hi _ | exact u8_in64 _ | exact u8_in63 _ | (simp only [inR, IntKind.bits]; omega) | (simp [inR, IntKind.bits]; done) | (simp [inR, IntKind.bits] at * <;> omega) | (simp_all; done) | (with_reducible assumption) | skip)
      refine G_run tOk eok_fothers 60 (fun _ => some true) (fun bs => rfl) (fun bs => ?_) (fun bs => ?_)
      · (repeat' apply And.intro) <;> (intros; first | exact trivial | exact rfl | omega | exact u8_lo _ | exact u8_hi _ | exact u8_in64 _ | exact u8_in63 _ | (simp only [inR, IntKind.bits]; omega) | (simp [inR, IntKind.bits]; done) | (simp [inR, IntKind.bits] at * <;> omega) | (simp_all; done) | (with_reducible assumption) | skip)
      refine G_cond (b := !decide ((i : Int) = k) && decide ((l.getD i LK.bms.dft).name = (l.getD k LK.bms.dft).name)) rfl rfl (fun hd => ?_) (fun hd => ?_)
      · refine G_run tOk eok_fothers 60 (fun _ => none) (fun bs => rfl) (fun bs => ?_) (fun bs => ?_)
        · (repeat' apply And.intro) <;> (intros; first | exact trivial | exact rfl | omega | exact u8_lo _ | exact u8_hi _ | exact u8_in64 _ | exact u8_in63 _ | (simp only [inR, IntKind.bits]; omega) | (simp [inR, IntKind.bits]; done) | (simp [inR, IntKind.bits] at * <;> omega) | (simp_all; done) | (with_reducible assumption) | skip)
        exact G_ret tOk hM0 rfl rfl ⟨trivial, trivial⟩ rfl
      · refine G_run tOk eok_fothers 60 (fun _ => none) (fun bs => rfl) (fun bs => ?_) (fun bs => ?_)
        · (repeat' apply And.intro) <;> (intros; first | exact trivial | exact rfl | omega | exact u8_lo _ | exact u8_hi _ | exact u8_in64 _ | exact u8_in63 _ | (simp only [inR, IntKind.bits]; omega) | (simp [inR, IntKind.bits]; done) | (simp [inR, IntKind.bits] at * <;> omega) | (simp_all; done) | (with_reducible assumption) | skip)
        refine G_lp [] (i + 1) ?ok2 ?wk2
        case ok2 =>
          refine ⟨⟨hil, fun j h1 h2 => ?_⟩, by omega⟩
          by_cases e : j = i
          · subst e; simpa [show ¬ (j : Int) = k by omega] using hd
          · exact hnm j (by omega) h2
        case wk2 => (repeat' apply And.intro) <;> (first | exact rfl | exact trivial | omega | refine sigEq ?_ | skip)
  have hil : i = l.length := by omega
  subst hil
  have hplc := plc_at hkl (fun j hj => hnm j (by omega) (by omega))
  have hpl0 := plc_at (l := l) (k := 0) hn0 (fun j hj => by omega)
  have hbm := hL.bm
  have hmb : (mrgP (l.getD k LK.bms.dft).l (l.getD 0 LK.bms.dft).l).length ≤ 100000 := by
    have h1 := hL.getL k
    have h2 := hL.getL 0
    have h3 := addA_len (rightL (l.getD k LK.bms.dft).l) (l.getD 0 LK.bms.dft).l (l.getD 0 LK.bms.dft).l.length (Nat.le_refl _)
    have h4 := rightL_le (l.getD k LK.bms.dft).l
    unfold mrgP
    split <;> omega
  refine G_run tOk eok_fothers 14 (fun _ => none) (fun bs => rfl) (fun bs => ?_) (fun bs => ?_)
  · (repeat' apply And.intro) <;> (intros; first | exact trivial | exact rfl | omega | exact u8_lo _ | exact u8_hi _ | exact u8_in64 _ | exact u8_in63 _ | (simp only [inR, IntKind.bits]; omega) | (simp [inR, IntKind.bits]; done) | (simp [inR, IntKind.bits] at * <;> omega) | (simp_all; done) | (with_reducible assumption) | skip)
  refine G_cutF (fun x : Value × List BmH × List Bitmap => [(0, lst .bms l), (7, int .i64 k), (10, .c (.own 0 x.1)), (11, int .i64 0)]) (fun x => [.own x.1 43 .bmh x.2.1]) (fun x => leafF (fun i => (x.2.2.getD i LK.bms.dft).l) x.2.1)
    (fun x => OwnH x.2.2 x.2.1 l.length ∧ x.2.2.length = l.length ∧ (∀ i, i ≠ k → x.2.2.getD i LK.bms.dft = l.getD i LK.bms.dft) ∧ ∀ i, (x.2.2.getD i LK.bms.dft).l.length ≤ 100000) rfl ?_ (fun x hx => ?_)
  · refine G_run tOk eok_fothers 60 (fun _ => none) (fun bs => rfl) (fun bs => ?_) (fun bs => ?_)
    · (repeat' apply And.intro) <;> (intros; first | exact trivial | exact rfl | omega | exact u8_lo _ | exact u8_hi _ | exact u8_in64 _ | exact u8_in63 _ | (simp only [inR, IntKind.bits]; omega) | (simp [inR, IntKind.bits]; done) | (simp [inR, IntKind.bits] at * <;> omega) | (simp_all; done) | (with_reducible assumption) | skip)
    refine G_if rfl rfl (fun t0 => ?_) (fun t0 => ?_)
    · refine G_run tOk eok_fothers 60 (fun _ => none) (fun bs => rfl) (fun bs => ?_) (fun bs => ?_)
      · (repeat' apply And.intro) <;> (intros; first | exact trivial | exact rfl | omega | exact u8_lo _ | exact u8_hi _ | exact u8_in64 _ | exact u8_in63 _ | (simp only [inR, IntKind.bits]; omega) | (simp [inR, IntKind.bits]; done) | (simp [inR, IntKind.bits] at * <;> omega) | (simp_all; done) | (with_reducible assumption) | skip)
      refine G_nx 0 rfl ?_
      refine G_callF [] id (mturnH l (l.getD k LK.bms.dft).name (!(l.getD k LK.bms.dft).on) k hbm hplc hkl) (fun x => leafF_own) rfl trivial rfl rfl rfl rfl (by decide) rfl (fun x => rfl) (fun x => rfl) (fun x hO => ?_)
      obtain ⟨v, Lh⟩ := x
      dsimp only at hO ⊢
      refine G_run tOk eok_fothers 60 (fun _ => none) (fun bs => rfl) (fun bs => ?_) (fun bs => ?_)
      · (repeat' apply And.intro) <;> (intros; first | exact trivial | exact rfl | omega | exact u8_lo _ | exact u8_hi _ | exact u8_in64 _ | exact u8_in63 _ | (simp only [inR, IntKind.bits]; omega) | (simp [inR, IntKind.bits]; done) | (simp [inR, IntKind.bits] at * <;> omega) | (simp_all; done) | (with_reducible assumption) | skip)
      refine G_lpF [0] (fun i => i + 40) (v, Lh, l.set k (fOn (!(l.getD k LK.bms.dft).on) (l.getD k LK.bms.dft))) ⟨hO, by simp, fun i hi => getD_set_other _ _ hi, fun i => BmOk.get (hbm.setT k (x := fOn (!(l.getD k LK.bms.dft).on) (l.getD k LK.bms.dft)) (hbm.get k)) i⟩ ⟨?wk3, fun i y h => h, fun i y h => rfl, fun i j y z h1 h2 e => ?inj⟩
      case wk3 => (repeat' apply And.intro) <;> (first | exact rfl | exact trivial | omega | refine sigEq ?_ | skip)
      case inj => omega
    refine G_run tOk eok_fothers 60 (fun _ => none) (fun bs => rfl) (fun bs => ?_) (fun bs => ?_)
    · (repeat' apply And.intro) <;> (intros; first | exact trivial | exact rfl | omega | exact u8_lo _ | exact u8_hi _ | exact u8_in64 _ | exact u8_in63 _ | (simp only [inR, IntKind.bits]; omega) | (simp [inR, IntKind.bits]; done) | (simp [inR, IntKind.bits] at * <;> omega) | (simp_all; done) | (with_reducible assumption) | skip)
    refine G_if rfl rfl (fun t1 => ?_) (fun t1 => ?_)
    · refine G_run tOk eok_fothers 60 (fun _ => none) (fun bs => rfl) (fun bs => ?_) (fun bs => ?_)
      · (repeat' apply And.intro) <;> (intros; first | exact trivial | exact rfl | omega | exact u8_lo _ | exact u8_hi _ | exact u8_in64 _ | exact u8_in63 _ | (simp only [inR, IntKind.bits]; omega) | (simp [inR, IntKind.bits]; done) | (simp [inR, IntKind.bits] at * <;> omega) | (simp_all; done) | (with_reducible assumption) | skip)
      refine G_nx 0 rfl ?_
      refine G_callF [] id (mclearH l (l.getD k LK.bms.dft).name k hbm hplc hkl) (fun x => leafF_own) rfl trivial rfl rfl rfl rfl (by decide) rfl (fun x => rfl) (fun x => rfl) (fun x hO => ?_)
      obtain ⟨v, Lh⟩ := x
      dsimp only at hO ⊢
      refine G_run tOk eok_fothers 60 (fun _ => none) (fun bs => rfl) (fun bs => ?_) (fun bs => ?_)
      · (repeat' apply And.intro) <;> (intros; first | exact trivial | exact rfl | omega | exact u8_lo _ | exact u8_hi _ | exact u8_in64 _ | exact u8_in63 _ | (simp only [inR, IntKind.bits]; omega) | (simp [inR, IntKind.bits]; done) | (simp [inR, IntKind.bits] at * <;> omega) | (simp_all; done) | (with_reducible assumption) | skip)
      refine G_lpF [0] (fun i => i + 40) (v, Lh, l.set k (fClr (l.getD k LK.bms.dft))) ⟨hO, by simp, fun i hi => getD_set_other _ _ hi, fun i => BmOk.get (hbm.setT k (by simp)) i⟩ ⟨?wk3, fun i y h => h, fun i y h => rfl, fun i j y z h1 h2 e => ?inj⟩
      case wk3 => (repeat' apply And.intro) <;> (first | exact rfl | exact trivial | omega | refine sigEq ?_ | skip)
      case inj => omega
    refine G_run tOk eok_fothers 60 (fun _ => none) (fun bs => rfl) (fun bs => ?_) (fun bs => ?_)
    · (repeat' apply And.intro) <;> (intros; first | exact trivial | exact rfl | omega | exact u8_lo _ | exact u8_hi _ | exact u8_in64 _ | exact u8_in63 _ | (simp only [inR, IntKind.bits]; omega) | (simp [inR, IntKind.bits]; done) | (simp [inR, IntKind.bits] at * <;> omega) | (simp_all; done) | (with_reducible assumption) | skip)
    refine G_nx 0 rfl ?_
    refine G_callF [] id (mmergeH l (l.getD k LK.bms.dft).name (l.getD 0 LK.bms.dft).name k 0 hbm hplc hkl hpl0 hn0) (fun x => leafF_own) rfl trivial rfl rfl rfl rfl (by decide) rfl (fun x => rfl) (fun x => rfl) (fun x hO => ?_)
    obtain ⟨v, Lh⟩ := x
    dsimp only at hO ⊢
    refine G_run tOk eok_fothers 60 (fun _ => none) (fun bs => rfl) (fun bs => ?_) (fun bs => ?_)
    · (repeat' apply And.intro) <;> (intros; first | exact trivial | exact rfl | omega | exact u8_lo _ | exact u8_hi _ | exact u8_in64 _ | exact u8_in63 _ | (simp only [inR, IntKind.bits]; omega) | (simp [inR, IntKind.bits]; done) | (simp [inR, IntKind.bits] at * <;> omega) | (simp_all; done) | (with_reducible assumption) | skip)
    refine G_lpF [0] (fun i => i + 40) (v, Lh, l.set k (fMrg (l.getD 0 LK.bms.dft).l (l.getD k LK.bms.dft))) ⟨hO, by simp, fun i hi => getD_set_other _ _ hi, fun i => BmOk.get (hbm.setT k hmb) i⟩ ⟨?wk3, fun i y h => h, fun i y h => rfl, fun i j y z h1 h2 e => ?inj⟩
    case wk3 => (repeat' apply And.intro) <;> (first | exact rfl | exact trivial | omega | refine sigEq ?_ | skip)
    case inj => omega
  obtain ⟨v, Lh, l'⟩ := x
  dsimp only at hx ⊢
  obtain ⟨hO, hl', hoth, hlen⟩ := hx
  have hLl := hO.len
  refine G_unown 0 (v := v) (ty := 43) (lk := .bmh) (l := Lh) rfl (fun e1 _ => ?_) (fun ab cap ev hcap hmx => ?_)
  · subst e1; simp at hLl; omega
  subst ev
  have hw2 := tch_none hL
  refine G_run tOk eok_fothers 60 (fun _ => some false) (fun bs => rfl) (fun bs => ?_) (fun bs => ?_)
  · (repeat' apply And.intro) <;> (intros; first | exact trivial | exact rfl | omega | exact u8_lo _ | exact u8_hi _ | exact u8_in64 _ | exact u8_in63 _ | (simp only [inR, IntKind.bits]; omega) | (simp [inR, IntKind.bits]; done) | (simp [inR, IntKind.bits] at * <;> omega) | (simp_all; done) | (with_reducible assumption) | skip)
  refine G_els rfl rfl (by simp; omega) ?_
  refine G_run tOk eok_fothers 60 (fun _ => none) (fun bs => rfl) (fun bs => ?_) (fun bs => ?_)
  · (repeat' apply And.intro) <;> (intros; first | exact trivial | exact rfl | omega | exact u8_lo _ | exact u8_hi _ | exact u8_in64 _ | exact u8_in63 _ | (simp only [inR, IntKind.bits]; omega) | (simp [inR, IntKind.bits]; done) | (simp [inR, IntKind.bits] at * <;> omega) | (simp_all; done) | (with_reducible assumption) | skip)
  refine G_freeze 1 [102, 12] rfl ⟨rfl, rfl, trivial⟩ ?_
  rw [hw2]
  refine G_loopF (fun x : Nat × (Nat → List Span) => [(0, lst .bms l), (7, int .i64 k), (10, .c (.own 0 (.slice (some ⟨ab, 0, none⟩) Lh.length cap))), (12, lst .bms l), (13, int .i64 x.1)]) (fun x => [.own (.slice (some ⟨ab, 0, none⟩) Lh.length cap) 43 .bmh Lh]) (fun x => leafF x.2 Lh) (fun x => x.1 ≤ l.length ∧ (∀ j, x.1 ≤ j → x.2 j = (l'.getD j LK.bms.dft).l) ∧ ∀ j, (x.2 j).length = (l'.getD j LK.bms.dft).l.length) (fun x => l.length - x.1) rfl [0] (fun i => i + 40) (0, fun i => (l'.getD i LK.bms.dft).l) ⟨Nat.zero_le _, fun j _ => rfl, fun j => rfl⟩ ⟨?wk6, fun i y h => h, fun i y h => rfl, fun i j y z _ _ e => ?inj6⟩ (fun x hx => ?_)
  case wk6 => (repeat' apply And.intro) <;> (first | exact rfl | exact trivial | omega | refine sigEq ?_ | skip)
  case inj6 => omega
  obtain ⟨i, c⟩ := x
  obtain ⟨hi, hc1, hc2⟩ := hx
  dsimp only at hi hc1 hc2 ⊢
  refine G_run tOk eok_fothers 60 (fun _ => none) (fun bs => rfl) (fun bs => ?_) (fun bs => ?_)
  · (repeat' apply And.intro) <;> (intros; first | exact trivial | exact rfl | omega | exact u8_lo _ | exact u8_hi _ | exact u8_in64 _ | exact u8_in63 _ | (simp only [inR, IntKind.bits]; omega) | (simp [inR, IntKind.bits]; done) | (simp [inR, IntKind.bits] at * <;> omega) | (simp_all; done) | (with_reducible assumption) | skip)
  refine G_if rfl rfl (fun hk5 => ?_) (fun hk5 => ?_)
  · have hil : i < l.length := by omega
    have hiL : i < Lh.length := by omega
    obtain ⟨u, hu⟩ := hO.own i hil (by omega)
    have hci : c i = (l'.getD i LK.bms.dft).l := hc1 i (Nat.le_refl _)
    have hcl := hlen i
    refine G_run tOk eok_fothers 60 (fun _ => none) (fun bs => rfl) (fun bs => ?_) (fun bs => ?_)
    · (repeat' apply And.intro) <;> (intros; first | exact trivial | exact rfl | omega | exact u8_lo _ | exact u8_hi _ | exact u8_in64 _ | exact u8_in63 _ | (simp only [inR, IntKind.bits]; omega) | (simp [inR, IntKind.bits]; done) | (simp [inR, IntKind.bits] at * <;> omega) | (simp_all; done) | (with_reducible assumption) | skip)
    refine G_moveH (i + 40) (leafF_at (c := c) hiL hu) ?_
    have hiO : ∀ j, j ≠ i → j + 40 ≠ i + 40 := fun j h => by omega
    refine G_wkF (ns := [0, 1]) (fun j => j + 40) (fs := [(0, lst .bms l), (7, int .i64 k), (10, .c (.own 0 (.slice (some ⟨ab, 0, none⟩) Lh.length cap))), (12, lst .bms l), (13, int .i64 i)]) (hs := [.own (.slice (some ⟨ab, 0, none⟩) Lh.length cap) 43 .bmh Lh, .own u 38 .spn (c i)]) (L := fun j => if j = i then none else leafF c Lh j) rfl ⟨?wk7, fun j y h => ?fam7, fun j y h => rfl, fun j j' y z _ _ e => ?inj7⟩ ?_
    case wk7 => (repeat' apply And.intro) <;> (first | exact rfl | exact trivial | omega | refine sigEq ?_ | skip)
    case inj7 => omega
    case fam7 =>
      by_cases e : j = i
      · rw [if_pos e] at h; cases h
      · rw [if_neg e] at h
        show updH (fun n => famH [.own (.slice (some ⟨ab, 0, none⟩) Lh.length cap) 43 .bmh Lh] (leafF c Lh) n) (i + 40) none (j + 40) = some y
        rw [updH_ne _ _ (hiO j e)]
        exact h
    have hb1 : BmOk [l.getD i LK.bms.dft] := ⟨by simp, fun b hb => by simp only [List.mem_singleton] at hb; rw [hb]; exact hbm.get i⟩
    have hsl : (l.take ((i : Int) + 1).toNat).drop (i : Int).toNat = [l.getD i LK.bms.dft] := by
      rw [show ((i : Int) + 1).toNat = i + 1 by omega, show (i : Int).toNat = i by omega, take_succ_getD (d := LK.bms.dft) hil, List.drop_append_of_le_length (by simp; omega), List.drop_eq_nil_of_le (by rw [List.length_take]; omega)]
      rfl
    by_cases hik : i = k
    · refine G_any rfl rfl _ rfl 17 rfl ?_
      refine GA_moveW 0 rfl rfl rfl rfl (by decide +kernel) rfl (by decide +kernel) trivial rfl ?_
      refine GA_moveW 1 rfl rfl rfl rfl (by decide +kernel) rfl (by decide +kernel) trivial rfl ?_
      refine GA_val 2 tOk rfl rfl trivial rfl (by decide +kernel) rfl (by decide +kernel) trivial rfl ?_
      refine GA_moveW 3 rfl rfl rfl rfl (by decide +kernel) rfl (by decide +kernel) trivial rfl ?_
      refine GA_slot 112 (x := bool (!decide ((i : Int) = k))) (y := bool false) rfl (fun M v h => by rw [show (!decide ((i : Int) = k)) = false by simp [hik]] at h; exact h) ?_
      refine GA_skip 4 3 112 true rfl rfl (by decide +kernel) rfl (by decide +kernel) rfl rfl rfl rfl ?_
      refine GA_skip 5 3 112 true rfl rfl (by decide +kernel) rfl (by decide +kernel) rfl rfl rfl rfl ?_
      refine GA_skip 6 3 112 true rfl rfl (by decide +kernel) rfl (by decide +kernel) rfl rfl rfl rfl ?_
      refine GA_skip 7 3 112 true rfl rfl (by decide +kernel) rfl (by decide +kernel) rfl rfl rfl rfl ?_
      refine GA_skip 8 3 112 true rfl rfl (by decide +kernel) rfl (by decide +kernel) rfl rfl rfl rfl ?_
      refine GA_skip 9 3 112 true rfl rfl (by decide +kernel) rfl (by decide +kernel) rfl rfl rfl rfl ?_
      refine GA_skip 10 3 112 true rfl rfl (by decide +kernel) rfl (by decide +kernel) rfl rfl rfl rfl ?_
      refine GA_skip 11 3 112 true rfl rfl (by decide +kernel) rfl (by decide +kernel) rfl rfl rfl rfl ?_
      refine GA_skip 12 3 112 true rfl rfl (by decide +kernel) rfl (by decide +kernel) rfl rfl rfl rfl ?_
      refine GA_skip 13 3 112 true rfl rfl (by decide +kernel) rfl (by decide +kernel) rfl rfl rfl rfl ?_
      refine GA_skip 14 3 112 true rfl rfl (by decide +kernel) rfl (by decide +kernel) rfl rfl rfl rfl ?_
      refine GA_skip 15 3 112 true rfl rfl (by decide +kernel) rfl (by decide +kernel) rfl rfl rfl rfl ?_
      refine GA_one 16 tOk eok_fothers (fun _ => none) rfl rfl rfl rfl (fun u => rfl) (fun u => ?_) (fun w16 => ?_)
      · (repeat' apply And.intro) <;> (intros; first | exact trivial | exact rfl | omega | exact u8_lo _ | exact u8_hi _ | exact u8_in64 _ | exact u8_in63 _ | (simp only [inR, IntKind.bits]; omega) | (simp [inR, IntKind.bits]; done) | (simp [inR, IntKind.bits] at * <;> omega) | (simp_all; done) | (with_reducible assumption) | skip)
      refine GA_done rfl ?_
      refine G_run tOk eok_fothers 60 (fun _ => none) (fun bs => rfl) (fun bs => ?_) (fun bs => ?_)
      · (repeat' apply And.intro) <;> (intros; first | exact trivial | exact rfl | omega | exact u8_lo _ | exact u8_hi _ | exact u8_in64 _ | exact u8_in63 _ | (simp only [inR, IntKind.bits]; omega) | (simp [inR, IntKind.bits]; done) | (simp [inR, IntKind.bits] at * <;> omega) | (simp_all; done) | (with_reducible assumption) | skip)
      refine G_els rfl rfl (by simp) ?_
      refine G_wkF (ns := [0, 1]) (fun j => j + 40) (fs := [(0, lst .bms l), (7, int .i64 k), (10, .c (.own 0 (.slice (some ⟨ab, 0, none⟩) Lh.length cap))), (12, lst .bms l), (13, int .i64 i)]) (hs := [.own (.slice (some ⟨ab, 0, none⟩) Lh.length cap) 43 .bmh Lh, .own u 38 .spn (c i)]) (L := fun j => if j = i then none else leafF c Lh j) rfl ⟨?wkN, fun j y h => h, fun j y h => rfl, fun j j' y z _ _ e => ?injN⟩ ?_
      case wkN => (repeat' apply And.intro) <;> (first | exact rfl | exact trivial | omega | refine sigEq ?_ | skip)
      case injN => omega
      refine G_run tOk eok_fothers 60 (fun _ => none) (fun bs => rfl) (fun bs => ?_) (fun bs => ?_)
      · (repeat' apply And.intro) <;> (intros; first | exact trivial | exact rfl | omega | exact u8_lo _ | exact u8_hi _ | exact u8_in64 _ | exact u8_in63 _ | (simp only [inR, IntKind.bits]; omega) | (simp [inR, IntKind.bits]; done) | (simp [inR, IntKind.bits] at * <;> omega) | (simp_all; done) | (with_reducible assumption) | skip)
      refine G_loopF (fun x : Nat × List Span => [(0, lst .bms l), (7, int .i64 k), (10, .c (.own 0 (.slice (some ⟨ab, 0, none⟩) Lh.length cap))), (12, lst .bms l), (13, int .i64 i), (14, int .i64 x.1)]) (fun x => [.own (.slice (some ⟨ab, 0, none⟩) Lh.length cap) 43 .bmh Lh, .own u 38 .spn x.2]) (fun x j => if j = i then none else leafF c Lh j) (fun x => x.1 ≤ (c i).length ∧ x.2.length = (c i).length) (fun x => (c i).length - x.1) rfl [0, 1] (fun i => i + 40) (0, c i) ⟨Nat.zero_le _, rfl⟩ ⟨?wk8, fun i y h => h, fun i y h => rfl, fun i j y z _ _ e => ?inj8⟩ (fun x hx => ?_)
      case wk8 => (repeat' apply And.intro) <;> (first | exact rfl | exact trivial | omega | refine sigEq ?_ | skip)
      case inj8 => omega
      obtain ⟨q, L⟩ := x
      obtain ⟨hq, hLq⟩ := hx
      dsimp only at hq hLq ⊢
      have hsp : (Lh.getD i LK.bmh.dft).sp.pv = .val u := by rw [hu]; rfl
      refine G_run tOk eok_fothers 3 (fun _ => none) (fun bs => rfl) (fun bs => ?_) (fun bs => ?_)
      · (repeat' apply And.intro) <;> (intros; first | exact trivial | exact rfl | omega | exact u8_lo _ | exact u8_hi _ | exact u8_in64 _ | exact u8_in63 _ | (simp only [inR, IntKind.bits]; omega) | (simp [inR, IntKind.bits]; done) | (simp [inR, IntKind.bits] at * <;> omega) | (simp_all; done) | (with_reducible assumption) | skip)
      refine G_ops tOk eok_fothers 6 (fun _ => none) rfl rfl rfl (fun bs => rfl) (fun bs => ?_) (fun bs => ?_)
      · (repeat' apply And.intro) <;> (intros; first | exact trivial | exact rfl | omega | exact u8_lo _ | exact u8_hi _ | exact u8_in64 _ | exact u8_in63 _ | (simp only [inR, IntKind.bits]; omega) | (simp [inR, IntKind.bits]; done) | (simp [inR, IntKind.bits] at * <;> omega) | (simp_all; done) | (with_reducible assumption) | skip)
      refine G_link 131 1 (x := (Lh.getD i LK.bmh.dft).sp.pv) (v := u) rfl hsp rfl ?_
      refine G_run tOk eok_fothers 60 (fun _ => none) (fun bs => rfl) (fun bs => ?_) (fun bs => ?_)
      · (repeat' apply And.intro) <;> (intros; first | exact trivial | exact rfl | omega | exact u8_lo _ | exact u8_hi _ | exact u8_in64 _ | exact u8_in63 _ | (simp only [inR, IntKind.bits]; omega) | (simp [inR, IntKind.bits]; done) | (simp [inR, IntKind.bits] at * <;> omega) | (simp_all; done) | (with_reducible assumption) | skip)
      refine G_if rfl rfl (fun hk9 => ?_) (fun hk9 => ?_)
      · have hqL : q < L.length := by omega
        have hq1 : inR .i64 ((q : Int) + 1) := by
          have h1 : L.length ≤ 100000 := by rw [hLq, hci]; exact hcl
          have h2 : q < 100000 := Nat.lt_of_lt_of_le hqL h1
          clear hmx hcap
          simp only [inR, IntKind.bits]
          omega
        refine G_run tOk eok_fothers 4 (fun _ => none) (fun bs => rfl) (fun bs => ?_) (fun bs => ?_)
        · (repeat' apply And.intro) <;> (intros; first | exact trivial | exact rfl | omega | exact u8_lo _ | exact u8_hi _ | exact u8_in64 _ | exact u8_in63 _ | (simp only [inR, IntKind.bits]; omega) | (simp [inR, IntKind.bits]; done) | (simp [inR, IntKind.bits] at * <;> omega) | (simp_all; done) | (with_reducible assumption) | skip)

        refine G_ops tOk eok_fothers 5 (fun _ => none) rfl rfl rfl (fun bs => rfl) (fun bs => ?_) (fun bs => ?_)
        · (repeat' apply And.intro) <;> (intros; first | exact trivial | exact rfl | omega | exact u8_lo _ | exact u8_hi _ | exact u8_in64 _ | exact u8_in63 _ | (simp only [inR, IntKind.bits]; omega) | (simp [inR, IntKind.bits]; done) | (simp [inR, IntKind.bits] at * <;> omega) | (simp_all; done) | (with_reducible assumption) | skip)
        refine G_link 140 1 (x := (Lh.getD i LK.bmh.dft).sp.pv) (v := u) rfl hsp rfl ?_
        refine G_run tOk eok_fothers 60 (fun _ => none) (fun bs => rfl) (fun bs => ?_) (fun bs => ?_)
        · exact ⟨⟨trivial, ⟨rfl, Int.natCast_nonneg _, hk9⟩, trivial, ⟨⟨⟨rfl, rfl⟩, hqL⟩, trivial⟩, trivial⟩, ⟨trivial, hq1, trivial, trivial⟩, trivial⟩
        refine G_lpF [0, 1] (fun i => i + 40) (q + 1, L.set q ⟨-9, (L.getD q LK.spn.dft).to⟩) ⟨⟨by rw [← hLq]; exact hqL, ?okl⟩, ?oko⟩ ⟨?wk10, fun i y h => h, fun i y h => rfl, fun i j y z _ _ e => ?inj10⟩
        case wk10 => (repeat' apply And.intro) <;> (first | exact rfl | exact trivial | omega | refine sigEq ?_ | skip)
        case okl => simp [hLq]
        case oko => show (c i).length - (q + 1) < (c i).length - q; rw [← hLq]; exact Nat.sub_lt_sub_left hqL (Nat.lt_succ_self q)
        case inj10 => omega
      · refine G_run tOk eok_fothers 60 (fun _ => none) (fun bs => rfl) (fun bs => ?_) (fun bs => ?_)
        · (repeat' apply And.intro) <;> (intros; first | exact trivial | exact rfl | omega | exact u8_lo _ | exact u8_hi _ | exact u8_in64 _ | exact u8_in63 _ | (simp only [inR, IntKind.bits]; omega) | (simp [inR, IntKind.bits]; done) | (simp [inR, IntKind.bits] at * <;> omega) | (simp_all; done) | (with_reducible assumption) | skip)
        refine G_lpF [0] (fun j => if j = i then 1 else j + 40) (i + 1, fun j => if j = i then L else c j) ⟨⟨by omega, fun j hj => ?ok11, fun j => ?ok12⟩, by simp only; omega⟩ ⟨?wk11, fun j y h => ?fam11, fun j y h => ?dis11, fun j j' y z _ _ e => ?inj11⟩
        case wk11 => (repeat' apply And.intro) <;> (first | exact rfl | exact trivial | omega | refine sigEq ?_ | skip)
        case ok11 =>
          dsimp only at hj ⊢
          rw [if_neg (by omega)]; exact hc1 j (by omega)
        case ok12 =>
          dsimp only
          split
          · rename_i e; subst e; rw [hLq, hci]
          · exact hc2 j
        case dis11 =>
          by_cases e : j = i
          · simp only [if_pos e]; rfl
          · simp only [if_neg e]; rfl
        case inj11 =>
          by_cases e1 : j = i <;> by_cases e2 : j' = i <;> simp only [e1, e2, if_true, if_false] at e ⊢ <;> omega
        case fam11 =>
          by_cases e : j = i
          · subst e
            rw [leafF_at hiL hu] at h
            simp only [if_true] at h ⊢
            exact h
          · simp only [if_neg e]
            have h2 : leafF c Lh j = some y := by
              rw [← h]; unfold leafF; split <;> simp [e]
            show (if j = i then none else leafF c Lh j) = some y
            rw [if_neg e]; exact h2
    · refine G_any rfl rfl _ rfl 17 rfl ?_
      refine GA_moveW 0 rfl rfl rfl rfl (by decide +kernel) rfl (by decide +kernel) trivial rfl ?_
      refine GA_moveW 1 rfl rfl rfl rfl (by decide +kernel) rfl (by decide +kernel) trivial rfl ?_
      refine GA_val 2 tOk rfl rfl trivial rfl (by decide +kernel) rfl (by decide +kernel) trivial rfl ?_
      refine GA_moveW 3 rfl rfl rfl rfl (by decide +kernel) rfl (by decide +kernel) trivial rfl ?_
      refine GA_slot 112 (x := bool (!decide ((i : Int) = k))) (y := bool true) rfl (fun M v h => by rw [show (!decide ((i : Int) = k)) = true by simp; omega] at h; exact h) ?_
      refine GA_moveW 4 rfl rfl rfl rfl (by decide +kernel) rfl (by decide +kernel) ⟨_, rfl, rfl⟩ rfl ?_
      refine GA_slot 113 (y := pv (.val (.slice (some ⟨ab, 0, none⟩) Lh.length cap))) rfl (fun M v h => by rw [h.own_inv]; exact .c (.pv (.val rfl))) ?_
      refine GA_moveW 5 rfl rfl rfl rfl (by decide +kernel) rfl (by decide +kernel) ⟨_, rfl, rfl⟩ rfl ?_
      refine GA_moveW 6 rfl rfl rfl rfl (by decide +kernel) rfl (by decide +kernel) ⟨_, rfl, rfl⟩ rfl ?_
      refine GA_val 7 tOk rfl rfl (by simp only [inR, IntKind.bits]; omega) rfl (by decide +kernel) rfl (by decide +kernel) ⟨_, rfl, rfl⟩ rfl ?_
      refine GA_val 8 tOk rfl rfl ⟨⟨by omega, by omega⟩, by omega⟩ rfl (by decide +kernel) rfl (by decide +kernel) ⟨_, rfl, rfl⟩ rfl ?_
      refine GA_moveW 9 rfl rfl rfl rfl (by decide +kernel) rfl (by decide +kernel) ⟨_, rfl, rfl⟩ rfl ?_
      refine GA_moveW 10 rfl rfl rfl rfl (by decide +kernel) rfl (by decide +kernel) ⟨_, rfl, rfl⟩ rfl ?_
      refine GA_moveW 11 rfl rfl rfl rfl (by decide +kernel) rfl (by decide +kernel) ⟨_, rfl, rfl⟩ rfl ?_
      refine GA_val 12 tOk rfl rfl (by simp only [inR, IntKind.bits]; omega) rfl (by decide +kernel) rfl (by decide +kernel) ⟨_, rfl, rfl⟩ rfl ?_
      refine GA_sliceL 13 tOk rfl rfl rfl rfl rfl rfl rfl ⟨⟨by omega, by omega⟩, by omega⟩ rfl (by decide +kernel) rfl (by decide +kernel) ⟨_, rfl, rfl⟩ rfl ?_
      refine GA_slot 122 (y := lst .bms [l.getD i LK.bms.dft]) rfl (fun M v h => by rw [hsl] at h; exact h) ?_
      refine GA_oneH 14 rfl ?_
      refine GO_callK (rmaps_fn [l.getD i LK.bms.dft] [l.getD i LK.bms.dft] hb1 hb1) rfl rfl ⟨_, rfl, rfl⟩ rfl rfl (fun M a w hS => ?_) rfl ?_
      · have r1 := rdG_ok hS (Γ := []) (by simp) (.tmp 117) _ rfl
        have r2 := rdG_ok hS (Γ := []) (by simp) (.tmp 122) _ rfl
        have r3 := bms_one (i := i) (hS.h.ok 0 _ rfl) hiL hu (hS.h.ok 1 _ rfl) hS.h.mem
        have hx : (⟨(l'.getD i LK.bms.dft).name, (l'.getD i LK.bms.dft).on, c i⟩ : Bitmap) = l.getD i LK.bms.dft := by rw [hci, hoth i hik]
        rw [hx] at r3
        refine RAs.cons ?_ (RAs.cons (r2.mono hS.h.mem) RAs.nil)
        rw [r1.val_inv]
        exact r3
      refine GA_one 15 tOk eok_fothers (fun _ => none) rfl rfl rfl rfl (fun u => rfl) (fun u => ?_) (fun w15 => ?_)
      · (repeat' apply And.intro) <;> (intros; first | exact trivial | exact rfl | omega | exact u8_lo _ | exact u8_hi _ | exact u8_in64 _ | exact u8_in63 _ | (simp only [inR, IntKind.bits]; omega) | (simp [inR, IntKind.bits]; done) | (simp [inR, IntKind.bits] at * <;> omega) | (simp_all; done) | (with_reducible assumption) | skip)
      refine GA_one 16 tOk eok_fothers (fun _ => none) rfl rfl rfl rfl (fun u => rfl) (fun u => ?_) (fun w16 => ?_)
      · (repeat' apply And.intro) <;> (intros; first | exact trivial | exact rfl | omega | exact u8_lo _ | exact u8_hi _ | exact u8_in64 _ | exact u8_in63 _ | (simp only [inR, IntKind.bits]; omega) | (simp [inR, IntKind.bits]; done) | (simp [inR, IntKind.bits] at * <;> omega) | (simp_all; done) | (with_reducible assumption) | skip)
      refine GA_done rfl ?_
      refine G_run tOk eok_fothers 60 (fun _ => none) (fun bs => rfl) (fun bs => ?_) (fun bs => ?_)
      · (repeat' apply And.intro) <;> (intros; first | exact trivial | exact rfl | omega | exact u8_lo _ | exact u8_hi _ | exact u8_in64 _ | exact u8_in63 _ | (simp only [inR, IntKind.bits]; omega) | (simp [inR, IntKind.bits]; done) | (simp [inR, IntKind.bits] at * <;> omega) | (simp_all; done) | (with_reducible assumption) | skip)
      refine G_els rfl rfl (by simp) ?_
      refine G_wkF (ns := [0, 1]) (fun j => j + 40) (fs := [(0, lst .bms l), (7, int .i64 k), (10, .c (.own 0 (.slice (some ⟨ab, 0, none⟩) Lh.length cap))), (12, lst .bms l), (13, int .i64 i)]) (hs := [.own (.slice (some ⟨ab, 0, none⟩) Lh.length cap) 43 .bmh Lh, .own u 38 .spn (c i)]) (L := fun j => if j = i then none else leafF c Lh j) rfl ⟨?wkN, fun j y h => h, fun j y h => rfl, fun j j' y z _ _ e => ?injN⟩ ?_
      case wkN => (repeat' apply And.intro) <;> (first | exact rfl | exact trivial | omega | refine sigEq ?_ | skip)
      case injN => omega
      refine G_run tOk eok_fothers 60 (fun _ => none) (fun bs => rfl) (fun bs => ?_) (fun bs => ?_)
      · (repeat' apply And.intro) <;> (intros; first | exact trivial | exact rfl | omega | exact u8_lo _ | exact u8_hi _ | exact u8_in64 _ | exact u8_in63 _ | (simp only [inR, IntKind.bits]; omega) | (simp [inR, IntKind.bits]; done) | (simp [inR, IntKind.bits] at * <;> omega) | (simp_all; done) | (with_reducible assumption) | skip)
      refine G_loopF (fun x : Nat × List Span => [(0, lst .bms l), (7, int .i64 k), (10, .c (.own 0 (.slice (some ⟨ab, 0, none⟩) Lh.length cap))), (12, lst .bms l), (13, int .i64 i), (14, int .i64 x.1)]) (fun x => [.own (.slice (some ⟨ab, 0, none⟩) Lh.length cap) 43 .bmh Lh, .own u 38 .spn x.2]) (fun x j => if j = i then none else leafF c Lh j) (fun x => x.1 ≤ (c i).length ∧ x.2.length = (c i).length) (fun x => (c i).length - x.1) rfl [0, 1] (fun i => i + 40) (0, c i) ⟨Nat.zero_le _, rfl⟩ ⟨?wk8, fun i y h => h, fun i y h => rfl, fun i j y z _ _ e => ?inj8⟩ (fun x hx => ?_)
      case wk8 => (repeat' apply And.intro) <;> (first | exact rfl | exact trivial | omega | refine sigEq ?_ | skip)
      case inj8 => omega
      obtain ⟨q, L⟩ := x
      obtain ⟨hq, hLq⟩ := hx
      dsimp only at hq hLq ⊢
      have hsp : (Lh.getD i LK.bmh.dft).sp.pv = .val u := by rw [hu]; rfl
      refine G_run tOk eok_fothers 3 (fun _ => none) (fun bs => rfl) (fun bs => ?_) (fun bs => ?_)
      · (repeat' apply And.intro) <;> (intros; first | exact trivial | exact rfl | omega | exact u8_lo _ | exact u8_hi _ | exact u8_in64 _ | exact u8_in63 _ | (simp only [inR, IntKind.bits]; omega) | (simp [inR, IntKind.bits]; done) | (simp [inR, IntKind.bits] at * <;> omega) | (simp_all; done) | (with_reducible assumption) | skip)
      refine G_ops tOk eok_fothers 6 (fun _ => none) rfl rfl rfl (fun bs => rfl) (fun bs => ?_) (fun bs => ?_)
      · (repeat' apply And.intro) <;> (intros; first | exact trivial | exact rfl | omega | exact u8_lo _ | exact u8_hi _ | exact u8_in64 _ | exact u8_in63 _ | (simp only [inR, IntKind.bits]; omega) | (simp [inR, IntKind.bits]; done) | (simp [inR, IntKind.bits] at * <;> omega) | (simp_all; done) | (with_reducible assumption) | skip)
      refine G_link 131 1 (x := (Lh.getD i LK.bmh.dft).sp.pv) (v := u) rfl hsp rfl ?_
      refine G_run tOk eok_fothers 60 (fun _ => none) (fun bs => rfl) (fun bs => ?_) (fun bs => ?_)
      · (repeat' apply And.intro) <;> (intros; first | exact trivial | exact rfl | omega | exact u8_lo _ | exact u8_hi _ | exact u8_in64 _ | exact u8_in63 _ | (simp only [inR, IntKind.bits]; omega) | (simp [inR, IntKind.bits]; done) | (simp [inR, IntKind.bits] at * <;> omega) | (simp_all; done) | (with_reducible assumption) | skip)
      refine G_if rfl rfl (fun hk9 => ?_) (fun hk9 => ?_)
      · have hqL : q < L.length := by omega
        have hq1 : inR .i64 ((q : Int) + 1) := by
          have h1 : L.length ≤ 100000 := by rw [hLq, hci]; exact hcl
          have h2 : q < 100000 := Nat.lt_of_lt_of_le hqL h1
          clear hmx hcap
          simp only [inR, IntKind.bits]
          omega
        refine G_run tOk eok_fothers 4 (fun _ => none) (fun bs => rfl) (fun bs => ?_) (fun bs => ?_)
        · (repeat' apply And.intro) <;> (intros; first | exact trivial | exact rfl | omega | exact u8_lo _ | exact u8_hi _ | exact u8_in64 _ | exact u8_in63 _ | (simp only [inR, IntKind.bits]; omega) | (simp [inR, IntKind.bits]; done) | (simp [inR, IntKind.bits] at * <;> omega) | (simp_all; done) | (with_reducible assumption) | skip)

        refine G_ops tOk eok_fothers 5 (fun _ => none) rfl rfl rfl (fun bs => rfl) (fun bs => ?_) (fun bs => ?_)
        · (repeat' apply And.intro) <;> (intros; first | exact trivial | exact rfl | omega | exact u8_lo _ | exact u8_hi _ | exact u8_in64 _ | exact u8_in63 _ | (simp only [inR, IntKind.bits]; omega) | (simp [inR, IntKind.bits]; done) | (simp [inR, IntKind.bits] at * <;> omega) | (simp_all; done) | (with_reducible assumption) | skip)
        refine G_link 140 1 (x := (Lh.getD i LK.bmh.dft).sp.pv) (v := u) rfl hsp rfl ?_
        refine G_run tOk eok_fothers 60 (fun _ => none) (fun bs => rfl) (fun bs => ?_) (fun bs => ?_)
        · exact ⟨⟨trivial, ⟨rfl, Int.natCast_nonneg _, hk9⟩, trivial, ⟨⟨⟨rfl, rfl⟩, hqL⟩, trivial⟩, trivial⟩, ⟨trivial, hq1, trivial, trivial⟩, trivial⟩
        refine G_lpF [0, 1] (fun i => i + 40) (q + 1, L.set q ⟨-9, (L.getD q LK.spn.dft).to⟩) ⟨⟨by rw [← hLq]; exact hqL, ?okl⟩, ?oko⟩ ⟨?wk10, fun i y h => h, fun i y h => rfl, fun i j y z _ _ e => ?inj10⟩
        case wk10 => (repeat' apply And.intro) <;> (first | exact rfl | exact trivial | omega | refine sigEq ?_ | skip)
        case okl => simp [hLq]
        case oko => show (c i).length - (q + 1) < (c i).length - q; rw [← hLq]; exact Nat.sub_lt_sub_left hqL (Nat.lt_succ_self q)
        case inj10 => omega
      · refine G_run tOk eok_fothers 60 (fun _ => none) (fun bs => rfl) (fun bs => ?_) (fun bs => ?_)
        · (repeat' apply And.intro) <;> (intros; first | exact trivial | exact rfl | omega | exact u8_lo _ | exact u8_hi _ | exact u8_in64 _ | exact u8_in63 _ | (simp only [inR, IntKind.bits]; omega) | (simp [inR, IntKind.bits]; done) | (simp [inR, IntKind.bits] at * <;> omega) | (simp_all; done) | (with_reducible assumption) | skip)
        refine G_lpF [0] (fun j => if j = i then 1 else j + 40) (i + 1, fun j => if j = i then L else c j) ⟨⟨by omega, fun j hj => ?ok11, fun j => ?ok12⟩, by simp only; omega⟩ ⟨?wk11, fun j y h => ?fam11, fun j y h => ?dis11, fun j j' y z _ _ e => ?inj11⟩
        case wk11 => (repeat' apply And.intro) <;> (first | exact rfl | exact trivial | omega | refine sigEq ?_ | skip)
        case ok11 =>
          dsimp only at hj ⊢
          rw [if_neg (by omega)]; exact hc1 j (by omega)
        case ok12 =>
          dsimp only
          split
          · rename_i e; subst e; rw [hLq, hci]
          · exact hc2 j
        case dis11 =>
          by_cases e : j = i
          · simp only [if_pos e]; rfl
          · simp only [if_neg e]; rfl
        case inj11 =>
          by_cases e1 : j = i <;> by_cases e2 : j' = i <;> simp only [e1, e2, if_true, if_false] at e ⊢ <;> omega
        case fam11 =>
          by_cases e : j = i
          · subst e
            rw [leafF_at hiL hu] at h
            simp only [if_true] at h ⊢
            exact h
          · simp only [if_neg e]
            have h2 : leafF c Lh j = some y := by
              rw [← h]; unfold leafF; split <;> simp [e]
            show (if j = i then none else leafF c Lh j) = some y
            rw [if_neg e]; exact h2
  · have hk' : i = l.length := by omega
    subst hk'
    refine G_run tOk eok_fothers 60 (fun _ => some true) (fun bs => rfl) (fun bs => ?_) (fun bs => ?_)
    · (repeat' apply And.intro) <;> (intros; first | exact trivial | exact rfl | omega | exact u8_lo _ | exact u8_hi _ | exact u8_in64 _ | exact u8_in63 _ | (simp only [inR, IntKind.bits]; omega) | (simp [inR, IntKind.bits]; done) | (simp [inR, IntKind.bits] at * <;> omega) | (simp_all; done) | (with_reducible assumption) | skip)
    refine G_ret tOk hM0 rfl rfl ⟨trivial, trivial⟩ ?_
    conv => whnf
    simp
def fothers_s : FSpec
  | [.c (.pv (.lst .bms l)), .c (.pv (.val (.int .u8 w))), .c (.pv (.val (.int .u8 t)))] => some ((l.length ≤ 9223372036854775807) ∧ (0 ≤ w ∧ w ≤ 255) ∧ (0 ≤ t ∧ t ≤ 255), false, .x (.c (bv true)))
  | _ => none
theorem fothers_s_ok : SpecOk Try.prog 4 fothers_s := by
  intro args pre sh rv h hp; unfold fothers_s at h; split at h
  · cases h; obtain ⟨hl, hw, ht⟩ := hp; exact fothers_fn _ _ _ hl hw ht
  · cases h
def psi_fothers : FuncId → Option FSpec := psiCons 4 fothers_s psi_vt
theorem psi_fothers_ok : PsiFn Try.prog psi_fothers := psiCons_ok fothers_s_ok psi_vt_ok
end Go.Proofs.Ytndjdmnpdknneaa
