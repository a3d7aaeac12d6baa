import Derived.Test.YtekaapofigocnaaDiff
set_option linter.unusedSimpArgs false
set_option linter.unusedVariables false
namespace Go.Proofs.Ytekaapofigocnaa
open Go.Mt

theorem s_cond (l : List Span) (i : Nat) (last : Int) (h : last = if i = 0 then -1 else (l.getD (i - 1) ⟨0, 0⟩).to) : ((!mayB (l.getD i ⟨0, 0⟩).fr (l.getD i ⟨0, 0⟩).to) || decide ((l.getD i ⟨0, 0⟩).fr ≤ last)) = !okAt l i := by
  subst h
  by_cases h0 : i = 0
  · subst h0
    simp only [okAt, if_true, decide_true, Bool.true_or, Bool.and_true]
    cases hm : mayB (l.getD 0 ⟨0, 0⟩).fr (l.getD 0 ⟨0, 0⟩).to with
    | false => rfl
    | true => simp [mayB] at hm; simp; omega
  · simp only [okAt, if_neg h0, decide_eq_false h0, Bool.false_or]
    cases mayB (l.getD i ⟨0, 0⟩).fr (l.getD i ⟨0, 0⟩).to with
    | false => rfl
    | true => simp; rw [← decide_not]; simp
def env_sRight : Env := ⟨T, psi_fturns, pspNil, 24, []⟩
theorem eok_sRight : PsiOk Try.prog env_sRight := ⟨psi_fturns_ok, pspNil_ok⟩
theorem sRight_fn (l : List Span) (hl : l.length ≤ 1000000) : Ctr Try.prog 21 false [lst .spn l] (.x (.c (bv (rightB l)))) := by
  refine Ctr_intro (E := env_sRight) Try.func21 rfl (by decide) rfl rfl (fun M0 W hM0 => ?_)
  refine G_run tOk eok_sRight 60 (fun _ => none) (fun bs => rfl) (fun bs => ?_) (fun bs => ?_)
  · (repeat' apply And.intro) <;> (intros; first | exact trivial | exact rfl | omega | exact u8_lo _ | exact u8_hi _ | exact u8_in64 _ | exact u8_in63 _ | (simp only [inR, IntKind.bits]; omega) | (simp [inR, IntKind.bits]; done) | (simp [inR, IntKind.bits] at * <;> omega) | (simp_all; done) | skip)
  refine G_loop (fun x : Nat × Int => [(3, int .i64 x.2), (6, lst .spn l), (7, int .i64 l.length), (8, int .i64 x.1)]) (fun x => []) (fun x => x.1 ≤ l.length ∧ rightN l x.1 = true ∧ x.2 = if x.1 = 0 then -1 else (l.getD (x.1 - 1) ⟨0, 0⟩).to) (fun x => l.length - x.1) rfl [] (0, -1) ⟨Nat.zero_le _, rfl, rfl⟩ ?wk (fun x hx => ?_)
  case wk => (repeat' apply And.intro) <;> (first | exact rfl | exact trivial | omega | refine sigEq ?_ | skip)
  obtain ⟨i, last⟩ := x
  obtain ⟨hx, hr, hlast⟩ := hx
  dsimp only at hx hr hlast ⊢
  refine G_run tOk eok_sRight 60 (fun _ => none) (fun bs => rfl) (fun bs => ?_) (fun bs => ?_)
  · (repeat' apply And.intro) <;> (intros; first | exact trivial | exact rfl | omega | exact u8_lo _ | exact u8_hi _ | exact u8_in64 _ | exact u8_in63 _ | (simp only [inR, IntKind.bits]; omega) | (simp [inR, IntKind.bits]; done) | (simp [inR, IntKind.bits] at * <;> omega) | (simp_all; done) | skip)
  refine G_if rfl rfl (fun hk => ?_) (fun hk => ?_)
  · have hk' : i < l.length := by omega
    refine G_run tOk eok_sRight 60 (fun _ => none) (fun bs => rfl) (fun bs => ?_) (fun bs => ?_)
    · (repeat' apply And.intro) <;> (intros; first | exact trivial | exact rfl | omega | exact u8_lo _ | exact u8_hi _ | exact u8_in64 _ | exact u8_in63 _ | (simp only [inR, IntKind.bits]; omega) | (simp [inR, IntKind.bits]; done) | (simp [inR, IntKind.bits] at * <;> omega) | (simp_all; done) | skip)
    refine G_cond (b := !okAt l i) rfl ?_ (fun h => ?_) (fun h => ?_)
    · refine congrArg (fun b => some (bool b)) (Eq.trans ?_ (s_cond l i last hlast))
      rfl
    · refine G_run tOk eok_sRight 60 (fun _ => none) (fun bs => rfl) (fun bs => ?_) (fun bs => ?_)
      · (repeat' apply And.intro) <;> (intros; first | exact trivial | exact rfl | omega | exact u8_lo _ | exact u8_hi _ | exact u8_in64 _ | exact u8_in63 _ | (simp only [inR, IntKind.bits]; omega) | (simp [inR, IntKind.bits]; done) | (simp [inR, IntKind.bits] at * <;> omega) | (simp_all; done) | skip)
      have hb : rightB l = false := rightN_false (i := i + 1) (by simp at h; simp [rightN, h]) hk'
      exact G_ret tOk hM0 rfl rfl ⟨trivial, trivial⟩ hb.symm
    · refine G_run tOk eok_sRight 60 (fun _ => none) (fun bs => rfl) (fun bs => ?_) (fun bs => ?_)
      · (repeat' apply And.intro) <;> (intros; first | exact trivial | exact rfl | omega | exact u8_lo _ | exact u8_hi _ | exact u8_in64 _ | exact u8_in63 _ | (simp only [inR, IntKind.bits]; omega) | (simp [inR, IntKind.bits]; done) | (simp [inR, IntKind.bits] at * <;> omega) | (simp_all; done) | skip)
      refine G_lp [] (i + 1, (l.getD i ⟨0, 0⟩).to) ?ok ?wk2
      case ok => exact ⟨⟨hk', by simp at h; simp [rightN, hr, h], by simp⟩, by omega⟩
      case wk2 => (repeat' apply And.intro) <;> (first | exact rfl | exact trivial | omega | refine sigEq ?_ | skip)
  · have hk' : i = l.length := by omega
    subst hk'
    refine G_run tOk eok_sRight 60 (fun _ => none) (fun bs => rfl) (fun bs => ?_) (fun bs => ?_)
    · (repeat' apply And.intro) <;> (intros; first | exact trivial | exact rfl | omega | exact u8_lo _ | exact u8_hi _ | exact u8_in64 _ | exact u8_in63 _ | (simp only [inR, IntKind.bits]; omega) | (simp [inR, IntKind.bits]; done) | (simp [inR, IntKind.bits] at * <;> omega) | (simp_all; done) | skip)
    exact G_ret tOk hM0 rfl rfl ⟨trivial, trivial⟩ hr.symm

/-- Records of clusters. -/
def sRight_s : FSpec
  | [.c (.pv (.lst .spn l))] => some ((l.length ≤ 1000000), false, .x (.c (bv (rightB l))))
  | _ => none
theorem sRight_s_ok : SpecOk Try.prog 21 sRight_s := by
  intro args pre sh rv h hp; unfold sRight_s at h; split at h
  · cases h; have hl := hp; exact sRight_fn _ hl
  · cases h
def psi_sRight : FuncId → Option FSpec := psiCons 21 sRight_s psi_fturns
theorem psi_sRight_ok : PsiFn Try.prog psi_sRight := psiCons_ok sRight_s_ok psi_fturns_ok
def allN (a : List UInt8) : Int := (a.length : Int) / 16
def recK (a : List UInt8) (w k : Int) : Rcd := ⟨k * w, (a.take (min ((k + 1) * w) (allN a) * 16).toNat).drop (k * w * 16).toNat⟩
def innerN (a : List UInt8) (w f : Int) : Nat → List Rcd
  | 0 => []
  | j + 1 => innerN a w f j ++ [recK a w (f + j)]
def cntN (a : List UInt8) (w : Int) (s : Span) : Nat := (min s.to ((allN a + w - 1) / w) - s.fr).toNat
def outerN (a : List UInt8) (w : Int) (l : List Span) : Nat → List Rcd
  | 0 => []
  | i + 1 => outerN a w l i ++ innerN a w (l.getD i ⟨0, 0⟩).fr (cntN a w (l.getD i ⟨0, 0⟩))
def takeL (a : List UInt8) (l : List Span) (c : Int) : List Rcd := if ofE c = 0 ∧ rightB l = true then outerN a (2 ^ c.toNat) l l.length else []
theorem innerN_len (a : List UInt8) (w f : Int) (j : Nat) : (innerN a w f j).length = j := by
  induction j with
  | zero => rfl
  | succ j ih => simp [innerN, ih]
theorem cntN_le {a : List UInt8} {w : Int} {s : Span} (hw : 1 ≤ w) (ha : a.length ≤ 100000) (hs : 0 ≤ s.fr) (hw2 : w ≤ 64) : cntN a w s ≤ 7000 := by
  unfold cntN
  have h1 : allN a ≤ 6250 := by unfold allN; omega
  have h0 : 0 ≤ allN a := by unfold allN; omega
  have : (allN a + w - 1) / w ≤ allN a + w - 1 := Int.ediv_le_self _ (by omega)
  omega
theorem cntN_iff {a : List UInt8} {w : Int} {s : Span} (hw : 1 ≤ w) (j : Nat) : (s.fr + j < s.to ∧ (s.fr + j) * w < allN a) ↔ j < cntN a w s := by
  have h := cnt_lt (M := allN a) (n := w) (by omega) (s.fr + j)
  unfold cntN
  rw [← h]; omega
theorem rt_get {l : List Span} (h : Rt l) {i : Nat} (hi : i < l.length) : Sp (l.getD i ⟨0, 0⟩) := by
  have : l.getD i ⟨0, 0⟩ ∈ l := by simp [List.getD, List.getElem?_eq_getElem hi]
  exact h.1 _ this

def env_take : Env := ⟨T, psi_sRight, pspNil, 76, []⟩
theorem eok_take : PsiOk Try.prog env_take := ⟨psi_sRight_ok, pspNil_ok⟩
theorem take_fn (a : List UInt8) (l : List Span) (c : Int) (ha : a.length ≤ 100000) (hl : l.length ≤ 1000) : Ctr Try.prog 15 true [lst .byt a, lst .spn l, int .i64 c] (.o 46 .rcd (takeL a l c)) := by
  refine Ctr_intro (E := env_take) Try.func15 rfl (by decide) rfl rfl (fun M0 W hM0 => ?_)
  refine G_run tOk eok_take 3 (fun _ => none) (fun bs => rfl) (fun bs => ?_) (fun bs => ?_)
  · (repeat' apply And.intro) <;> (intros; first | exact trivial | exact rfl | omega | exact u8_lo _ | exact u8_hi _ | exact u8_in64 _ | exact u8_in63 _ | (simp only [inR, IntKind.bits]; omega) | (simp [inR, IntKind.bits]; done) | (simp [inR, IntKind.bits] at * <;> omega) | (simp_all; done) | skip)
  by_cases hc : 0 ≤ c ∧ c ≤ 6
  · have he : ofE c = 0 := by unfold ofE; rw [if_neg (by omega)]
    have hp := pow_c hc
    obtain ⟨w, hw⟩ : ∃ w : Int, (2 : Int) ^ c.toNat = w := ⟨_, rfl⟩
    have hw2 : 1 ≤ w ∧ w ≤ 64 := by omega
    refine G_run tOk eok_take 60 (fun _ => some false) (fun bs => rfl) (fun bs => ?_) (fun bs => ?_)
    · (repeat' apply And.intro) <;> (intros; first | exact trivial | exact rfl | omega | exact u8_lo _ | exact u8_hi _ | exact u8_in64 _ | exact u8_in63 _ | (simp only [inR, IntKind.bits]; omega) | (simp [inR, IntKind.bits]; done) | (simp [inR, IntKind.bits] at * <;> omega) | (simp_all; done) | skip)
    refine G_cond rfl rfl (fun h => ?_) (fun h => ?_)
    · refine G_run tOk eok_take 60 (fun _ => none) (fun bs => rfl) (fun bs => ?_) (fun bs => ?_)
      · (repeat' apply And.intro) <;> (intros; first | exact trivial | exact rfl | omega | exact u8_lo _ | exact u8_hi _ | exact u8_in64 _ | exact u8_in63 _ | (simp only [inR, IntKind.bits]; omega) | (simp [inR, IntKind.bits]; done) | (simp [inR, IntKind.bits] at * <;> omega) | (simp_all; done) | skip)
      have hb : rightB l = false := by simp at h; rcases h with h | h; omega; exact h
      exact G_ret tOk hM0 rfl rfl ⟨trivial, trivial⟩ (show takeL a l c = [] by simp [takeL, hb])
    have hb : rightB l = true := by simp at h; exact h.2
    have hR := right_iff.1 hb
    clear h
    have hal : 0 ≤ allN a ∧ allN a ≤ 6250 := by unfold allN; omega
    refine G_run tOk eok_take 60 (fun _ => none) (fun bs => rfl) (fun bs => ?_) (fun bs => ?_)
    · (repeat' apply And.intro) <;> (intros; first | exact trivial | exact rfl | omega | exact u8_lo _ | exact u8_hi _ | exact u8_in64 _ | exact u8_in63 _ | (simp only [inR, IntKind.bits]; omega) | (simp [inR, IntKind.bits]; done) | (simp [inR, IntKind.bits] at * <;> omega) | (simp_all; done) | skip)
    refine G_own 7 46 rfl ?_
    refine G_draw tOk eok_take rfl (fun _ => none) 6 [0, 1, 3, 0, 8, 7, 63] [] rfl (by decide +kernel) (fun bs => rfl) (fun bs => ?_) (fun bs => ?_)
    · simp only [hw]
      (repeat' apply And.intro) <;> (intros; first | exact trivial | exact rfl | omega | exact u8_lo _ | exact u8_hi _ | exact u8_in64 _ | exact u8_in63 _ | (simp only [inR, IntKind.bits]; omega) | (simp [inR, IntKind.bits]; done) | (simp [inR, IntKind.bits] at * <;> omega) | (simp_all; done) | skip)
    refine G_run tOk eok_take 60 (fun _ => none) (fun bs => rfl) (fun bs => by (repeat' apply And.intro) <;> (intros; first | exact trivial | exact rfl | omega | exact u8_lo _ | exact u8_hi _ | exact u8_in64 _ | exact u8_in63 _ | (simp only [inR, IntKind.bits]; omega) | (simp [inR, IntKind.bits]; done) | (simp [inR, IntKind.bits] at * <;> omega) | (simp_all; done) | skip)) (fun bs => ?_)
    refine G_loop (fun x : Nat × Value => [(0, lst .byt a), (2, int .i64 c), (7, .c (.own 0 x.2)), (8, int .i64 (allN a)), (9, int .i64 w), (30, lst .spn l), (31, int .i64 l.length), (32, int .i64 x.1)]) (fun x => [.own x.2 46 .rcd (outerN a w l x.1)])
      (fun x => x.1 ≤ l.length ∧ (outerN a w l x.1).length ≤ 10000 * x.1) (fun x => l.length - x.1) rfl [0] (0, ?v0) ⟨Nat.zero_le _, by simp [outerN]⟩ ?wk (fun x hx => ?_)
    case wk =>
      (repeat' apply And.intro) <;> (first | exact rfl | exact trivial | omega | refine sigEq ?_ | skip)
      all_goals simp only [hw, Int.one_mul]
    obtain ⟨i, v⟩ := x
    obtain ⟨hi, hol⟩ := hx
    dsimp only at hi hol ⊢
    refine G_run tOk eok_take 60 (fun _ => none) (fun bs => rfl) (fun bs => ?_) (fun bs => ?_)
    · (repeat' apply And.intro) <;> (intros; first | exact trivial | exact rfl | omega | exact u8_lo _ | exact u8_hi _ | exact u8_in64 _ | exact u8_in63 _ | (simp only [inR, IntKind.bits]; omega) | (simp [inR, IntKind.bits]; done) | (simp [inR, IntKind.bits] at * <;> omega) | (simp_all; done) | skip)
    refine G_if rfl rfl (fun hk => ?_) (fun hk => ?_)
    · have hk' : i < l.length := by omega
      have hsp := rt_get hR hk'
      generalize hs : l.getD i ⟨0, 0⟩ = s at hsp
      obtain ⟨p1, p2, p3⟩ := hsp
      have hcl := cntN_le (a := a) (w := w) (s := s) (by omega) ha p1 (by omega)
      have hci := fun j => cntN_iff (a := a) (w := w) (s := s) (by omega) j
      refine G_run tOk eok_take 60 (fun _ => none) (fun bs => rfl) (fun bs => ?_) (fun bs => ?_)
      · (repeat' apply And.intro) <;> (intros; first | exact trivial | exact rfl | omega | exact u8_lo _ | exact u8_hi _ | exact u8_in64 _ | exact u8_in63 _ | (simp only [inR, IntKind.bits]; omega) | (simp [inR, IntKind.bits]; done) | (simp [inR, IntKind.bits] at * <;> omega) | (simp_all; done) | skip)
      refine G_loop (fun x : Nat × Nat × Value => [(0, lst .byt a), (2, int .i64 c), (7, .c (.own 1 x.2.2)), (8, int .i64 (allN a)), (9, int .i64 w), (30, lst .spn l), (31, int .i64 l.length), (32, int .i64 i), (11, .c (.ptr 0 x.2.1 0)), (12, int .i64 (s.fr + x.1))])
        (fun x => [.blk x.2.1 36 [.pv (i64 s.fr), .pv (i64 s.to)], .own x.2.2 46 .rcd (outerN a w l i ++ innerN a w s.fr x.1)])
        (fun x => x.1 ≤ cntN a w s) (fun x => cntN a w s - x.1) rfl [1, 0] (0, ?b1, ?v1) (Nat.zero_le _) ?wk1 (fun x hx => ?_)
      case wk1 =>
        (repeat' apply And.intro) <;> (first | exact rfl | exact trivial | omega | refine sigEq ?_ | skip)
        all_goals first
          | (rw [show l.getD (Int.toNat (i : Int)) LK.spn.dft = s from hs]; done)
          | (rw [show l.getD (Int.toNat (i : Int)) LK.spn.dft = s from hs]; simp; done)
          | (simp [innerN]; done)
      obtain ⟨j, b, v2⟩ := x
      dsimp only at hx ⊢
      have hq0 : 0 ≤ (s.fr + j) * w := Int.mul_nonneg (by omega) (by omega)
      have hq1 : (s.fr + j) * w ≤ 1073800000 * 64 := Int.mul_le_mul (by omega) (by omega) (by omega) (by omega)
      have hq3 : (s.fr + j + 1) * w = (s.fr + j) * w + w := by rw [Int.add_mul, Int.one_mul]
      have hil := innerN_len a w s.fr j
      refine G_run tOk eok_take 60 (fun _ => none) (fun bs => rfl) (fun bs => ?_) (fun bs => ?_)
      · simp only [hw]
        (repeat' apply And.intro) <;> (intros; first | exact trivial | exact rfl | omega | exact u8_lo _ | exact u8_hi _ | exact u8_in64 _ | exact u8_in63 _ | (simp only [inR, IntKind.bits]; omega) | (simp [inR, IntKind.bits]; done) | (simp [inR, IntKind.bits] at * <;> omega) | (simp_all; done) | skip)
      refine G_cond rfl rfl (fun h => ?_) (fun h => ?_)
      · rw [hw] at h
        simp only [Bool.and_eq_true, decide_eq_true_eq] at h
        have hj : j < cntN a w s := (hci j).1 h
        have hal16 : allN a * 16 ≤ a.length := by unfold allN; omega
        refine G_run tOk eok_take 60 (fun _ => none) (fun bs => rfl) (fun bs => ?_) (fun bs => ?_)
        · (repeat' apply And.intro) <;> (intros; first | exact trivial | exact rfl | omega | exact u8_lo _ | exact u8_hi _ | exact u8_in64 _ | exact u8_in63 _ | (simp only [inR, IntKind.bits]; omega) | (simp [inR, IntKind.bits]; done) | (simp [inR, IntKind.bits] at * <;> omega) | (simp_all; done) | skip)
        refine G_freeze 3 [70] rfl ⟨rfl, trivial⟩ ?_
        have hln : (outerN a w l i ++ innerN a w s.fr j).length ≤ 1000000000 := by rw [List.length_append]; omega
        refine G_run tOk eok_take 60 (fun _ => none) (fun bs => rfl) (fun bs => ?_) (fun bs => ?_)
        · (repeat' apply And.intro) <;> (intros; first | exact trivial | exact rfl | omega | exact u8_lo _ | exact u8_hi _ | exact u8_in64 _ | exact u8_in63 _ | (simp only [inR, IntKind.bits]; omega) | (simp [inR, IntKind.bits]; done) | (simp [inR, IntKind.bits] at * <;> omega) | (simp_all; done) | skip)
        refine G_lp [0, 5] (j + 1, b, ?v3) ?ok3 ?wk3
        case ok3 => exact ⟨by simp only; omega, by simp only; omega⟩
        case wk3 =>
          (repeat' apply And.intro) <;> (first | exact rfl | exact trivial | omega | refine sigEq ?_ | skip)
          simp only [innerN, recK, ← List.append_assoc]; rfl
      · rw [hw] at h
        have hj : ¬ j < cntN a w s := by
          intro h'
          have := (hci j).2 h'
          simp [this] at h
        have hje : j = cntN a w s := by omega
        refine G_run tOk eok_take 60 (fun _ => none) (fun bs => rfl) (fun bs => ?_) (fun bs => ?_)
        · (repeat' apply And.intro) <;> (intros; first | exact trivial | exact rfl | omega | exact u8_lo _ | exact u8_hi _ | exact u8_in64 _ | exact u8_in63 _ | (simp only [inR, IntKind.bits]; omega) | (simp [inR, IntKind.bits]; done) | (simp [inR, IntKind.bits] at * <;> omega) | (simp_all; done) | skip)
        refine G_lp [1] (i + 1, v2) ?ok4 ?wk4
        case ok4 =>
          refine ⟨⟨by simp only; omega, ?_⟩, by simp only; omega⟩
          simp only [outerN, hs, List.length_append, innerN_len]; omega
        case wk4 =>
          (repeat' apply And.intro) <;> (first | exact rfl | exact trivial | omega | refine sigEq ?_ | skip)
          simp only [outerN, hs, hje]
    · have hk' : i = l.length := by omega
      subst hk'
      refine G_run tOk eok_take 60 (fun _ => none) (fun bs => rfl) (fun bs => ?_) (fun bs => ?_)
      · (repeat' apply And.intro) <;> (intros; first | exact trivial | exact rfl | omega | exact u8_lo _ | exact u8_hi _ | exact u8_in64 _ | exact u8_in63 _ | (simp only [inR, IntKind.bits]; omega) | (simp [inR, IntKind.bits]; done) | (simp [inR, IntKind.bits] at * <;> omega) | (simp_all; done) | skip)
      refine G_ret tOk hM0 rfl rfl ⟨trivial, trivial⟩ ⟨rfl, rfl, rfl, sigEq ?_⟩
      simp only [takeL, he, hb, hw, and_self, if_true]
  · refine G_run tOk eok_take 60 (fun j => match j with | 6 => some true | _ => none) (fun bs => rfl) (fun bs => ?_) (fun bs => ?_)
    · (repeat' apply And.intro) <;> (intros; first | exact trivial | exact rfl | omega | exact u8_lo _ | exact u8_hi _ | exact u8_in64 _ | exact u8_in63 _ | (simp only [inR, IntKind.bits]; omega) | (simp [inR, IntKind.bits]; done) | (simp [inR, IntKind.bits] at * <;> omega) | (simp_all; done) | skip)
      all_goals (simp; omega)
    refine G_thn rfl rfl rfl ?_
    refine G_run tOk eok_take 60 (fun _ => none) (fun bs => rfl) (fun bs => ?_) (fun bs => ?_)
    · (repeat' apply And.intro) <;> (intros; first | exact trivial | exact rfl | omega | exact u8_lo _ | exact u8_hi _ | exact u8_in64 _ | exact u8_in63 _ | (simp only [inR, IntKind.bits]; omega) | (simp [inR, IntKind.bits]; done) | (simp [inR, IntKind.bits] at * <;> omega) | (simp_all; done) | skip)
    have he : ¬ ofE c = 0 := by unfold ofE; rw [if_pos (by omega)]; omega
    exact G_ret tOk hM0 rfl rfl ⟨trivial, trivial⟩ (show takeL a l c = [] by simp [takeL, he])

def take_s : FSpec
  | [.c (.pv (.lst .byt a)), .c (.pv (.lst .spn l)), .c (.pv (.val (.int .i64 c)))] => some ((a.length ≤ 100000) ∧ (l.length ≤ 1000), true, .o 46 .rcd (takeL a l c))
  | _ => none
theorem take_s_ok : SpecOk Try.prog 15 take_s := by
  intro args pre sh rv h hp; unfold take_s at h; split at h
  · cases h; obtain ⟨ha, hl⟩ := hp; exact take_fn _ _ _ ha hl
  · cases h
def psi_take : FuncId → Option FSpec := psiCons 15 take_s psi_sRight
theorem psi_take_ok : PsiFn Try.prog psi_take := psiCons_ok take_s_ok psi_sRight_ok
theorem take16 (a : List UInt8) (w k : Int) (hw : 1 ≤ w) (hk : 0 ≤ k) (hlt : k * (16 * w) < a.length) :
    (k * w < allN a → (List.drop (Int.toNat 0) (List.take ((((List.drop (k * (16 * w)).toNat (List.take (min (k * (16 * w) + 16 * w) (a.length : Int)).toNat a)).length : Int) / 16 * 16).toNat) (List.drop (k * (16 * w)).toNat (List.take (min (k * (16 * w) + 16 * w) (a.length : Int)).toNat a)))) = (recK a w k).data ∧ 0 < ((recK a w k).data.length : Int)) ∧
    (¬ k * w < allN a → (List.drop (Int.toNat 0) (List.take ((((List.drop (k * (16 * w)).toNat (List.take (min (k * (16 * w) + 16 * w) (a.length : Int)).toNat a)).length : Int) / 16 * 16).toNat) (List.drop (k * (16 * w)).toNat (List.take (min (k * (16 * w) + 16 * w) (a.length : Int)).toNat a)))) = []) := by
  have e1 : k * (16 * w) = 16 * (k * w) := by rw [Int.mul_left_comm]
  have hp0 : 0 ≤ k * w := Int.mul_nonneg hk (by omega)
  have e2 : (k + 1) * w = k * w + w := by rw [Int.add_mul, Int.one_mul]
  rw [e1] at hlt ⊢
  simp only [recK, e2]
  generalize hp : k * w = p at *
  have hal : allN a * 16 ≤ a.length ∧ (a.length : Int) ≤ allN a * 16 + 15 := by unfold allN; omega
  have hlen : ((List.drop (16 * p).toNat (List.take (min (16 * p + 16 * w) (a.length : Int)).toNat a)).length : Int) = min (16 * p + 16 * w) (a.length : Int) - 16 * p := by
    simp only [List.length_drop, List.length_take]; omega
  rw [hlen]
  have z0 : Int.toNat 0 = 0 := rfl
  rw [z0, List.drop_zero, List.take_drop, List.take_take]
  refine ⟨fun h => ?_, fun h => ?_⟩
  · have e3 : min ((16 * p).toNat + ((min (16 * p + 16 * w) (a.length : Int) - 16 * p) / 16 * 16).toNat) (min (16 * p + 16 * w) (a.length : Int)).toNat = (min (p + w) (allN a) * 16).toNat := by omega
    have e4 : (16 * p).toNat = (p * 16).toNat := by omega
    rw [e3, e4]
    refine ⟨rfl, ?_⟩
    simp only [List.length_drop, List.length_take]; omega
  · have e3 : ((min (16 * p + 16 * w) (a.length : Int) - 16 * p) / 16 * 16).toNat = 0 := by omega
    rw [e3, Nat.add_zero]
    apply List.eq_nil_of_length_eq_zero
    simp only [List.length_drop, List.length_take]; omega

def env_rtake : Env := ⟨T, psi_take, pspNil, 88, []⟩
theorem eok_rtake : PsiOk Try.prog env_rtake := ⟨psi_take_ok, pspNil_ok⟩
theorem rtake_fn (a : List UInt8) (l : List Span) (c : Int) (ha : a.length ≤ 100000) (hl : l.length ≤ 1000) : Ctr Try.prog 16 true [lst .byt a, lst .spn l, int .i64 c] (.o 46 .rcd (takeL a l c)) := by
  refine Ctr_intro (E := env_rtake) Try.func16 rfl (by decide) rfl rfl (fun M0 W hM0 => ?_)
  refine G_run tOk eok_rtake 3 (fun _ => none) (fun bs => rfl) (fun bs => ?_) (fun bs => ?_)
  · (repeat' apply And.intro) <;> (intros; first | exact trivial | exact rfl | omega | exact u8_lo _ | exact u8_hi _ | exact u8_in64 _ | exact u8_in63 _ | (simp only [inR, IntKind.bits]; omega) | (simp [inR, IntKind.bits]; done) | (simp [inR, IntKind.bits] at * <;> omega) | (simp_all; done) | skip)
  by_cases hc : 0 ≤ c ∧ c ≤ 6
  · have he : ofE c = 0 := by unfold ofE; rw [if_neg (by omega)]
    have hp := pow_c hc
    obtain ⟨w, hw⟩ : ∃ w : Int, (2 : Int) ^ c.toNat = w := ⟨_, rfl⟩
    have hw2 : 1 ≤ w ∧ w ≤ 64 := by omega
    refine G_run tOk eok_rtake 60 (fun _ => some false) (fun bs => rfl) (fun bs => ?_) (fun bs => ?_)
    · (repeat' apply And.intro) <;> (intros; first | exact trivial | exact rfl | omega | exact u8_lo _ | exact u8_hi _ | exact u8_in64 _ | exact u8_in63 _ | (simp only [inR, IntKind.bits]; omega) | (simp [inR, IntKind.bits]; done) | (simp [inR, IntKind.bits] at * <;> omega) | (simp_all; done) | skip)
    refine G_cond rfl rfl (fun h => ?_) (fun h => ?_)
    · refine G_run tOk eok_rtake 60 (fun _ => none) (fun bs => rfl) (fun bs => ?_) (fun bs => ?_)
      · (repeat' apply And.intro) <;> (intros; first | exact trivial | exact rfl | omega | exact u8_lo _ | exact u8_hi _ | exact u8_in64 _ | exact u8_in63 _ | (simp only [inR, IntKind.bits]; omega) | (simp [inR, IntKind.bits]; done) | (simp [inR, IntKind.bits] at * <;> omega) | (simp_all; done) | skip)
      have hb : rightB l = false := by simp at h; rcases h with h | h; omega; exact h
      exact G_ret tOk hM0 rfl rfl ⟨trivial, trivial⟩ (show takeL a l c = [] by simp [takeL, hb])
    have hb : rightB l = true := by simp at h; exact h.2
    have hR := right_iff.1 hb
    clear h
    have hal : 0 ≤ allN a ∧ allN a ≤ 6250 := by unfold allN; omega
    have hal16 : allN a * 16 ≤ a.length ∧ a.length ≤ allN a * 16 + 15 := by unfold allN; omega
    refine G_run tOk eok_rtake 60 (fun _ => none) (fun bs => rfl) (fun bs => ?_) (fun bs => ?_)
    · (repeat' apply And.intro) <;> (intros; first | exact trivial | exact rfl | omega | exact u8_lo _ | exact u8_hi _ | exact u8_in64 _ | exact u8_in63 _ | (simp only [inR, IntKind.bits]; omega) | (simp [inR, IntKind.bits]; done) | (simp [inR, IntKind.bits] at * <;> omega) | (simp_all; done) | skip)
    refine G_own 8 46 rfl ?_
    refine G_loop (fun x : Nat × Value => [(0, lst .byt a), (1, lst .spn l), (2, int .i64 c), (7, int .i64 (16 * w)), (8, .c (.own 0 x.2)), (9, int .i64 x.1)]) (fun x => [.own x.2 46 .rcd (outerN a w l x.1)])
      (fun x => x.1 ≤ l.length ∧ (outerN a w l x.1).length ≤ 10000 * x.1) (fun x => l.length - x.1) rfl [0] (0, ?v0) ⟨Nat.zero_le _, by simp [outerN]⟩ ?wk (fun x hx => ?_)
    case wk =>
      (repeat' apply And.intro) <;> (first | exact rfl | exact trivial | omega | refine sigEq ?_ | skip)
      all_goals simp only [hw]
    obtain ⟨i, v⟩ := x
    obtain ⟨hi, hol⟩ := hx
    dsimp only at hi hol ⊢
    refine G_run tOk eok_rtake 60 (fun _ => none) (fun bs => rfl) (fun bs => ?_) (fun bs => ?_)
    · (repeat' apply And.intro) <;> (intros; first | exact trivial | exact rfl | omega | exact u8_lo _ | exact u8_hi _ | exact u8_in64 _ | exact u8_in63 _ | (simp only [inR, IntKind.bits]; omega) | (simp [inR, IntKind.bits]; done) | (simp [inR, IntKind.bits] at * <;> omega) | (simp_all; done) | skip)
    refine G_if rfl rfl (fun hk => ?_) (fun hk => ?_)
    · have hk' : i < l.length := by omega
      have hsp := rt_get hR hk'
      generalize hs : l.getD i ⟨0, 0⟩ = s at hsp
      have hs' : l.getD (Int.toNat (i : Int)) LK.spn.dft = s := hs
      obtain ⟨p1, p2, p3⟩ := hsp
      have hcl := cntN_le (a := a) (w := w) (s := s) (by omega) ha p1 (by omega)
      have hci := fun j => cntN_iff (a := a) (w := w) (s := s) (by omega) j
      refine G_run tOk eok_rtake 60 (fun _ => none) (fun bs => rfl) (fun bs => ?_) (fun bs => ?_)
      · (repeat' apply And.intro) <;> (intros; first | exact trivial | exact rfl | omega | exact u8_lo _ | exact u8_hi _ | exact u8_in64 _ | exact u8_in63 _ | (simp only [inR, IntKind.bits]; omega) | (simp [inR, IntKind.bits]; done) | (simp [inR, IntKind.bits] at * <;> omega) | (simp_all; done) | skip)
      refine G_loop (fun x : Nat × Value => [(0, lst .byt a), (1, lst .spn l), (2, int .i64 c), (7, int .i64 (16 * w)), (8, .c (.own 0 x.2)), (9, int .i64 i), (10, int .i64 (s.fr + x.1))])
        (fun x => [.own x.2 46 .rcd (outerN a w l i ++ innerN a w s.fr (min x.1 (cntN a w s)))])
        (fun x => s.fr + x.1 ≤ s.to) (fun x => (s.to - (s.fr + x.1)).toNat) rfl [0] (0, ?v1) (by simp only; omega) ?wk1 (fun x hx => ?_)
      case wk1 =>
        (repeat' apply And.intro) <;> (first | exact rfl | exact trivial | omega | refine sigEq ?_ | skip)
        all_goals first
          | (rw [show l.getD (Int.toNat (i : Int)) LK.spn.dft = s from hs]; done)
          | (rw [show l.getD (Int.toNat (i : Int)) LK.spn.dft = s from hs]; simp; done)
          | (simp [innerN]; done)
      obtain ⟨j, v2⟩ := x
      dsimp only at hx ⊢
      have hq0 : 0 ≤ (s.fr + j) * (16 * w) := Int.mul_nonneg (by omega) (by omega)
      have hq1 : (s.fr + j) * (16 * w) ≤ 1073741824 * 1024 := Int.mul_le_mul (by omega) (by omega) (by omega) (by omega)
      have hil := innerN_len a w s.fr (min j (cntN a w s))
      refine G_run tOk eok_rtake 60 (fun _ => none) (fun bs => rfl) (fun bs => ?_) (fun bs => ?_)
      · simp only [hs']
        (repeat' apply And.intro) <;> (intros; first | exact trivial | exact rfl | omega | exact u8_lo _ | exact u8_hi _ | exact u8_in64 _ | exact u8_in63 _ | (simp only [inR, IntKind.bits]; omega) | (simp [inR, IntKind.bits]; done) | (simp [inR, IntKind.bits] at * <;> omega) | (simp_all; done) | skip)
      refine G_cond rfl rfl (fun h => ?_) (fun h => ?_)
      · rw [show l.getD (Int.toNat (i : Int)) LK.spn.dft = s from hs] at h
        simp only [Bool.and_eq_true, decide_eq_true_eq] at h
        have hln : (outerN a w l i ++ innerN a w s.fr (min j (cntN a w s))).length ≤ 1000000000 := by rw [List.length_append]; omega
        obtain ⟨y1, y2⟩ := take16 a w (s.fr + j) (by omega) (by omega) h.2
        have hsh : 0 ≤ (s.fr + j) * w ∧ (s.fr + j) * w ≤ 1073741824 * 64 := ⟨Int.mul_nonneg (by omega) (by omega), Int.mul_le_mul (by omega) (by omega) (by omega) (by omega)⟩
        refine G_run tOk eok_rtake 60 (fun _ => none) (fun bs => rfl) (fun bs => ?_) (fun bs => ?_)
        · (repeat' apply And.intro) <;> (intros; first | exact trivial | exact rfl | omega | exact u8_lo _ | exact u8_hi _ | exact u8_in64 _ | exact u8_in63 _ | (simp only [inR, IntKind.bits]; omega) | (simp [inR, IntKind.bits]; done) | (simp [inR, IntKind.bits] at * <;> omega) | (simp_all; done) | skip)
        by_cases hj : j < cntN a w s
        · have hw3 := ((hci j).2 hj).2
          obtain ⟨y3, y4⟩ := y1 hw3
          refine G_thn rfl rfl ?_ ?_
          · rw [y3]; exact decide_eq_true y4
          refine G_run tOk eok_rtake 60 (fun _ => none) (fun bs => rfl) (fun bs => ?_) (fun bs => ?_)
          · try simp only [hw]
            (repeat' apply And.intro) <;> (intros; first | exact trivial | exact rfl | omega | exact u8_lo _ | exact u8_hi _ | exact u8_in64 _ | exact u8_in63 _ | (simp only [inR, IntKind.bits]; omega) | (simp [inR, IntKind.bits]; done) | (simp [inR, IntKind.bits] at * <;> omega) | (simp_all; done) | skip)
          refine G_freeze 2 [83] rfl ⟨rfl, trivial⟩ ?_
          refine G_run tOk eok_rtake 60 (fun _ => none) (fun bs => rfl) (fun bs => ?_) (fun bs => ?_)
          · (repeat' apply And.intro) <;> (intros; first | exact trivial | exact rfl | omega | exact u8_lo _ | exact u8_hi _ | exact u8_in64 _ | exact u8_in63 _ | (simp only [inR, IntKind.bits]; omega) | (simp [inR, IntKind.bits]; done) | (simp [inR, IntKind.bits] at * <;> omega) | (simp_all; done) | skip)
          refine G_lp [4] (j + 1, ?v3) ?ok3 ?wk3
          case ok3 => exact ⟨by simp only; omega, by simp only; omega⟩
          case wk3 =>
            (repeat' apply And.intro) <;> (first | exact rfl | exact trivial | omega | refine sigEq ?_ | skip)
            simp only [hw, y3, show min (j + 1) (cntN a w s) = j + 1 by omega, show min j (cntN a w s) = j by omega, innerN, ← List.append_assoc]
            rfl
        · have hw3 : ¬ (s.fr + j) * w < allN a := fun h' => hj ((hci j).1 ⟨h.1, h'⟩)
          have y3 := y2 hw3
          refine G_els rfl rfl ?_ ?_
          · simp only [y3]; simp
          refine G_run tOk eok_rtake 60 (fun _ => none) (fun bs => rfl) (fun bs => ?_) (fun bs => ?_)
          · (repeat' apply And.intro) <;> (intros; first | exact trivial | exact rfl | omega | exact u8_lo _ | exact u8_hi _ | exact u8_in64 _ | exact u8_in63 _ | (simp only [inR, IntKind.bits]; omega) | (simp [inR, IntKind.bits]; done) | (simp [inR, IntKind.bits] at * <;> omega) | (simp_all; done) | skip)
          refine G_lp [0] (j + 1, v2) ?ok4 ?wk4
          case ok4 => exact ⟨by simp only; omega, by simp only; omega⟩
          case wk4 =>
            (repeat' apply And.intro) <;> (first | exact rfl | exact trivial | omega | refine sigEq ?_ | skip)
            rw [show min j (cntN a w s) = min (j + 1) (cntN a w s) by omega]
      · rw [show l.getD (Int.toNat (i : Int)) LK.spn.dft = s from hs] at h
        have hj : ¬ j < cntN a w s := by
          intro h'
          obtain ⟨z1, z2⟩ := (hci j).2 h'
          have z3 : (s.fr + j) * (16 * w) < a.length := by
            rw [show (s.fr + (j : Int)) * (16 * w) = 16 * ((s.fr + j) * w) by rw [Int.mul_left_comm]]
            omega
          simp [z1, z3] at h
        have hje : min j (cntN a w s) = cntN a w s := by omega
        refine G_run tOk eok_rtake 60 (fun _ => none) (fun bs => rfl) (fun bs => ?_) (fun bs => ?_)
        · (repeat' apply And.intro) <;> (intros; first | exact trivial | exact rfl | omega | exact u8_lo _ | exact u8_hi _ | exact u8_in64 _ | exact u8_in63 _ | (simp only [inR, IntKind.bits]; omega) | (simp [inR, IntKind.bits]; done) | (simp [inR, IntKind.bits] at * <;> omega) | (simp_all; done) | skip)
        refine G_lp [0] (i + 1, v2) ?ok5 ?wk5
        case ok5 =>
          refine ⟨⟨by simp only; omega, ?_⟩, by simp only; omega⟩
          simp only [outerN, hs, List.length_append, innerN_len]; omega
        case wk5 =>
          (repeat' apply And.intro) <;> (first | exact rfl | exact trivial | omega | refine sigEq ?_ | skip)
          simp only [outerN, hs, hje]
    · have hk' : i = l.length := by omega
      subst hk'
      refine G_run tOk eok_rtake 60 (fun _ => none) (fun bs => rfl) (fun bs => ?_) (fun bs => ?_)
      · (repeat' apply And.intro) <;> (intros; first | exact trivial | exact rfl | omega | exact u8_lo _ | exact u8_hi _ | exact u8_in64 _ | exact u8_in63 _ | (simp only [inR, IntKind.bits]; omega) | (simp [inR, IntKind.bits]; done) | (simp [inR, IntKind.bits] at * <;> omega) | (simp_all; done) | skip)
      refine G_ret tOk hM0 rfl rfl ⟨trivial, trivial⟩ ⟨rfl, rfl, rfl, sigEq ?_⟩
      simp only [takeL, he, hb, hw, and_self, if_true]
  · refine G_run tOk eok_rtake 60 (fun j => match j with | 6 => some true | _ => none) (fun bs => rfl) (fun bs => ?_) (fun bs => ?_)
    · (repeat' apply And.intro) <;> (intros; first | exact trivial | exact rfl | omega | exact u8_lo _ | exact u8_hi _ | exact u8_in64 _ | exact u8_in63 _ | (simp only [inR, IntKind.bits]; omega) | (simp [inR, IntKind.bits]; done) | (simp [inR, IntKind.bits] at * <;> omega) | (simp_all; done) | skip)
      all_goals (simp; omega)
    refine G_thn rfl rfl rfl ?_
    refine G_run tOk eok_rtake 60 (fun _ => none) (fun bs => rfl) (fun bs => ?_) (fun bs => ?_)
    · (repeat' apply And.intro) <;> (intros; first | exact trivial | exact rfl | omega | exact u8_lo _ | exact u8_hi _ | exact u8_in64 _ | exact u8_in63 _ | (simp only [inR, IntKind.bits]; omega) | (simp [inR, IntKind.bits]; done) | (simp [inR, IntKind.bits] at * <;> omega) | (simp_all; done) | skip)
    have he : ¬ ofE c = 0 := by unfold ofE; rw [if_pos (by omega)]; omega
    exact G_ret tOk hM0 rfl rfl ⟨trivial, trivial⟩ (show takeL a l c = [] by simp [takeL, he])
def rtake_s : FSpec
  | [.c (.pv (.lst .byt a)), .c (.pv (.lst .spn l)), .c (.pv (.val (.int .i64 c)))] => some ((a.length ≤ 100000) ∧ (l.length ≤ 1000), true, .o 46 .rcd (takeL a l c))
  | _ => none
theorem rtake_s_ok : SpecOk Try.prog 16 rtake_s := by
  intro args pre sh rv h hp; unfold rtake_s at h; split at h
  · cases h; obtain ⟨ha, hl⟩ := hp; exact rtake_fn _ _ _ ha hl
  · cases h
def psi_rtake : FuncId → Option FSpec := psiCons 16 rtake_s psi_take
theorem psi_rtake_ok : PsiFn Try.prog psi_rtake := psiCons_ok rtake_s_ok psi_take_ok
end Go.Proofs.Ytekaapofigocnaa
