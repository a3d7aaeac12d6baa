import Derived.Test.YtndjdmnpdknneaaMapM
import Derived.Test.YtndjdmnpdknneaaMapP
set_option linter.unusedSimpArgs false
set_option linter.unusedVariables false
namespace Go.Proofs.Ytndjdmnpdknneaa
open Go.Mt

def szZ (f w n : Int) (on : Bool) : List Span := (siz w n ⟨[97], on, [⟨f, 260⟩]⟩).l
theorem sz_list {f w n : Int} (on : Bool) (hw : 0 ≤ w ∧ w ≤ 255) (hn : 0 ≤ n ∧ n ≤ 255) : sizL [⟨[97], on, [⟨f, 260⟩]⟩] w n = [⟨[97], on, szZ f w n on⟩] := by
  have hf : far w n = false := by simp [far]; omega
  unfold sizL szZ
  rw [hf]
  simp only [List.map_cons, List.map_nil, siz]
  split <;> rfl
theorem sz_has {f w n x : Int} (on : Bool) (hf : 0 ≤ f ∧ f ≤ 255) (hw : 0 ≤ w ∧ w ≤ 255) (hn : 0 ≤ n ∧ n ≤ 255) (hx : 0 ≤ x ∧ x < 300) :
    hasL (szZ f w n on) x = (((decide (f ≤ x) && decide (x < 260)) && !decide (n ≤ x)) || ((on && decide (w ≤ x)) && decide (x < n))) := by
  have s1 : Sp ⟨f, 260⟩ := ⟨hf.1, by simp only; omega, by simp only; omega⟩
  have s2 : Sp ⟨n, 1073741824⟩ := ⟨hn.1, by simp only; omega, by simp only; omega⟩
  have r1 : Rt [⟨f, 260⟩] := ⟨by simpa using s1, by simp⟩
  obtain ⟨r2, i2⟩ := subL_set r1 s2
  have i2x := i2 x
  have e1 : hasX x ⟨n, 1073741824⟩ = decide (n ≤ x) := by
    have : decide (x < 1073741824) = true := by simp; omega
    simp [hasX, this]
  rw [inL_one, e1] at i2x
  have e0 : hasX x ⟨f, 260⟩ = (decide (f ≤ x) && decide (x < 260)) := rfl
  rw [e0] at i2x
  unfold szZ siz
  cases hon : on && decide (w < n) with
  | true =>
    simp only [Bool.and_eq_true, decide_eq_true_eq] at hon
    obtain ⟨rfl, hwn⟩ := hon
    simp only [Bool.true_and, decide_eq_true hwn]
    have s3 : Sp ⟨w, n⟩ := ⟨hw.1, hwn, by simp only; omega⟩
    obtain ⟨r3, i3⟩ := addL_set r2 s3
    rw [hasL_of r3, i3, i2x]
    rfl
  | false =>
    simp only [hon]
    rw [hasL_of r2, i2x]
    have : ((on && decide (w ≤ x)) && decide (x < n)) = false := by
      cases on with
      | false => rfl
      | true => simp only [Bool.true_and, decide_eq_false_iff_not] at hon ⊢; simp; omega
    rw [this, Bool.or_false]
theorem sz_len (f w n : Int) (on : Bool) : (szZ f w n on).length ≤ 1000000 := by
  have := siz_len w n ⟨[97], on, [⟨f, 260⟩]⟩ (by simp)
  unfold szZ; omega

def env_fsizes : Env := ⟨T, psi_awake, pspNil, psc_del, 86, [], none, true⟩
theorem eok_fsizes : PsiOk Try.prog env_fsizes := ⟨psi_awake_ok, pspNil_ok, psc_del_ok⟩
theorem fsizes_fn (f : Int) (w : Int) (n : Int) (on : Bool) (hf : 0 ≤ f ∧ f ≤ 255) (hw : 0 ≤ w ∧ w ≤ 255) (hn : 0 ≤ n ∧ n ≤ 255) : Ctr Try.prog 7 false [int .u8 f, int .u8 w, int .u8 n, bool on] (.x (.c (bv true))) := by
  refine Ctr_intro (E := env_fsizes) Try.func7 rfl (by decide) rfl rfl (fun M0 W hM0 => ?_)
  have b0 : BmOk [] := ⟨by decide, by simp⟩
  have hE : mpE [] [97] = 0 := by decide +kernel
  have hL : mpL [] [97] = [⟨[97], true, []⟩] := by decide +kernel
  have b1 : BmOk [⟨[97], true, []⟩] := ⟨by decide, by simp⟩
  have s1 : Sp ⟨f, 260⟩ := ⟨hf.1, by simp only; omega, by simp only; omega⟩
  have hA : addL [] ⟨f, 260⟩ = [⟨f, 260⟩] := by
    have hm : mayB f 260 = true := mayB_iff.2 s1
    simp only [addL, hm]; rfl
  have hT : List.map (tch ⟨f, 260⟩) [⟨[97], true, []⟩] = [⟨[97], true, [⟨f, 260⟩]⟩] := by simp only [List.map_cons, List.map_nil, tch, hA]
  have b2 : BmOk [⟨[97], true, [⟨f, 260⟩]⟩] := ⟨by simp, by simp⟩
  have hp : plc [⟨[97], true, [⟨f, 260⟩]⟩] [97] = 0 := rfl
  have hU : trnL [⟨[97], true, [⟨f, 260⟩]⟩] [97] (fOn on) = [⟨[97], on, [⟨f, 260⟩]⟩] := rfl
  have hV : trnE [⟨[97], true, [⟨f, 260⟩]⟩] [97] = 0 := rfl
  have b3 : BmOk [⟨[97], on, [⟨f, 260⟩]⟩] := ⟨by simp, by simp⟩
  have hS := sz_list (f := f) on hw hn
  have hZl := sz_len f w n on
  refine G_run tOk eok_fsizes 60 (fun _ => none) (fun bs => rfl) (fun bs => ?_) (fun bs => ?_)
  · (repeat' apply And.intro) <;> (intros; first | exact trivial | exact rfl | omega | exact u8_lo _ | exact u8_hi _ | exact u8_in64 _ | exact u8_in63 _ | (simp only [inR, IntKind.bits]; omega) | (simp [inR, IntKind.bits]; done) | (simp [inR, IntKind.bits] at * <;> omega) | (simp_all; done) | (with_reducible assumption) | skip)
  rw [hE, hL]
  refine G_els rfl rfl rfl ?_
  refine G_run tOk eok_fsizes 60 (fun _ => none) (fun bs => rfl) (fun bs => ?_) (fun bs => ?_)
  · (repeat' apply And.intro) <;> (intros; first | exact trivial | exact rfl | omega | exact u8_lo _ | exact u8_hi _ | exact u8_in64 _ | exact u8_in63 _ | (simp only [inR, IntKind.bits]; omega) | (simp [inR, IntKind.bits]; done) | (simp [inR, IntKind.bits] at * <;> omega) | (simp_all; done) | (with_reducible assumption) | skip)
  refine G_freeze 0 [16, 9, 21] rfl ⟨rfl, rfl, rfl, trivial⟩ ?_
  refine G_run tOk eok_fsizes 60 (fun _ => none) (fun bs => rfl) (fun bs => ?_) (fun bs => ?_)
  · (repeat' apply And.intro) <;> (intros; first | exact trivial | exact rfl | omega | exact u8_lo _ | exact u8_hi _ | exact u8_in64 _ | exact u8_in63 _ | (simp only [inR, IntKind.bits]; omega) | (simp [inR, IntKind.bits]; done) | (simp [inR, IntKind.bits] at * <;> omega) | (simp_all; done) | (with_reducible assumption) | skip)
  rw [hT]
  refine G_freeze 1 [25, 9, 27] rfl ⟨rfl, rfl, rfl, trivial⟩ ?_
  refine G_run tOk eok_fsizes 60 (fun _ => none) (fun bs => rfl) (fun bs => ?_) (fun bs => ?_)
  · (repeat' apply And.intro) <;> (intros; first | exact trivial | exact rfl | omega | exact u8_lo _ | exact u8_hi _ | exact u8_in64 _ | exact u8_in63 _ | (simp only [inR, IntKind.bits]; omega) | (simp [inR, IntKind.bits]; done) | (simp [inR, IntKind.bits] at * <;> omega) | (simp_all; done) | (with_reducible assumption) | skip)
  rw [hU, hV]
  refine G_freeze 2 [30, 9, 32] rfl ⟨rfl, rfl, rfl, trivial⟩ ?_
  refine G_run tOk eok_fsizes 60 (fun _ => none) (fun bs => rfl) (fun bs => ?_) (fun bs => ?_)
  · (repeat' apply And.intro) <;> (intros; first | exact trivial | exact rfl | omega | exact u8_lo _ | exact u8_hi _ | exact u8_in64 _ | exact u8_in63 _ | (simp only [inR, IntKind.bits]; omega) | (simp [inR, IntKind.bits]; done) | (simp [inR, IntKind.bits] at * <;> omega) | (simp_all; done) | (with_reducible assumption) | skip)
  rw [hS]
  refine G_freeze 3 [37, 11] rfl ⟨rfl, rfl, trivial⟩ ?_
  have hzz : ∀ i : Nat, (i : Int) < 300 → hasL (szZ f w n on) i = _ := fun i hi => sz_has on hf hw hn (x := (i : Int)) ⟨by omega, hi⟩
  generalize hZ : szZ f w n on = Z at hZl hzz
  refine G_loop (fun i : Nat => [(0, int .u8 f), (1, int .u8 w), (2, int .u8 n), (3, bool on), (10, int .i64 0), (11, lst .bms [⟨[97], on, Z⟩]), (12, int .i64 i)]) (fun i => []) (fun i => i ≤ 300) (fun i => 300 - i) rfl [] 0 (Nat.zero_le _) ?wk (fun i hi => ?_)
  case wk => (repeat' apply And.intro) <;> (first | exact rfl | exact trivial | omega | refine sigEq ?_ | skip)
  refine G_run tOk eok_fsizes 60 (fun _ => none) (fun bs => rfl) (fun bs => ?_) (fun bs => ?_)
  · (repeat' apply And.intro) <;> (intros; first | exact trivial | exact rfl | omega | exact u8_lo _ | exact u8_hi _ | exact u8_in64 _ | exact u8_in63 _ | (simp only [inR, IntKind.bits]; omega) | (simp [inR, IntKind.bits]; done) | (simp [inR, IntKind.bits] at * <;> omega) | (simp_all; done) | (with_reducible assumption) | skip)
  refine G_if rfl rfl (fun hk => ?_) (fun hk => ?_)
  · have hk' : i < 300 := by omega
    have hzi := hzz i (by omega)
    refine G_run tOk eok_fsizes 60 (fun _ => none) (fun bs => rfl) (fun bs => ?_) (fun bs => ?_)
    · (repeat' apply And.intro) <;> (intros; first | exact trivial | exact rfl | omega | exact u8_lo _ | exact u8_hi _ | exact u8_in64 _ | exact u8_in63 _ | (simp only [inR, IntKind.bits]; omega) | (simp [inR, IntKind.bits]; done) | (simp [inR, IntKind.bits] at * <;> omega) | (simp_all; done) | (with_reducible assumption) | skip)
    refine G_if rfl rfl (fun c1 => ?_) (fun c1 => ?_)
    · refine G_run tOk eok_fsizes 60 (fun _ => none) (fun bs => rfl) (fun bs => ?_) (fun bs => ?_)
      · (repeat' apply And.intro) <;> (intros; first | exact trivial | exact rfl | omega | exact u8_lo _ | exact u8_hi _ | exact u8_in64 _ | exact u8_in63 _ | (simp only [inR, IntKind.bits]; omega) | (simp [inR, IntKind.bits]; done) | (simp [inR, IntKind.bits] at * <;> omega) | (simp_all; done) | (with_reducible assumption) | skip)
      refine G_cond (b := (on && decide (w ≤ (i : Int))) && decide ((i : Int) < n)) rfl rfl (fun c2 => ?_) (fun c2 => ?_)
      · exfalso; simp at c2; omega
      · have hz : hasL Z i = false := by rw [hzi, decide_eq_true c1, c2]; simp
        refine G_run tOk eok_fsizes 60 (fun _ => some false) (fun bs => rfl) (fun bs => ?_) (fun bs => ?_)
        · (repeat' apply And.intro) <;> (intros; first | exact trivial | exact rfl | omega | exact u8_lo _ | exact u8_hi _ | exact u8_in64 _ | exact u8_in63 _ | (simp only [inR, IntKind.bits]; omega) | (simp [inR, IntKind.bits]; done) | (simp [inR, IntKind.bits] at * <;> omega) | (simp_all; done) | (with_reducible assumption) | skip)
        refine G_els rfl rfl ?hb1 ?_
        case hb1 => simp [hz]
        refine G_run tOk eok_fsizes 60 (fun _ => none) (fun bs => rfl) (fun bs => ?_) (fun bs => ?_)
        · (repeat' apply And.intro) <;> (intros; first | exact trivial | exact rfl | omega | exact u8_lo _ | exact u8_hi _ | exact u8_in64 _ | exact u8_in63 _ | (simp only [inR, IntKind.bits]; omega) | (simp [inR, IntKind.bits]; done) | (simp [inR, IntKind.bits] at * <;> omega) | (simp_all; done) | (with_reducible assumption) | skip)
        refine G_lp [] (i + 1) ?ok1 ?wk1
        case ok1 => exact ⟨hk', by omega⟩
        case wk1 => (repeat' apply And.intro) <;> (first | exact rfl | exact trivial | omega | refine sigEq ?_ | skip)
    · refine G_run tOk eok_fsizes 60 (fun _ => none) (fun bs => rfl) (fun bs => ?_) (fun bs => ?_)
      · (repeat' apply And.intro) <;> (intros; first | exact trivial | exact rfl | omega | exact u8_lo _ | exact u8_hi _ | exact u8_in64 _ | exact u8_in63 _ | (simp only [inR, IntKind.bits]; omega) | (simp [inR, IntKind.bits]; done) | (simp [inR, IntKind.bits] at * <;> omega) | (simp_all; done) | (with_reducible assumption) | skip)
      refine G_cond (b := (on && decide (w ≤ (i : Int))) && decide ((i : Int) < n)) rfl rfl (fun c2 => ?_) (fun c2 => ?_)
      · have hz : hasL Z i = true := by rw [hzi, c2]; simp
        refine G_run tOk eok_fsizes 60 (fun _ => some false) (fun bs => rfl) (fun bs => ?_) (fun bs => ?_)
        · (repeat' apply And.intro) <;> (intros; first | exact trivial | exact rfl | omega | exact u8_lo _ | exact u8_hi _ | exact u8_in64 _ | exact u8_in63 _ | (simp only [inR, IntKind.bits]; omega) | (simp [inR, IntKind.bits]; done) | (simp [inR, IntKind.bits] at * <;> omega) | (simp_all; done) | (with_reducible assumption) | skip)
        refine G_els rfl rfl ?hb2 ?_
        case hb2 => simp [hz]
        refine G_run tOk eok_fsizes 60 (fun _ => none) (fun bs => rfl) (fun bs => ?_) (fun bs => ?_)
        · (repeat' apply And.intro) <;> (intros; first | exact trivial | exact rfl | omega | exact u8_lo _ | exact u8_hi _ | exact u8_in64 _ | exact u8_in63 _ | (simp only [inR, IntKind.bits]; omega) | (simp [inR, IntKind.bits]; done) | (simp [inR, IntKind.bits] at * <;> omega) | (simp_all; done) | (with_reducible assumption) | skip)
        refine G_lp [] (i + 1) ?ok2 ?wk2
        case ok2 => exact ⟨hk', by omega⟩
        case wk2 => (repeat' apply And.intro) <;> (first | exact rfl | exact trivial | omega | refine sigEq ?_ | skip)
      · have hz : hasL Z i = (decide (f ≤ (i : Int)) && decide ((i : Int) < 260)) := by rw [hzi, decide_eq_false c1, c2]; simp
        refine G_run tOk eok_fsizes 60 (fun _ => some false) (fun bs => rfl) (fun bs => ?_) (fun bs => ?_)
        · (repeat' apply And.intro) <;> (intros; first | exact trivial | exact rfl | omega | exact u8_lo _ | exact u8_hi _ | exact u8_in64 _ | exact u8_in63 _ | (simp only [inR, IntKind.bits]; omega) | (simp [inR, IntKind.bits]; done) | (simp [inR, IntKind.bits] at * <;> omega) | (simp_all; done) | (with_reducible assumption) | skip)
        refine G_els rfl rfl ?hb3 ?_
        case hb3 => simp [hz]
        refine G_run tOk eok_fsizes 60 (fun _ => none) (fun bs => rfl) (fun bs => ?_) (fun bs => ?_)
        · (repeat' apply And.intro) <;> (intros; first | exact trivial | exact rfl | omega | exact u8_lo _ | exact u8_hi _ | exact u8_in64 _ | exact u8_in63 _ | (simp only [inR, IntKind.bits]; omega) | (simp [inR, IntKind.bits]; done) | (simp [inR, IntKind.bits] at * <;> omega) | (simp_all; done) | (with_reducible assumption) | skip)
        refine G_lp [] (i + 1) ?ok3 ?wk3
        case ok3 => exact ⟨hk', by omega⟩
        case wk3 => (repeat' apply And.intro) <;> (first | exact rfl | exact trivial | omega | refine sigEq ?_ | skip)
  · refine G_run tOk eok_fsizes 60 (fun _ => some true) (fun bs => rfl) (fun bs => ?_) (fun bs => ?_)
    · (repeat' apply And.intro) <;> (intros; first | exact trivial | exact rfl | omega | exact u8_lo _ | exact u8_hi _ | exact u8_in64 _ | exact u8_in63 _ | (simp only [inR, IntKind.bits]; omega) | (simp [inR, IntKind.bits]; done) | (simp [inR, IntKind.bits] at * <;> omega) | (simp_all; done) | (with_reducible assumption) | skip)
    exact G_ret tOk hM0 rfl rfl ⟨trivial, trivial⟩ rfl
def fsizes_s : FSpec
  | [.c (.pv (.val (.int .u8 f))), .c (.pv (.val (.int .u8 w))), .c (.pv (.val (.int .u8 n))), .c (.pv (.val (.bool on)))] => some ((0 ≤ f ∧ f ≤ 255) ∧ (0 ≤ w ∧ w ≤ 255) ∧ (0 ≤ n ∧ n ≤ 255), false, .x (.c (bv true)))
  | _ => none
theorem fsizes_s_ok : SpecOk Try.prog 7 fsizes_s := by
  intro args pre sh rv h hp; unfold fsizes_s at h; split at h
  · cases h; obtain ⟨hf, hw, hn⟩ := hp; exact fsizes_fn _ _ _ _ hf hw hn
  · cases h
def psi_fsizes : FuncId → Option FSpec := psiCons 7 fsizes_s psi_awake
theorem psi_fsizes_ok : PsiFn Try.prog psi_fsizes := psiCons_ok fsizes_s_ok psi_awake_ok
end Go.Proofs.Ytndjdmnpdknneaa
