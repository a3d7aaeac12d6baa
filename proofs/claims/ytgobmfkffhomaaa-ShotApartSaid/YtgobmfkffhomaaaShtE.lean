import Derived.Test.YtgobmfkffhomaaaShtD
set_option linter.unusedSimpArgs false
set_option linter.unusedVariables false
namespace Go.Proofs.Ytgobmfkffhomaaa
open Go.Mt

theorem bm_ext {a b : Bitmap} (h1 : a.name = b.name) (h2 : a.on = b.on) (h3 : a.l = b.l) : a = b := by cases a; cases b; simp_all
def env_rmaps : Env := ⟨T, psi_rsize, pspNil, pscNil, 55, [], none, true⟩
theorem eok_rmaps : PsiOk Try.prog env_rmaps := ⟨psi_rsize_ok, pspNil_ok, pscNil_ok⟩
theorem rmaps_fn (a : List Bitmap) (b : List Bitmap) (ha : BmOk a) (hb : BmOk b) : Ctr Try.prog 44 false [lst .bms a, lst .bms b] (.x (.c (bv (decide (a = b))))) := by
  refine Ctr_intro (E := env_rmaps) Try.func44 rfl (by decide) rfl rfl (fun M0 W hM0 => ?_)
  have hal := ha.len
  have hbl := hb.len
  refine G_run tOk eok_rmaps 60 (fun _ => none) (fun bs => rfl) (fun bs => ?_) (fun bs => ?_)
  · (repeat' apply And.intro) <;> (intros; first | exact trivial | exact rfl | omega | exact u8_lo _ | exact u8_hi _ | exact u8_in64 _ | exact u8_in63 _ | (simp only [inR, IntKind.bits]; omega) | (simp [inR, IntKind.bits]; done) | (simp [inR, IntKind.bits] at * <;> omega) | (simp_all; done) | (with_reducible assumption) | skip)
  refine G_cond rfl rfl (fun h => ?_) (fun h => ?_)
  · refine G_run tOk eok_rmaps 60 (fun _ => none) (fun bs => rfl) (fun bs => ?_) (fun bs => ?_)
    · (repeat' apply And.intro) <;> (intros; first | exact trivial | exact rfl | omega | exact u8_lo _ | exact u8_hi _ | exact u8_in64 _ | exact u8_in63 _ | (simp only [inR, IntKind.bits]; omega) | (simp [inR, IntKind.bits]; done) | (simp [inR, IntKind.bits] at * <;> omega) | (simp_all; done) | (with_reducible assumption) | skip)
    have hd : decide (a = b) = false := by simp; intro e; subst e; simp at h
    exact G_ret tOk hM0 rfl rfl ⟨trivial, trivial⟩ hd.symm
  have hlm : a.length = b.length := by simp at h; omega
  refine G_run tOk eok_rmaps 60 (fun _ => none) (fun bs => rfl) (fun bs => ?_) (fun bs => ?_)
  · (repeat' apply And.intro) <;> (intros; first | exact trivial | exact rfl | omega | exact u8_lo _ | exact u8_hi _ | exact u8_in64 _ | exact u8_in63 _ | (simp only [inR, IntKind.bits]; omega) | (simp [inR, IntKind.bits]; done) | (simp [inR, IntKind.bits] at * <;> omega) | (simp_all; done) | (with_reducible assumption) | skip)
  refine G_loop (fun x : Nat => [(0, lst .bms a), (1, lst .bms b), (5, int .i64 x)]) (fun x => []) (fun x => x ≤ a.length ∧ a.take x = b.take x) (fun x => a.length - x) rfl [] 0 ⟨Nat.zero_le _, rfl⟩ ?wk (fun x hx => ?_)
  case wk => (repeat' apply And.intro) <;> (first | exact rfl | exact trivial | omega | refine sigEq ?_ | skip)
  obtain ⟨hx, hr⟩ := hx
  refine G_run tOk eok_rmaps 60 (fun _ => none) (fun bs => rfl) (fun bs => ?_) (fun bs => ?_)
  · (repeat' apply And.intro) <;> (intros; first | exact trivial | exact rfl | omega | exact u8_lo _ | exact u8_hi _ | exact u8_in64 _ | exact u8_in63 _ | (simp only [inR, IntKind.bits]; omega) | (simp [inR, IntKind.bits]; done) | (simp [inR, IntKind.bits] at * <;> omega) | (simp_all; done) | (with_reducible assumption) | skip)
  refine G_if rfl rfl (fun hk => ?_) (fun hk => ?_)
  · have hk' : x < a.length := by omega
    have ht := take_eq LK.bms.dft hr hk' (by omega)
    have g1 : (a.getD (x : Int).toNat LK.bms.dft).l.length ≤ 100000 := ha.get x
    have g2 : (b.getD (x : Int).toNat LK.bms.dft).l.length ≤ 100000 := hb.get x
    by_cases c1 : (a.getD (x : Int).toNat LK.bms.dft).name = (b.getD (x : Int).toNat LK.bms.dft).name
    · by_cases c2 : (a.getD (x : Int).toNat LK.bms.dft).on = (b.getD (x : Int).toNat LK.bms.dft).on
      · refine G_run tOk eok_rmaps 60 (fun _ => none) (fun bs => rfl) (fun bs => ?_) (fun bs => ?_)
        · (repeat' apply And.intro) <;> (intros; first | exact trivial | exact rfl | omega | exact u8_lo _ | exact u8_hi _ | exact u8_in64 _ | exact u8_in63 _ | (simp only [inR, IntKind.bits]; omega) | (simp [inR, IntKind.bits]; done) | (simp [inR, IntKind.bits] at * <;> omega) | (simp_all; done) | (with_reducible assumption) | skip)
        refine G_draw tOk eok_rmaps rfl (fun j => match j with | 11 => some false | 24 => some false | _ => none) 35 [0, 0, 3, 7, 15, 0, 0, 96, 224, 480, 1023, 2047, 4095, 4095, 16383, 32767, 65535, 4095, 4095, 397311, 921599, 1970175, 4194303, 8388607, 16777215, 33554431, 33554431, 134217727, 268435455, 536870911, 33554431, 33554431, 3254779903, 7549747199, 16139681791, 34359738367, 68719476735, 137438953471] [] rfl (by decide +kernel) (fun bs => rfl) (fun bs => ?_) (fun bs => ?_)
        · (repeat' apply And.intro) <;> (intros; first | exact trivial | exact rfl | omega | exact u8_lo _ | exact u8_hi _ | exact u8_in64 _ | exact u8_in63 _ | (simp only [inR, IntKind.bits]; omega) | (simp [inR, IntKind.bits]; done) | (simp [inR, IntKind.bits] at * <;> omega) | (simp_all; done) | (with_reducible assumption) | skip)
          all_goals (simp [c1, c2]; done)
        refine G_run tOk eok_rmaps 60 (fun j => match j with | 11 => some false | 24 => some false | _ => none) (fun bs => rfl) (fun bs => by (repeat' apply And.intro) <;> (intros; first | exact trivial | exact rfl | omega | exact u8_lo _ | exact u8_hi _ | exact u8_in64 _ | exact u8_in63 _ | (simp only [inR, IntKind.bits]; omega) | (simp [inR, IntKind.bits, c1, c2]; done) | (simp [inR, IntKind.bits, c1, c2] at * <;> omega) | (simp_all; done) | (with_reducible assumption) | skip)) (fun bs => ?_)
        refine G_cond rfl rfl (fun h => ?_) (fun h => ?_)
        · refine G_run tOk eok_rmaps 60 (fun _ => none) (fun bs => rfl) (fun bs => ?_) (fun bs => ?_)
          · (repeat' apply And.intro) <;> (intros; first | exact trivial | exact rfl | omega | exact u8_lo _ | exact u8_hi _ | exact u8_in64 _ | exact u8_in63 _ | (simp only [inR, IntKind.bits]; omega) | (simp [inR, IntKind.bits]; done) | (simp [inR, IntKind.bits] at * <;> omega) | (simp_all; done) | (with_reducible assumption) | skip)
          have hd : decide (a = b) = false := by
            simp only [decide_eq_false_iff_not]
            rintro rfl
            simp at h
          exact G_ret tOk hM0 rfl rfl ⟨trivial, trivial⟩ hd.symm
        · refine G_run tOk eok_rmaps 60 (fun _ => none) (fun bs => rfl) (fun bs => ?_) (fun bs => ?_)
          · (repeat' apply And.intro) <;> (intros; first | exact trivial | exact rfl | omega | exact u8_lo _ | exact u8_hi _ | exact u8_in64 _ | exact u8_in63 _ | (simp only [inR, IntKind.bits]; omega) | (simp [inR, IntKind.bits]; done) | (simp [inR, IntKind.bits] at * <;> omega) | (simp_all; done) | (with_reducible assumption) | skip)
          refine G_lp [] (x + 1) ?ok ?wk2
          case ok =>
            have h3 : (a.getD (x : Int).toNat LK.bms.dft).l = (b.getD (x : Int).toNat LK.bms.dft).l := by
              simp only [Bool.or_eq_false_iff, Bool.not_eq_false', decide_eq_true_eq] at h
              exact h.2
            exact ⟨⟨hk', ht.2 (bm_ext c1 c2 h3)⟩, by omega⟩
          case wk2 => (repeat' apply And.intro) <;> (first | exact rfl | exact trivial | omega | refine sigEq ?_ | skip)
      · refine G_run tOk eok_rmaps 60 (fun _ => none) (fun bs => rfl) (fun bs => ?_) (fun bs => ?_)
        · (repeat' apply And.intro) <;> (intros; first | exact trivial | exact rfl | omega | exact u8_lo _ | exact u8_hi _ | exact u8_in64 _ | exact u8_in63 _ | (simp only [inR, IntKind.bits]; omega) | (simp [inR, IntKind.bits]; done) | (simp [inR, IntKind.bits] at * <;> omega) | (simp_all; done) | (with_reducible assumption) | skip)
        refine G_draw tOk eok_rmaps rfl (fun j => match j with | 11 => some false | 24 => some true | _ => none) 35 [0, 0, 3, 7, 15, 0, 0, 96, 224, 480, 1023, 2047, 4095, 4095, 16383, 32767, 65535, 4095, 4095, 397311, 921599, 1970175, 4194303, 8388607, 16777215, 33554431, 33554431, 134217727, 268435455, 536870911, 33554431, 33554431, 3254779903, 7549747199, 16139681791, 34359738367, 68719476735, 137438953471] [] rfl (by decide +kernel) (fun bs => rfl) (fun bs => ?_) (fun bs => ?_)
        · (repeat' apply And.intro) <;> (intros; first | exact trivial | exact rfl | omega | exact u8_lo _ | exact u8_hi _ | exact u8_in64 _ | exact u8_in63 _ | (simp only [inR, IntKind.bits]; omega) | (simp [inR, IntKind.bits]; done) | (simp [inR, IntKind.bits] at * <;> omega) | (simp_all; done) | (with_reducible assumption) | skip)
          all_goals (simp [c1, c2]; done)
        refine G_run tOk eok_rmaps 60 (fun j => match j with | 11 => some false | 24 => some true | _ => none) (fun bs => rfl) (fun bs => by (repeat' apply And.intro) <;> (intros; first | exact trivial | exact rfl | omega | exact u8_lo _ | exact u8_hi _ | exact u8_in64 _ | exact u8_in63 _ | (simp only [inR, IntKind.bits]; omega) | (simp [inR, IntKind.bits, c1, c2]; done) | (simp [inR, IntKind.bits, c1, c2] at * <;> omega) | (simp_all; done) | (with_reducible assumption) | skip)) (fun bs => ?_)
        refine G_thn rfl rfl ?hb1 ?_
        case hb1 => simp [c1, c2]
        refine G_run tOk eok_rmaps 60 (fun _ => none) (fun bs => rfl) (fun bs => ?_) (fun bs => ?_)
        · (repeat' apply And.intro) <;> (intros; first | exact trivial | exact rfl | omega | exact u8_lo _ | exact u8_hi _ | exact u8_in64 _ | exact u8_in63 _ | (simp only [inR, IntKind.bits]; omega) | (simp [inR, IntKind.bits]; done) | (simp [inR, IntKind.bits] at * <;> omega) | (simp_all; done) | (with_reducible assumption) | skip)
        have hd : decide (a = b) = false := by
          simp only [decide_eq_false_iff_not]
          rintro rfl; exact c2 rfl
        exact G_ret tOk hM0 rfl rfl ⟨trivial, trivial⟩ hd.symm
    · refine G_run tOk eok_rmaps 60 (fun _ => none) (fun bs => rfl) (fun bs => ?_) (fun bs => ?_)
      · (repeat' apply And.intro) <;> (intros; first | exact trivial | exact rfl | omega | exact u8_lo _ | exact u8_hi _ | exact u8_in64 _ | exact u8_in63 _ | (simp only [inR, IntKind.bits]; omega) | (simp [inR, IntKind.bits]; done) | (simp [inR, IntKind.bits] at * <;> omega) | (simp_all; done) | (with_reducible assumption) | skip)
      refine G_draw tOk eok_rmaps rfl (fun j => match j with | 11 => some true | 24 => some true | _ => none) 35 [0, 0, 3, 7, 15, 0, 0, 96, 224, 480, 1023, 2047, 4095, 4095, 16383, 32767, 65535, 4095, 4095, 397311, 921599, 1970175, 4194303, 8388607, 16777215, 33554431, 33554431, 134217727, 268435455, 536870911, 33554431, 33554431, 3254779903, 7549747199, 16139681791, 34359738367, 68719476735, 137438953471] [] rfl (by decide +kernel) (fun bs => rfl) (fun bs => ?_) (fun bs => ?_)
      · (repeat' apply And.intro) <;> (intros; first | exact trivial | exact rfl | omega | exact u8_lo _ | exact u8_hi _ | exact u8_in64 _ | exact u8_in63 _ | (simp only [inR, IntKind.bits]; omega) | (simp [inR, IntKind.bits]; done) | (simp [inR, IntKind.bits] at * <;> omega) | (simp_all; done) | (with_reducible assumption) | skip)
        all_goals (simp [c1]; done)
      refine G_run tOk eok_rmaps 60 (fun j => match j with | 11 => some true | 24 => some true | _ => none) (fun bs => rfl) (fun bs => by (repeat' apply And.intro) <;> (intros; first | exact trivial | exact rfl | omega | exact u8_lo _ | exact u8_hi _ | exact u8_in64 _ | exact u8_in63 _ | (simp only [inR, IntKind.bits]; omega) | (simp [inR, IntKind.bits, c1]; done) | (simp [inR, IntKind.bits, c1] at * <;> omega) | (simp_all; done) | (with_reducible assumption) | skip)) (fun bs => ?_)
      refine G_thn rfl rfl ?hb2 ?_
      case hb2 => simp [c1]
      refine G_run tOk eok_rmaps 60 (fun _ => none) (fun bs => rfl) (fun bs => ?_) (fun bs => ?_)
      · (repeat' apply And.intro) <;> (intros; first | exact trivial | exact rfl | omega | exact u8_lo _ | exact u8_hi _ | exact u8_in64 _ | exact u8_in63 _ | (simp only [inR, IntKind.bits]; omega) | (simp [inR, IntKind.bits]; done) | (simp [inR, IntKind.bits] at * <;> omega) | (simp_all; done) | (with_reducible assumption) | skip)
      have hd : decide (a = b) = false := by
        simp only [decide_eq_false_iff_not]
        rintro rfl; exact c1 rfl
      exact G_ret tOk hM0 rfl rfl ⟨trivial, trivial⟩ hd.symm
  · have hk' : x = a.length := by omega
    subst hk'
    refine G_run tOk eok_rmaps 60 (fun _ => none) (fun bs => rfl) (fun bs => ?_) (fun bs => ?_)
    · (repeat' apply And.intro) <;> (intros; first | exact trivial | exact rfl | omega | exact u8_lo _ | exact u8_hi _ | exact u8_in64 _ | exact u8_in63 _ | (simp only [inR, IntKind.bits]; omega) | (simp [inR, IntKind.bits]; done) | (simp [inR, IntKind.bits] at * <;> omega) | (simp_all; done) | (with_reducible assumption) | skip)
    have hd : decide (a = b) = true := by
      simp only [decide_eq_true_eq]
      rw [List.take_length, hlm, List.take_length] at hr; exact hr
    exact G_ret tOk hM0 rfl rfl ⟨trivial, trivial⟩ hd.symm
def rmaps_s : FSpec
  | [.c (.pv (.lst .bms a)), .c (.pv (.lst .bms b))] => some ((BmOk a) ∧ (BmOk b), false, .x (.c (bv (decide (a = b)))))
  | _ => none
theorem rmaps_s_ok : SpecOk Try.prog 44 rmaps_s := by
  intro args pre sh rv h hp; unfold rmaps_s at h; split at h
  · cases h; obtain ⟨ha, hb⟩ := hp; exact rmaps_fn _ _ ha hb
  · cases h
def psi_rmaps : FuncId → Option FSpec := psiCons 44 rmaps_s psi_rsize
theorem psi_rmaps_ok : PsiFn Try.prog psi_rmaps := psiCons_ok rmaps_s_ok psi_rsize_ok
end Go.Proofs.Ytgobmfkffhomaaa
