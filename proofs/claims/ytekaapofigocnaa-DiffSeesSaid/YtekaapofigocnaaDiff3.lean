import Derived.Test.YtekaapofigocnaaDiff2
set_option linter.unusedSimpArgs false
set_option linter.unusedVariables false
namespace Go.Proofs.Ytekaapofigocnaa
open Go.Mt

theorem rcd_step {l m : List Rcd} {x : Nat} (h : x < l.length) (h' : x < m.length) (e : l.take x = m.take x) :
    (l.take (x + 1) = m.take (x + 1)) ↔ ((l.getD x ⟨0, []⟩).at_ = (m.getD x ⟨0, []⟩).at_ ∧ (l.getD x ⟨0, []⟩).data = (m.getD x ⟨0, []⟩).data) := by
  rw [take_eq ⟨0, []⟩ e h h']
  constructor
  · intro h; rw [h]; exact ⟨rfl, rfl⟩
  · rintro ⟨h1, h2⟩
    cases hl : l.getD x ⟨0, []⟩; cases hm : m.getD x ⟨0, []⟩; rw [hl, hm] at h1 h2; simp at h1 h2; rw [h1, h2]
def env_records : Env := ⟨T, psi_rtake, pspNil, 43, []⟩
theorem eok_records : PsiOk Try.prog env_records := ⟨psi_rtake_ok, pspNil_ok⟩
theorem records_fn (l : List Rcd) (m : List Rcd) (hl : l.length ≤ 1000000000) (hm : m.length ≤ 1000000000) : Ctr Try.prog 14 false [lst .rcd l, lst .rcd m] (.x (.c (bv (decide (l = m))))) := by
  refine Ctr_intro (E := env_records) Try.func14 rfl (by decide) rfl rfl (fun M0 W hM0 => ?_)
  refine G_run tOk eok_records 60 (fun _ => none) (fun bs => rfl) (fun bs => ?_) (fun bs => ?_)
  · (repeat' apply And.intro) <;> (intros; first | exact trivial | exact rfl | omega | exact u8_lo _ | exact u8_hi _ | exact u8_in64 _ | exact u8_in63 _ | (simp only [inR, IntKind.bits]; omega) | (simp [inR, IntKind.bits]; done) | (simp [inR, IntKind.bits] at * <;> omega) | (simp_all; done) | skip)
  refine G_cond rfl rfl (fun h => ?_) (fun h => ?_)
  · refine G_run tOk eok_records 60 (fun _ => none) (fun bs => rfl) (fun bs => ?_) (fun bs => ?_)
    · (repeat' apply And.intro) <;> (intros; first | exact trivial | exact rfl | omega | exact u8_lo _ | exact u8_hi _ | exact u8_in64 _ | exact u8_in63 _ | (simp only [inR, IntKind.bits]; omega) | (simp [inR, IntKind.bits]; done) | (simp [inR, IntKind.bits] at * <;> omega) | (simp_all; done) | skip)
    have hb : decide (l = m) = false := by
      simp only [decide_eq_false_iff_not]; rintro rfl; simp at h
    exact G_ret tOk hM0 rfl rfl ⟨trivial, trivial⟩ hb.symm
  have hlm : l.length = m.length := by simp at h; omega
  clear h
  refine G_run tOk eok_records 60 (fun _ => none) (fun bs => rfl) (fun bs => ?_) (fun bs => ?_)
  · (repeat' apply And.intro) <;> (intros; first | exact trivial | exact rfl | omega | exact u8_lo _ | exact u8_hi _ | exact u8_in64 _ | exact u8_in63 _ | (simp only [inR, IntKind.bits]; omega) | (simp [inR, IntKind.bits]; done) | (simp [inR, IntKind.bits] at * <;> omega) | (simp_all; done) | skip)
  refine G_loop (fun x : Nat => [(0, lst .rcd l), (1, lst .rcd m), (5, int .i64 x)]) (fun x => []) (fun x => x ≤ l.length ∧ l.take x = m.take x) (fun x => l.length - x) rfl [] 0 ⟨Nat.zero_le _, rfl⟩ ?wk (fun x hx => ?_)
  case wk => (repeat' apply And.intro) <;> (first | exact rfl | exact trivial | omega | refine sigEq ?_ | skip)
  obtain ⟨hx, hr⟩ := hx
  refine G_run tOk eok_records 60 (fun _ => none) (fun bs => rfl) (fun bs => ?_) (fun bs => ?_)
  · (repeat' apply And.intro) <;> (intros; first | exact trivial | exact rfl | omega | exact u8_lo _ | exact u8_hi _ | exact u8_in64 _ | exact u8_in63 _ | (simp only [inR, IntKind.bits]; omega) | (simp [inR, IntKind.bits]; done) | (simp [inR, IntKind.bits] at * <;> omega) | (simp_all; done) | skip)
  refine G_if rfl rfl (fun hk => ?_) (fun hk => ?_)
  · have hk' : x < l.length := by omega
    have hst := rcd_step hk' (by omega) hr
    refine G_run tOk eok_records 60 (fun _ => none) (fun bs => rfl) (fun bs => ?_) (fun bs => ?_)
    · (repeat' apply And.intro) <;> (intros; first | exact trivial | exact rfl | omega | exact u8_lo _ | exact u8_hi _ | exact u8_in64 _ | exact u8_in63 _ | (simp only [inR, IntKind.bits]; omega) | (simp [inR, IntKind.bits]; done) | (simp [inR, IntKind.bits] at * <;> omega) | (simp_all; done) | skip)
    refine G_draw tOk eok_records rfl (fun _ => none) 24 [0, 0, 3, 7, 15, 0, 0, 96, 224, 480, 1023, 2047, 4095, 4095, 16383, 32767, 65535, 131071, 4095, 4095, 790527, 1839103, 3936255, 8130559, 16777215, 33554431] [] rfl (by decide +kernel) (fun bs => rfl) (fun bs => ?_) (fun bs => ?_)
    · (repeat' apply And.intro) <;> (intros; first | exact trivial | exact rfl | omega | exact u8_lo _ | exact u8_hi _ | exact u8_in64 _ | exact u8_in63 _ | (simp only [inR, IntKind.bits]; omega) | (simp [inR, IntKind.bits]; done) | (simp [inR, IntKind.bits] at * <;> omega) | (simp_all; done) | skip)
    refine G_run tOk eok_records 60 (fun _ => none) (fun bs => rfl) (fun bs => by (repeat' apply And.intro) <;> (intros; first | exact trivial | exact rfl | omega | exact u8_lo _ | exact u8_hi _ | exact u8_in64 _ | exact u8_in63 _ | (simp only [inR, IntKind.bits]; omega) | (simp [inR, IntKind.bits]; done) | (simp [inR, IntKind.bits] at * <;> omega) | (simp_all; done) | skip)) (fun bs => ?_)
    refine G_cond rfl rfl (fun h => ?_) (fun h => ?_)
    · refine G_run tOk eok_records 60 (fun _ => none) (fun bs => rfl) (fun bs => ?_) (fun bs => ?_)
      · (repeat' apply And.intro) <;> (intros; first | exact trivial | exact rfl | omega | exact u8_lo _ | exact u8_hi _ | exact u8_in64 _ | exact u8_in63 _ | (simp only [inR, IntKind.bits]; omega) | (simp [inR, IntKind.bits]; done) | (simp [inR, IntKind.bits] at * <;> omega) | (simp_all; done) | skip)
      have hb : decide (l = m) = false := by
        simp only [decide_eq_false_iff_not]; rintro rfl
        simp at h
      exact G_ret tOk hM0 rfl rfl ⟨trivial, trivial⟩ hb.symm
    · refine G_run tOk eok_records 60 (fun _ => none) (fun bs => rfl) (fun bs => ?_) (fun bs => ?_)
      · (repeat' apply And.intro) <;> (intros; first | exact trivial | exact rfl | omega | exact u8_lo _ | exact u8_hi _ | exact u8_in64 _ | exact u8_in63 _ | (simp only [inR, IntKind.bits]; omega) | (simp [inR, IntKind.bits]; done) | (simp [inR, IntKind.bits] at * <;> omega) | (simp_all; done) | skip)
      refine G_lp [] (x + 1) ?ok ?wk2
      case ok =>
        refine ⟨⟨hk', hst.2 ?_⟩, by omega⟩
        simp at h; exact h
      case wk2 => (repeat' apply And.intro) <;> (first | exact rfl | exact trivial | omega | refine sigEq ?_ | skip)
  · have hk' : x = l.length := by omega
    subst hk'
    refine G_run tOk eok_records 60 (fun _ => none) (fun bs => rfl) (fun bs => ?_) (fun bs => ?_)
    · (repeat' apply And.intro) <;> (intros; first | exact trivial | exact rfl | omega | exact u8_lo _ | exact u8_hi _ | exact u8_in64 _ | exact u8_in63 _ | (simp only [inR, IntKind.bits]; omega) | (simp [inR, IntKind.bits]; done) | (simp [inR, IntKind.bits] at * <;> omega) | (simp_all; done) | skip)
    have hb : decide (l = m) = true := by
      simp only [decide_eq_true_eq]
      rw [List.take_length, hlm, List.take_length] at hr; exact hr
    exact G_ret tOk hM0 rfl rfl ⟨trivial, trivial⟩ hb.symm

def records_s : FSpec
  | [.c (.pv (.lst .rcd l)), .c (.pv (.lst .rcd m))] => some ((l.length ≤ 1000000000) ∧ (m.length ≤ 1000000000), false, .x (.c (bv (decide (l = m)))))
  | _ => none
theorem records_s_ok : SpecOk Try.prog 14 records_s := by
  intro args pre sh rv h hp; unfold records_s at h; split at h
  · cases h; obtain ⟨hl, hm⟩ := hp; exact records_fn _ _ hl hm
  · cases h
def psi_records : FuncId → Option FSpec := psiCons 14 records_s psi_rtake
theorem psi_records_ok : PsiFn Try.prog psi_records := psiCons_ok records_s_ok psi_rtake_ok
theorem outerN_len {a : List UInt8} {w : Int} {l : List Span} (ha : a.length ≤ 100000) (hw : 1 ≤ w ∧ w ≤ 64) (hR : Rt l) : ∀ i, i ≤ l.length → (outerN a w l i).length ≤ 10000 * i
  | 0, _ => by simp [outerN]
  | i + 1, h => by
    have := outerN_len ha hw hR i (by omega)
    have hc := cntN_le (a := a) (w := w) (s := l.getD i ⟨0, 0⟩) (by omega) ha (rt_get hR h).1 (by omega)
    simp only [outerN, List.length_append, innerN_len]; omega
theorem takeL_len {a : List UInt8} {l : List Span} (c : Int) (ha : a.length ≤ 100000) (hl : l.length ≤ 1000) : (takeL a l c).length ≤ 10000000 := by
  unfold takeL
  by_cases h : ofE c = 0 ∧ rightB l = true
  · rw [if_pos h]
    have hc : 0 ≤ c ∧ c ≤ 6 := by
      by_cases hc : 0 ≤ c ∧ c ≤ 6
      · exact hc
      · have := h.1; unfold ofE at this; rw [if_pos (by omega)] at this; omega
    have := outerN_len ha (w := 2 ^ c.toNat) (by have := pow_c hc; omega) (right_iff.1 h.2) l.length (Nat.le_refl _)
    omega
  · rw [if_neg h]; simp
def env_ftakes : Env := ⟨T, psi_records, pspNil, 28, []⟩
theorem eok_ftakes : PsiOk Try.prog env_ftakes := ⟨psi_records_ok, pspNil_ok⟩
theorem ftakes_fn (a : List UInt8) (l : List Span) (c : Int)  : Ctr Try.prog 6 false [lst .byt a, lst .spn l, int .i64 c] (.x (.c (bv true))) := by
  refine Ctr_intro (E := env_ftakes) Try.func6 rfl (by decide) rfl rfl (fun M0 W hM0 => ?_)
  refine G_run tOk eok_ftakes 60 (fun _ => none) (fun bs => rfl) (fun bs => ?_) (fun bs => ?_)
  · (repeat' apply And.intro) <;> (intros; first | exact trivial | exact rfl | omega | exact u8_lo _ | exact u8_hi _ | exact u8_in64 _ | exact u8_in63 _ | (simp only [inR, IntKind.bits]; omega) | (simp [inR, IntKind.bits]; done) | (simp [inR, IntKind.bits] at * <;> omega) | (simp_all; done) | skip)
  refine G_cond rfl rfl (fun h => ?_) (fun h => ?_)
  · refine G_run tOk eok_ftakes 60 (fun _ => none) (fun bs => rfl) (fun bs => ?_) (fun bs => ?_)
    · (repeat' apply And.intro) <;> (intros; first | exact trivial | exact rfl | omega | exact u8_lo _ | exact u8_hi _ | exact u8_in64 _ | exact u8_in63 _ | (simp only [inR, IntKind.bits]; omega) | (simp [inR, IntKind.bits]; done) | (simp [inR, IntKind.bits] at * <;> omega) | (simp_all; done) | skip)
    exact G_ret tOk hM0 rfl rfl ⟨trivial, trivial⟩ rfl
  have hl2 : a.length ≤ 20000 ∧ l.length ≤ 300 := by simp at h; omega
  have hol := takeL_len (a := a) (l := l) c (by omega) (by omega)
  refine G_run tOk eok_ftakes 60 (fun _ => some true) (fun bs => rfl) (fun bs => ?_) (fun bs => ?_)
  · (repeat' apply And.intro) <;> (intros; first | exact trivial | exact rfl | omega | exact u8_lo _ | exact u8_hi _ | exact u8_in64 _ | exact u8_in63 _ | (simp only [inR, IntKind.bits]; omega) | (simp [inR, IntKind.bits]; done) | (simp [inR, IntKind.bits] at * <;> omega) | (simp_all; done) | skip)
  refine G_ret tOk hM0 rfl rfl ⟨trivial, trivial⟩ ?_
  conv => whnf
  simp
def ftakes_s : FSpec
  | [.c (.pv (.lst .byt a)), .c (.pv (.lst .spn l)), .c (.pv (.val (.int .i64 c)))] => some (True, false, .x (.c (bv true)))
  | _ => none
theorem ftakes_s_ok : SpecOk Try.prog 6 ftakes_s := by
  intro args pre sh rv h hp; unfold ftakes_s at h; split at h
  · cases h; exact ftakes_fn _ _ _ 
  · cases h
def psi_ftakes : FuncId → Option FSpec := psiCons 6 ftakes_s psi_records
theorem psi_ftakes_ok : PsiFn Try.prog psi_ftakes := psiCons_ok ftakes_s_ok psi_records_ok
end Go.Proofs.Ytekaapofigocnaa
