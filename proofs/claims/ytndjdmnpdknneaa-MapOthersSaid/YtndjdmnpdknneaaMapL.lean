import Derived.Test.YtndjdmnpdknneaaMapK
import Derived.Test.YtndjdmnpdknneaaMtQ4
set_option linter.unusedSimpArgs false
set_option linter.unusedVariables false
namespace Go.Proofs.Ytndjdmnpdknneaa
open Go.Mt

theorem letN_false {l : List Bitmap} : ∀ {k : Nat}, letN l k = false → ∀ i, i < k → badB (l.getD i LK.bms.dft) = false := by
  intro k
  induction k with
  | zero => intro _ i h; omega
  | succ k ih =>
    intro h i hi
    simp only [letN, Bool.or_eq_false_iff] at h
    by_cases e : i = k
    · subst e; exact h.2
    · exact ih h.1 i (by omega)
structure LetOk (l : List Bitmap) : Prop where
  len : l.length ≤ 30
  each : ∀ b ∈ l, b.l.length ≤ 300 ∧ rightB b.l = true
theorem let_ok {l : List Bitmap} (h : letB l = false) : LetOk l := by
  unfold letB at h
  simp only [Bool.or_eq_false_iff, decide_eq_false_iff_not] at h
  have hlen : l.length ≤ 30 := by omega
  refine ⟨hlen, fun b hb => ?_⟩
  obtain ⟨i, hi⟩ := List.getElem?_of_mem hb
  have hlt := (List.getElem?_eq_some_iff.1 hi).1
  have := letN_false h.1 i (by omega)
  have e : l.getD i LK.bms.dft = b := by simp [List.getD, hi]
  rw [e] at this
  simp only [badB, Bool.or_eq_false_iff, decide_eq_false_iff_not, Bool.not_eq_false'] at this
  exact ⟨by omega, this.2⟩
theorem LetOk.bm {l : List Bitmap} (h : LetOk l) : BmOk l := ⟨by have := h.len; omega, fun b hb => by have := (h.each b hb).1; omega⟩
theorem rightL_b {l : List Span} (h : rightB l = true) : rightL l = l := by unfold rightL; rw [if_pos h]
theorem tch_none {l : List Bitmap} (h : LetOk l) : l.map (tch ⟨0, 0⟩) = l := by
  have : ∀ b ∈ l, tch ⟨0, 0⟩ b = b := by
    intro b hb
    unfold tch
    split
    · rw [addL_none, rightL_b (h.each b hb).2]
    · rfl
  rw [List.map_congr_left this, List.map_id']
theorem BmOk.nil : BmOk [] := ⟨by decide, by simp⟩
theorem BmOk.setT {l : List Bitmap} (h : BmOk l) (i : Nat) {x : Bitmap} (hx : x.l.length ≤ 100000) : BmOk (l.set i x) := by
  refine ⟨by rw [List.length_set]; exact h.len, fun b hb => ?_⟩
  rcases List.mem_or_eq_of_mem_set hb with hb | rfl
  · exact h.each b hb
  · exact hx
theorem BmOk.mp {l : List Bitmap} (h : BmOk l) (hl : l.length ≤ 30) (nm : List UInt8) : BmOk (mpL l nm) := by
  unfold mpL
  split
  · refine ⟨by simp; omega, fun b hb => ?_⟩
    rcases List.mem_append.1 hb with hb | hb
    · exact h.each b hb
    · simp at hb; subst hb; simp
  · exact BmOk.nil
theorem BmOk.dr {l : List Bitmap} (h : BmOk l) (nm : List UInt8) : BmOk (drL l nm) := by
  have hl := h.len
  unfold drL
  split
  · exact BmOk.nil
  · refine ⟨by simp; omega, fun b hb => ?_⟩
    rcases List.mem_append.1 hb with hb | hb
    · exact h.each b (List.mem_of_mem_take hb)
    · exact h.each b (List.mem_of_mem_drop hb)
theorem BmOk.trn {l : List Bitmap} (h : BmOk l) (nm : List UInt8) {f : Bitmap → Bitmap} (hf : ∀ b, b.l.length ≤ 100000 → (f b).l.length ≤ 100000) : BmOk (trnL l nm f) := by
  unfold trnL
  split
  · exact BmOk.nil
  · exact h.setT _ (hf _ (h.get _))
theorem LetOk.getL {l : List Bitmap} (h : LetOk l) (i : Nat) : (l.getD i LK.bms.dft).l.length ≤ 300 ∧ rightB (l.getD i LK.bms.dft).l = true := by
  by_cases hi : i < l.length
  · exact h.each _ (mem_getD _ hi)
  · have e : l.getD i LK.bms.dft = ⟨[], false, []⟩ := by simp [List.getD, List.getElem?_eq_none (Nat.le_of_not_lt hi)]; rfl
    rw [e]; exact ⟨by simp, rfl⟩
theorem mg_same {l : List Bitmap} (h : LetOk l) (nm ot : List UInt8) : mgL mrgP l nm ot = mgL mrgR l nm ot := by
  unfold mgL
  split
  · rfl
  · refine set_ext (bm_ext rfl rfl ?_)
    simp only [mrgP, mrgR, rightL_b (h.getL _).2]
theorem BmOk.mg {l : List Bitmap} (h : LetOk l) (nm ot : List UInt8) : BmOk (mgL mrgR l nm ot) := by
  unfold mgL
  split
  · exact BmOk.nil
  · refine h.bm.setT _ ?_
    simp only [mrgR]
    have h1 := (h.getL (plc l nm).toNat).1
    have h2 := (h.getL (plc l ot).toNat).1
    split
    · have := addA_len (l.getD (plc l nm).toNat LK.bms.dft).l (l.getD (plc l ot).toNat LK.bms.dft).l _ (Nat.le_refl _)
      omega
    · omega
theorem BmOk.mapT {l : List Bitmap} (h : LetOk l) {f : Bitmap → Bitmap} (hf : ∀ b, b.l.length ≤ 300 → (f b).l.length ≤ 100000) : BmOk (l.map f) := by
  refine ⟨by rw [List.length_map]; have := h.len; omega, fun b hb => ?_⟩
  obtain ⟨c, hc, rfl⟩ := List.mem_map.1 hb
  exact hf c (h.each c hc).1
theorem tch_len (s : Span) (b : Bitmap) (h : b.l.length ≤ 300) : (tch s b).l.length ≤ 100000 := by
  unfold tch
  split
  · have := addL_len b.l s; simp only; omega
  · omega
theorem siz_len (w n : Int) (b : Bitmap) (h : b.l.length ≤ 300) : (siz w n b).l.length ≤ 100000 := by
  have h1 := subL_len b.l ⟨n, 1073741824⟩
  have h2 := addL_len (subL b.l ⟨n, 1073741824⟩) ⟨w, n⟩
  unfold siz
  split <;> simp only <;> omega
theorem BmOk.sz {l : List Bitmap} (h : LetOk l) (w n : Int) : BmOk (sizL l w n) := by
  unfold sizL
  split
  · exact h.bm
  · exact BmOk.mapT h (fun b hb => siz_len w n b hb)

def env_fturns : Env := ⟨T, psi_awake, pspNil, psc_del, 171, [], none, true⟩
theorem eok_fturns : PsiOk Try.prog env_fturns := ⟨psi_awake_ok, pspNil_ok, psc_del_ok⟩
theorem fturns_fn (l : List Bitmap) (nm : List UInt8) (ot : List UInt8) (on : Bool) (hl : l.length ≤ 9223372036854775807) (hn : nm.length ≤ 9223372036854775807) (ho : ot.length ≤ 9223372036854775807) : Ctr Try.prog 8 false [lst .bms l, str nm, str ot, bool on] (.x (.c (bv true))) := by
  refine Ctr_intro (E := env_fturns) Try.func8 rfl (by decide) rfl rfl (fun M0 W hM0 => ?_)
  refine G_run tOk eok_fturns 60 (fun _ => none) (fun bs => rfl) (fun bs => ?_) (fun bs => ?_)
  · (repeat' apply And.intro) <;> (intros; first | exact trivial | exact rfl | omega | exact u8_lo _ | exact u8_hi _ | exact u8_in64 _ | exact u8_in63 _ | (simp only [inR, IntKind.bits]; omega) | (simp [inR, IntKind.bits]; done) | (simp [inR, IntKind.bits] at * <;> omega) | (simp_all; done) | (with_reducible assumption) | skip)
  refine G_cond (b := (letB l || decide (1000 < (nm.length : Int))) || decide (1000 < (ot.length : Int))) rfl rfl (fun h => ?_) (fun h => ?_)
  · refine G_run tOk eok_fturns 60 (fun _ => none) (fun bs => rfl) (fun bs => ?_) (fun bs => ?_)
    · (repeat' apply And.intro) <;> (intros; first | exact trivial | exact rfl | omega | exact u8_lo _ | exact u8_hi _ | exact u8_in64 _ | exact u8_in63 _ | (simp only [inR, IntKind.bits]; omega) | (simp [inR, IntKind.bits]; done) | (simp [inR, IntKind.bits] at * <;> omega) | (simp_all; done) | (with_reducible assumption) | skip)
    exact G_ret tOk hM0 rfl rfl ⟨trivial, trivial⟩ rfl
  simp only [Bool.or_eq_false_iff, decide_eq_false_iff_not] at h
  obtain ⟨⟨h1, h2⟩, h3⟩ := h
  have hn1 : nm.length ≤ 1000 := by omega
  have ho1 : ot.length ≤ 1000 := by omega
  have hk := let_ok h1
  have b0 := hk.bm
  have hw := tch_none hk
  have hmg := mg_same hk nm ot
  have b1 := b0.mp hk.len nm
  have b2 := b0.dr nm
  have b3 : BmOk (trnL l nm (fOn on)) := b0.trn nm (fun b hb => hb)
  have b4 : BmOk (trnL l nm fClr) := b0.trn nm (fun b hb => by simp)
  have b5 := BmOk.mg hk nm ot
  have b6 : BmOk (mgL mrgP l nm ot) := by rw [hmg]; exact b5
  have b7 : BmOk (l.map (tch ⟨0, 0⟩)) := by rw [hw]; exact b0
  refine G_run tOk eok_fturns 60 (fun _ => some true) (fun bs => rfl) (fun bs => ?_) (fun bs => ?_)
  · (repeat' apply And.intro) <;> (intros; first | exact trivial | exact rfl | omega | exact u8_lo _ | exact u8_hi _ | exact u8_in64 _ | exact u8_in63 _ | (simp only [inR, IntKind.bits]; omega) | (simp [inR, IntKind.bits]; done) | (simp [inR, IntKind.bits] at * <;> omega) | (simp_all; done) | (with_reducible assumption) | skip)
    all_goals first | (simp [hmg, hw]; done) | skip
  refine G_ret tOk hM0 rfl rfl ⟨trivial, trivial⟩ ?_
  conv => whnf
  simp [hmg, hw]

def fturns_s : FSpec
  | [.c (.pv (.lst .bms l)), .c (.pv (.val (.string ⟨⟨nm⟩⟩))), .c (.pv (.val (.string ⟨⟨ot⟩⟩))), .c (.pv (.val (.bool on)))] => some ((l.length ≤ 9223372036854775807) ∧ (nm.length ≤ 9223372036854775807) ∧ (ot.length ≤ 9223372036854775807), false, .x (.c (bv true)))
  | _ => none
theorem fturns_s_ok : SpecOk Try.prog 8 fturns_s := by
  intro args pre sh rv h hp; unfold fturns_s at h; split at h
  · cases h; obtain ⟨hl, hn, ho⟩ := hp; exact fturns_fn _ _ _ _ hl hn ho
  · cases h
def psi_fturns : FuncId → Option FSpec := psiCons 8 fturns_s psi_awake
theorem psi_fturns_ok : PsiFn Try.prog psi_fturns := psiCons_ok fturns_s_ok psi_awake_ok
def env_ftouches : Env := ⟨T, psi_fturns, pspNil, psc_del, 42, [], none, true⟩
theorem eok_ftouches : PsiOk Try.prog env_ftouches := ⟨psi_fturns_ok, pspNil_ok, psc_del_ok⟩
theorem ftouches_fn (l : List Bitmap) (s0 : Int) (s1 : Int) (w : Int) (n : Int) (hl : l.length ≤ 9223372036854775807) : Ctr Try.prog 6 false [lst .bms l, .g [.pv (.val (.int .i64 s0)), .pv (.val (.int .i64 s1))], int .i64 w, int .i64 n] (.x (.c (bv true))) := by
  refine Ctr_intro (E := env_ftouches) Try.func6 rfl (by decide) rfl rfl (fun M0 W hM0 => ?_)
  refine G_run tOk eok_ftouches 60 (fun _ => none) (fun bs => rfl) (fun bs => ?_) (fun bs => ?_)
  · (repeat' apply And.intro) <;> (intros; first | exact trivial | exact rfl | omega | exact u8_lo _ | exact u8_hi _ | exact u8_in64 _ | exact u8_in63 _ | (simp only [inR, IntKind.bits]; omega) | (simp [inR, IntKind.bits]; done) | (simp [inR, IntKind.bits] at * <;> omega) | (simp_all; done) | (with_reducible assumption) | skip)
  refine G_cond (b := letB l) rfl rfl (fun h => ?_) (fun h => ?_)
  · refine G_run tOk eok_ftouches 60 (fun _ => none) (fun bs => rfl) (fun bs => ?_) (fun bs => ?_)
    · (repeat' apply And.intro) <;> (intros; first | exact trivial | exact rfl | omega | exact u8_lo _ | exact u8_hi _ | exact u8_in64 _ | exact u8_in63 _ | (simp only [inR, IntKind.bits]; omega) | (simp [inR, IntKind.bits]; done) | (simp [inR, IntKind.bits] at * <;> omega) | (simp_all; done) | (with_reducible assumption) | skip)
    exact G_ret tOk hM0 rfl rfl ⟨trivial, trivial⟩ rfl
  have hk := let_ok h
  have b0 := hk.bm
  have hw := tch_none hk
  have b1 : BmOk (l.map (tch ⟨s0, s1⟩)) := BmOk.mapT hk (fun b hb => tch_len _ b hb)
  have b2 := BmOk.sz hk w n
  have b7 : BmOk (l.map (tch ⟨0, 0⟩)) := by rw [hw]; exact b0
  refine G_run tOk eok_ftouches 60 (fun _ => none) (fun bs => rfl) (fun bs => ?_) (fun bs => ?_)
  · (repeat' apply And.intro) <;> (intros; first | exact trivial | exact rfl | omega | exact u8_lo _ | exact u8_hi _ | exact u8_in64 _ | exact u8_in63 _ | (simp only [inR, IntKind.bits]; omega) | (simp [inR, IntKind.bits]; done) | (simp [inR, IntKind.bits] at * <;> omega) | (simp_all; done) | (with_reducible assumption) | skip)
  refine G_nx 2 rfl ?_
  refine G_draw tOk eok_ftouches rfl (fun _ => some true) 21 [0, 0, 3, 0, 0, 31, 63, 127, 255, 255, 255, 2047, 255, 255, 255, 32767, 65535, 131071, 262143, 524287, 524287, 2097151, 4194303, 8388607, 16777215, 33554431, 67108863] [] rfl (by decide +kernel) (fun bs => rfl) (fun bs => ?_) (fun bs => ?_)
  · (repeat' apply And.intro) <;> (intros; first | exact trivial | exact rfl | omega | exact u8_lo _ | exact u8_hi _ | exact u8_in64 _ | exact u8_in63 _ | (simp only [inR, IntKind.bits]; omega) | (simp [inR, IntKind.bits]; done) | (simp [inR, IntKind.bits] at * <;> omega) | (simp_all; done) | (with_reducible assumption) | skip)
    all_goals first | (simp [hw]; done) | skip
  refine G_run tOk eok_ftouches 60 (fun _ => some true) (fun bs => rfl) (fun bs => by (repeat' apply And.intro) <;> (intros; first | exact trivial | exact rfl | omega | exact u8_lo _ | exact u8_hi _ | exact u8_in64 _ | exact u8_in63 _ | (simp only [inR, IntKind.bits]; omega) | (simp [inR, IntKind.bits, hw]; done) | (simp [inR, IntKind.bits, hw] at * <;> omega) | (simp_all; done) | (with_reducible assumption) | skip)) (fun bs => ?_)
  refine G_ret tOk hM0 rfl rfl ⟨trivial, trivial⟩ ?_
  conv => whnf
  simp [hw]
def ftouches_s : FSpec
  | [.c (.pv (.lst .bms l)), .g [.pv (.val (.int .i64 s0)), .pv (.val (.int .i64 s1))], .c (.pv (.val (.int .i64 w))), .c (.pv (.val (.int .i64 n)))] => some ((l.length ≤ 9223372036854775807), false, .x (.c (bv true)))
  | _ => none
theorem ftouches_s_ok : SpecOk Try.prog 6 ftouches_s := by
  intro args pre sh rv h hp; unfold ftouches_s at h; split at h
  · cases h; have hl := hp; exact ftouches_fn _ _ _ _ _ hl
  · cases h
def psi_ftouches : FuncId → Option FSpec := psiCons 6 ftouches_s psi_fturns
theorem psi_ftouches_ok : PsiFn Try.prog psi_ftouches := psiCons_ok ftouches_s_ok psi_fturns_ok
end Go.Proofs.Ytndjdmnpdknneaa
