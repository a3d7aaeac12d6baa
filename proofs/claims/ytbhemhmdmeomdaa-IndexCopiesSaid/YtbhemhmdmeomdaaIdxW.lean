import Derived.Test.YtbhemhmdmeomdaaIdxV
import Derived.Test.YtbhemhmdmeomdaaMtQ4
set_option linter.unusedSimpArgs false
set_option linter.unusedVariables false
set_option maxRecDepth 10000
namespace Go.Proofs.Ytbhemhmdmeomdaa
open Go.Mt Go.RowKit

def env_kclone : Env := ⟨T, psi_iheavy, pspNil, psc_del, 8, [], none, true⟩
theorem eok_kclone : PsiOk Try.prog env_kclone := ⟨psi_iheavy_ok, pspNil_ok, psc_del_ok⟩
theorem kclone_fn (l : List Known) (hl : l.length ≤ 1000000) : Ctr Try.prog 27 false [lst .knw l] (.o 58 .knw l) := by
  refine Ctr_intro (E := env_kclone) Try.func27 rfl (by decide) rfl rfl (fun M0 W hM0 => ?_)
  refine G_run tOk eok_kclone 60 (fun _ => none) (fun bs => rfl) (fun bs => ?_) (fun bs => ?_)
  · (repeat' apply And.intro) <;> (intros; first | exact trivial | exact rfl | omega | exact u8_lo _ | exact u8_hi _ | exact u8_in64 _ | exact u8_in63 _ | (simp only [inR, IntKind.bits]; omega) | (simp [inR, IntKind.bits]; done) | (simp [inR, IntKind.bits] at * <;> omega) | (simp_all; done) | (with_reducible assumption) | skip)
  refine G_cond rfl rfl (fun h => ?_) (fun h => ?_)
  · have e := nilB_nil h
    subst e
    refine G_run tOk eok_kclone 60 (fun _ => none) (fun bs => rfl) (fun bs => ?_) (fun bs => ?_)
    · (repeat' apply And.intro) <;> (intros; first | exact trivial | exact rfl | omega | exact u8_lo _ | exact u8_hi _ | exact u8_in64 _ | exact u8_in63 _ | (simp only [inR, IntKind.bits]; omega) | (simp [inR, IntKind.bits]; done) | (simp [inR, IntKind.bits] at * <;> omega) | (simp_all; done) | (with_reducible assumption) | skip)
    exact G_ret tOk hM0 rfl rfl ⟨trivial, trivial⟩ rfl
  · refine G_run tOk eok_kclone 60 (fun _ => none) (fun bs => rfl) (fun bs => ?_) (fun bs => ?_)
    · (repeat' apply And.intro) <;> (intros; first | exact trivial | exact rfl | omega | exact u8_lo _ | exact u8_hi _ | exact u8_in64 _ | exact u8_in63 _ | (simp only [inR, IntKind.bits]; omega) | (simp [inR, IntKind.bits]; done) | (simp [inR, IntKind.bits] at * <;> omega) | (simp_all; done) | (with_reducible assumption) | skip)
    exact G_ret tOk hM0 rfl rfl ⟨trivial, trivial⟩ ⟨rfl, rfl, rfl, sigEq (List.nil_append l)⟩

def kclone_s : FSpec
  | [.c (.pv (.lst .knw l))] => some ((l.length ≤ 1000000), false, .o 58 .knw l)
  | _ => none
theorem kclone_s_ok : SpecOk Try.prog 27 kclone_s := by
  intro args pre sh rv h hp; unfold kclone_s at h; split at h
  · cases h; have hl := hp; exact kclone_fn _ hl
  · cases h
def psi_kclone : FuncId → Option FSpec := psiCons 27 kclone_s psi_iheavy
theorem psi_kclone_ok : PsiFn Try.prog psi_kclone := psiCons_ok kclone_s_ok psi_iheavy_ok
theorem cl_walk (x : Int) (v0 : Value) (w : World) (b : Nat) (hb : w.heap[b]? = some (.cells #[v0, .int .i64 x] 54 (0, 0))) :
    Calls Try.prog 29 #[.pointer (some ⟨b, 1, none⟩)] w fun e w' => e = .returned (.int .i64 x) ∧ w' = w := by
  have hc : w.cell? ⟨b, 1, none⟩ = some (.int .i64 x) := by simp [World.cell?, hb]
  have hld := run_call_load (P := Try.prog) Try.func35 (by kernel_rfl) (by kernel_rfl) (by kernel_rfl) .i64 (by kernel_rfl) hc
  go_enter Try.func29, Try.ntmps29
  go_wp2
  go_ret
  exact ⟨rfl, rfl⟩
theorem cs_walk (x d : Int) (v0 : Value) (w : World) (b : Nat) (hb : w.heap[b]? = some (.cells #[v0, .int .i64 x] 54 (0, 0))) :
    Calls Try.prog 28 #[.pointer (some ⟨b, 1, none⟩), .int .i64 d] w fun e w' => e = .returned (.tuple #[]) ∧ w' = w.setCell ⟨b, 1, none⟩ (.int .i64 d) := by
  have hc : w.cell? ⟨b, 1, none⟩ = some (.int .i64 x) := by simp [World.cell?, hb]
  have hz : w.frozen? ⟨b, 1, none⟩ = false := by simp [World.frozen?, hb]
  have hst := run_call_store (P := Try.prog) Try.func34 (by kernel_rfl) (by kernel_rfl) (by kernel_rfl) (by kernel_rfl) (k := .i64) (y := d) hc hz
  go_enter Try.func28, Try.ntmps28
  go_wp2
  go_end0
  exact ⟨rfl, rfl⟩
theorem hload (b : Nat) (v : Value) (c : Int) (l : List Known) : CtrH Try.prog 29 [.c (.ptr 0 b 1)] [.blk b 54 [.own 1 v, .pv (i64 c)], .own v 58 .knw l]
    (fun _ : Unit => True) (fun _ => pv (i64 c)) (fun _ => [.blk b 54 [.own 1 v, .pv (i64 c)], .own v 58 .knw l]) := by
  refine ⟨⟨_, Try.func29, rfl, by decide⟩, fun M w vs hS hra => ?_⟩
  obtain ⟨q1, q2, us, q3, q4⟩ := hS.ok 0 _ rfl
  have hus := two_cells q4; subst hus
  obtain ⟨vs⟩ := vs
  obtain ⟨h1, h2⟩ := hra
  match vs, h1, h2 with
  | [u0], h1, h2 =>
    have e0 := h2 0 _ u0 rfl rfl
    cases e0 with | c e0 => cases e0 with | ptr =>
    refine (cl_walk c v w b q3).mono fun e w' ⟨he, hw⟩ => ⟨_, M, (), he, Mem.ext_refl _ _, trivial, .c (.pv (.val rfl)), ?_⟩
    rw [hw]; exact hS
theorem hstore (b : Nat) (v : Value) (c d : Int) (l : List Known) : CtrH Try.prog 28 [.c (.ptr 0 b 1), int .i64 d] [.blk b 54 [.own 1 v, .pv (i64 c)], .own v 58 .knw l]
    (fun _ : Unit => True) (fun _ => .t []) (fun _ => [.blk b 54 [.own 1 v, .pv (i64 d)], .own v 58 .knw l]) := by
  refine ⟨⟨_, Try.func28, rfl, by decide⟩, fun M w vs hS hra => ?_⟩
  obtain ⟨q1, q2, us, q3, q4⟩ := hS.ok 0 _ rfl
  have hus := two_cells q4; subst hus
  have hv := own_one (M := M) (w := w) (ty := 58) (k := .knw) (l := l) (hS.ok 1 _ rfl)
  obtain ⟨vs⟩ := vs
  obtain ⟨h1, h2⟩ := hra
  match vs, h1, h2 with
  | [u0, u1], h1, h2 =>
    have e0 := h2 0 _ u0 rfl rfl
    have e1 := h2 1 _ u1 rfl rfl
    cases e0 with | c e0 => cases e0 with | ptr =>
    have := e1.val_inv; subst this
    refine (cs_walk c d v w b q3).mono fun e w' ⟨he, hw⟩ => ⟨_, M, (), he, Mem.ext_refl _ _, trivial, .t rfl (by simp), ?_⟩
    have hsr := setCell_eq_setRow w b 1 #[v, .int .i64 c] 54 (0, 0) (.int .i64 d) q3
    rw [hw, hsr]
    refine hS.step (row := some b) (grownBy_setRow w b _) (fun b' hb' => by cases hb'; exact ⟨q1, q2⟩) (nn := 0) (xx := .blk b 54 [.own 1 v,   .pv (i64 d)]) (fun n x hn hx => ?_) rfl ⟨q1, q2, #[v, .int .i64 d], ?_, cells_two hv _⟩ (fun b' hb' => .inr hb')
    · match n, hn, hx with
      | 1, _, hx => cases hx; exact ⟨rfl, fun b' hb' => by cases hb'; exact hS.inj 0 1 _ _ b (by decide) rfl rfl rfl⟩
    · exact setRow_heap w b _ _ _ _ q3

def env_hcopy : Env := ⟨T, psi_kclone, pspNil, psc_del, 22, [], none, false⟩
theorem eok_hcopy : PsiOk Try.prog env_hcopy := ⟨psi_kclone_ok, pspNil_ok, psc_del_ok⟩
theorem hcopy (b : Nat) (v : Value) (c : Int) (l : List Known) (hl : l.length ≤ 1000) : CtrH Try.prog 16 [.c (.ptr 0 b 0)] (kH b v c l) (fun _ => True) (fun x : Nat × Value => .c (.ptr 2 x.1 0)) (fun x => kH b v c l ++ [.blk x.1 54 [.own 3 x.2, .pv (i64 c)], .own x.2 58 .knw l]) := by
  refine CtrH_intro (E := env_hcopy) Try.func16 rfl (by decide) rfl rfl (fun M0 W hM0 => ?_)
  refine G_run tOk eok_hcopy 60 (fun _ => none) (fun bs => rfl) (fun bs => ?_) (fun bs => ?_)
  · (repeat' apply And.intro) <;> (intros; first | exact trivial | exact rfl | omega | exact u8_lo _ | exact u8_hi _ | exact u8_in64 _ | exact u8_in63 _ | (simp only [inR, IntKind.bits]; omega) | (simp [inR, IntKind.bits]; done) | (simp [inR, IntKind.bits] at * <;> omega) | (simp_all; done) | (with_reducible assumption) | skip)
  refine G_els rfl rfl rfl ?_
  refine G_run tOk eok_hcopy 60 (fun _ => none) (fun bs => rfl) (fun bs => ?_) (fun bs => ?_)
  · (repeat' apply And.intro) <;> (intros; first | exact trivial | exact rfl | omega | exact u8_lo _ | exact u8_hi _ | exact u8_in64 _ | exact u8_in63 _ | (simp only [inR, IntKind.bits]; omega) | (simp [inR, IntKind.bits]; done) | (simp [inR, IntKind.bits] at * <;> omega) | (simp_all; done) | (with_reducible assumption) | skip)
  refine G_rawS 10 2 rfl rfl ?_
  refine G_run tOk eok_hcopy 60 (fun _ => none) (fun bs => rfl) (fun bs => ?_) (fun bs => ?_)
  · (repeat' apply And.intro) <;> (intros; first | exact trivial | exact rfl | omega | exact u8_lo _ | exact u8_hi _ | exact u8_in64 _ | exact u8_in63 _ | (simp only [inR, IntKind.bits]; omega) | (simp [inR, IntKind.bits]; done) | (simp [inR, IntKind.bits] at * <;> omega) | (simp_all; done) | (with_reducible assumption) | skip)
  refine G_linkB 3 0 2 rfl rfl rfl ?_
  refine G_wkBV (ns := [0, 1, 3, 2]) (fs := fun cb u => [(0, .c (.ptr 0 b 0)), (3, .c (.ptr 2 cb 0))]) (hs := fun cb u => kH b v c l ++ [.blk cb 54 [.own 3 u, .pv (i64 0)], .own u 58 .knw l]) ?b1 ?v1 rfl ?wk0 (fun cb u => ?_)
  case wk0 => (repeat' apply And.intro) <;> (first | exact rfl | exact trivial | omega | refine sigEq ?_ | skip)
  refine G_any rfl rfl _ rfl 8 rfl ?_
  refine GA_move 0 rfl rfl rfl rfl (by decide +kernel) rfl (by decide +kernel) rfl rfl ?_
  refine GA_nilc 1 rfl rfl rfl rfl (by decide +kernel) rfl (by decide +kernel) rfl rfl ?_
  refine GA_fld 2 tOk rfl rfl rfl rfl rfl rfl rfl (by decide +kernel) rfl (by decide +kernel) rfl rfl ?_
  refine GA_move 3 rfl rfl rfl rfl (by decide +kernel) rfl (by decide +kernel) rfl rfl ?_
  refine GA_nilc 4 rfl rfl rfl rfl (by decide +kernel) rfl (by decide +kernel) rfl rfl ?_
  refine GA_fld 5 tOk rfl rfl rfl rfl rfl rfl rfl (by decide +kernel) rfl (by decide +kernel) rfl rfl ?_
  refine GA_oneH 6 rfl ?_
  refine GO_callH [0, 1] id (hload b v c l) rfl rfl trivial rfl rfl rfl rfl (by decide) rfl rfl (fun x => rfl) (fun x _ => ?_)
  refine GA_oneH 7 rfl ?_
  refine GO_callH [2, 3] (fun n => n - 2) (hstore cb u 0 c l) rfl rfl trivial rfl rfl rfl rfl (by decide) rfl rfl (fun x => rfl) (fun x _ => ?_)
  refine GA_done rfl ?_
  refine G_run tOk eok_hcopy 60 (fun _ => none) (fun bs => rfl) (fun bs => ?_) (fun bs => ?_)
  · (repeat' apply And.intro) <;> (intros; first | exact trivial | exact rfl | omega | exact u8_lo _ | exact u8_hi _ | exact u8_in64 _ | exact u8_in63 _ | (simp only [inR, IntKind.bits]; omega) | (simp [inR, IntKind.bits]; done) | (simp [inR, IntKind.bits] at * <;> omega) | (simp_all; done) | (with_reducible assumption) | skip)
  refine G_retH rfl tOk rfl rfl ⟨trivial, trivial⟩ (cb, u) trivial [0, 1, 2, 3] id ?_ (by decide) rfl
  simp [oneA, renA, renC]
end Go.Proofs.Ytbhemhmdmeomdaa
