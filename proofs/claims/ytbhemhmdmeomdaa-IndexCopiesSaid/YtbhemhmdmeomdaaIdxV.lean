import Derived.Test.YtbhemhmdmeomdaaIdxU
set_option linter.unusedSimpArgs false
set_option linter.unusedVariables false
set_option maxRecDepth 10000
namespace Go.Proofs.Ytbhemhmdmeomdaa
open Go.Mt

/-- The index behind so many acts. -/
def deedsF (l0 : List Known) (l : List Deed) : Nat → List Known
  | 0 => l0
  | k + 1 => deedL (l.getD k LK.act.dft) (deedsF l0 l k)
theorem deedsF_len {l0 : List Known} (h : l0.length ≤ 64) (l : List Deed) : ∀ k, (deedsF l0 l k).length ≤ 64 := by
  intro k
  induction k with
  | zero => exact h
  | succ k ih => exact deedL_len _ ih

def env_iruns : Env := ⟨T, psi_iheavy, pspNil, psc_del, 29, [], none, true⟩
theorem eok_iruns : PsiOk Try.prog env_iruns := ⟨psi_iheavy_ok, pspNil_ok, psc_del_ok⟩
theorem iruns_fn (l : List Deed) (hl : l.length ≤ 9223372036854775807) : Ctr Try.prog 4 false [lst .act l] (.x (.c (bv true))) := by
  refine Ctr_intro (E := env_iruns) Try.func4 rfl (by decide) rfl rfl (fun M0 W hM0 => ?_)
  refine G_run tOk eok_iruns 60 (fun _ => none) (fun bs => rfl) (fun bs => ?_) (fun bs => ?_)
  · (repeat' apply And.intro) <;> (intros; first | exact trivial | exact rfl | omega | exact u8_lo _ | exact u8_hi _ | exact u8_in64 _ | exact u8_in63 _ | (simp only [inR, IntKind.bits]; omega) | (simp [inR, IntKind.bits]; done) | (simp [inR, IntKind.bits] at * <;> omega) | (simp_all; done) | (with_reducible assumption) | skip)
  refine G_cond rfl rfl (fun hv => ?_) (fun hv => ?_)
  · refine G_run tOk eok_iruns 60 (fun _ => none) (fun bs => rfl) (fun bs => ?_) (fun bs => ?_)
    · (repeat' apply And.intro) <;> (intros; first | exact trivial | exact rfl | omega | exact u8_lo _ | exact u8_hi _ | exact u8_in64 _ | exact u8_in63 _ | (simp only [inR, IntKind.bits]; omega) | (simp [inR, IntKind.bits]; done) | (simp [inR, IntKind.bits] at * <;> omega) | (simp_all; done) | (with_reducible assumption) | skip)
    exact G_ret tOk hM0 rfl rfl ⟨trivial, trivial⟩ rfl
  obtain ⟨hl150, hl200⟩ := hvB_false hv
  refine G_run tOk eok_iruns 60 (fun _ => none) (fun bs => rfl) (fun bs => ?_) (fun bs => ?_)
  · (repeat' apply And.intro) <;> (intros; first | exact trivial | exact rfl | omega | exact u8_lo _ | exact u8_hi _ | exact u8_in64 _ | exact u8_in63 _ | (simp only [inR, IntKind.bits]; omega) | (simp [inR, IntKind.bits]; done) | (simp [inR, IntKind.bits] at * <;> omega) | (simp_all; done) | (with_reducible assumption) | skip)
  refine G_nx 0 rfl ?_
  refine G_callH [] id hnew rfl trivial rfl rfl rfl rfl (by decide) rfl rfl (fun x => rfl) (fun x _ => ?_)
  obtain ⟨b, v⟩ := x
  dsimp only
  refine G_run tOk eok_iruns 60 (fun _ => none) (fun bs => rfl) (fun bs => ?_) (fun bs => ?_)
  · (repeat' apply And.intro) <;> (intros; first | exact trivial | exact rfl | omega | exact u8_lo _ | exact u8_hi _ | exact u8_in64 _ | exact u8_in63 _ | (simp only [inR, IntKind.bits]; omega) | (simp [inR, IntKind.bits]; done) | (simp [inR, IntKind.bits] at * <;> omega) | (simp_all; done) | (with_reducible assumption) | skip)
  refine G_els rfl rfl rfl ?_
  refine G_run tOk eok_iruns 60 (fun _ => none) (fun bs => rfl) (fun bs => ?_) (fun bs => ?_)
  · (repeat' apply And.intro) <;> (intros; first | exact trivial | exact rfl | omega | exact u8_lo _ | exact u8_hi _ | exact u8_in64 _ | exact u8_in63 _ | (simp only [inR, IntKind.bits]; omega) | (simp [inR, IntKind.bits]; done) | (simp [inR, IntKind.bits] at * <;> omega) | (simp_all; done) | (with_reducible assumption) | skip)
  refine G_ownB 2 0 74 rfl rfl ?_
  refine G_wkB (ns := [0, 1, 2, 3]) (fs := fun b2 => [(0, lst .act l), (3, .c (.ptr 0 b 0)), (4, .c (.ptr 2 b2 0)), (5, int .i64 0)]) (hs := fun b2 => xrH b v 0 b2 (.slice none 0 0) []) ?b1 rfl ?wk0 (fun b2 => ?_)
  case wk0 => (repeat' apply And.intro) <;> (first | exact rfl | exact trivial | omega | refine sigEq ?_ | skip)
  refine G_loop (fun x : Nat × Value × Int × Value => [(0, lst .act l), (3, .c (.ptr 0 b 0)), (4, .c (.ptr 2 b2 0)), (5, int .i64 x.1)]) (fun x => xrH b x.2.1 x.2.2.1 b2 x.2.2.2 (deedsF [] l x.1)) (fun x => x.1 ≤ l.length) (fun x => l.length - x.1) rfl [0, 1, 2, 3] (0, v, 0, .slice none 0 0) (Nat.zero_le _) ?wk (fun x hx => ?_)
  case wk => (repeat' apply And.intro) <;> (first | exact rfl | exact trivial | omega | refine sigEq ?_ | skip)
  obtain ⟨i, u, c, u2⟩ := x
  simp only at hx ⊢
  have hdl := deedsF_len (l0 := []) (by simp) l i
  refine G_run tOk eok_iruns 60 (fun _ => none) (fun bs => rfl) (fun bs => ?_) (fun bs => ?_)
  · (repeat' apply And.intro) <;> (intros; first | exact trivial | exact rfl | omega | exact u8_lo _ | exact u8_hi _ | exact u8_in64 _ | exact u8_in63 _ | (simp only [inR, IntKind.bits]; omega) | (simp [inR, IntKind.bits]; done) | (simp [inR, IntKind.bits] at * <;> omega) | (simp_all; done) | (with_reducible assumption) | skip)
  refine G_if rfl rfl (fun hk => ?_) (fun hk => ?_)
  · have hk' : i < l.length := by omega
    refine G_run tOk eok_iruns 60 (fun _ => none) (fun bs => rfl) (fun bs => ?_) (fun bs => ?_)
    · (repeat' apply And.intro) <;> (intros; first | exact trivial | exact rfl | omega | exact u8_lo _ | exact u8_hi _ | exact u8_in64 _ | exact u8_in63 _ | (simp only [inR, IntKind.bits]; omega) | (simp [inR, IntKind.bits]; done) | (simp [inR, IntKind.bits] at * <;> omega) | (simp_all; done) | (with_reducible assumption) | skip)
    refine G_nx 4 rfl ?_
    have hb := hl200 i hk'
    refine G_callH [0, 1, 2, 3] id (iact b u c b2 u2 (deedsF [] l i) (l.getD i LK.act.dft).act (l.getD i LK.act.dft).b (l.getD i LK.act.dft).e.kind (l.getD i LK.act.dft).e.start (l.getD i LK.act.dft).e.count (l.getD i LK.act.dft).e.size (l.getD i LK.act.dft).e.sum (by omega) hdl) rfl trivial rfl rfl rfl rfl (by decide) rfl rfl (fun x => rfl) (fun x _ => ?_)
    obtain ⟨u', c', u2'⟩ := x
    dsimp only
    refine G_run tOk eok_iruns 60 (fun _ => none) (fun bs => rfl) (fun bs => ?_) (fun bs => ?_)
    · (repeat' apply And.intro) <;> (intros; first | exact trivial | exact rfl | omega | exact u8_lo _ | exact u8_hi _ | exact u8_in64 _ | exact u8_in63 _ | (simp only [inR, IntKind.bits]; omega) | (simp [inR, IntKind.bits]; done) | (simp [inR, IntKind.bits] at * <;> omega) | (simp_all; done) | (with_reducible assumption) | skip)
    refine G_els rfl rfl rfl ?_
    refine G_run tOk eok_iruns 60 (fun _ => none) (fun bs => rfl) (fun bs => ?_) (fun bs => ?_)
    · (repeat' apply And.intro) <;> (intros; first | exact trivial | exact rfl | omega | exact u8_lo _ | exact u8_hi _ | exact u8_in64 _ | exact u8_in63 _ | (simp only [inR, IntKind.bits]; omega) | (simp [inR, IntKind.bits]; done) | (simp [inR, IntKind.bits] at * <;> omega) | (simp_all; done) | (with_reducible assumption) | skip)
    refine G_lp [0, 1, 2, 3] (i + 1, u', c', u2') ?ok ?wk1
    case ok => exact ⟨hk', by simp only; omega⟩
    case wk1 => (repeat' apply And.intro) <;> (first | exact rfl | exact trivial | omega | refine sigEq ?_ | skip)
  · refine G_run tOk eok_iruns 60 (fun _ => none) (fun bs => rfl) (fun bs => ?_) (fun bs => ?_)
    · (repeat' apply And.intro) <;> (intros; first | exact trivial | exact rfl | omega | exact u8_lo _ | exact u8_hi _ | exact u8_in64 _ | exact u8_in63 _ | (simp only [inR, IntKind.bits]; omega) | (simp [inR, IntKind.bits]; done) | (simp [inR, IntKind.bits] at * <;> omega) | (simp_all; done) | (with_reducible assumption) | skip)
    exact G_ret tOk hM0 rfl rfl ⟨trivial, trivial⟩ rfl
def iruns_s : FSpec
  | [.c (.pv (.lst .act l))] => some ((l.length ≤ 9223372036854775807), false, .x (.c (bv true)))
  | _ => none
theorem iruns_s_ok : SpecOk Try.prog 4 iruns_s := by
  intro args pre sh rv h hp; unfold iruns_s at h; split at h
  · cases h; have hl := hp; exact iruns_fn _ hl
  · cases h
def psi_iruns : FuncId → Option FSpec := psiCons 4 iruns_s psi_iheavy
theorem psi_iruns_ok : PsiFn Try.prog psi_iruns := psiCons_ok iruns_s_ok psi_iheavy_ok
end Go.Proofs.Ytbhemhmdmeomdaa
