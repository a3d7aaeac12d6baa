import Derived.Test.YtgobmfkffhomaaaShtA
set_option linter.unusedSimpArgs false
set_option linter.unusedVariables false
namespace Go.Proofs.Ytgobmfkffhomaaa
open Go.Mt

/-! ### places -/
abbrev isN (nm : List UInt8) : Bitmap → Bool := fun b => decide (b.name = nm)
def plc (l : List Bitmap) (nm : List UInt8) : Int := ixP (isN nm) LK.bms.dft l l.length

def env_rbitmap : Env := ⟨T, psi_rcopy, pspNil, pscNil, 20, [], none, true⟩
theorem eok_rbitmap : PsiOk Try.prog env_rbitmap := ⟨psi_rcopy_ok, pspNil_ok, pscNil_ok⟩
theorem rbitmap_fn (l : List Bitmap) (nm : List UInt8) (hl : l.length ≤ 1000000) : Ctr Try.prog 34 false [lst .bms l, str nm] (.x (.c (i64 (plc l nm)))) := by
  refine Ctr_intro (E := env_rbitmap) Try.func34 rfl (by decide) rfl rfl (fun M0 W hM0 => ?_)
  refine G_run tOk eok_rbitmap 60 (fun _ => none) (fun bs => rfl) (fun bs => ?_) (fun bs => ?_)
  · (repeat' apply And.intro) <;> (intros; first | exact trivial | exact rfl | omega | exact u8_lo _ | exact u8_hi _ | exact u8_in64 _ | exact u8_in63 _ | (simp only [inR, IntKind.bits]; omega) | (simp [inR, IntKind.bits]; done) | (simp [inR, IntKind.bits] at * <;> omega) | (simp_all; done) | (with_reducible assumption) | skip)
  refine G_loop (fun i : Nat => [(0, lst .bms l), (1, str nm), (5, int .i64 i)]) (fun i => []) (fun i => i ≤ l.length ∧ ixP (isN nm) LK.bms.dft l i = -1) (fun i => l.length - i) rfl [] 0 ⟨Nat.zero_le _, rfl⟩ ?wk (fun i hx => ?_)
  case wk => (repeat' apply And.intro) <;> (first | exact rfl | exact trivial | omega | refine sigEq ?_ | skip)
  obtain ⟨hx1, hx2⟩ := hx
  refine G_run tOk eok_rbitmap 60 (fun _ => none) (fun bs => rfl) (fun bs => ?_) (fun bs => ?_)
  · (repeat' apply And.intro) <;> (intros; first | exact trivial | exact rfl | omega | exact u8_lo _ | exact u8_hi _ | exact u8_in64 _ | exact u8_in63 _ | (simp only [inR, IntKind.bits]; omega) | (simp [inR, IntKind.bits]; done) | (simp [inR, IntKind.bits] at * <;> omega) | (simp_all; done) | (with_reducible assumption) | skip)
  refine G_if rfl rfl (fun hk => ?_) (fun hk => ?_)
  · have hk' : i < l.length := by omega
    refine G_run tOk eok_rbitmap 60 (fun _ => none) (fun bs => rfl) (fun bs => ?_) (fun bs => ?_)
    · (repeat' apply And.intro) <;> (intros; first | exact trivial | exact rfl | omega | exact u8_lo _ | exact u8_hi _ | exact u8_in64 _ | exact u8_in63 _ | (simp only [inR, IntKind.bits]; omega) | (simp [inR, IntKind.bits]; done) | (simp [inR, IntKind.bits] at * <;> omega) | (simp_all; done) | (with_reducible assumption) | skip)
    refine G_cond (b := isN nm (l.getD i LK.bms.dft)) rfl rfl (fun h => ?_) (fun h => ?_)
    · have h1 : ixP (isN nm) LK.bms.dft l (i + 1) = i := by simp only [ixP, hx2, h]; rfl
      have h2 : plc l nm = i := by unfold plc; rw [ixP_keep (i := i + 1) (by omega) (by omega), h1]
      refine G_run tOk eok_rbitmap 60 (fun _ => none) (fun bs => rfl) (fun bs => ?_) (fun bs => ?_)
      · (repeat' apply And.intro) <;> (intros; first | exact trivial | exact rfl | omega | exact u8_lo _ | exact u8_hi _ | exact u8_in64 _ | exact u8_in63 _ | (simp only [inR, IntKind.bits]; omega) | (simp [inR, IntKind.bits]; done) | (simp [inR, IntKind.bits] at * <;> omega) | (simp_all; done) | (with_reducible assumption) | skip)
      exact G_ret tOk hM0 rfl rfl ⟨trivial, trivial⟩ ⟨rfl, h2.symm⟩
    · have h1 : ixP (isN nm) LK.bms.dft l (i + 1) = -1 := by simp only [ixP, hx2, h]; rfl
      refine G_run tOk eok_rbitmap 60 (fun _ => none) (fun bs => rfl) (fun bs => ?_) (fun bs => ?_)
      · (repeat' apply And.intro) <;> (intros; first | exact trivial | exact rfl | omega | exact u8_lo _ | exact u8_hi _ | exact u8_in64 _ | exact u8_in63 _ | (simp only [inR, IntKind.bits]; omega) | (simp [inR, IntKind.bits]; done) | (simp [inR, IntKind.bits] at * <;> omega) | (simp_all; done) | (with_reducible assumption) | skip)
      refine G_lp [] (i + 1) ?ok ?wk1
      case ok => exact ⟨⟨hk', h1⟩, by omega⟩
      case wk1 => (repeat' apply And.intro) <;> (first | exact rfl | exact trivial | omega | refine sigEq ?_ | skip)
  · have hk' : i = l.length := by omega
    subst hk'
    refine G_run tOk eok_rbitmap 60 (fun _ => none) (fun bs => rfl) (fun bs => ?_) (fun bs => ?_)
    · (repeat' apply And.intro) <;> (intros; first | exact trivial | exact rfl | omega | exact u8_lo _ | exact u8_hi _ | exact u8_in64 _ | exact u8_in63 _ | (simp only [inR, IntKind.bits]; omega) | (simp [inR, IntKind.bits]; done) | (simp [inR, IntKind.bits] at * <;> omega) | (simp_all; done) | (with_reducible assumption) | skip)
    exact G_ret tOk hM0 rfl rfl ⟨trivial, trivial⟩ ⟨rfl, hx2.symm⟩

/-! ### Touch -/
def rbitmap_s : FSpec
  | [.c (.pv (.lst .bms l)), .c (.pv (.val (.string ⟨⟨nm⟩⟩)))] => some ((l.length ≤ 1000000), false, .x (.c (i64 (plc l nm))))
  | _ => none
theorem rbitmap_s_ok : SpecOk Try.prog 34 rbitmap_s := by
  intro args pre sh rv h hp; unfold rbitmap_s at h; split at h
  · cases h; have hl := hp; exact rbitmap_fn _ _ hl
  · cases h
def psi_rbitmap : FuncId → Option FSpec := psiCons 34 rbitmap_s psi_rcopy
theorem psi_rbitmap_ok : PsiFn Try.prog psi_rbitmap := psiCons_ok rbitmap_s_ok psi_rcopy_ok
def tch (s : Span) (b : Bitmap) : Bitmap := match b.on with
  | true => ⟨b.name, b.on, addL b.l s⟩
  | false => b
theorem tch_off {s : Span} {b : Bitmap} (h : b.on = false) : tch s b = b := by simp only [tch, h]
theorem tch_on {s : Span} {b : Bitmap} (h : b.on = true) : (⟨b.name, b.on, addL b.l s⟩ : Bitmap) = tch s b := by simp only [tch, h]

def env_rtouch : Env := ⟨T, psi_rbitmap, pspNil, pscNil, 32, [], none, true⟩
theorem eok_rtouch : PsiOk Try.prog env_rtouch := ⟨psi_rbitmap_ok, pspNil_ok, pscNil_ok⟩
theorem rtouch_fn (l : List Bitmap) (s0 : Int) (s1 : Int) (hl : BmOk l) : Ctr Try.prog 42 true [lst .bms l, .g [.pv (.val (.int .i64 s0)), .pv (.val (.int .i64 s1))]] (.o 51 .bms (l.map (tch ⟨s0, s1⟩))) := by
  refine Ctr_intro (E := env_rtouch) Try.func42 rfl (by decide) rfl rfl (fun M0 W hM0 => ?_)
  have hll := hl.len
  refine G_run tOk eok_rtouch 60 (fun _ => none) (fun bs => rfl) (fun bs => ?_) (fun bs => ?_)
  · (repeat' apply And.intro) <;> (intros; first | exact trivial | exact rfl | omega | exact u8_lo _ | exact u8_hi _ | exact u8_in64 _ | exact u8_in63 _ | (simp only [inR, IntKind.bits]; omega) | (simp [inR, IntKind.bits]; done) | (simp [inR, IntKind.bits] at * <;> omega) | (simp_all; done) | (with_reducible assumption) | skip)
  refine G_wkB (ns := [0, 1]) (fs := fun b => [(3, .c (.ptr 0 b 0)), (5, .c (.own 1 (bs 1 1))), (6, int .i64 0)]) (hs := fun b => [.blk b 48 [.pv (i64 s0), .pv (i64 s1)], .own (bs 1 1) 51 .bms l]) ?b1 rfl ?wk0 (fun b => ?_)
  case wk0 => (repeat' apply And.intro) <;> (first | exact rfl | exact trivial | omega | refine sigEq ?_ | skip)
  refine G_loop (fun x : Nat × Value => [(3, .c (.ptr 0 b 0)), (5, .c (.own 1 x.2)), (6, int .i64 x.1)]) (fun x => [.blk b 48 [.pv (i64 s0), .pv (i64 s1)], .own x.2 51 .bms (mapAt (tch ⟨s0, s1⟩) l x.1)]) (fun x => x.1 ≤ l.length) (fun x => l.length - x.1) rfl [0, 1] (0, bs 1 1) (Nat.zero_le _) ?wk (fun x hx => ?_)
  case wk =>
    (repeat' apply And.intro) <;> (first | exact rfl | exact trivial | omega | refine sigEq ?_ | skip)
    all_goals exact (mapAt_zero _ _).symm
  obtain ⟨i, v⟩ := x
  simp only at hx ⊢
  have hml := mapAt_len (tch ⟨s0, s1⟩) l i
  refine G_run tOk eok_rtouch 60 (fun _ => none) (fun bs => rfl) (fun bs => ?_) (fun bs => ?_)
  · (repeat' apply And.intro) <;> (intros; first | exact trivial | exact rfl | omega | exact u8_lo _ | exact u8_hi _ | exact u8_in64 _ | exact u8_in63 _ | (simp only [inR, IntKind.bits]; omega) | (simp [inR, IntKind.bits]; done) | (simp [inR, IntKind.bits] at * <;> omega) | (simp_all; done) | (with_reducible assumption) | skip)
  refine G_if rfl rfl (fun hk => ?_) (fun hk => ?_)
  · have hk' : i < l.length := by omega
    have hg := mapAt_get (tch ⟨s0, s1⟩) LK.bms.dft hk'
    have hb := hl.get i
    rw [← hg] at hb
    refine G_run tOk eok_rtouch 60 (fun _ => none) (fun bs => rfl) (fun bs => ?_) (fun bs => ?_)
    · (repeat' apply And.intro) <;> (intros; first | exact trivial | exact rfl | omega | exact u8_lo _ | exact u8_hi _ | exact u8_in64 _ | exact u8_in63 _ | (simp only [inR, IntKind.bits]; omega) | (simp [inR, IntKind.bits]; done) | (simp [inR, IntKind.bits] at * <;> omega) | (simp_all; done) | (with_reducible assumption) | skip)
    refine G_cond (b := ((mapAt (tch ⟨s0, s1⟩) l i).getD i LK.bms.dft).on) rfl rfl (fun h => ?_) (fun h => ?_)
    · refine G_run tOk eok_rtouch 60 (fun _ => none) (fun bs => rfl) (fun bs => ?_) (fun bs => ?_)
      · (repeat' apply And.intro) <;> (intros; first | exact trivial | exact rfl | omega | exact u8_lo _ | exact u8_hi _ | exact u8_in64 _ | exact u8_in63 _ | (simp only [inR, IntKind.bits]; omega) | (simp [inR, IntKind.bits]; done) | (simp [inR, IntKind.bits] at * <;> omega) | (simp_all; done) | (with_reducible assumption) | skip)
      refine G_nx 2 rfl ?_
      refine G_draw tOk eok_rtouch rfl (fun _ => none) 9 [0, 0, 0, 0, 12, 28, 60, 0, 252, 511, 1023, 2047] [] rfl (by decide +kernel) (fun bs => rfl) (fun bs => ?_) (fun bs => ?_)
      · (repeat' apply And.intro) <;> (intros; first | exact trivial | exact rfl | omega | exact u8_lo _ | exact u8_hi _ | exact u8_in64 _ | exact u8_in63 _ | (simp only [inR, IntKind.bits]; omega) | (simp [inR, IntKind.bits]; done) | (simp [inR, IntKind.bits] at * <;> omega) | (simp_all; done) | (with_reducible assumption) | skip)
      refine G_freeze 10 [28] rfl ⟨rfl, trivial⟩ ?_
      refine G_run tOk eok_rtouch 60 (fun _ => none) (fun bs => rfl) (fun bs => ?_) (fun bs => ?_)
      · (repeat' apply And.intro) <;> (intros; first | exact trivial | exact rfl | omega | exact u8_lo _ | exact u8_hi _ | exact u8_in64 _ | exact u8_in63 _ | (simp only [inR, IntKind.bits]; omega) | (simp [inR, IntKind.bits]; done) | (simp [inR, IntKind.bits] at * <;> omega) | (simp_all; done) | (with_reducible assumption) | skip)
      refine G_lp [0, 1] (i + 1, v) ?ok ?wk1
      case ok => exact ⟨hk', by simp only; omega⟩
      case wk1 =>
        (repeat' apply And.intro) <;> (first | exact rfl | exact trivial | omega | refine sigEq ?_ | skip)
        all_goals first | (refine mapAt_set _ LK.bms.dft _ hk' ?_; rw [← hg]; exact tch_on h) | skip
    · refine G_run tOk eok_rtouch 60 (fun _ => none) (fun bs => rfl) (fun bs => ?_) (fun bs => ?_)
      · (repeat' apply And.intro) <;> (intros; first | exact trivial | exact rfl | omega | exact u8_lo _ | exact u8_hi _ | exact u8_in64 _ | exact u8_in63 _ | (simp only [inR, IntKind.bits]; omega) | (simp [inR, IntKind.bits]; done) | (simp [inR, IntKind.bits] at * <;> omega) | (simp_all; done) | (with_reducible assumption) | skip)
      refine G_lp [0, 1] (i + 1, v) ?ok2 ?wk2
      case ok2 => exact ⟨hk', by simp only; omega⟩
      case wk2 =>
        (repeat' apply And.intro) <;> (first | exact rfl | exact trivial | omega | refine sigEq ?_ | skip)
        all_goals first | (refine mapAt_skip _ LK.bms.dft hk' ?_; rw [← hg]; exact tch_off h) | skip
  · have hk' : i = l.length := by omega
    subst hk'
    rw [mapAt_all]
    refine G_run tOk eok_rtouch 60 (fun _ => none) (fun bs => rfl) (fun bs => ?_) (fun bs => ?_)
    · (repeat' apply And.intro) <;> (intros; first | exact trivial | exact rfl | omega | exact u8_lo _ | exact u8_hi _ | exact u8_in64 _ | exact u8_in63 _ | (simp only [inR, IntKind.bits]; omega) | (simp [inR, IntKind.bits]; done) | (simp [inR, IntKind.bits] at * <;> omega) | (simp_all; done) | (with_reducible assumption) | skip)
    exact G_ret tOk hM0 rfl rfl ⟨trivial, trivial⟩ ⟨rfl, rfl, rfl, rfl⟩
def rtouch_s : FSpec
  | [.c (.pv (.lst .bms l)), .g [.pv (.val (.int .i64 s0)), .pv (.val (.int .i64 s1))]] => some ((BmOk l), true, .o 51 .bms (l.map (tch ⟨s0, s1⟩)))
  | _ => none
theorem rtouch_s_ok : SpecOk Try.prog 42 rtouch_s := by
  intro args pre sh rv h hp; unfold rtouch_s at h; split at h
  · cases h; have hl := hp; exact rtouch_fn _ _ _ hl
  · cases h
def psi_rtouch : FuncId → Option FSpec := psiCons 42 rtouch_s psi_rbitmap
theorem psi_rtouch_ok : PsiFn Try.prog psi_rtouch := psiCons_ok rtouch_s_ok psi_rbitmap_ok
end Go.Proofs.Ytgobmfkffhomaaa
