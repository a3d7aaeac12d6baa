import Derived.Test.YtbhemhmdmeomdaaIdxT
import Derived.Test.YtbhemhmdmeomdaaMtQ4
set_option linter.unusedSimpArgs false
set_option linter.unusedVariables false
set_option maxRecDepth 10000
namespace Go.Proofs.Ytbhemhmdmeomdaa
open Go.Mt

/-- Both indices behind one act. -/
def deedL (d : Deed) (l : List Known) : List Known :=
  if d.act = 0 ∨ d.act = 1 ∨ d.act = 2 then addK l ⟨fg d.b, d.e⟩ else if d.act = 5 then withoutE d.e l else l
theorem addK_len {l : List Known} (x : Known) (h : l.length ≤ 64) : (addK l x).length ≤ 64 := by
  unfold addK
  split
  · exact h
  · split
    · rename_i h2; simp only [List.length_append, List.length_drop, List.length_singleton]; omega
    · rename_i h2; simp at h2; simp only [List.length_append, List.length_singleton]; omega
theorem deedL_len (d : Deed) {l : List Known} (h : l.length ≤ 64) : (deedL d l).length ≤ 64 := by
  unfold deedL
  split
  · exact addK_len _ h
  · split
    · exact Nat.le_trans (List.length_filter_le _ _) h
    · exact h
def xrH (b : Nat) (v : Value) (c : Int) (b2 : Nat) (v2 : Value) (l : List Known) : List HB := [.blk b 54 [.own 1 v, .pv (i64 c)], .own v 58 .knw l, .blk b2 39 [.own 3 v2], .own v2 74 .knw l]

def env_iact : Env := ⟨T, psi_iheavy, pspNil, psc_del, 57, [], none, false⟩
theorem eok_iact : PsiOk Try.prog env_iact := ⟨psi_iheavy_ok, pspNil_ok, psc_del_ok⟩
theorem iact (b : Nat) (v : Value) (c : Int) (b2 : Nat) (v2 : Value) (l : List Known) (act : Int) (bl : List UInt8) (e0 e1 e2 e3 e4 : Int) (hb : bl.length ≤ 1000000) (hl : l.length ≤ 64) : CtrH Try.prog 14 [.c (.ptr 0 b 0), .c (.ptr 2 b2 0), .g [.pv (i64 act), .pv (.lst .byt bl), .pv (i64 e0), .pv (i64 e1), .pv (i64 e2), .pv (i64 e3), .pv (.val (.int .u32 e4))]] (xrH b v c b2 v2 l) (fun _ => True) (fun _ : Value × Int × Value => bool true) (fun x => xrH b x.1 x.2.1 b2 x.2.2 (deedL ⟨act, bl, ⟨e0, e1, e2, e3, e4⟩⟩ l)) := by
  refine CtrH_intro (E := env_iact) Try.func14 rfl (by decide) rfl rfl (fun M0 W hM0 => ?_)
  have hLn := deedL_len ⟨act, bl, ⟨e0, e1, e2, e3, e4⟩⟩ hl
  have hD0 : act = 0 → deedL ⟨act, bl, ⟨e0, e1, e2, e3, e4⟩⟩ l = addK l ⟨fg bl, ⟨e0, e1, e2, e3, e4⟩⟩ := fun h => by subst h; rfl
  have hD1 : act = 1 → deedL ⟨act, bl, ⟨e0, e1, e2, e3, e4⟩⟩ l = addK l ⟨fg bl, ⟨e0, e1, e2, e3, e4⟩⟩ := fun h => by subst h; rfl
  have hD2 : act = 2 → deedL ⟨act, bl, ⟨e0, e1, e2, e3, e4⟩⟩ l = addK l ⟨fg bl, ⟨e0, e1, e2, e3, e4⟩⟩ := fun h => by subst h; rfl
  have hD5 : act = 5 → deedL ⟨act, bl, ⟨e0, e1, e2, e3, e4⟩⟩ l = withoutE ⟨e0, e1, e2, e3, e4⟩ l := fun h => by subst h; rfl
  have hDn : act ≠ 0 → act ≠ 1 → act ≠ 2 → act ≠ 5 → deedL ⟨act, bl, ⟨e0, e1, e2, e3, e4⟩⟩ l = l := fun h0 h1 h2 h5 => by simp only [deedL, h0, h1, h2, h5, or_self, if_false]
  generalize deedL ⟨act, bl, ⟨e0, e1, e2, e3, e4⟩⟩ l = L at *
  refine G_run tOk eok_iact 4 (fun _ => none) (fun bs => rfl) (fun bs => ?_) (fun bs => ?_)
  · (repeat' apply And.intro) <;> (intros; first | exact trivial | exact rfl | omega | exact u8_lo _ | exact u8_hi _ | exact u8_in64 _ | exact u8_in63 _ | (simp only [inR, IntKind.bits]; omega) | (simp [inR, IntKind.bits]; done) | (simp [inR, IntKind.bits] at * <;> omega) | (simp_all; done) | (with_reducible assumption) | skip)
  refine G_cut (fun x : Value × Int × Value => [(0, .c (.ptr 0 b 0)), (1, .c (.ptr 2 b2 0))]) (fun x => xrH b x.1 x.2.1 b2 x.2.2 L) (fun _ => True) rfl ?_ (fun x _ => ?_)
  · refine G_run tOk eok_iact 3 (fun _ => none) (fun bs => rfl) (fun bs => ?_) (fun bs => ?_)
    · (repeat' apply And.intro) <;> (intros; first | exact trivial | exact rfl | omega | exact u8_lo _ | exact u8_hi _ | exact u8_in64 _ | exact u8_in63 _ | (simp only [inR, IntKind.bits]; omega) | (simp [inR, IntKind.bits]; done) | (simp [inR, IntKind.bits] at * <;> omega) | (simp_all; done) | (with_reducible assumption) | skip)
    refine G_wkB (ns := [0, 1, 2, 3, 4]) (fs := fun ab => [(0, .c (.ptr 0 b 0)), (1, .c (.ptr 2 b2 0)), (5, .c (.ptr 4 ab 0)), (8, int .i64 act)]) (hs := fun ab => xrH b v c b2 v2 l ++ [.blk ab 42 ((LK.enc .act ⟨act, bl, ⟨e0, e1, e2, e3, e4⟩⟩).map C.pv)]) ?b1 rfl ?wk0 (fun ab => ?_)
    case wk0 => (repeat' apply And.intro) <;> (first | exact rfl | exact trivial | omega | refine sigEq ?_ | skip)
    refine G_run tOk eok_iact 60 (fun _ => none) (fun bs => rfl) (fun bs => ?_) (fun bs => ?_)
    · (repeat' apply And.intro) <;> (intros; first | exact trivial | exact rfl | omega | exact u8_lo _ | exact u8_hi _ | exact u8_in64 _ | exact u8_in63 _ | (simp only [inR, IntKind.bits]; omega) | (simp [inR, IntKind.bits]; done) | (simp [inR, IntKind.bits] at * <;> omega) | (simp_all; done) | (with_reducible assumption) | skip)
    refine G_if rfl rfl (fun h0 => ?_) (fun h0 => ?_)
    · refine G_run tOk eok_iact 60 (fun _ => none) (fun bs => rfl) (fun bs => ?_) (fun bs => ?_)
      · (repeat' apply And.intro) <;> (intros; first | exact trivial | exact rfl | omega | exact u8_lo _ | exact u8_hi _ | exact u8_in64 _ | exact u8_in63 _ | (simp only [inR, IntKind.bits]; omega) | (simp [inR, IntKind.bits]; done) | (simp [inR, IntKind.bits] at * <;> omega) | (simp_all; done) | (with_reducible assumption) | skip)
      refine G_thn rfl rfl (decide_eq_true h0) ?_
      refine G_run tOk eok_iact 60 (fun _ => none) (fun bs => rfl) (fun bs => ?_) (fun bs => ?_)
      · (repeat' apply And.intro) <;> (intros; first | exact trivial | exact rfl | omega | exact u8_lo _ | exact u8_hi _ | exact u8_in64 _ | exact u8_in63 _ | (simp only [inR, IntKind.bits]; omega) | (simp [inR, IntKind.bits]; done) | (simp [inR, IntKind.bits] at * <;> omega) | (simp_all; done) | (with_reducible assumption) | skip)
      refine G_nx 5 rfl ?_
      refine G_callH [0, 1] id (hadd2 b v c l bl e0 e1 e2 e3 e4 hb (by omega)) rfl trivial rfl rfl rfl rfl (by decide) rfl rfl (fun x => rfl) (fun u _ => ?_)
      refine G_run tOk eok_iact 60 (fun _ => none) (fun bs => rfl) (fun bs => ?_) (fun bs => ?_)
      · (repeat' apply And.intro) <;> (intros; first | exact trivial | exact rfl | omega | exact u8_lo _ | exact u8_hi _ | exact u8_in64 _ | exact u8_in63 _ | (simp only [inR, IntKind.bits]; omega) | (simp [inR, IntKind.bits]; done) | (simp [inR, IntKind.bits] at * <;> omega) | (simp_all; done) | (with_reducible assumption) | skip)
      refine G_nx 7 rfl ?_
      refine G_callH [2, 3] (fun n => n - 2) (radd b2 v2 l bl e0 e1 e2 e3 e4 hb hl) rfl trivial rfl rfl rfl rfl (by decide) rfl rfl (fun x => rfl) (fun u2 _ => ?_)
      refine G_run tOk eok_iact 60 (fun _ => none) (fun bs => rfl) (fun bs => ?_) (fun bs => ?_)
      · (repeat' apply And.intro) <;> (intros; first | exact trivial | exact rfl | omega | exact u8_lo _ | exact u8_hi _ | exact u8_in64 _ | exact u8_in63 _ | (simp only [inR, IntKind.bits]; omega) | (simp [inR, IntKind.bits]; done) | (simp [inR, IntKind.bits] at * <;> omega) | (simp_all; done) | (with_reducible assumption) | skip)
      refine G_lp [0, 1, 2, 3] (u, c, u2) trivial ?wk1
      case wk1 =>
        rw [hD0 h0]
        (repeat' apply And.intro) <;> (first | exact rfl | exact trivial | omega | refine sigEq ?_ | skip)
    refine G_run tOk eok_iact 60 (fun _ => none) (fun bs => rfl) (fun bs => ?_) (fun bs => ?_)
    · (repeat' apply And.intro) <;> (intros; first | exact trivial | exact rfl | omega | exact u8_lo _ | exact u8_hi _ | exact u8_in64 _ | exact u8_in63 _ | (simp only [inR, IntKind.bits]; omega) | (simp [inR, IntKind.bits]; done) | (simp [inR, IntKind.bits] at * <;> omega) | (simp_all; done) | (with_reducible assumption) | skip)
    refine G_if rfl rfl (fun h1 => ?_) (fun h1 => ?_)
    · refine G_run tOk eok_iact 60 (fun _ => none) (fun bs => rfl) (fun bs => ?_) (fun bs => ?_)
      · (repeat' apply And.intro) <;> (intros; first | exact trivial | exact rfl | omega | exact u8_lo _ | exact u8_hi _ | exact u8_in64 _ | exact u8_in63 _ | (simp only [inR, IntKind.bits]; omega) | (simp [inR, IntKind.bits]; done) | (simp [inR, IntKind.bits] at * <;> omega) | (simp_all; done) | (with_reducible assumption) | skip)
      refine G_thn rfl rfl (decide_eq_true h1) ?_
      refine G_run tOk eok_iact 60 (fun _ => none) (fun bs => rfl) (fun bs => ?_) (fun bs => ?_)
      · (repeat' apply And.intro) <;> (intros; first | exact trivial | exact rfl | omega | exact u8_lo _ | exact u8_hi _ | exact u8_in64 _ | exact u8_in63 _ | (simp only [inR, IntKind.bits]; omega) | (simp [inR, IntKind.bits]; done) | (simp [inR, IntKind.bits] at * <;> omega) | (simp_all; done) | (with_reducible assumption) | skip)
      refine G_nx 5 rfl ?_
      refine G_callH [0, 1] id (hadd2 b v c l bl e0 e1 e2 e3 e4 hb (by omega)) rfl trivial rfl rfl rfl rfl (by decide) rfl rfl (fun x => rfl) (fun u _ => ?_)
      refine G_run tOk eok_iact 60 (fun _ => none) (fun bs => rfl) (fun bs => ?_) (fun bs => ?_)
      · (repeat' apply And.intro) <;> (intros; first | exact trivial | exact rfl | omega | exact u8_lo _ | exact u8_hi _ | exact u8_in64 _ | exact u8_in63 _ | (simp only [inR, IntKind.bits]; omega) | (simp [inR, IntKind.bits]; done) | (simp [inR, IntKind.bits] at * <;> omega) | (simp_all; done) | (with_reducible assumption) | skip)
      refine G_nx 7 rfl ?_
      refine G_callH [2, 3] (fun n => n - 2) (radd b2 v2 l bl e0 e1 e2 e3 e4 hb hl) rfl trivial rfl rfl rfl rfl (by decide) rfl rfl (fun x => rfl) (fun u2 _ => ?_)
      refine G_run tOk eok_iact 60 (fun _ => none) (fun bs => rfl) (fun bs => ?_) (fun bs => ?_)
      · (repeat' apply And.intro) <;> (intros; first | exact trivial | exact rfl | omega | exact u8_lo _ | exact u8_hi _ | exact u8_in64 _ | exact u8_in63 _ | (simp only [inR, IntKind.bits]; omega) | (simp [inR, IntKind.bits]; done) | (simp [inR, IntKind.bits] at * <;> omega) | (simp_all; done) | (with_reducible assumption) | skip)
      refine G_lp [0, 1, 2, 3] (u, c, u2) trivial ?wk2
      case wk2 =>
        rw [hD1 h1]
        (repeat' apply And.intro) <;> (first | exact rfl | exact trivial | omega | refine sigEq ?_ | skip)
    refine G_run tOk eok_iact 60 (fun _ => none) (fun bs => rfl) (fun bs => ?_) (fun bs => ?_)
    · (repeat' apply And.intro) <;> (intros; first | exact trivial | exact rfl | omega | exact u8_lo _ | exact u8_hi _ | exact u8_in64 _ | exact u8_in63 _ | (simp only [inR, IntKind.bits]; omega) | (simp [inR, IntKind.bits]; done) | (simp [inR, IntKind.bits] at * <;> omega) | (simp_all; done) | (with_reducible assumption) | skip)
    refine G_if rfl rfl (fun h2 => ?_) (fun h2 => ?_)
    · refine G_run tOk eok_iact 60 (fun _ => none) (fun bs => rfl) (fun bs => ?_) (fun bs => ?_)
      · (repeat' apply And.intro) <;> (intros; first | exact trivial | exact rfl | omega | exact u8_lo _ | exact u8_hi _ | exact u8_in64 _ | exact u8_in63 _ | (simp only [inR, IntKind.bits]; omega) | (simp [inR, IntKind.bits]; done) | (simp [inR, IntKind.bits] at * <;> omega) | (simp_all; done) | (with_reducible assumption) | skip)
      refine G_nx 5 rfl ?_
      refine G_callH [0, 1] id (hadd2 b v c l bl e0 e1 e2 e3 e4 hb (by omega)) rfl trivial rfl rfl rfl rfl (by decide) rfl rfl (fun x => rfl) (fun u _ => ?_)
      refine G_run tOk eok_iact 60 (fun _ => none) (fun bs => rfl) (fun bs => ?_) (fun bs => ?_)
      · (repeat' apply And.intro) <;> (intros; first | exact trivial | exact rfl | omega | exact u8_lo _ | exact u8_hi _ | exact u8_in64 _ | exact u8_in63 _ | (simp only [inR, IntKind.bits]; omega) | (simp [inR, IntKind.bits]; done) | (simp [inR, IntKind.bits] at * <;> omega) | (simp_all; done) | (with_reducible assumption) | skip)
      refine G_nx 7 rfl ?_
      refine G_callH [2, 3] (fun n => n - 2) (radd b2 v2 l bl e0 e1 e2 e3 e4 hb hl) rfl trivial rfl rfl rfl rfl (by decide) rfl rfl (fun x => rfl) (fun u2 _ => ?_)
      refine G_run tOk eok_iact 60 (fun _ => none) (fun bs => rfl) (fun bs => ?_) (fun bs => ?_)
      · (repeat' apply And.intro) <;> (intros; first | exact trivial | exact rfl | omega | exact u8_lo _ | exact u8_hi _ | exact u8_in64 _ | exact u8_in63 _ | (simp only [inR, IntKind.bits]; omega) | (simp [inR, IntKind.bits]; done) | (simp [inR, IntKind.bits] at * <;> omega) | (simp_all; done) | (with_reducible assumption) | skip)
      refine G_lp [0, 1, 2, 3] (u, c, u2) trivial ?wk3
      case wk3 =>
        rw [hD2 h2]
        (repeat' apply And.intro) <;> (first | exact rfl | exact trivial | omega | refine sigEq ?_ | skip)
    refine G_run tOk eok_iact 60 (fun _ => none) (fun bs => rfl) (fun bs => ?_) (fun bs => ?_)
    · (repeat' apply And.intro) <;> (intros; first | exact trivial | exact rfl | omega | exact u8_lo _ | exact u8_hi _ | exact u8_in64 _ | exact u8_in63 _ | (simp only [inR, IntKind.bits]; omega) | (simp [inR, IntKind.bits]; done) | (simp [inR, IntKind.bits] at * <;> omega) | (simp_all; done) | (with_reducible assumption) | skip)
    refine G_if rfl rfl (fun h3 => ?_) (fun h3 => ?_)
    · refine G_run tOk eok_iact 60 (fun _ => none) (fun bs => rfl) (fun bs => ?_) (fun bs => ?_)
      · (repeat' apply And.intro) <;> (intros; first | exact trivial | exact rfl | omega | exact u8_lo _ | exact u8_hi _ | exact u8_in64 _ | exact u8_in63 _ | (simp only [inR, IntKind.bits]; omega) | (simp [inR, IntKind.bits]; done) | (simp [inR, IntKind.bits] at * <;> omega) | (simp_all; done) | (with_reducible assumption) | skip)
      refine G_thn rfl rfl (decide_eq_true h3) ?_
      have hN := hDn h0 h1 h2 (by omega)
      refine G_run tOk eok_iact 60 (fun _ => none) (fun bs => rfl) (fun bs => ?_) (fun bs => ?_)
      · (repeat' apply And.intro) <;> (intros; first | exact trivial | exact rfl | omega | exact u8_lo _ | exact u8_hi _ | exact u8_in64 _ | exact u8_in63 _ | (simp only [inR, IntKind.bits]; omega) | (simp [inR, IntKind.bits]; done) | (simp [inR, IntKind.bits] at * <;> omega) | (simp_all; done) | (with_reducible assumption) | skip)
      have hfl := findN_len l (fg bl) l.length
      refine G_wk (ns := [0, 1, 2, 3, 4]) (fs := [(0, .c (.ptr 0 b 0)), (1, .c (.ptr 2 b2 0)), (5, .c (.ptr 4 ab 0))]) (hs := xrH b v c b2 v2 l ++ [.blk ab 42 ((LK.enc .act ⟨act, bl, ⟨e0, e1, e2, e3, e4⟩⟩).map C.pv)]) rfl ?wk9 ?_
      case wk9 => (repeat' apply And.intro) <;> (first | exact rfl | exact trivial | omega | refine sigEq ?_ | skip)
      refine G_any rfl rfl _ rfl 10 rfl ?_
      refine GA_move 0 rfl rfl rfl rfl (by decide +kernel) rfl (by decide +kernel) rfl rfl ?_
      refine GA_move 4 rfl rfl rfl rfl (by decide +kernel) rfl (by decide +kernel) rfl rfl ?_
      refine GA_fld 1 tOk rfl rfl rfl rfl rfl rfl rfl (by decide +kernel) rfl (by decide +kernel) rfl rfl ?_
      refine GA_fld 5 tOk rfl rfl rfl rfl rfl rfl rfl (by decide +kernel) rfl (by decide +kernel) rfl rfl ?_
      refine GA_two 2 6 rfl ?_ ?_
      · refine GO_op tOk eok_iact (fun _ => none) rfl rfl rfl (fun u => rfl) (fun u => ?_) (fun w2 => ?_)
        · (repeat' apply And.intro) <;> (intros; first | exact trivial | exact rfl | omega | exact u8_lo _ | exact u8_hi _ | exact u8_in64 _ | exact u8_in63 _ | (simp only [inR, IntKind.bits]; omega) | (simp [inR, IntKind.bits]; done) | (simp [inR, IntKind.bits] at * <;> omega) | (simp_all; done) | (with_reducible assumption) | skip)
        refine GA_two 3 6 rfl ?_ ?_
        · refine GO_callH [0, 1] id (hfind b v c l bl hb (by omega)) rfl rfl trivial rfl rfl rfl rfl (by decide) rfl rfl (fun x => rfl) (fun x _ => ?_)
          obtain ⟨u1, c1⟩ := x
          dsimp only
          refine GA_one 6 tOk eok_iact (fun _ => none) rfl rfl rfl rfl (fun u => rfl) (fun u => ?_) (fun w6 => ?_)
          · (repeat' apply And.intro) <;> (intros; first | exact trivial | exact rfl | omega | exact u8_lo _ | exact u8_hi _ | exact u8_in64 _ | exact u8_in63 _ | (simp only [inR, IntKind.bits]; omega) | (simp [inR, IntKind.bits]; done) | (simp [inR, IntKind.bits] at * <;> omega) | (simp_all; done) | (with_reducible assumption) | skip)
          refine GA_oneH 7 rfl ?_
          refine GO_callH [2, 3] (fun n => n - 2) (rof b2 v2 l bl hb (by omega)) rfl rfl trivial rfl rfl rfl rfl (by decide) rfl rfl (fun x => rfl) (fun u2 _ => ?_)
          refine GA_freeze 5 [31] rfl ⟨rfl, trivial⟩ ?_
          refine GA_freeze 8 [35] rfl ⟨rfl, trivial⟩ ?_
          refine GA_one 8 tOk eok_iact (fun _ => none) rfl rfl rfl rfl (fun u => rfl) (fun u => ?_) (fun w8 => ?_)
          · (repeat' apply And.intro) <;> (intros; first | exact trivial | exact rfl | omega | exact u8_lo _ | exact u8_hi _ | exact u8_in64 _ | exact u8_in63 _ | (simp only [inR, IntKind.bits]; omega) | (simp [inR, IntKind.bits]; done) | (simp [inR, IntKind.bits] at * <;> omega) | (simp_all; done) | (with_reducible assumption) | skip)
          refine GA_one 9 tOk eok_iact (fun _ => none) rfl rfl rfl rfl (fun u => rfl) (fun u => ?_) (fun w9 => ?_)
          · (repeat' apply And.intro) <;> (intros; first | exact trivial | exact rfl | omega | exact u8_lo _ | exact u8_hi _ | exact u8_in64 _ | exact u8_in63 _ | (simp only [inR, IntKind.bits]; omega) | (simp [inR, IntKind.bits]; done) | (simp [inR, IntKind.bits] at * <;> omega) | (simp_all; done) | (with_reducible assumption) | skip)
          refine GA_done rfl ?_
          refine G_run tOk eok_iact 60 (fun _ => none) (fun bs => rfl) (fun bs => ?_) (fun bs => ?_)
          · (repeat' apply And.intro) <;> (intros; first | exact trivial | exact rfl | omega | exact u8_lo _ | exact u8_hi _ | exact u8_in64 _ | exact u8_in63 _ | (simp only [inR, IntKind.bits]; omega) | (simp [inR, IntKind.bits]; done) | (simp [inR, IntKind.bits] at * <;> omega) | (simp_all; done) | (with_reducible assumption) | skip)
          refine G_els rfl rfl (by simp) ?_
          refine G_run tOk eok_iact 60 (fun _ => none) (fun bs => rfl) (fun bs => ?_) (fun bs => ?_)
          · (repeat' apply And.intro) <;> (intros; first | exact trivial | exact rfl | omega | exact u8_lo _ | exact u8_hi _ | exact u8_in64 _ | exact u8_in63 _ | (simp only [inR, IntKind.bits]; omega) | (simp [inR, IntKind.bits]; done) | (simp [inR, IntKind.bits] at * <;> omega) | (simp_all; done) | (with_reducible assumption) | skip)
          refine G_lp [0, 1, 2, 3] (v, c1, v2) trivial ?wkt1
          case wkt1 =>
            rw [hN]
            (repeat' apply And.intro) <;> (first | exact rfl | exact trivial | omega | refine sigEq ?_ | skip)
        · refine GO_op tOk eok_iact (fun _ => none) rfl rfl rfl (fun u => rfl) (fun u => ?_) (fun w6 => ?_)
          · (repeat' apply And.intro) <;> (intros; first | exact trivial | exact rfl | omega | exact u8_lo _ | exact u8_hi _ | exact u8_in64 _ | exact u8_in63 _ | (simp only [inR, IntKind.bits]; omega) | (simp [inR, IntKind.bits]; done) | (simp [inR, IntKind.bits] at * <;> omega) | (simp_all; done) | (with_reducible assumption) | skip)
          refine GA_oneH 3 rfl ?_
          refine GO_callH [0, 1] id (hfind b v c l bl hb (by omega)) rfl rfl trivial rfl rfl rfl rfl (by decide) rfl rfl (fun x => rfl) (fun x _ => ?_)
          obtain ⟨u1, c1⟩ := x
          dsimp only
          refine GA_oneH 7 rfl ?_
          refine GO_callH [2, 3] (fun n => n - 2) (rof b2 v2 l bl hb (by omega)) rfl rfl trivial rfl rfl rfl rfl (by decide) rfl rfl (fun x => rfl) (fun u2 _ => ?_)
          refine GA_freeze 5 [31] rfl ⟨rfl, trivial⟩ ?_
          refine GA_freeze 8 [35] rfl ⟨rfl, trivial⟩ ?_
          refine GA_one 8 tOk eok_iact (fun _ => none) rfl rfl rfl rfl (fun u => rfl) (fun u => ?_) (fun w8 => ?_)
          · (repeat' apply And.intro) <;> (intros; first | exact trivial | exact rfl | omega | exact u8_lo _ | exact u8_hi _ | exact u8_in64 _ | exact u8_in63 _ | (simp only [inR, IntKind.bits]; omega) | (simp [inR, IntKind.bits]; done) | (simp [inR, IntKind.bits] at * <;> omega) | (simp_all; done) | (with_reducible assumption) | skip)
          refine GA_one 9 tOk eok_iact (fun _ => none) rfl rfl rfl rfl (fun u => rfl) (fun u => ?_) (fun w9 => ?_)
          · (repeat' apply And.intro) <;> (intros; first | exact trivial | exact rfl | omega | exact u8_lo _ | exact u8_hi _ | exact u8_in64 _ | exact u8_in63 _ | (simp only [inR, IntKind.bits]; omega) | (simp [inR, IntKind.bits]; done) | (simp [inR, IntKind.bits] at * <;> omega) | (simp_all; done) | (with_reducible assumption) | skip)
          refine GA_done rfl ?_
          refine G_run tOk eok_iact 60 (fun _ => none) (fun bs => rfl) (fun bs => ?_) (fun bs => ?_)
          · (repeat' apply And.intro) <;> (intros; first | exact trivial | exact rfl | omega | exact u8_lo _ | exact u8_hi _ | exact u8_in64 _ | exact u8_in63 _ | (simp only [inR, IntKind.bits]; omega) | (simp [inR, IntKind.bits]; done) | (simp [inR, IntKind.bits] at * <;> omega) | (simp_all; done) | (with_reducible assumption) | skip)
          refine G_els rfl rfl (by simp) ?_
          refine G_run tOk eok_iact 60 (fun _ => none) (fun bs => rfl) (fun bs => ?_) (fun bs => ?_)
          · (repeat' apply And.intro) <;> (intros; first | exact trivial | exact rfl | omega | exact u8_lo _ | exact u8_hi _ | exact u8_in64 _ | exact u8_in63 _ | (simp only [inR, IntKind.bits]; omega) | (simp [inR, IntKind.bits]; done) | (simp [inR, IntKind.bits] at * <;> omega) | (simp_all; done) | (with_reducible assumption) | skip)
          refine G_lp [0, 1, 2, 3] (v, c1, v2) trivial ?wkt2
          case wkt2 =>
            rw [hN]
            (repeat' apply And.intro) <;> (first | exact rfl | exact trivial | omega | refine sigEq ?_ | skip)
      · refine GO_op tOk eok_iact (fun _ => none) rfl rfl rfl (fun u => rfl) (fun u => ?_) (fun w6 => ?_)
        · (repeat' apply And.intro) <;> (intros; first | exact trivial | exact rfl | omega | exact u8_lo _ | exact u8_hi _ | exact u8_in64 _ | exact u8_in63 _ | (simp only [inR, IntKind.bits]; omega) | (simp [inR, IntKind.bits]; done) | (simp [inR, IntKind.bits] at * <;> omega) | (simp_all; done) | (with_reducible assumption) | skip)
        refine GA_one 2 tOk eok_iact (fun _ => none) rfl rfl rfl rfl (fun u => rfl) (fun u => ?_) (fun w2 => ?_)
        · (repeat' apply And.intro) <;> (intros; first | exact trivial | exact rfl | omega | exact u8_lo _ | exact u8_hi _ | exact u8_in64 _ | exact u8_in63 _ | (simp only [inR, IntKind.bits]; omega) | (simp [inR, IntKind.bits]; done) | (simp [inR, IntKind.bits] at * <;> omega) | (simp_all; done) | (with_reducible assumption) | skip)
        refine GA_oneH 3 rfl ?_
        refine GO_callH [0, 1] id (hfind b v c l bl hb (by omega)) rfl rfl trivial rfl rfl rfl rfl (by decide) rfl rfl (fun x => rfl) (fun x _ => ?_)
        obtain ⟨u1, c1⟩ := x
        dsimp only
        refine GA_oneH 7 rfl ?_
        refine GO_callH [2, 3] (fun n => n - 2) (rof b2 v2 l bl hb (by omega)) rfl rfl trivial rfl rfl rfl rfl (by decide) rfl rfl (fun x => rfl) (fun u2 _ => ?_)
        refine GA_freeze 5 [31] rfl ⟨rfl, trivial⟩ ?_
        refine GA_freeze 8 [35] rfl ⟨rfl, trivial⟩ ?_
        refine GA_one 8 tOk eok_iact (fun _ => none) rfl rfl rfl rfl (fun u => rfl) (fun u => ?_) (fun w8 => ?_)
        · (repeat' apply And.intro) <;> (intros; first | exact trivial | exact rfl | omega | exact u8_lo _ | exact u8_hi _ | exact u8_in64 _ | exact u8_in63 _ | (simp only [inR, IntKind.bits]; omega) | (simp [inR, IntKind.bits]; done) | (simp [inR, IntKind.bits] at * <;> omega) | (simp_all; done) | (with_reducible assumption) | skip)
        refine GA_one 9 tOk eok_iact (fun _ => none) rfl rfl rfl rfl (fun u => rfl) (fun u => ?_) (fun w9 => ?_)
        · (repeat' apply And.intro) <;> (intros; first | exact trivial | exact rfl | omega | exact u8_lo _ | exact u8_hi _ | exact u8_in64 _ | exact u8_in63 _ | (simp only [inR, IntKind.bits]; omega) | (simp [inR, IntKind.bits]; done) | (simp [inR, IntKind.bits] at * <;> omega) | (simp_all; done) | (with_reducible assumption) | skip)
        refine GA_done rfl ?_
        refine G_run tOk eok_iact 60 (fun _ => none) (fun bs => rfl) (fun bs => ?_) (fun bs => ?_)
        · (repeat' apply And.intro) <;> (intros; first | exact trivial | exact rfl | omega | exact u8_lo _ | exact u8_hi _ | exact u8_in64 _ | exact u8_in63 _ | (simp only [inR, IntKind.bits]; omega) | (simp [inR, IntKind.bits]; done) | (simp [inR, IntKind.bits] at * <;> omega) | (simp_all; done) | (with_reducible assumption) | skip)
        refine G_els rfl rfl (by simp) ?_
        refine G_run tOk eok_iact 60 (fun _ => none) (fun bs => rfl) (fun bs => ?_) (fun bs => ?_)
        · (repeat' apply And.intro) <;> (intros; first | exact trivial | exact rfl | omega | exact u8_lo _ | exact u8_hi _ | exact u8_in64 _ | exact u8_in63 _ | (simp only [inR, IntKind.bits]; omega) | (simp [inR, IntKind.bits]; done) | (simp [inR, IntKind.bits] at * <;> omega) | (simp_all; done) | (with_reducible assumption) | skip)
        refine G_lp [0, 1, 2, 3] (v, c1, v2) trivial ?wkt3
        case wkt3 =>
          rw [hN]
          (repeat' apply And.intro) <;> (first | exact rfl | exact trivial | omega | refine sigEq ?_ | skip)
    refine G_run tOk eok_iact 60 (fun _ => none) (fun bs => rfl) (fun bs => ?_) (fun bs => ?_)
    · (repeat' apply And.intro) <;> (intros; first | exact trivial | exact rfl | omega | exact u8_lo _ | exact u8_hi _ | exact u8_in64 _ | exact u8_in63 _ | (simp only [inR, IntKind.bits]; omega) | (simp [inR, IntKind.bits]; done) | (simp [inR, IntKind.bits] at * <;> omega) | (simp_all; done) | (with_reducible assumption) | skip)
    refine G_if rfl rfl (fun h4 => ?_) (fun h4 => ?_)
    · have hN := hDn h0 h1 h2 (by omega)
      refine G_run tOk eok_iact 60 (fun _ => none) (fun bs => rfl) (fun bs => ?_) (fun bs => ?_)
      · (repeat' apply And.intro) <;> (intros; first | exact trivial | exact rfl | omega | exact u8_lo _ | exact u8_hi _ | exact u8_in64 _ | exact u8_in63 _ | (simp only [inR, IntKind.bits]; omega) | (simp [inR, IntKind.bits]; done) | (simp [inR, IntKind.bits] at * <;> omega) | (simp_all; done) | (with_reducible assumption) | skip)
      have hfl := findN_len l (fg bl) l.length
      refine G_wk (ns := [0, 1, 2, 3, 4]) (fs := [(0, .c (.ptr 0 b 0)), (1, .c (.ptr 2 b2 0)), (5, .c (.ptr 4 ab 0))]) (hs := xrH b v c b2 v2 l ++ [.blk ab 42 ((LK.enc .act ⟨act, bl, ⟨e0, e1, e2, e3, e4⟩⟩).map C.pv)]) rfl ?wk9 ?_
      case wk9 => (repeat' apply And.intro) <;> (first | exact rfl | exact trivial | omega | refine sigEq ?_ | skip)
      refine G_any rfl rfl _ rfl 10 rfl ?_
      refine GA_move 0 rfl rfl rfl rfl (by decide +kernel) rfl (by decide +kernel) rfl rfl ?_
      refine GA_move 4 rfl rfl rfl rfl (by decide +kernel) rfl (by decide +kernel) rfl rfl ?_
      refine GA_fld 1 tOk rfl rfl rfl rfl rfl rfl rfl (by decide +kernel) rfl (by decide +kernel) rfl rfl ?_
      refine GA_fld 5 tOk rfl rfl rfl rfl rfl rfl rfl (by decide +kernel) rfl (by decide +kernel) rfl rfl ?_
      refine GA_two 2 6 rfl ?_ ?_
      · refine GO_op tOk eok_iact (fun _ => none) rfl rfl rfl (fun u => rfl) (fun u => ?_) (fun w2 => ?_)
        · (repeat' apply And.intro) <;> (intros; first | exact trivial | exact rfl | omega | exact u8_lo _ | exact u8_hi _ | exact u8_in64 _ | exact u8_in63 _ | (simp only [inR, IntKind.bits]; omega) | (simp [inR, IntKind.bits]; done) | (simp [inR, IntKind.bits] at * <;> omega) | (simp_all; done) | (with_reducible assumption) | skip)
        refine GA_two 3 6 rfl ?_ ?_
        · refine GO_callH [0, 1] id (hfind b v c l bl hb (by omega)) rfl rfl trivial rfl rfl rfl rfl (by decide) rfl rfl (fun x => rfl) (fun x _ => ?_)
          obtain ⟨u1, c1⟩ := x
          dsimp only
          refine GA_one 6 tOk eok_iact (fun _ => none) rfl rfl rfl rfl (fun u => rfl) (fun u => ?_) (fun w6 => ?_)
          · (repeat' apply And.intro) <;> (intros; first | exact trivial | exact rfl | omega | exact u8_lo _ | exact u8_hi _ | exact u8_in64 _ | exact u8_in63 _ | (simp only [inR, IntKind.bits]; omega) | (simp [inR, IntKind.bits]; done) | (simp [inR, IntKind.bits] at * <;> omega) | (simp_all; done) | (with_reducible assumption) | skip)
          refine GA_oneH 7 rfl ?_
          refine GO_callH [2, 3] (fun n => n - 2) (rof b2 v2 l bl hb (by omega)) rfl rfl trivial rfl rfl rfl rfl (by decide) rfl rfl (fun x => rfl) (fun u2 _ => ?_)
          refine GA_freeze 5 [31] rfl ⟨rfl, trivial⟩ ?_
          refine GA_freeze 8 [35] rfl ⟨rfl, trivial⟩ ?_
          refine GA_one 8 tOk eok_iact (fun _ => none) rfl rfl rfl rfl (fun u => rfl) (fun u => ?_) (fun w8 => ?_)
          · (repeat' apply And.intro) <;> (intros; first | exact trivial | exact rfl | omega | exact u8_lo _ | exact u8_hi _ | exact u8_in64 _ | exact u8_in63 _ | (simp only [inR, IntKind.bits]; omega) | (simp [inR, IntKind.bits]; done) | (simp [inR, IntKind.bits] at * <;> omega) | (simp_all; done) | (with_reducible assumption) | skip)
          refine GA_one 9 tOk eok_iact (fun _ => none) rfl rfl rfl rfl (fun u => rfl) (fun u => ?_) (fun w9 => ?_)
          · (repeat' apply And.intro) <;> (intros; first | exact trivial | exact rfl | omega | exact u8_lo _ | exact u8_hi _ | exact u8_in64 _ | exact u8_in63 _ | (simp only [inR, IntKind.bits]; omega) | (simp [inR, IntKind.bits]; done) | (simp [inR, IntKind.bits] at * <;> omega) | (simp_all; done) | (with_reducible assumption) | skip)
          refine GA_done rfl ?_
          refine G_run tOk eok_iact 60 (fun _ => none) (fun bs => rfl) (fun bs => ?_) (fun bs => ?_)
          · (repeat' apply And.intro) <;> (intros; first | exact trivial | exact rfl | omega | exact u8_lo _ | exact u8_hi _ | exact u8_in64 _ | exact u8_in63 _ | (simp only [inR, IntKind.bits]; omega) | (simp [inR, IntKind.bits]; done) | (simp [inR, IntKind.bits] at * <;> omega) | (simp_all; done) | (with_reducible assumption) | skip)
          refine G_els rfl rfl (by simp) ?_
          refine G_run tOk eok_iact 60 (fun _ => none) (fun bs => rfl) (fun bs => ?_) (fun bs => ?_)
          · (repeat' apply And.intro) <;> (intros; first | exact trivial | exact rfl | omega | exact u8_lo _ | exact u8_hi _ | exact u8_in64 _ | exact u8_in63 _ | (simp only [inR, IntKind.bits]; omega) | (simp [inR, IntKind.bits]; done) | (simp [inR, IntKind.bits] at * <;> omega) | (simp_all; done) | (with_reducible assumption) | skip)
          refine G_lp [0, 1, 2, 3] (v, c1, v2) trivial ?wkt4
          case wkt4 =>
            rw [hN]
            (repeat' apply And.intro) <;> (first | exact rfl | exact trivial | omega | refine sigEq ?_ | skip)
        · refine GO_op tOk eok_iact (fun _ => none) rfl rfl rfl (fun u => rfl) (fun u => ?_) (fun w6 => ?_)
          · (repeat' apply And.intro) <;> (intros; first | exact trivial | exact rfl | omega | exact u8_lo _ | exact u8_hi _ | exact u8_in64 _ | exact u8_in63 _ | (simp only [inR, IntKind.bits]; omega) | (simp [inR, IntKind.bits]; done) | (simp [inR, IntKind.bits] at * <;> omega) | (simp_all; done) | (with_reducible assumption) | skip)
          refine GA_oneH 3 rfl ?_
          refine GO_callH [0, 1] id (hfind b v c l bl hb (by omega)) rfl rfl trivial rfl rfl rfl rfl (by decide) rfl rfl (fun x => rfl) (fun x _ => ?_)
          obtain ⟨u1, c1⟩ := x
          dsimp only
          refine GA_oneH 7 rfl ?_
          refine GO_callH [2, 3] (fun n => n - 2) (rof b2 v2 l bl hb (by omega)) rfl rfl trivial rfl rfl rfl rfl (by decide) rfl rfl (fun x => rfl) (fun u2 _ => ?_)
          refine GA_freeze 5 [31] rfl ⟨rfl, trivial⟩ ?_
          refine GA_freeze 8 [35] rfl ⟨rfl, trivial⟩ ?_
          refine GA_one 8 tOk eok_iact (fun _ => none) rfl rfl rfl rfl (fun u => rfl) (fun u => ?_) (fun w8 => ?_)
          · (repeat' apply And.intro) <;> (intros; first | exact trivial | exact rfl | omega | exact u8_lo _ | exact u8_hi _ | exact u8_in64 _ | exact u8_in63 _ | (simp only [inR, IntKind.bits]; omega) | (simp [inR, IntKind.bits]; done) | (simp [inR, IntKind.bits] at * <;> omega) | (simp_all; done) | (with_reducible assumption) | skip)
          refine GA_one 9 tOk eok_iact (fun _ => none) rfl rfl rfl rfl (fun u => rfl) (fun u => ?_) (fun w9 => ?_)
          · (repeat' apply And.intro) <;> (intros; first | exact trivial | exact rfl | omega | exact u8_lo _ | exact u8_hi _ | exact u8_in64 _ | exact u8_in63 _ | (simp only [inR, IntKind.bits]; omega) | (simp [inR, IntKind.bits]; done) | (simp [inR, IntKind.bits] at * <;> omega) | (simp_all; done) | (with_reducible assumption) | skip)
          refine GA_done rfl ?_
          refine G_run tOk eok_iact 60 (fun _ => none) (fun bs => rfl) (fun bs => ?_) (fun bs => ?_)
          · (repeat' apply And.intro) <;> (intros; first | exact trivial | exact rfl | omega | exact u8_lo _ | exact u8_hi _ | exact u8_in64 _ | exact u8_in63 _ | (simp only [inR, IntKind.bits]; omega) | (simp [inR, IntKind.bits]; done) | (simp [inR, IntKind.bits] at * <;> omega) | (simp_all; done) | (with_reducible assumption) | skip)
          refine G_els rfl rfl (by simp) ?_
          refine G_run tOk eok_iact 60 (fun _ => none) (fun bs => rfl) (fun bs => ?_) (fun bs => ?_)
          · (repeat' apply And.intro) <;> (intros; first | exact trivial | exact rfl | omega | exact u8_lo _ | exact u8_hi _ | exact u8_in64 _ | exact u8_in63 _ | (simp only [inR, IntKind.bits]; omega) | (simp [inR, IntKind.bits]; done) | (simp [inR, IntKind.bits] at * <;> omega) | (simp_all; done) | (with_reducible assumption) | skip)
          refine G_lp [0, 1, 2, 3] (v, c1, v2) trivial ?wkt5
          case wkt5 =>
            rw [hN]
            (repeat' apply And.intro) <;> (first | exact rfl | exact trivial | omega | refine sigEq ?_ | skip)
      · refine GO_op tOk eok_iact (fun _ => none) rfl rfl rfl (fun u => rfl) (fun u => ?_) (fun w6 => ?_)
        · (repeat' apply And.intro) <;> (intros; first | exact trivial | exact rfl | omega | exact u8_lo _ | exact u8_hi _ | exact u8_in64 _ | exact u8_in63 _ | (simp only [inR, IntKind.bits]; omega) | (simp [inR, IntKind.bits]; done) | (simp [inR, IntKind.bits] at * <;> omega) | (simp_all; done) | (with_reducible assumption) | skip)
        refine GA_one 2 tOk eok_iact (fun _ => none) rfl rfl rfl rfl (fun u => rfl) (fun u => ?_) (fun w2 => ?_)
        · (repeat' apply And.intro) <;> (intros; first | exact trivial | exact rfl | omega | exact u8_lo _ | exact u8_hi _ | exact u8_in64 _ | exact u8_in63 _ | (simp only [inR, IntKind.bits]; omega) | (simp [inR, IntKind.bits]; done) | (simp [inR, IntKind.bits] at * <;> omega) | (simp_all; done) | (with_reducible assumption) | skip)
        refine GA_oneH 3 rfl ?_
        refine GO_callH [0, 1] id (hfind b v c l bl hb (by omega)) rfl rfl trivial rfl rfl rfl rfl (by decide) rfl rfl (fun x => rfl) (fun x _ => ?_)
        obtain ⟨u1, c1⟩ := x
        dsimp only
        refine GA_oneH 7 rfl ?_
        refine GO_callH [2, 3] (fun n => n - 2) (rof b2 v2 l bl hb (by omega)) rfl rfl trivial rfl rfl rfl rfl (by decide) rfl rfl (fun x => rfl) (fun u2 _ => ?_)
        refine GA_freeze 5 [31] rfl ⟨rfl, trivial⟩ ?_
        refine GA_freeze 8 [35] rfl ⟨rfl, trivial⟩ ?_
        refine GA_one 8 tOk eok_iact (fun _ => none) rfl rfl rfl rfl (fun u => rfl) (fun u => ?_) (fun w8 => ?_)
        · (repeat' apply And.intro) <;> (intros; first | exact trivial | exact rfl | omega | exact u8_lo _ | exact u8_hi _ | exact u8_in64 _ | exact u8_in63 _ | (simp only [inR, IntKind.bits]; omega) | (simp [inR, IntKind.bits]; done) | (simp [inR, IntKind.bits] at * <;> omega) | (simp_all; done) | (with_reducible assumption) | skip)
        refine GA_one 9 tOk eok_iact (fun _ => none) rfl rfl rfl rfl (fun u => rfl) (fun u => ?_) (fun w9 => ?_)
        · (repeat' apply And.intro) <;> (intros; first | exact trivial | exact rfl | omega | exact u8_lo _ | exact u8_hi _ | exact u8_in64 _ | exact u8_in63 _ | (simp only [inR, IntKind.bits]; omega) | (simp [inR, IntKind.bits]; done) | (simp [inR, IntKind.bits] at * <;> omega) | (simp_all; done) | (with_reducible assumption) | skip)
        refine GA_done rfl ?_
        refine G_run tOk eok_iact 60 (fun _ => none) (fun bs => rfl) (fun bs => ?_) (fun bs => ?_)
        · (repeat' apply And.intro) <;> (intros; first | exact trivial | exact rfl | omega | exact u8_lo _ | exact u8_hi _ | exact u8_in64 _ | exact u8_in63 _ | (simp only [inR, IntKind.bits]; omega) | (simp [inR, IntKind.bits]; done) | (simp [inR, IntKind.bits] at * <;> omega) | (simp_all; done) | (with_reducible assumption) | skip)
        refine G_els rfl rfl (by simp) ?_
        refine G_run tOk eok_iact 60 (fun _ => none) (fun bs => rfl) (fun bs => ?_) (fun bs => ?_)
        · (repeat' apply And.intro) <;> (intros; first | exact trivial | exact rfl | omega | exact u8_lo _ | exact u8_hi _ | exact u8_in64 _ | exact u8_in63 _ | (simp only [inR, IntKind.bits]; omega) | (simp [inR, IntKind.bits]; done) | (simp [inR, IntKind.bits] at * <;> omega) | (simp_all; done) | (with_reducible assumption) | skip)
        refine G_lp [0, 1, 2, 3] (v, c1, v2) trivial ?wkt6
        case wkt6 =>
          rw [hN]
          (repeat' apply And.intro) <;> (first | exact rfl | exact trivial | omega | refine sigEq ?_ | skip)
    refine G_run tOk eok_iact 60 (fun _ => none) (fun bs => rfl) (fun bs => ?_) (fun bs => ?_)
    · (repeat' apply And.intro) <;> (intros; first | exact trivial | exact rfl | omega | exact u8_lo _ | exact u8_hi _ | exact u8_in64 _ | exact u8_in63 _ | (simp only [inR, IntKind.bits]; omega) | (simp [inR, IntKind.bits]; done) | (simp [inR, IntKind.bits] at * <;> omega) | (simp_all; done) | (with_reducible assumption) | skip)
    refine G_if rfl rfl (fun h5 => ?_) (fun h5 => ?_)
    · refine G_run tOk eok_iact 60 (fun _ => none) (fun bs => rfl) (fun bs => ?_) (fun bs => ?_)
      · (repeat' apply And.intro) <;> (intros; first | exact trivial | exact rfl | omega | exact u8_lo _ | exact u8_hi _ | exact u8_in64 _ | exact u8_in63 _ | (simp only [inR, IntKind.bits]; omega) | (simp [inR, IntKind.bits]; done) | (simp [inR, IntKind.bits] at * <;> omega) | (simp_all; done) | (with_reducible assumption) | skip)
      refine G_wk (ns := [0, 1, 2, 3, 4]) (fs := [(0, .c (.ptr 0 b 0)), (1, .c (.ptr 2 b2 0)), (5, .c (.ptr 4 ab 0))]) (hs := xrH b v c b2 v2 l ++ [.blk ab 42 ((LK.enc .act ⟨act, bl, ⟨e0, e1, e2, e3, e4⟩⟩).map C.pv)]) rfl ?wk9 ?_
      case wk9 => (repeat' apply And.intro) <;> (first | exact rfl | exact trivial | omega | refine sigEq ?_ | skip)
      refine G_any rfl rfl _ rfl 9 rfl ?_
      refine GA_move 0 rfl rfl rfl rfl (by decide +kernel) rfl (by decide +kernel) rfl rfl ?_
      refine GA_move 4 rfl rfl rfl rfl (by decide +kernel) rfl (by decide +kernel) rfl rfl ?_
      refine GA_fld 1 tOk rfl rfl rfl rfl rfl rfl rfl (by decide +kernel) rfl (by decide +kernel) rfl rfl ?_
      refine GA_fld 5 tOk rfl rfl rfl rfl rfl rfl rfl (by decide +kernel) rfl (by decide +kernel) rfl rfl ?_
      refine GA_two 2 6 rfl ?_ ?_
      · refine GO_op tOk eok_iact (fun _ => none) rfl rfl rfl (fun u => rfl) (fun u => ?_) (fun w2 => ?_)
        · (repeat' apply And.intro) <;> (intros; first | exact trivial | exact rfl | omega | exact u8_lo _ | exact u8_hi _ | exact u8_in64 _ | exact u8_in63 _ | (simp only [inR, IntKind.bits]; omega) | (simp [inR, IntKind.bits]; done) | (simp [inR, IntKind.bits] at * <;> omega) | (simp_all; done) | (with_reducible assumption) | skip)
        refine GA_two 3 6 rfl ?_ ?_
        · refine GO_callH [0, 1] id (hforg b v c l e0 e1 e2 e3 e4 (by omega)) rfl rfl trivial rfl rfl rfl rfl (by decide) rfl rfl (fun x => rfl) (fun u1 _ => ?_)
          refine GA_one 6 tOk eok_iact (fun _ => none) rfl rfl rfl rfl (fun u => rfl) (fun u => ?_) (fun w6 => ?_)
          · (repeat' apply And.intro) <;> (intros; first | exact trivial | exact rfl | omega | exact u8_lo _ | exact u8_hi _ | exact u8_in64 _ | exact u8_in63 _ | (simp only [inR, IntKind.bits]; omega) | (simp [inR, IntKind.bits]; done) | (simp [inR, IntKind.bits] at * <;> omega) | (simp_all; done) | (with_reducible assumption) | skip)
          refine GA_oneH 7 rfl ?_
          refine GO_callH [2, 3] (fun n => n - 2) (rforg b2 v2 l e0 e1 e2 e3 e4 (by omega)) rfl rfl trivial rfl rfl rfl rfl (by decide) rfl rfl (fun x => rfl) (fun u2 _ => ?_)
          refine GA_one 8 tOk eok_iact (fun _ => none) rfl rfl rfl rfl (fun u => rfl) (fun u => ?_) (fun w8 => ?_)
          · (repeat' apply And.intro) <;> (intros; first | exact trivial | exact rfl | omega | exact u8_lo _ | exact u8_hi _ | exact u8_in64 _ | exact u8_in63 _ | (simp only [inR, IntKind.bits]; omega) | (simp [inR, IntKind.bits]; done) | (simp [inR, IntKind.bits] at * <;> omega) | (simp_all; done) | (with_reducible assumption) | skip)
          refine GA_done rfl ?_
          refine G_run tOk eok_iact 60 (fun _ => none) (fun bs => rfl) (fun bs => ?_) (fun bs => ?_)
          · (repeat' apply And.intro) <;> (intros; first | exact trivial | exact rfl | omega | exact u8_lo _ | exact u8_hi _ | exact u8_in64 _ | exact u8_in63 _ | (simp only [inR, IntKind.bits]; omega) | (simp [inR, IntKind.bits]; done) | (simp [inR, IntKind.bits] at * <;> omega) | (simp_all; done) | (with_reducible assumption) | skip)
          refine G_els rfl rfl (by simp) ?_
          refine G_run tOk eok_iact 60 (fun _ => none) (fun bs => rfl) (fun bs => ?_) (fun bs => ?_)
          · (repeat' apply And.intro) <;> (intros; first | exact trivial | exact rfl | omega | exact u8_lo _ | exact u8_hi _ | exact u8_in64 _ | exact u8_in63 _ | (simp only [inR, IntKind.bits]; omega) | (simp [inR, IntKind.bits]; done) | (simp [inR, IntKind.bits] at * <;> omega) | (simp_all; done) | (with_reducible assumption) | skip)
          refine G_lp [0, 1, 2, 3] (u1, c, u2) trivial ?wkt7
          case wkt7 =>
            rw [hD5 h5]
            (repeat' apply And.intro) <;> (first | exact rfl | exact trivial | omega | refine sigEq ?_ | skip)
        · refine GO_op tOk eok_iact (fun _ => none) rfl rfl rfl (fun u => rfl) (fun u => ?_) (fun w6 => ?_)
          · (repeat' apply And.intro) <;> (intros; first | exact trivial | exact rfl | omega | exact u8_lo _ | exact u8_hi _ | exact u8_in64 _ | exact u8_in63 _ | (simp only [inR, IntKind.bits]; omega) | (simp [inR, IntKind.bits]; done) | (simp [inR, IntKind.bits] at * <;> omega) | (simp_all; done) | (with_reducible assumption) | skip)
          refine GA_oneH 3 rfl ?_
          refine GO_callH [0, 1] id (hforg b v c l e0 e1 e2 e3 e4 (by omega)) rfl rfl trivial rfl rfl rfl rfl (by decide) rfl rfl (fun x => rfl) (fun u1 _ => ?_)
          refine GA_oneH 7 rfl ?_
          refine GO_callH [2, 3] (fun n => n - 2) (rforg b2 v2 l e0 e1 e2 e3 e4 (by omega)) rfl rfl trivial rfl rfl rfl rfl (by decide) rfl rfl (fun x => rfl) (fun u2 _ => ?_)
          refine GA_one 8 tOk eok_iact (fun _ => none) rfl rfl rfl rfl (fun u => rfl) (fun u => ?_) (fun w8 => ?_)
          · (repeat' apply And.intro) <;> (intros; first | exact trivial | exact rfl | omega | exact u8_lo _ | exact u8_hi _ | exact u8_in64 _ | exact u8_in63 _ | (simp only [inR, IntKind.bits]; omega) | (simp [inR, IntKind.bits]; done) | (simp [inR, IntKind.bits] at * <;> omega) | (simp_all; done) | (with_reducible assumption) | skip)
          refine GA_done rfl ?_
          refine G_run tOk eok_iact 60 (fun _ => none) (fun bs => rfl) (fun bs => ?_) (fun bs => ?_)
          · (repeat' apply And.intro) <;> (intros; first | exact trivial | exact rfl | omega | exact u8_lo _ | exact u8_hi _ | exact u8_in64 _ | exact u8_in63 _ | (simp only [inR, IntKind.bits]; omega) | (simp [inR, IntKind.bits]; done) | (simp [inR, IntKind.bits] at * <;> omega) | (simp_all; done) | (with_reducible assumption) | skip)
          refine G_els rfl rfl (by simp) ?_
          refine G_run tOk eok_iact 60 (fun _ => none) (fun bs => rfl) (fun bs => ?_) (fun bs => ?_)
          · (repeat' apply And.intro) <;> (intros; first | exact trivial | exact rfl | omega | exact u8_lo _ | exact u8_hi _ | exact u8_in64 _ | exact u8_in63 _ | (simp only [inR, IntKind.bits]; omega) | (simp [inR, IntKind.bits]; done) | (simp [inR, IntKind.bits] at * <;> omega) | (simp_all; done) | (with_reducible assumption) | skip)
          refine G_lp [0, 1, 2, 3] (u1, c, u2) trivial ?wkt8
          case wkt8 =>
            rw [hD5 h5]
            (repeat' apply And.intro) <;> (first | exact rfl | exact trivial | omega | refine sigEq ?_ | skip)
      · refine GO_op tOk eok_iact (fun _ => none) rfl rfl rfl (fun u => rfl) (fun u => ?_) (fun w6 => ?_)
        · (repeat' apply And.intro) <;> (intros; first | exact trivial | exact rfl | omega | exact u8_lo _ | exact u8_hi _ | exact u8_in64 _ | exact u8_in63 _ | (simp only [inR, IntKind.bits]; omega) | (simp [inR, IntKind.bits]; done) | (simp [inR, IntKind.bits] at * <;> omega) | (simp_all; done) | (with_reducible assumption) | skip)
        refine GA_one 2 tOk eok_iact (fun _ => none) rfl rfl rfl rfl (fun u => rfl) (fun u => ?_) (fun w2 => ?_)
        · (repeat' apply And.intro) <;> (intros; first | exact trivial | exact rfl | omega | exact u8_lo _ | exact u8_hi _ | exact u8_in64 _ | exact u8_in63 _ | (simp only [inR, IntKind.bits]; omega) | (simp [inR, IntKind.bits]; done) | (simp [inR, IntKind.bits] at * <;> omega) | (simp_all; done) | (with_reducible assumption) | skip)
        refine GA_oneH 3 rfl ?_
        refine GO_callH [0, 1] id (hforg b v c l e0 e1 e2 e3 e4 (by omega)) rfl rfl trivial rfl rfl rfl rfl (by decide) rfl rfl (fun x => rfl) (fun u1 _ => ?_)
        refine GA_oneH 7 rfl ?_
        refine GO_callH [2, 3] (fun n => n - 2) (rforg b2 v2 l e0 e1 e2 e3 e4 (by omega)) rfl rfl trivial rfl rfl rfl rfl (by decide) rfl rfl (fun x => rfl) (fun u2 _ => ?_)
        refine GA_one 8 tOk eok_iact (fun _ => none) rfl rfl rfl rfl (fun u => rfl) (fun u => ?_) (fun w8 => ?_)
        · (repeat' apply And.intro) <;> (intros; first | exact trivial | exact rfl | omega | exact u8_lo _ | exact u8_hi _ | exact u8_in64 _ | exact u8_in63 _ | (simp only [inR, IntKind.bits]; omega) | (simp [inR, IntKind.bits]; done) | (simp [inR, IntKind.bits] at * <;> omega) | (simp_all; done) | (with_reducible assumption) | skip)
        refine GA_done rfl ?_
        refine G_run tOk eok_iact 60 (fun _ => none) (fun bs => rfl) (fun bs => ?_) (fun bs => ?_)
        · (repeat' apply And.intro) <;> (intros; first | exact trivial | exact rfl | omega | exact u8_lo _ | exact u8_hi _ | exact u8_in64 _ | exact u8_in63 _ | (simp only [inR, IntKind.bits]; omega) | (simp [inR, IntKind.bits]; done) | (simp [inR, IntKind.bits] at * <;> omega) | (simp_all; done) | (with_reducible assumption) | skip)
        refine G_els rfl rfl (by simp) ?_
        refine G_run tOk eok_iact 60 (fun _ => none) (fun bs => rfl) (fun bs => ?_) (fun bs => ?_)
        · (repeat' apply And.intro) <;> (intros; first | exact trivial | exact rfl | omega | exact u8_lo _ | exact u8_hi _ | exact u8_in64 _ | exact u8_in63 _ | (simp only [inR, IntKind.bits]; omega) | (simp [inR, IntKind.bits]; done) | (simp [inR, IntKind.bits] at * <;> omega) | (simp_all; done) | (with_reducible assumption) | skip)
        refine G_lp [0, 1, 2, 3] (u1, c, u2) trivial ?wkt9
        case wkt9 =>
          rw [hD5 h5]
          (repeat' apply And.intro) <;> (first | exact rfl | exact trivial | omega | refine sigEq ?_ | skip)
    have hN := hDn h0 h1 h2 h5
    refine G_run tOk eok_iact 60 (fun _ => none) (fun bs => rfl) (fun bs => ?_) (fun bs => ?_)
    · (repeat' apply And.intro) <;> (intros; first | exact trivial | exact rfl | omega | exact u8_lo _ | exact u8_hi _ | exact u8_in64 _ | exact u8_in63 _ | (simp only [inR, IntKind.bits]; omega) | (simp [inR, IntKind.bits]; done) | (simp [inR, IntKind.bits] at * <;> omega) | (simp_all; done) | (with_reducible assumption) | skip)
    refine G_lp [0, 1, 2, 3] (v, c, v2) trivial ?wkz
    case wkz =>
      rw [hN]
      (repeat' apply And.intro) <;> (first | exact rfl | exact trivial | omega | refine sigEq ?_ | skip)
  obtain ⟨u, c1, u2⟩ := x
  dsimp only
  refine G_run tOk eok_iact 60 (fun _ => none) (fun bs => rfl) (fun bs => ?_) (fun bs => ?_)
  · (repeat' apply And.intro) <;> (intros; first | exact trivial | exact rfl | omega | exact u8_lo _ | exact u8_hi _ | exact u8_in64 _ | exact u8_in63 _ | (simp only [inR, IntKind.bits]; omega) | (simp [inR, IntKind.bits]; done) | (simp [inR, IntKind.bits] at * <;> omega) | (simp_all; done) | (with_reducible assumption) | skip)
  refine G_any rfl rfl _ rfl 9 rfl ?_
  refine GA_move 0 rfl rfl rfl rfl (by decide +kernel) rfl (by decide +kernel) rfl rfl ?_
  refine GA_move 2 rfl rfl rfl rfl (by decide +kernel) rfl (by decide +kernel) rfl rfl ?_
  refine GA_nilc 3 rfl rfl rfl rfl (by decide +kernel) rfl (by decide +kernel) rfl rfl ?_
  refine GA_fld 4 tOk rfl rfl rfl rfl rfl rfl rfl (by decide +kernel) rfl (by decide +kernel) rfl rfl ?_
  refine GA_two 1 5 rfl ?_ ?_
  · refine GO_callH [0, 1] id (hlen b u c1 L) rfl rfl trivial rfl rfl rfl rfl (by decide) rfl rfl (fun x => rfl) (fun x _ => ?_)
    refine GA_one 5 tOk eok_iact (fun _ => none) rfl rfl rfl rfl (fun u => rfl) (fun u => ?_) (fun w5 => ?_)
    · (repeat' apply And.intro) <;> (intros; first | exact trivial | exact rfl | omega | exact u8_lo _ | exact u8_hi _ | exact u8_in64 _ | exact u8_in63 _ | (simp only [inR, IntKind.bits]; omega) | (simp [inR, IntKind.bits]; done) | (simp [inR, IntKind.bits] at * <;> omega) | (simp_all; done) | (with_reducible assumption) | skip)
    refine GA_one 6 tOk eok_iact (fun _ => none) rfl rfl rfl rfl (fun u => rfl) (fun u => ?_) (fun w6 => ?_)
    · (repeat' apply And.intro) <;> (intros; first | exact trivial | exact rfl | omega | exact u8_lo _ | exact u8_hi _ | exact u8_in64 _ | exact u8_in63 _ | (simp only [inR, IntKind.bits]; omega) | (simp [inR, IntKind.bits]; done) | (simp [inR, IntKind.bits] at * <;> omega) | (simp_all; done) | (with_reducible assumption) | skip)
    refine GA_one 7 tOk eok_iact (fun _ => none) rfl rfl rfl rfl (fun u => rfl) (fun u => ?_) (fun w7 => ?_)
    · (repeat' apply And.intro) <;> (intros; first | exact trivial | exact rfl | omega | exact u8_lo _ | exact u8_hi _ | exact u8_in64 _ | exact u8_in63 _ | (simp only [inR, IntKind.bits]; omega) | (simp [inR, IntKind.bits]; done) | (simp [inR, IntKind.bits] at * <;> omega) | (simp_all; done) | (with_reducible assumption) | skip)
    refine GA_one 8 tOk eok_iact (fun _ => none) rfl rfl rfl rfl (fun u => rfl) (fun u => ?_) (fun w8 => ?_)
    · (repeat' apply And.intro) <;> (intros; first | exact trivial | exact rfl | omega | exact u8_lo _ | exact u8_hi _ | exact u8_in64 _ | exact u8_in63 _ | (simp only [inR, IntKind.bits]; omega) | (simp [inR, IntKind.bits]; done) | (simp [inR, IntKind.bits] at * <;> omega) | (simp_all; done) | (with_reducible assumption) | skip)
    refine GA_done rfl ?_
    refine G_run tOk eok_iact 60 (fun _ => none) (fun bs => rfl) (fun bs => ?_) (fun bs => ?_)
    · (repeat' apply And.intro) <;> (intros; first | exact trivial | exact rfl | omega | exact u8_lo _ | exact u8_hi _ | exact u8_in64 _ | exact u8_in63 _ | (simp only [inR, IntKind.bits]; omega) | (simp [inR, IntKind.bits]; done) | (simp [inR, IntKind.bits] at * <;> omega) | (simp_all; done) | (with_reducible assumption) | skip)
    refine G_retH rfl tOk rfl rfl ⟨trivial, trivial⟩ (u, c1, u2) trivial [0, 1, 2, 3] id ?_ (by decide) rfl
    simp [oneA, renA, renC]
  · refine GO_op tOk eok_iact (fun _ => none) rfl rfl rfl (fun u => rfl) (fun u => ?_) (fun w5 => ?_)
    · (repeat' apply And.intro) <;> (intros; first | exact trivial | exact rfl | omega | exact u8_lo _ | exact u8_hi _ | exact u8_in64 _ | exact u8_in63 _ | (simp only [inR, IntKind.bits]; omega) | (simp [inR, IntKind.bits]; done) | (simp [inR, IntKind.bits] at * <;> omega) | (simp_all; done) | (with_reducible assumption) | skip)
    refine GA_two 1 6 rfl ?_ ?_
    · refine GO_callH [0, 1] id (hlen b u c1 L) rfl rfl trivial rfl rfl rfl rfl (by decide) rfl rfl (fun x => rfl) (fun x _ => ?_)
      refine GA_one 6 tOk eok_iact (fun _ => none) rfl rfl rfl rfl (fun u => rfl) (fun u => ?_) (fun w6 => ?_)
      · (repeat' apply And.intro) <;> (intros; first | exact trivial | exact rfl | omega | exact u8_lo _ | exact u8_hi _ | exact u8_in64 _ | exact u8_in63 _ | (simp only [inR, IntKind.bits]; omega) | (simp [inR, IntKind.bits]; done) | (simp [inR, IntKind.bits] at * <;> omega) | (simp_all; done) | (with_reducible assumption) | skip)
      refine GA_one 7 tOk eok_iact (fun _ => none) rfl rfl rfl rfl (fun u => rfl) (fun u => ?_) (fun w7 => ?_)
      · (repeat' apply And.intro) <;> (intros; first | exact trivial | exact rfl | omega | exact u8_lo _ | exact u8_hi _ | exact u8_in64 _ | exact u8_in63 _ | (simp only [inR, IntKind.bits]; omega) | (simp [inR, IntKind.bits]; done) | (simp [inR, IntKind.bits] at * <;> omega) | (simp_all; done) | (with_reducible assumption) | skip)
      refine GA_one 8 tOk eok_iact (fun _ => none) rfl rfl rfl rfl (fun u => rfl) (fun u => ?_) (fun w8 => ?_)
      · (repeat' apply And.intro) <;> (intros; first | exact trivial | exact rfl | omega | exact u8_lo _ | exact u8_hi _ | exact u8_in64 _ | exact u8_in63 _ | (simp only [inR, IntKind.bits]; omega) | (simp [inR, IntKind.bits]; done) | (simp [inR, IntKind.bits] at * <;> omega) | (simp_all; done) | (with_reducible assumption) | skip)
      refine GA_done rfl ?_
      refine G_run tOk eok_iact 60 (fun _ => none) (fun bs => rfl) (fun bs => ?_) (fun bs => ?_)
      · (repeat' apply And.intro) <;> (intros; first | exact trivial | exact rfl | omega | exact u8_lo _ | exact u8_hi _ | exact u8_in64 _ | exact u8_in63 _ | (simp only [inR, IntKind.bits]; omega) | (simp [inR, IntKind.bits]; done) | (simp [inR, IntKind.bits] at * <;> omega) | (simp_all; done) | (with_reducible assumption) | skip)
      refine G_retH rfl tOk rfl rfl ⟨trivial, trivial⟩ (u, c1, u2) trivial [0, 1, 2, 3] id ?_ (by decide) rfl
      simp [oneA, renA, renC]
    · refine GO_op tOk eok_iact (fun _ => none) rfl rfl rfl (fun u => rfl) (fun u => ?_) (fun w6 => ?_)
      · (repeat' apply And.intro) <;> (intros; first | exact trivial | exact rfl | omega | exact u8_lo _ | exact u8_hi _ | exact u8_in64 _ | exact u8_in63 _ | (simp only [inR, IntKind.bits]; omega) | (simp [inR, IntKind.bits]; done) | (simp [inR, IntKind.bits] at * <;> omega) | (simp_all; done) | (with_reducible assumption) | skip)
      refine GA_oneH 1 rfl ?_
      refine GO_callH [0, 1] id (hlen b u c1 L) rfl rfl trivial rfl rfl rfl rfl (by decide) rfl rfl (fun x => rfl) (fun x _ => ?_)
      refine GA_one 7 tOk eok_iact (fun _ => none) rfl rfl rfl rfl (fun u => rfl) (fun u => ?_) (fun w7 => ?_)
      · (repeat' apply And.intro) <;> (intros; first | exact trivial | exact rfl | omega | exact u8_lo _ | exact u8_hi _ | exact u8_in64 _ | exact u8_in63 _ | (simp only [inR, IntKind.bits]; omega) | (simp [inR, IntKind.bits]; done) | (simp [inR, IntKind.bits] at * <;> omega) | (simp_all; done) | (with_reducible assumption) | skip)
      refine GA_one 8 tOk eok_iact (fun _ => none) rfl rfl rfl rfl (fun u => rfl) (fun u => ?_) (fun w8 => ?_)
      · (repeat' apply And.intro) <;> (intros; first | exact trivial | exact rfl | omega | exact u8_lo _ | exact u8_hi _ | exact u8_in64 _ | exact u8_in63 _ | (simp only [inR, IntKind.bits]; omega) | (simp [inR, IntKind.bits]; done) | (simp [inR, IntKind.bits] at * <;> omega) | (simp_all; done) | (with_reducible assumption) | skip)
      refine GA_done rfl ?_
      refine G_run tOk eok_iact 60 (fun _ => none) (fun bs => rfl) (fun bs => ?_) (fun bs => ?_)
      · (repeat' apply And.intro) <;> (intros; first | exact trivial | exact rfl | omega | exact u8_lo _ | exact u8_hi _ | exact u8_in64 _ | exact u8_in63 _ | (simp only [inR, IntKind.bits]; omega) | (simp [inR, IntKind.bits]; done) | (simp [inR, IntKind.bits] at * <;> omega) | (simp_all; done) | (with_reducible assumption) | skip)
      refine G_retH rfl tOk rfl rfl ⟨trivial, trivial⟩ (u, c1, u2) trivial [0, 1, 2, 3] id ?_ (by decide) rfl
      simp [oneA, renA, renC]
end Go.Proofs.Ytbhemhmdmeomdaa
