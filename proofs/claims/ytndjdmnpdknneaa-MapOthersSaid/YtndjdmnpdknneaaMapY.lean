import Derived.Test.YtndjdmnpdknneaaMapX
set_option linter.unusedSimpArgs false
set_option linter.unusedVariables false
namespace Go.Proofs.Ytndjdmnpdknneaa
open Go.Mt
def psi_va := psiOff 37 psi_vo
theorem psi_va_ok : PsiFn Try.prog psi_va := psiOff_ok psi_vo_ok

def env_x : Env := ⟨T, psi_vo, pspNil, psc_del, 32, [], none, false⟩
theorem eok_x : PsiOk Try.prog env_x := ⟨psi_vo_ok, pspNil_ok, psc_del_ok⟩
def env_mclH : Env := ⟨T, psi_va, pspNil, psc_del, 32, [], none, false⟩
theorem eok_mclH : PsiOk Try.prog env_mclH := ⟨psi_va_ok, pspNil_ok, psc_del_ok⟩
theorem mclH (v : Value) (Lh : List BmH) (i : Nat) (u : Value) (L m : List Span) (nm : List UInt8) (on : Bool) (hi : i < Lh.length) (hg : Lh.getD i LK.bmh.dft = ⟨nm, on, .v u⟩) (hL : L.length ≤ 100000) (hm : m.length ≤ 100000) : CtrH Try.prog 36 [.c (.oel 0 v i 3 0), .c (.cel [.lst .spn m])] [.own v 43 .bmh Lh, .own u 38 .spn L] (fun _ => True) (fun _ : Value => .t []) (fun w => [.own v 43 .bmh (Lh.set i ⟨nm, on, .v w⟩), .own w 38 .spn (mrgP L m)]) := by
  refine CtrH_intro (E := env_mclH) Try.func36 rfl (by decide) rfl rfl (fun M0 W hM0 => ?_)
  have hr1 := rightL_le L
  refine G_run tOk eok_mclH 60 (fun _ => none) (fun bs => rfl) (fun bs => ?_) (fun bs => ?_)
  · (repeat' apply And.intro) <;> (intros; first | exact trivial | exact rfl | omega | exact u8_lo _ | exact u8_hi _ | exact u8_in64 _ | exact u8_in63 _ | (simp only [inR, IntKind.bits]; omega) | (simp [inR, IntKind.bits]; done) | (simp [inR, IntKind.bits] at * <;> omega) | (simp_all; done) | (with_reducible assumption) | skip)
  refine G_link 9 1 rfl (by show (Lh.getD i LK.bmh.dft).sp.pv = _; rw [hg]; rfl) rfl ?_
  refine G_env env_x rfl rfl rfl ?_
  refine G_run tOk eok_x 60 (fun _ => none) (fun bs => rfl) (fun bs => ?_) (fun bs => ?_)
  · (repeat' apply And.intro) <;> (intros; first | exact trivial | exact rfl | omega | exact u8_lo _ | exact u8_hi _ | exact u8_in64 _ | exact u8_in63 _ | (simp only [inR, IntKind.bits]; omega) | (simp [inR, IntKind.bits]; done) | (simp [inR, IntKind.bits] at * <;> omega) | (simp_all; done) | (with_reducible assumption) | skip)
  refine G_cond (b := rightB m) rfl rfl (fun h => ?_) (fun h => ?_)
  · refine G_run tOk eok_x 60 (fun _ => none) (fun bs => rfl) (fun bs => ?_) (fun bs => ?_)
    · (repeat' apply And.intro) <;> (intros; first | exact trivial | exact rfl | omega | exact u8_lo _ | exact u8_hi _ | exact u8_in64 _ | exact u8_in63 _ | (simp only [inR, IntKind.bits]; omega) | (simp [inR, IntKind.bits]; done) | (simp [inR, IntKind.bits] at * <;> omega) | (simp_all; done) | (with_reducible assumption) | skip)
    have e0 : mrgP L m = addA (rightL L) m m.length := by simp only [mrgP, h]
    rw [e0]
    refine G_loop (fun x : Nat × Value => [(0, .c (.oel 0 v i 3 0)), (1, .c (.cel [.lst .spn m])), (16, lst .spn m), (17, int .i64 m.length), (18, int .i64 x.1)]) (fun x => [.own v 43 .bmh (Lh.set i ⟨nm, on, .v x.2⟩), .own x.2 38 .spn (addA (rightL L) m x.1)]) (fun x => x.1 ≤ m.length) (fun x => m.length - x.1) rfl [0, 2] (0, ?u0) (Nat.zero_le _) ?wk (fun x hx => ?_)
    case wk =>
      (repeat' apply And.intro) <;> (first | exact rfl | exact trivial | omega | refine sigEq ?_ | skip)
      all_goals first | (show Lh.set i ⟨(Lh.getD i LK.bmh.dft).name, (Lh.getD i LK.bmh.dft).on, _⟩ = _; rw [hg]) | skip
    obtain ⟨k, w⟩ := x
    dsimp only at hx ⊢
    have ha := addA_len (rightL L) m k hx
    have hli : i < (Lh.set i ⟨nm, on, .v w⟩).length := by simpa using hi
    have hget : (Lh.set i ⟨nm, on, .v w⟩).getD i LK.bmh.dft = ⟨nm, on, .v w⟩ := getD_set_self _ _ hi
    refine G_run tOk eok_x 60 (fun _ => none) (fun bs => rfl) (fun bs => ?_) (fun bs => ?_)
    · (repeat' apply And.intro) <;> (intros; first | exact trivial | exact rfl | omega | exact u8_lo _ | exact u8_hi _ | exact u8_in64 _ | exact u8_in63 _ | (simp only [inR, IntKind.bits]; omega) | (simp [inR, IntKind.bits]; done) | (simp [inR, IntKind.bits] at * <;> omega) | (simp_all; done) | (with_reducible assumption) | skip)
    refine G_if rfl rfl (fun hk => ?_) (fun hk => ?_)
    · have hk' : k < m.length := by omega
      refine G_run tOk eok_x 60 (fun _ => none) (fun bs => rfl) (fun bs => ?_) (fun bs => ?_)
      · (repeat' apply And.intro) <;> (intros; first | exact trivial | exact rfl | omega | exact u8_lo _ | exact u8_hi _ | exact u8_in64 _ | exact u8_in63 _ | (simp only [inR, IntKind.bits]; omega) | (simp [inR, IntKind.bits]; done) | (simp [inR, IntKind.bits] at * <;> omega) | (simp_all; done) | (with_reducible assumption) | skip)
      refine G_wkB (ns := [0, 1, 2]) (fs := fun c => [(0, .c (.oel 0 v i 3 0)), (1, .c (.cel [.lst .spn m])), (4, .c (.ptr 2 c 0)), (16, lst .spn m), (17, int .i64 m.length), (18, int .i64 k)]) (hs := fun c => [.own v 43 .bmh (Lh.set i ⟨nm, on, .v w⟩), .own w 38 .spn (addA (rightL L) m k), .blk c 38 ((LK.enc .spn (m.getD k LK.spn.dft)).map C.pv)]) ?b1 rfl ?wkb (fun c => ?_)
      case wkb => (repeat' apply And.intro) <;> (first | exact rfl | exact trivial | omega | refine sigEq ?_ | skip)
      refine G_any rfl rfl _ rfl 10 rfl ?_
      refine GA_moveW 0 rfl rfl rfl rfl (by decide +kernel) rfl (by decide +kernel) trivial rfl ?_
      refine GA_moveW 1 rfl rfl rfl rfl (by decide +kernel) rfl (by decide +kernel) trivial rfl ?_
      refine GA_nilcO 2 rfl rfl rfl rfl (by decide +kernel) rfl (by decide +kernel) trivial rfl ?_
      refine GA_fldO 3 tOk rfl rfl rfl rfl rfl rfl rfl (by decide +kernel) rfl (by decide +kernel) trivial rfl ?_
      refine GA_two 4 5 rfl ?_ ?_
      · refine GO_op tOk eok_x (fun _ => none) rfl rfl rfl (fun u => rfl) (fun u => ?_) (fun w4 => ?_)
        · exact ⟨⟨rfl, rfl⟩, hli⟩
        refine GA_link 26 1 rfl (v := w) (by show ((Lh.set i ⟨nm, on, .v w⟩).getD i LK.bmh.dft).sp.pv = _; rw [hget]; rfl) ?_
        refine GA_one 5 tOk eok_x (fun _ => none) rfl rfl rfl rfl (fun u => rfl) (fun u => ?_) (fun w5 => ?_)
        · (repeat' apply And.intro) <;> (intros; first | exact trivial | exact rfl | omega | exact u8_lo _ | exact u8_hi _ | exact u8_in64 _ | exact u8_in63 _ | (simp only [inR, IntKind.bits]; omega) | (simp [inR, IntKind.bits]; done) | (simp [inR, IntKind.bits] at * <;> omega) | (simp_all; done) | (with_reducible assumption) | skip)
        refine GA_one 6 tOk eok_x (fun _ => none) rfl rfl rfl rfl (fun u => rfl) (fun u => ?_) (fun w6 => ?_)
        · (repeat' apply And.intro) <;> (intros; first | exact trivial | exact rfl | omega | exact u8_lo _ | exact u8_hi _ | exact u8_in64 _ | exact u8_in63 _ | (simp only [inR, IntKind.bits]; omega) | (simp [inR, IntKind.bits]; done) | (simp [inR, IntKind.bits] at * <;> omega) | (simp_all; done) | (with_reducible assumption) | skip)
        refine GA_one 7 tOk eok_x (fun _ => none) rfl rfl rfl rfl (fun u => rfl) (fun u => ?_) (fun w7 => ?_)
        · (repeat' apply And.intro) <;> (intros; first | exact trivial | exact rfl | omega | exact u8_lo _ | exact u8_hi _ | exact u8_in64 _ | exact u8_in63 _ | (simp only [inR, IntKind.bits]; omega) | (simp [inR, IntKind.bits]; done) | (simp [inR, IntKind.bits] at * <;> omega) | (simp_all; done) | (with_reducible assumption) | skip)
        refine GA_one 8 tOk eok_x (fun _ => none) rfl rfl rfl rfl (fun u => rfl) (fun u => ?_) (fun w8 => ?_)
        · (repeat' apply And.intro) <;> (intros; first | exact trivial | exact rfl | omega | exact u8_lo _ | exact u8_hi _ | exact u8_in64 _ | exact u8_in63 _ | (simp only [inR, IntKind.bits]; omega) | (simp [inR, IntKind.bits]; done) | (simp [inR, IntKind.bits] at * <;> omega) | (simp_all; done) | (with_reducible assumption) | skip)
        refine GA_one 9 tOk eok_x (fun _ => none) rfl rfl rfl rfl (fun u => rfl) (fun u => ?_) (fun w9 => ?_)
        · (repeat' apply And.intro) <;> (intros; first | exact trivial | exact rfl | omega | exact u8_lo _ | exact u8_hi _ | exact u8_in64 _ | exact u8_in63 _ | (simp only [inR, IntKind.bits]; omega) | (simp [inR, IntKind.bits]; done) | (simp [inR, IntKind.bits] at * <;> omega) | (simp_all; done) | (with_reducible assumption) | skip)
        refine GA_done rfl ?_
        refine G_run tOk eok_x 60 (fun _ => none) (fun bs => rfl) (fun bs => ?_) (fun bs => ?_)
        · (repeat' apply And.intro) <;> (intros; first | exact trivial | exact rfl | omega | exact u8_lo _ | exact u8_hi _ | exact u8_in64 _ | exact u8_in63 _ | (simp only [inR, IntKind.bits]; omega) | (simp [inR, IntKind.bits]; done) | (simp [inR, IntKind.bits] at * <;> omega) | (simp_all; done) | (with_reducible assumption) | skip)
        refine G_lp [0, 3] (k + 1, w6) ?ok1 ?wk1
        case ok1 => exact ⟨hk', by simp only; omega⟩
        case wk1 =>
          (repeat' apply And.intro) <;> (first | exact rfl | exact trivial | omega | refine sigEq ?_ | skip)
          all_goals first | (show (Lh.set i _).set i ⟨((Lh.set i _).getD i LK.bmh.dft).name, ((Lh.set i _).getD i LK.bmh.dft).on, _⟩ = _; rw [hget]; exact List.set_set ..) | (rw [addA_succ _ _ hk']; rfl) | skip
      · refine GO_op tOk eok_x (fun _ => none) rfl rfl rfl (fun u => rfl) (fun u => ?_) (fun w5 => ?_)
        · (repeat' apply And.intro) <;> (intros; first | exact trivial | exact rfl | omega | exact u8_lo _ | exact u8_hi _ | exact u8_in64 _ | exact u8_in63 _ | (simp only [inR, IntKind.bits]; omega) | (simp [inR, IntKind.bits]; done) | (simp [inR, IntKind.bits] at * <;> omega) | (simp_all; done) | (with_reducible assumption) | skip)
        refine GA_one 4 tOk eok_x (fun _ => none) rfl rfl rfl rfl (fun u => rfl) (fun u => ?_) (fun w4 => ?_)
        · exact ⟨⟨rfl, rfl⟩, hli⟩
        refine GA_link 26 1 rfl (v := w) (by show ((Lh.set i ⟨nm, on, .v w⟩).getD i LK.bmh.dft).sp.pv = _; rw [hget]; rfl) ?_
        refine GA_one 6 tOk eok_x (fun _ => none) rfl rfl rfl rfl (fun u => rfl) (fun u => ?_) (fun w6 => ?_)
        · (repeat' apply And.intro) <;> (intros; first | exact trivial | exact rfl | omega | exact u8_lo _ | exact u8_hi _ | exact u8_in64 _ | exact u8_in63 _ | (simp only [inR, IntKind.bits]; omega) | (simp [inR, IntKind.bits]; done) | (simp [inR, IntKind.bits] at * <;> omega) | (simp_all; done) | (with_reducible assumption) | skip)
        refine GA_one 7 tOk eok_x (fun _ => none) rfl rfl rfl rfl (fun u => rfl) (fun u => ?_) (fun w7 => ?_)
        · (repeat' apply And.intro) <;> (intros; first | exact trivial | exact rfl | omega | exact u8_lo _ | exact u8_hi _ | exact u8_in64 _ | exact u8_in63 _ | (simp only [inR, IntKind.bits]; omega) | (simp [inR, IntKind.bits]; done) | (simp [inR, IntKind.bits] at * <;> omega) | (simp_all; done) | (with_reducible assumption) | skip)
        refine GA_one 8 tOk eok_x (fun _ => none) rfl rfl rfl rfl (fun u => rfl) (fun u => ?_) (fun w8 => ?_)
        · (repeat' apply And.intro) <;> (intros; first | exact trivial | exact rfl | omega | exact u8_lo _ | exact u8_hi _ | exact u8_in64 _ | exact u8_in63 _ | (simp only [inR, IntKind.bits]; omega) | (simp [inR, IntKind.bits]; done) | (simp [inR, IntKind.bits] at * <;> omega) | (simp_all; done) | (with_reducible assumption) | skip)
        refine GA_one 9 tOk eok_x (fun _ => none) rfl rfl rfl rfl (fun u => rfl) (fun u => ?_) (fun w9 => ?_)
        · (repeat' apply And.intro) <;> (intros; first | exact trivial | exact rfl | omega | exact u8_lo _ | exact u8_hi _ | exact u8_in64 _ | exact u8_in63 _ | (simp only [inR, IntKind.bits]; omega) | (simp [inR, IntKind.bits]; done) | (simp [inR, IntKind.bits] at * <;> omega) | (simp_all; done) | (with_reducible assumption) | skip)
        refine GA_done rfl ?_
        refine G_run tOk eok_x 60 (fun _ => none) (fun bs => rfl) (fun bs => ?_) (fun bs => ?_)
        · (repeat' apply And.intro) <;> (intros; first | exact trivial | exact rfl | omega | exact u8_lo _ | exact u8_hi _ | exact u8_in64 _ | exact u8_in63 _ | (simp only [inR, IntKind.bits]; omega) | (simp [inR, IntKind.bits]; done) | (simp [inR, IntKind.bits] at * <;> omega) | (simp_all; done) | (with_reducible assumption) | skip)
        refine G_lp [0, 3] (k + 1, w6) ?ok2 ?wk2
        case ok2 => exact ⟨hk', by simp only; omega⟩
        case wk2 =>
          (repeat' apply And.intro) <;> (first | exact rfl | exact trivial | omega | refine sigEq ?_ | skip)
          all_goals first | (show (Lh.set i _).set i ⟨((Lh.set i _).getD i LK.bmh.dft).name, ((Lh.set i _).getD i LK.bmh.dft).on, _⟩ = _; rw [hget]; exact List.set_set ..) | (rw [addA_succ _ _ hk']; rfl) | skip
    · have hk' : k = m.length := by omega
      subst hk'
      refine G_run tOk eok_x 60 (fun _ => none) (fun bs => rfl) (fun bs => ?_) (fun bs => ?_)
      · (repeat' apply And.intro) <;> (intros; first | exact trivial | exact rfl | omega | exact u8_lo _ | exact u8_hi _ | exact u8_in64 _ | exact u8_in63 _ | (simp only [inR, IntKind.bits]; omega) | (simp [inR, IntKind.bits]; done) | (simp [inR, IntKind.bits] at * <;> omega) | (simp_all; done) | (with_reducible assumption) | skip)
      refine G_endH rfl tOk rfl trivial w trivial [0, 1] id rfl (by decide) rfl
  · refine G_run tOk eok_x 60 (fun _ => none) (fun bs => rfl) (fun bs => ?_) (fun bs => ?_)
    · (repeat' apply And.intro) <;> (intros; first | exact trivial | exact rfl | omega | exact u8_lo _ | exact u8_hi _ | exact u8_in64 _ | exact u8_in63 _ | (simp only [inR, IntKind.bits]; omega) | (simp [inR, IntKind.bits]; done) | (simp [inR, IntKind.bits] at * <;> omega) | (simp_all; done) | (with_reducible assumption) | skip)
    have e0 : mrgP L m = rightL L := by simp only [mrgP, h]
    rw [e0]
    refine G_wkBV (ns := [0, 2]) (fs := fun _ _ => []) (hs := fun _ w => [.own v 43 .bmh (Lh.set i ⟨nm, on, .v w⟩), .own w 38 .spn (rightL L)]) 0 ?v1 rfl ?wk5 (fun _ w => ?_)
    case wk5 =>
      (repeat' apply And.intro) <;> (first | exact rfl | exact trivial | omega | refine sigEq ?_ | skip)
      all_goals first | (show Lh.set i ⟨(Lh.getD i LK.bmh.dft).name, (Lh.getD i LK.bmh.dft).on, _⟩ = _; rw [hg]) | skip
    refine G_endH rfl tOk rfl trivial w trivial [0, 1] id rfl (by decide) rfl
end Go.Proofs.Ytndjdmnpdknneaa
