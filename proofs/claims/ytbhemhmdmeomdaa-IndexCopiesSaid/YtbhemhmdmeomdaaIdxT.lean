import Derived.Test.YtbhemhmdmeomdaaIdxS
set_option linter.unusedSimpArgs false
set_option linter.unusedVariables false
namespace Go.Proofs.Ytbhemhmdmeomdaa
open Go.Mt

def env_radd : Env := ⟨T, psi_iheavy, pspNil, psc_del, 69, [], none, false⟩
theorem eok_radd : PsiOk Try.prog env_radd := ⟨psi_iheavy_ok, pspNil_ok, psc_del_ok⟩
theorem radd (b : Nat) (v : Value) (l : List Known) (bl : List UInt8) (e0 e1 e2 e3 e4 : Int) (hb : bl.length ≤ 1000000) (hl : l.length ≤ 64) : CtrH Try.prog 21 [.c (.ptr 0 b 0), lst .byt bl, .g [.pv (i64 e0), .pv (i64 e1), .pv (i64 e2), .pv (i64 e3), .pv (.val (.int .u32 e4))]] (rH b v l) (fun _ => True) (fun _ : Value => .t []) (fun u => rH b u (addK l ⟨fg bl, ⟨e0, e1, e2, e3, e4⟩⟩)) := by
  refine CtrH_intro (E := env_radd) Try.func21 rfl (by decide) rfl rfl (fun M0 W hM0 => ?_)
  generalize hX : (⟨fg bl, ⟨e0, e1, e2, e3, e4⟩⟩ : Known) = X
  refine G_run tOk eok_radd 60 (fun _ => none) (fun bs => rfl) (fun bs => ?_) (fun bs => ?_)
  · (repeat' apply And.intro) <;> (intros; first | exact trivial | exact rfl | omega | exact u8_lo _ | exact u8_hi _ | exact u8_in64 _ | exact u8_in63 _ | (simp only [inR, IntKind.bits]; omega) | (simp [inR, IntKind.bits]; done) | (simp [inR, IntKind.bits] at * <;> omega) | (simp_all; done) | (with_reducible assumption) | skip)
  refine G_wkB (ns := [0, 1, 2]) (fs := fun eb => [(0, .c (.ptr 0 b 0)), (5, .c (.ptr 2 eb 0)), (6, int .u64 X.finger), (7, int .i64 0)]) (hs := fun eb => rH b v l ++ [.blk eb 28 ((LK.enc .ent X.e).map C.pv)]) ?b1 rfl ?wk0 (fun eb => ?_)
  case wk0 =>
    (repeat' apply And.intro) <;> (first | exact rfl | exact trivial | omega | refine sigEq ?_ | skip)
    all_goals (subst hX; rfl)
  refine G_loop (fun i : Nat => [(0, .c (.ptr 0 b 0)), (5, .c (.ptr 2 eb 0)), (6, int .u64 X.finger), (7, int .i64 i)]) (fun i => rH b v l ++ [.blk eb 28 ((LK.enc .ent X.e).map C.pv)]) (fun i => i ≤ l.length ∧ ixN l X i = -1) (fun i => l.length - i) rfl [0, 1, 2] 0 ⟨Nat.zero_le _, rfl⟩ ?wk (fun i hx => ?_)
  case wk => (repeat' apply And.intro) <;> (first | exact rfl | exact trivial | omega | refine sigEq ?_ | skip)
  obtain ⟨hx1, hx2⟩ := hx
  refine G_run tOk eok_radd 60 (fun _ => none) (fun bs => rfl) (fun bs => ?_) (fun bs => ?_)
  · (repeat' apply And.intro) <;> (intros; first | exact trivial | exact rfl | omega | exact u8_lo _ | exact u8_hi _ | exact u8_in64 _ | exact u8_in63 _ | (simp only [inR, IntKind.bits]; omega) | (simp [inR, IntKind.bits]; done) | (simp [inR, IntKind.bits] at * <;> omega) | (simp_all; done) | (with_reducible assumption) | skip)
  refine G_if rfl rfl (fun hk => ?_) (fun hk => ?_)
  · have hk' : i < l.length := by omega
    refine G_run tOk eok_radd 60 (fun _ => none) (fun bs => rfl) (fun bs => ?_) (fun bs => ?_)
    · (repeat' apply And.intro) <;> (intros; first | exact trivial | exact rfl | omega | exact u8_lo _ | exact u8_hi _ | exact u8_in64 _ | exact u8_in63 _ | (simp only [inR, IntKind.bits]; omega) | (simp [inR, IntKind.bits]; done) | (simp [inR, IntKind.bits] at * <;> omega) | (simp_all; done) | (with_reducible assumption) | skip)
    refine G_nx 3 rfl ?_
    refine G_draw tOk eok_radd rfl (fun _ => none) 20 [0, 1, 3, 7, 0, 31, 63, 127, 0, 511, 1023, 2047, 4095, 8191, 16383, 2047, 65535, 131071, 262143, 2047, 1048575, 2097151] [] rfl (by decide +kernel) (fun bs => rfl) (fun bs => ?_) (fun bs => ?_)
    · (repeat' apply And.intro) <;> (intros; first | exact trivial | exact rfl | omega | exact u8_lo _ | exact u8_hi _ | exact u8_in64 _ | exact u8_in63 _ | (simp only [inR, IntKind.bits]; omega) | (simp [inR, IntKind.bits]; done) | (simp [inR, IntKind.bits] at * <;> omega) | (simp_all; done) | (with_reducible assumption) | skip)
    refine G_run tOk eok_radd 60 (fun _ => none) (fun bs => rfl) (fun bs => ?_) (fun bs => ?_)
    · (repeat' apply And.intro) <;> (intros; first | exact trivial | exact rfl | omega | exact u8_lo _ | exact u8_hi _ | exact u8_in64 _ | exact u8_in63 _ | (simp only [inR, IntKind.bits]; omega) | (simp [inR, IntKind.bits]; done) | (simp [inR, IntKind.bits] at * <;> omega) | (simp_all; done) | (with_reducible assumption) | skip)
    refine G_cond (b := decide (l.getD i LK.knw.dft = X)) rfl ?hc (fun h => ?_) (fun h => ?_)
    case hc => rw [← kn_eq]; rfl
    · have h0 : X = l.getD i LK.knw.dft := (of_decide_eq_true h).symm
      have h1 : ixN l X (i + 1) = i := by simp only [ixN, hx2, decide_eq_true h0]; rfl
      have h2 : ixN l X l.length = i := by rw [ixN_keep (i := i + 1) (by omega) (by omega), h1]
      have h3 : hasK l X = true := by unfold hasK; rw [h2]; simp
      have hA : addK l X = l := by simp only [addK, h3]
      rw [hA]
      refine G_run tOk eok_radd 60 (fun _ => none) (fun bs => rfl) (fun bs => ?_) (fun bs => ?_)
      · (repeat' apply And.intro) <;> (intros; first | exact trivial | exact rfl | omega | exact u8_lo _ | exact u8_hi _ | exact u8_in64 _ | exact u8_in63 _ | (simp only [inR, IntKind.bits]; omega) | (simp [inR, IntKind.bits]; done) | (simp [inR, IntKind.bits] at * <;> omega) | (simp_all; done) | (with_reducible assumption) | skip)
      refine G_retH rfl tOk rfl rfl trivial v trivial [0, 1] id rfl (by decide) rfl
    · have h0 : ¬ X = l.getD i LK.knw.dft := fun e => of_decide_eq_false h e.symm
      have h1 : ixN l X (i + 1) = -1 := by simp only [ixN, hx2, decide_eq_false h0]; rfl
      refine G_run tOk eok_radd 60 (fun _ => none) (fun bs => rfl) (fun bs => ?_) (fun bs => ?_)
      · (repeat' apply And.intro) <;> (intros; first | exact trivial | exact rfl | omega | exact u8_lo _ | exact u8_hi _ | exact u8_in64 _ | exact u8_in63 _ | (simp only [inR, IntKind.bits]; omega) | (simp [inR, IntKind.bits]; done) | (simp [inR, IntKind.bits] at * <;> omega) | (simp_all; done) | (with_reducible assumption) | skip)
      refine G_lp [0, 1, 2] (i + 1) ?ok ?wk1
      case ok => exact ⟨⟨hk', h1⟩, by omega⟩
      case wk1 => (repeat' apply And.intro) <;> (first | exact rfl | exact trivial | omega | refine sigEq ?_ | skip)
  · have hk' : i = l.length := by omega
    subst hk'
    have h3 : hasK l X = false := by unfold hasK; rw [hx2]; rfl
    refine G_run tOk eok_radd 60 (fun _ => none) (fun bs => rfl) (fun bs => ?_) (fun bs => ?_)
    · (repeat' apply And.intro) <;> (intros; first | exact trivial | exact rfl | omega | exact u8_lo _ | exact u8_hi _ | exact u8_in64 _ | exact u8_in63 _ | (simp only [inR, IntKind.bits]; omega) | (simp [inR, IntKind.bits]; done) | (simp [inR, IntKind.bits] at * <;> omega) | (simp_all; done) | (with_reducible assumption) | skip)
    refine G_if rfl rfl (fun h2 => ?_) (fun h2 => ?_)
    · have hA : addK l X = (l.take (l.length : Int).toNat).drop (1 : Int).toNat ++ [X] := by
        have : decide (64 ≤ l.length) = true := by simp; omega
        simp only [addK, h3, this]
        congr 1
        rw [show (l.length : Int).toNat = l.length by omega, List.take_length, show l.length - 63 = 1 by omega]; rfl
      rw [hA]
      refine G_freezeC 0 0 1 rfl rfl rfl ?_
      refine G_run tOk eok_radd 60 (fun _ => none) (fun bs => rfl) (fun bs => ?_) (fun bs => ?_)
      · (repeat' apply And.intro) <;> (intros; first | exact trivial | exact rfl | omega | exact u8_lo _ | exact u8_hi _ | exact u8_in64 _ | exact u8_in63 _ | (simp only [inR, IntKind.bits]; omega) | (simp [inR, IntKind.bits]; done) | (simp [inR, IntKind.bits] at * <;> omega) | (simp_all; done) | (with_reducible assumption) | skip)
      refine G_nx 5 rfl ?_
      refine G_draw tOk eok_radd rfl (fun _ => none) 10 [0, 0, 2, 6, 14, 0, 0, 96, 224, 510, 1023, 2047, 4095] [(9, 4)] rfl (by decide +kernel) (fun bs => rfl) (fun bs => ?_) (fun bs => ?_)
      · (repeat' apply And.intro) <;> (intros; first | exact trivial | exact rfl | omega | exact u8_lo _ | exact u8_hi _ | exact u8_in64 _ | exact u8_in63 _ | (simp only [inR, IntKind.bits]; omega) | (simp [inR, IntKind.bits]; done) | (simp [inR, IntKind.bits] at * <;> omega) | (simp_all; done) | (with_reducible assumption) | skip)
      refine G_run tOk eok_radd 60 (fun _ => none) (fun bs => rfl) (fun bs => ?_) (fun bs => ?_)
      · (repeat' apply And.intro) <;> (intros; first | exact trivial | exact rfl | omega | exact u8_lo _ | exact u8_hi _ | exact u8_in64 _ | exact u8_in63 _ | (simp only [inR, IntKind.bits]; omega) | (simp [inR, IntKind.bits]; done) | (simp [inR, IntKind.bits] at * <;> omega) | (simp_all; done) | (with_reducible assumption) | skip)
      refine G_endH rfl tOk rfl trivial _ trivial [0, 14] (fun n => match n with | 0 => 0 | _ => 1) rfl (by decide) rfl
    · have hA : addK l X = l ++ [X] := by
        have : decide (64 ≤ l.length) = false := by simp; omega
        simp only [addK, h3, this]
      rw [hA]
      refine G_run tOk eok_radd 60 (fun _ => none) (fun bs => rfl) (fun bs => ?_) (fun bs => ?_)
      · (repeat' apply And.intro) <;> (intros; first | exact trivial | exact rfl | omega | exact u8_lo _ | exact u8_hi _ | exact u8_in64 _ | exact u8_in63 _ | (simp only [inR, IntKind.bits]; omega) | (simp [inR, IntKind.bits]; done) | (simp [inR, IntKind.bits] at * <;> omega) | (simp_all; done) | (with_reducible assumption) | skip)
      refine G_nx 3 rfl ?_
      refine G_draw tOk eok_radd rfl (fun _ => none) 10 [0, 0, 2, 6, 14, 0, 0, 96, 224, 510, 1023, 2047, 4095] [(9, 1)] rfl (by decide +kernel) (fun bs => rfl) (fun bs => ?_) (fun bs => ?_)
      · (repeat' apply And.intro) <;> (intros; first | exact trivial | exact rfl | omega | exact u8_lo _ | exact u8_hi _ | exact u8_in64 _ | exact u8_in63 _ | (simp only [inR, IntKind.bits]; omega) | (simp [inR, IntKind.bits]; done) | (simp [inR, IntKind.bits] at * <;> omega) | (simp_all; done) | (with_reducible assumption) | skip)
      refine G_run tOk eok_radd 60 (fun _ => none) (fun bs => rfl) (fun bs => ?_) (fun bs => ?_)
      · (repeat' apply And.intro) <;> (intros; first | exact trivial | exact rfl | omega | exact u8_lo _ | exact u8_hi _ | exact u8_in64 _ | exact u8_in63 _ | (simp only [inR, IntKind.bits]; omega) | (simp [inR, IntKind.bits]; done) | (simp [inR, IntKind.bits] at * <;> omega) | (simp_all; done) | (with_reducible assumption) | skip)
      refine G_endH rfl tOk rfl trivial _ trivial [0, 12] (fun n => match n with | 0 => 0 | _ => 1) rfl (by decide) rfl
end Go.Proofs.Ytbhemhmdmeomdaa
