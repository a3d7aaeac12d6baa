import Derived.Test.YtbhemhmdmeomdaaIdxC
set_option linter.unusedSimpArgs false
set_option linter.unusedVariables false
namespace Go.Proofs.Ytbhemhmdmeomdaa
open Go.Mt

def addK (l : List Known) (x : Known) : List Known := match hasK l x with
  | true => l
  | false => match decide (64 ≤ l.length) with
    | true => l.drop (l.length - 63) ++ [x]
    | false => l ++ [x]
def kH (b : Nat) (v : Value) (c : Int) (l : List Known) : List HB := [.blk b 54 [.own 1 v, .pv (i64 c)], .own v 58 .knw l]
def env_hlen : Env := ⟨T, psi_ncopy, pspNil, pscNil, 10, [], none, false⟩
theorem eok_hlen : PsiOk Try.prog env_hlen := ⟨psi_ncopy_ok, pspNil_ok, pscNil_ok⟩
theorem hlen (b : Nat) (v : Value) (c : Int) (l : List Known) : CtrH Try.prog 11 [.c (.ptr 0 b 0)] (kH b v c l) (fun _ : Unit => True) (fun _ => int .i64 l.length) (fun _ => kH b v c l) := by
  refine CtrH_intro (E := env_hlen) Try.func11 rfl (by decide) rfl rfl (fun M0 W hM0 => ?_)
  refine G_run tOk eok_hlen 60 (fun _ => none) (fun bs => rfl) (fun bs => ?_) (fun bs => ?_)
  · (repeat' apply And.intro) <;> (intros; first | exact trivial | exact rfl | omega | exact u8_lo _ | exact u8_hi _ | exact u8_in64 _ | exact u8_in63 _ | (simp only [inR, IntKind.bits]; omega) | (simp [inR, IntKind.bits]; done) | (simp [inR, IntKind.bits] at * <;> omega) | (simp_all; done) | (with_reducible assumption) | skip)
  refine G_els rfl rfl rfl ?_
  refine G_run tOk eok_hlen 60 (fun _ => none) (fun bs => rfl) (fun bs => ?_) (fun bs => ?_)
  · (repeat' apply And.intro) <;> (intros; first | exact trivial | exact rfl | omega | exact u8_lo _ | exact u8_hi _ | exact u8_in64 _ | exact u8_in63 _ | (simp only [inR, IntKind.bits]; omega) | (simp [inR, IntKind.bits]; done) | (simp [inR, IntKind.bits] at * <;> omega) | (simp_all; done) | (with_reducible assumption) | skip)
  refine G_retH rfl tOk rfl rfl ⟨trivial, trivial⟩ () trivial [0, 1] id rfl (by decide) rfl

def env_hadd : Env := ⟨T, psi_ncopy, pspNil, pscNil, 50, [], none, false⟩
theorem eok_hadd : PsiOk Try.prog env_hadd := ⟨psi_ncopy_ok, pspNil_ok, pscNil_ok⟩
theorem hadd (b : Nat) (v : Value) (c : Int) (l : List Known) (bl : List UInt8) (e0 e1 e2 e3 e4 : Int) (hb : bl.length ≤ 1000000) (hl : l.length < 64) : CtrH Try.prog 9 [.c (.ptr 0 b 0), lst .byt bl, .g [.pv (i64 e0), .pv (i64 e1), .pv (i64 e2), .pv (i64 e3), .pv (.val (.int .u32 e4))]] (kH b v c l) (fun _ : Value => True) (fun _ => .t []) (fun u => kH b u c (addK l ⟨fg bl, ⟨e0, e1, e2, e3, e4⟩⟩)) := by
  refine CtrH_intro (E := env_hadd) Try.func9 rfl (by decide) rfl rfl (fun M0 W hM0 => ?_)
  refine G_run tOk eok_hadd 60 (fun _ => none) (fun bs => rfl) (fun bs => ?_) (fun bs => ?_)
  · (repeat' apply And.intro) <;> (intros; first | exact trivial | exact rfl | omega | exact u8_lo _ | exact u8_hi _ | exact u8_in64 _ | exact u8_in63 _ | (simp only [inR, IntKind.bits]; omega) | (simp [inR, IntKind.bits]; done) | (simp [inR, IntKind.bits] at * <;> omega) | (simp_all; done) | (with_reducible assumption) | skip)
  refine G_els rfl rfl rfl ?_
  refine G_run tOk eok_hadd 60 (fun _ => none) (fun bs => rfl) (fun bs => ?_) (fun bs => ?_)
  · (repeat' apply And.intro) <;> (intros; first | exact trivial | exact rfl | omega | exact u8_lo _ | exact u8_hi _ | exact u8_in64 _ | exact u8_in63 _ | (simp only [inR, IntKind.bits]; omega) | (simp [inR, IntKind.bits]; done) | (simp [inR, IntKind.bits] at * <;> omega) | (simp_all; done) | (with_reducible assumption) | skip)
  refine G_nx 3 rfl ?_
  refine G_draw tOk eok_hadd rfl (fun _ => none) 5 [0, 1, 0, 7, 0, 31] [] rfl (by decide +kernel) (fun bs => rfl) (fun bs => ?_) (fun bs => ?_)
  · (repeat' apply And.intro) <;> (intros; first | exact trivial | exact rfl | omega | exact u8_lo _ | exact u8_hi _ | exact u8_in64 _ | exact u8_in63 _ | (simp only [inR, IntKind.bits]; omega) | (simp [inR, IntKind.bits]; done) | (simp [inR, IntKind.bits] at * <;> omega) | (simp_all; done) | (with_reducible assumption) | skip)
  refine G_run tOk eok_hadd 60 (fun _ => none) (fun bs => rfl) (fun bs => ?_) (fun bs => ?_)
  · (repeat' apply And.intro) <;> (intros; first | exact trivial | exact rfl | omega | exact u8_lo _ | exact u8_hi _ | exact u8_in64 _ | exact u8_in63 _ | (simp only [inR, IntKind.bits]; omega) | (simp [inR, IntKind.bits]; done) | (simp [inR, IntKind.bits] at * <;> omega) | (simp_all; done) | (with_reducible assumption) | skip)
  refine G_nx 8 rfl ?_
  refine G_draw tOk eok_hadd rfl (fun _ => none) 5 [0, 1, 3, 7, 0, 31] [] rfl (by decide +kernel) (fun bs => rfl) (fun bs => ?_) (fun bs => ?_)
  · (repeat' apply And.intro) <;> (intros; first | exact trivial | exact rfl | omega | exact u8_lo _ | exact u8_hi _ | exact u8_in64 _ | exact u8_in63 _ | (simp only [inR, IntKind.bits]; omega) | (simp [inR, IntKind.bits]; done) | (simp [inR, IntKind.bits] at * <;> omega) | (simp_all; done) | (with_reducible assumption) | skip)
  refine G_run tOk eok_hadd 60 (fun _ => none) (fun bs => rfl) (fun bs => ?_) (fun bs => ?_)
  · (repeat' apply And.intro) <;> (intros; first | exact trivial | exact rfl | omega | exact u8_lo _ | exact u8_hi _ | exact u8_in64 _ | exact u8_in63 _ | (simp only [inR, IntKind.bits]; omega) | (simp [inR, IntKind.bits]; done) | (simp [inR, IntKind.bits] at * <;> omega) | (simp_all; done) | (with_reducible assumption) | skip)
  refine G_cond (b := hasK l ⟨fg bl, ⟨e0, e1, e2, e3, e4⟩⟩) rfl rfl (fun h => ?_) (fun h => ?_)
  · have hA : addK l ⟨fg bl, ⟨e0, e1, e2, e3, e4⟩⟩ = l := by simp only [addK, h]
    rw [hA]
    refine G_run tOk eok_hadd 60 (fun _ => none) (fun bs => rfl) (fun bs => ?_) (fun bs => ?_)
    · (repeat' apply And.intro) <;> (intros; first | exact trivial | exact rfl | omega | exact u8_lo _ | exact u8_hi _ | exact u8_in64 _ | exact u8_in63 _ | (simp only [inR, IntKind.bits]; omega) | (simp [inR, IntKind.bits]; done) | (simp [inR, IntKind.bits] at * <;> omega) | (simp_all; done) | (with_reducible assumption) | skip)
    refine G_retH rfl tOk rfl rfl trivial v trivial [0, 1] id rfl (by decide) rfl
  · have hA : addK l ⟨fg bl, ⟨e0, e1, e2, e3, e4⟩⟩ = l ++ [⟨fg bl, ⟨e0, e1, e2, e3, e4⟩⟩] := by
      have : decide (64 ≤ l.length) = false := by simp; omega
      simp only [addK, h, this]
    rw [hA]
    refine G_run tOk eok_hadd 60 (fun _ => none) (fun bs => rfl) (fun bs => ?_) (fun bs => ?_)
    · (repeat' apply And.intro) <;> (intros; first | exact trivial | exact rfl | omega | exact u8_lo _ | exact u8_hi _ | exact u8_in64 _ | exact u8_in63 _ | (simp only [inR, IntKind.bits]; omega) | (simp [inR, IntKind.bits]; done) | (simp [inR, IntKind.bits] at * <;> omega) | (simp_all; done) | (with_reducible assumption) | skip)
    refine G_if rfl rfl (fun h2 => ?_) (fun h2 => ?_)
    · omega
    refine G_run tOk eok_hadd 60 (fun _ => none) (fun bs => rfl) (fun bs => ?_) (fun bs => ?_)
    · (repeat' apply And.intro) <;> (intros; first | exact trivial | exact rfl | omega | exact u8_lo _ | exact u8_hi _ | exact u8_in64 _ | exact u8_in63 _ | (simp only [inR, IntKind.bits]; omega) | (simp [inR, IntKind.bits]; done) | (simp [inR, IntKind.bits] at * <;> omega) | (simp_all; done) | (with_reducible assumption) | skip)
    refine G_nx 13 rfl ?_
    refine G_draw tOk eok_hadd rfl (fun _ => none) 8 [0, 0, 2, 6, 14, 0, 32, 126, 255, 511, 1023] [(7, 1)] rfl (by decide +kernel) (fun bs => rfl) (fun bs => ?_) (fun bs => ?_)
    · (repeat' apply And.intro) <;> (intros; first | exact trivial | exact rfl | omega | exact u8_lo _ | exact u8_hi _ | exact u8_in64 _ | exact u8_in63 _ | (simp only [inR, IntKind.bits]; omega) | (simp [inR, IntKind.bits]; done) | (simp [inR, IntKind.bits] at * <;> omega) | (simp_all; done) | (with_reducible assumption) | skip)
    refine G_run tOk eok_hadd 60 (fun _ => none) (fun bs => rfl) (fun bs => ?_) (fun bs => ?_)
    · (repeat' apply And.intro) <;> (intros; first | exact trivial | exact rfl | omega | exact u8_lo _ | exact u8_hi _ | exact u8_in64 _ | exact u8_in63 _ | (simp only [inR, IntKind.bits]; omega) | (simp [inR, IntKind.bits]; done) | (simp [inR, IntKind.bits] at * <;> omega) | (simp_all; done) | (with_reducible assumption) | skip)
    refine G_endH rfl tOk rfl trivial _ trivial [0, 20] (fun n => match n with | 0 => 0 | _ => 1) rfl (by decide) rfl

def findN (l : List Known) (f : Int) : Nat → List Entry
  | 0 => []
  | k + 1 => match decide ((l.getD k LK.knw.dft).finger = f) with
    | true => findN l f k ++ [(l.getD k LK.knw.dft).e]
    | false => findN l f k
theorem findN_len (l : List Known) (f : Int) : ∀ k, (findN l f k).length ≤ k := by
  intro k
  induction k with
  | zero => exact Nat.le_refl _
  | succ k ih => simp only [findN]; split <;> (try simp only [List.length_append, List.length_singleton]) <;> omega
def env_hfind : Env := ⟨T, psi_ncopy, pspNil, pscNil, 37, [], none, false⟩
theorem eok_hfind : PsiOk Try.prog env_hfind := ⟨psi_ncopy_ok, pspNil_ok, pscNil_ok⟩
theorem hfind (b : Nat) (v : Value) (c : Int) (l : List Known) (bl : List UInt8) (hb : bl.length ≤ 1000000) (hl : l.length ≤ 1000) : CtrH Try.prog 10 [.c (.ptr 0 b 0), lst .byt bl] (kH b v c l) (fun _ : Value × Int => True) (fun x => .c (.own 2 x.1)) (fun x => kH b v x.2 l ++ [.own x.1 28 .ent (findN l (fg bl) l.length)]) := by
  refine CtrH_intro (E := env_hfind) Try.func10 rfl (by decide) rfl rfl (fun M0 W hM0 => ?_)
  refine G_run tOk eok_hfind 60 (fun _ => none) (fun bs => rfl) (fun bs => ?_) (fun bs => ?_)
  · (repeat' apply And.intro) <;> (intros; first | exact trivial | exact rfl | omega | exact u8_lo _ | exact u8_hi _ | exact u8_in64 _ | exact u8_in63 _ | (simp only [inR, IntKind.bits]; omega) | (simp [inR, IntKind.bits]; done) | (simp [inR, IntKind.bits] at * <;> omega) | (simp_all; done) | (with_reducible assumption) | skip)
  refine G_els rfl rfl rfl ?_
  refine G_run tOk eok_hfind 60 (fun _ => none) (fun bs => rfl) (fun bs => ?_) (fun bs => ?_)
  · (repeat' apply And.intro) <;> (intros; first | exact trivial | exact rfl | omega | exact u8_lo _ | exact u8_hi _ | exact u8_in64 _ | exact u8_in63 _ | (simp only [inR, IntKind.bits]; omega) | (simp [inR, IntKind.bits]; done) | (simp [inR, IntKind.bits] at * <;> omega) | (simp_all; done) | (with_reducible assumption) | skip)
  refine G_own 6 28 rfl ?_
  refine G_loop (fun x : Nat × Value × Int => [(0, .c (.ptr 0 b 0)), (5, int .u64 (fg bl)), (6, .c (.own 2 x.2.1)), (16, .c (.own 1 v)), (17, int .i64 l.length), (18, int .i64 x.1)]) (fun x => kH b v x.2.2 l ++ [.own x.2.1 28 .ent (findN l (fg bl) x.1)]) (fun x => x.1 ≤ l.length) (fun x => l.length - x.1) rfl [0, 1, 2] (0, .slice none 0 0, c) (Nat.zero_le _) ?wk (fun x hx => ?_)
  case wk => (repeat' apply And.intro) <;> (first | exact rfl | exact trivial | omega | refine sigEq ?_ | skip)
  obtain ⟨i, u, c⟩ := x
  dsimp only at hx ⊢
  have hfl := findN_len l (fg bl) i
  refine G_run tOk eok_hfind 60 (fun _ => none) (fun bs => rfl) (fun bs => ?_) (fun bs => ?_)
  · (repeat' apply And.intro) <;> (intros; first | exact trivial | exact rfl | omega | exact u8_lo _ | exact u8_hi _ | exact u8_in64 _ | exact u8_in63 _ | (simp only [inR, IntKind.bits]; omega) | (simp [inR, IntKind.bits]; done) | (simp [inR, IntKind.bits] at * <;> omega) | (simp_all; done) | (with_reducible assumption) | skip)
  refine G_if rfl rfl (fun hk => ?_) (fun hk => ?_)
  · have hk' : i < l.length := by omega
    refine G_run tOk eok_hfind 60 (fun _ => none) (fun bs => rfl) (fun bs => ?_) (fun bs => ?_)
    · (repeat' apply And.intro) <;> (intros; first | exact trivial | exact rfl | omega | exact u8_lo _ | exact u8_hi _ | exact u8_in64 _ | exact u8_in63 _ | (simp only [inR, IntKind.bits]; omega) | (simp [inR, IntKind.bits]; done) | (simp [inR, IntKind.bits] at * <;> omega) | (simp_all; done) | (with_reducible assumption) | skip)
    refine G_cond (b := decide ((l.getD i LK.knw.dft).finger = fg bl)) rfl rfl (fun h => ?_) (fun h => ?_)
    · have hF : findN l (fg bl) (i + 1) = findN l (fg bl) i ++ [(l.getD i LK.knw.dft).e] := by simp only [findN, h]
      refine G_run tOk eok_hfind 60 (fun _ => none) (fun bs => rfl) (fun bs => ?_) (fun bs => ?_)
      · (repeat' apply And.intro) <;> (intros; first | exact trivial | exact rfl | omega | exact u8_lo _ | exact u8_hi _ | exact u8_in64 _ | exact u8_in63 _ | (simp only [inR, IntKind.bits]; omega) | (simp [inR, IntKind.bits]; done) | (simp [inR, IntKind.bits] at * <;> omega) | (simp_all; done) | (with_reducible assumption) | skip)
      refine G_nx 4 rfl ?_
      refine G_callH [0, 1] id (hcount b v c 1 l) rfl trivial rfl rfl rfl rfl (by decide) rfl rfl (fun x => rfl) (fun r _ => ?_)
      refine G_run tOk eok_hfind 60 (fun _ => none) (fun bs => rfl) (fun bs => ?_) (fun bs => ?_)
      · (repeat' apply And.intro) <;> (intros; first | exact trivial | exact rfl | omega | exact u8_lo _ | exact u8_hi _ | exact u8_in64 _ | exact u8_in63 _ | (simp only [inR, IntKind.bits]; omega) | (simp [inR, IntKind.bits]; done) | (simp [inR, IntKind.bits] at * <;> omega) | (simp_all; done) | (with_reducible assumption) | skip)
      refine G_lp [0, 1, 7] (i + 1, ?u1, r) ?ok1 ?wk1
      case ok1 => exact ⟨hk', by simp only; omega⟩
      case wk1 =>
        (repeat' apply And.intro) <;> (first | exact rfl | exact trivial | omega | refine sigEq ?_ | skip)
        all_goals first | exact hF.symm | skip
    · have hF : findN l (fg bl) (i + 1) = findN l (fg bl) i := by simp only [findN, h]
      refine G_run tOk eok_hfind 60 (fun _ => none) (fun bs => rfl) (fun bs => ?_) (fun bs => ?_)
      · (repeat' apply And.intro) <;> (intros; first | exact trivial | exact rfl | omega | exact u8_lo _ | exact u8_hi _ | exact u8_in64 _ | exact u8_in63 _ | (simp only [inR, IntKind.bits]; omega) | (simp [inR, IntKind.bits]; done) | (simp [inR, IntKind.bits] at * <;> omega) | (simp_all; done) | (with_reducible assumption) | skip)
      refine G_lp [0, 1, 2] (i + 1, u, c) ?ok2 ?wk2
      case ok2 => exact ⟨hk', by simp only; omega⟩
      case wk2 =>
        (repeat' apply And.intro) <;> (first | exact rfl | exact trivial | omega | refine sigEq ?_ | skip)
        all_goals first | exact hF.symm | skip
  · have hk' : i = l.length := by omega
    subst hk'
    refine G_run tOk eok_hfind 60 (fun _ => none) (fun bs => rfl) (fun bs => ?_) (fun bs => ?_)
    · (repeat' apply And.intro) <;> (intros; first | exact trivial | exact rfl | omega | exact u8_lo _ | exact u8_hi _ | exact u8_in64 _ | exact u8_in63 _ | (simp only [inR, IntKind.bits]; omega) | (simp [inR, IntKind.bits]; done) | (simp [inR, IntKind.bits] at * <;> omega) | (simp_all; done) | (with_reducible assumption) | skip)
    refine G_retH rfl tOk rfl rfl ⟨trivial, trivial⟩ (u, c) trivial [0, 1, 2] id rfl (by decide) rfl
end Go.Proofs.Ytbhemhmdmeomdaa
