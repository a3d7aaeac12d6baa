import Derived.Test.YtgobmfkffhomaaaShtB
set_option linter.unusedSimpArgs false
set_option linter.unusedVariables false
namespace Go.Proofs.Ytgobmfkffhomaaa
open Go.Mt

/-! ### Size -/
def far (w n : Int) : Bool := ((decide (w < 0) || decide (1073741824 < w)) || decide (n < 0)) || decide (1073741824 < n)
def siz (w n : Int) (b : Bitmap) : Bitmap := match b.on && decide (w < n) with
  | true => ⟨b.name, b.on, addL (subL b.l ⟨n, 1073741824⟩) ⟨w, n⟩⟩
  | false => ⟨b.name, b.on, subL b.l ⟨n, 1073741824⟩⟩
def sizL (l : List Bitmap) (w n : Int) : List Bitmap := match far w n with
  | true => l
  | false => l.map (siz w n)
theorem subX_lenL (s : Span) : ∀ l : List Span, (l.flatMap (subX s)).length ≤ 2 * l.length := by
  intro l
  induction l with
  | nil => simp
  | cons x l ih =>
    have := subX_len s x
    simp only [List.flatMap_cons, List.length_append, List.length_cons]; omega
theorem rightL_le (l : List Span) : (rightL l).length ≤ l.length := by unfold rightL; split <;> simp
theorem subL_len (l : List Span) (s : Span) : (subL l s).length ≤ 2 * l.length := by
  have h1 := rightL_le l
  unfold subL
  split
  · have := subX_lenL s (rightL l); omega
  · omega
theorem getD_set_self {α : Type} {l : List α} {i : Nat} (x d : α) (h : i < l.length) : (l.set i x).getD i d = x := by
  simp [List.getD, h]
theorem set_set {α : Type} (l : List α) (i : Nat) (x y : α) : (l.set i x).set i y = l.set i y := by simp

def env_rsize : Env := ⟨T, psi_rtouch, pspNil, pscNil, 68, [], none, true⟩
theorem eok_rsize : PsiOk Try.prog env_rsize := ⟨psi_rtouch_ok, pspNil_ok, pscNil_ok⟩
theorem rsize_fn (l : List Bitmap) (w : Int) (n : Int) (hl : BmOk l) : Ctr Try.prog 43 true [lst .bms l, int .i64 w, int .i64 n] (.o 51 .bms (sizL l w n)) := by
  refine Ctr_intro (E := env_rsize) Try.func43 rfl (by decide) rfl rfl (fun M0 W hM0 => ?_)
  have hll := hl.len
  refine G_run tOk eok_rsize 60 (fun _ => none) (fun bs => rfl) (fun bs => ?_) (fun bs => ?_)
  · (repeat' apply And.intro) <;> (intros; first | exact trivial | exact rfl | omega | exact u8_lo _ | exact u8_hi _ | exact u8_in64 _ | exact u8_in63 _ | (simp only [inR, IntKind.bits]; omega) | (simp [inR, IntKind.bits]; done) | (simp [inR, IntKind.bits] at * <;> omega) | (simp_all; done) | (with_reducible assumption) | skip)
  refine G_cond (b := far w n) rfl rfl (fun h => ?_) (fun h => ?_)
  · refine G_run tOk eok_rsize 60 (fun _ => none) (fun bs => rfl) (fun bs => ?_) (fun bs => ?_)
    · (repeat' apply And.intro) <;> (intros; first | exact trivial | exact rfl | omega | exact u8_lo _ | exact u8_hi _ | exact u8_in64 _ | exact u8_in63 _ | (simp only [inR, IntKind.bits]; omega) | (simp [inR, IntKind.bits]; done) | (simp [inR, IntKind.bits] at * <;> omega) | (simp_all; done) | (with_reducible assumption) | skip)
    exact G_ret tOk hM0 rfl rfl ⟨trivial, trivial⟩ ⟨rfl, rfl, rfl, sigEq (by simp only [sizL, h])⟩
  have hs : sizL l w n = l.map (siz w n) := by simp only [sizL, h]
  rw [hs]
  refine G_run tOk eok_rsize 60 (fun _ => none) (fun bs => rfl) (fun bs => ?_) (fun bs => ?_)
  · (repeat' apply And.intro) <;> (intros; first | exact trivial | exact rfl | omega | exact u8_lo _ | exact u8_hi _ | exact u8_in64 _ | exact u8_in63 _ | (simp only [inR, IntKind.bits]; omega) | (simp [inR, IntKind.bits]; done) | (simp [inR, IntKind.bits] at * <;> omega) | (simp_all; done) | (with_reducible assumption) | skip)
  refine G_loop (fun x : Nat × Value => [(1, int .i64 w), (2, int .i64 n), (7, .c (.own 0 x.2)), (8, int .i64 x.1)]) (fun x => [.own x.2 51 .bms (mapAt (siz w n) l x.1)]) (fun x => x.1 ≤ l.length) (fun x => l.length - x.1) rfl [0] (0, ?v0) (Nat.zero_le _) ?wk (fun x hx => ?_)
  case wk =>
    (repeat' apply And.intro) <;> (first | exact rfl | exact trivial | omega | refine sigEq ?_ | skip)
    all_goals first | exact (mapAt_zero _ _).symm | skip
  obtain ⟨i, v⟩ := x
  simp only at hx ⊢
  have hml := mapAt_len (siz w n) l i
  refine G_run tOk eok_rsize 60 (fun _ => none) (fun bs => rfl) (fun bs => ?_) (fun bs => ?_)
  · (repeat' apply And.intro) <;> (intros; first | exact trivial | exact rfl | omega | exact u8_lo _ | exact u8_hi _ | exact u8_in64 _ | exact u8_in63 _ | (simp only [inR, IntKind.bits]; omega) | (simp [inR, IntKind.bits]; done) | (simp [inR, IntKind.bits] at * <;> omega) | (simp_all; done) | (with_reducible assumption) | skip)
  refine G_if rfl rfl (fun hk => ?_) (fun hk => ?_)
  · have hk' : i < l.length := by omega
    have hg := mapAt_get (siz w n) LK.bms.dft hk'
    have hb := hl.get i
    have hsl := subL_len (l.getD i LK.bms.dft).l ⟨n, 1073741824⟩
    have hlm : i < (mapAt (siz w n) l i).length := by omega
    generalize hB : l.getD i LK.bms.dft = B at hg hb hsl
    generalize hL : mapAt (siz w n) l i = L at hg hml hlm
    have hb1 : (L.getD (i : Int).toNat LK.bms.dft).l.length ≤ 100000 := by rw [← hg] at hb; exact hb
    have hb2 : ((L.set (i : Int).toNat ⟨(L.getD (i : Int).toNat LK.bms.dft).name, (L.getD (i : Int).toNat LK.bms.dft).on, subL (L.getD (i : Int).toNat LK.bms.dft).l ⟨n, 1073741824⟩⟩).getD (i : Int).toNat LK.bms.dft).l.length ≤ 200000 := by
      show ((L.set i _).getD i _).l.length ≤ 200000
      rw [getD_set_self _ _ hlm]
      rw [← hg] at hb hsl
      exact Nat.le_trans hsl (by omega)
    refine G_run tOk eok_rsize 60 (fun _ => none) (fun bs => rfl) (fun bs => ?_) (fun bs => ?_)
    · (repeat' apply And.intro) <;> (intros; first | exact trivial | exact rfl | omega | exact u8_lo _ | exact u8_hi _ | exact u8_in64 _ | exact u8_in63 _ | (simp only [inR, IntKind.bits]; omega) | (simp [inR, IntKind.bits]; done) | (simp [inR, IntKind.bits] at * <;> omega) | (simp_all; done) | (with_reducible assumption) | skip)
    refine G_freeze 1 [41] rfl ⟨rfl, trivial⟩ ?_
    have e1 : (L.getD (i : Int).toNat LK.bms.dft) = B := hg
    refine G_run tOk eok_rsize 60 (fun _ => none) (fun bs => rfl) (fun bs => ?_) (fun bs => ?_)
    · (repeat' apply And.intro) <;> (intros; first | exact trivial | exact rfl | omega | exact u8_lo _ | exact u8_hi _ | exact u8_in64 _ | exact u8_in63 _ | (simp only [inR, IntKind.bits]; omega) | (simp [inR, IntKind.bits]; done) | (simp [inR, IntKind.bits] at * <;> omega) | (simp_all; done) | (with_reducible assumption) | skip)
    have e2 : (L.set i ⟨B.name, B.on, subL B.l ⟨n, 1073741824⟩⟩).getD i LK.bms.dft = ⟨B.name, B.on, subL B.l ⟨n, 1073741824⟩⟩ := getD_set_self _ _ hlm
    refine G_cond (b := B.on && decide (w < n)) rfl ?hc (fun h2 => ?_) (fun h2 => ?_)
    case hc => rw [← hg] at e2 ⊢; rw [← congrArg Bitmap.on e2]; rfl
    · refine G_run tOk eok_rsize 60 (fun _ => none) (fun bs => rfl) (fun bs => ?_) (fun bs => ?_)
      · (repeat' apply And.intro) <;> (intros; first | exact trivial | exact rfl | omega | exact u8_lo _ | exact u8_hi _ | exact u8_in64 _ | exact u8_in63 _ | (simp only [inR, IntKind.bits]; omega) | (simp [inR, IntKind.bits]; done) | (simp [inR, IntKind.bits] at * <;> omega) | (simp_all; done) | (with_reducible assumption) | skip)
      refine G_freeze 2 [64] rfl ⟨rfl, trivial⟩ ?_
      refine G_run tOk eok_rsize 60 (fun _ => none) (fun bs => rfl) (fun bs => ?_) (fun bs => ?_)
      · (repeat' apply And.intro) <;> (intros; first | exact trivial | exact rfl | omega | exact u8_lo _ | exact u8_hi _ | exact u8_in64 _ | exact u8_in63 _ | (simp only [inR, IntKind.bits]; omega) | (simp [inR, IntKind.bits]; done) | (simp [inR, IntKind.bits] at * <;> omega) | (simp_all; done) | (with_reducible assumption) | skip)
      refine G_lp [0] (i + 1, v) ?ok ?wk1
      case ok => exact ⟨hk', by simp only; omega⟩
      case wk1 =>
        (repeat' apply And.intro) <;> (first | exact rfl | exact trivial | omega | refine sigEq ?_ | skip)
        show (L.set i _).set i _ = mapAt (siz w n) l (i + 1)
        rw [set_set, ← hL]
        refine mapAt_set _ LK.bms.dft _ hk' ?_
        have e3 : siz w n B = ⟨B.name, B.on, addL (subL B.l ⟨n, 1073741824⟩) ⟨w, n⟩⟩ := by simp only [siz, h2]
        rw [hB, e3, hL]
        show (⟨((L.set i _).getD i _).name, ((L.set i _).getD i _).on, addL ((L.set i _).getD i _).l _⟩ : Bitmap) = _
        rw [getD_set_self _ _ hlm, e1]
    · refine G_run tOk eok_rsize 60 (fun _ => none) (fun bs => rfl) (fun bs => ?_) (fun bs => ?_)
      · (repeat' apply And.intro) <;> (intros; first | exact trivial | exact rfl | omega | exact u8_lo _ | exact u8_hi _ | exact u8_in64 _ | exact u8_in63 _ | (simp only [inR, IntKind.bits]; omega) | (simp [inR, IntKind.bits]; done) | (simp [inR, IntKind.bits] at * <;> omega) | (simp_all; done) | (with_reducible assumption) | skip)
      refine G_lp [0] (i + 1, v) ?ok2 ?wk2
      case ok2 => exact ⟨hk', by simp only; omega⟩
      case wk2 =>
        (repeat' apply And.intro) <;> (first | exact rfl | exact trivial | omega | refine sigEq ?_ | skip)
        show L.set i _ = mapAt (siz w n) l (i + 1)
        rw [← hL]
        refine mapAt_set _ LK.bms.dft _ hk' ?_
        have e3 : siz w n B = ⟨B.name, B.on, subL B.l ⟨n, 1073741824⟩⟩ := by simp only [siz, h2]
        rw [hB, e3, hL]
        show (⟨(L.getD i _).name, (L.getD i _).on, subL (L.getD i _).l _⟩ : Bitmap) = _
        rw [hg]
  · have hk' : i = l.length := by omega
    subst hk'
    rw [mapAt_all]
    refine G_run tOk eok_rsize 60 (fun _ => none) (fun bs => rfl) (fun bs => ?_) (fun bs => ?_)
    · (repeat' apply And.intro) <;> (intros; first | exact trivial | exact rfl | omega | exact u8_lo _ | exact u8_hi _ | exact u8_in64 _ | exact u8_in63 _ | (simp only [inR, IntKind.bits]; omega) | (simp [inR, IntKind.bits]; done) | (simp [inR, IntKind.bits] at * <;> omega) | (simp_all; done) | (with_reducible assumption) | skip)
    exact G_ret tOk hM0 rfl rfl ⟨trivial, trivial⟩ ⟨rfl, rfl, rfl, rfl⟩
def rsize_s : FSpec
  | [.c (.pv (.lst .bms l)), .c (.pv (.val (.int .i64 w))), .c (.pv (.val (.int .i64 n)))] => some ((BmOk l), true, .o 51 .bms (sizL l w n))
  | _ => none
theorem rsize_s_ok : SpecOk Try.prog 43 rsize_s := by
  intro args pre sh rv h hp; unfold rsize_s at h; split at h
  · cases h; have hl := hp; exact rsize_fn _ _ _ hl
  · cases h
def psi_rsize : FuncId → Option FSpec := psiCons 43 rsize_s psi_rtouch
theorem psi_rsize_ok : PsiFn Try.prog psi_rsize := psiCons_ok rsize_s_ok psi_rtouch_ok
end Go.Proofs.Ytgobmfkffhomaaa
