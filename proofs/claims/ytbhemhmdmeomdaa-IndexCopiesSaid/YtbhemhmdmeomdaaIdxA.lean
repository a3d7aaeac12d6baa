import Derived.Test.YtbhemhmdmeomdaaTb
import Derived.Test.YtbhemhmdmeomdaaMtQ4
set_option linter.unusedSimpArgs false
set_option linter.unusedVariables false
namespace Go.Proofs.Ytbhemhmdmeomdaa
open Go.Mt

def fgN (b : List UInt8) : Nat → Int
  | 0 => 14695981039346656037
  | k + 1 => IntKind.u64.wrap (ixor .u64 (fgN b k) ((b.getD k 0).toNat : Int) * 1099511628211)
def fg (b : List UInt8) : Int := ixor .u64 (fgN b b.length) (fgN b b.length / 2 ^ 32)

def env_fing : Env := ⟨T, psiNil, pspNil, pscNil, 22, [], none, true⟩
theorem eok_fing : PsiOk Try.prog env_fing := ⟨psiNil_ok, pspNil_ok, pscNil_ok⟩
theorem fing_fn (b : List UInt8) (hb : b.length ≤ 1000000) : Ctr Try.prog 17 false [lst .byt b] (.x (.c (.val (.int .u64 (fg b))))) := by
  refine Ctr_intro (E := env_fing) Try.func17 rfl (by decide) rfl rfl (fun M0 W hM0 => ?_)
  refine G_run tOk eok_fing 60 (fun _ => none) (fun bs => rfl) (fun bs => ?_) (fun bs => ?_)
  · (repeat' apply And.intro) <;> (intros; first | exact trivial | exact rfl | omega | exact u8_lo _ | exact u8_hi _ | exact u8_in64 _ | exact u8_in63 _ | (simp only [inR, IntKind.bits]; omega) | (simp [inR, IntKind.bits]; done) | (simp [inR, IntKind.bits] at * <;> omega) | (simp_all; done) | (with_reducible assumption) | skip)
  refine G_loop (fun i : Nat => [(3, int .u64 (fgN b i)), (6, lst .byt b), (7, int .i64 b.length), (8, int .i64 i)]) (fun i => []) (fun i => i ≤ b.length) (fun i => b.length - i) rfl [] 0 (Nat.zero_le _) ?wk (fun i hx => ?_)
  case wk => (repeat' apply And.intro) <;> (first | exact rfl | exact trivial | omega | refine sigEq ?_ | skip)
  refine G_run tOk eok_fing 60 (fun _ => none) (fun bs => rfl) (fun bs => ?_) (fun bs => ?_)
  · (repeat' apply And.intro) <;> (intros; first | exact trivial | exact rfl | omega | exact u8_lo _ | exact u8_hi _ | exact u8_in64 _ | exact u8_in63 _ | (simp only [inR, IntKind.bits]; omega) | (simp [inR, IntKind.bits]; done) | (simp [inR, IntKind.bits] at * <;> omega) | (simp_all; done) | (with_reducible assumption) | skip)
  refine G_if rfl rfl (fun hk => ?_) (fun hk => ?_)
  · have hk' : i < b.length := by omega
    refine G_run tOk eok_fing 60 (fun _ => none) (fun bs => rfl) (fun bs => ?_) (fun bs => ?_)
    · (repeat' apply And.intro) <;> (intros; first | exact trivial | exact rfl | omega | exact u8_lo _ | exact u8_hi _ | exact u8_in64 _ | exact u8_in63 _ | (simp only [inR, IntKind.bits]; omega) | (simp [inR, IntKind.bits]; done) | (simp [inR, IntKind.bits] at * <;> omega) | (simp_all; done) | (with_reducible assumption) | skip)
    refine G_lp [] (i + 1) ?ok ?wk1
    case ok => exact ⟨hk', by omega⟩
    case wk1 => (repeat' apply And.intro) <;> (first | exact rfl | exact trivial | omega | refine sigEq ?_ | skip)
  · have hk' : i = b.length := by omega
    subst hk'
    refine G_run tOk eok_fing 60 (fun _ => none) (fun bs => rfl) (fun bs => ?_) (fun bs => ?_)
    · (repeat' apply And.intro) <;> (intros; first | exact trivial | exact rfl | omega | exact u8_lo _ | exact u8_hi _ | exact u8_in64 _ | exact u8_in63 _ | (simp only [inR, IntKind.bits]; omega) | (simp [inR, IntKind.bits]; done) | (simp [inR, IntKind.bits] at * <;> omega) | (simp_all; done) | (with_reducible assumption) | skip)
    exact G_ret tOk hM0 rfl rfl ⟨trivial, trivial⟩ ⟨rfl, rfl⟩

def fing_s : FSpec
  | [.c (.pv (.lst .byt b))] => some ((b.length ≤ 1000000), false, .x (.c (.val (.int .u64 (fg b)))))
  | _ => none
theorem fing_s_ok : SpecOk Try.prog 17 fing_s := by
  intro args pre sh rv h hp; unfold fing_s at h; split at h
  · cases h; have hb := hp; exact fing_fn _ hb
  · cases h
def psi_fing : FuncId → Option FSpec := psiCons 17 fing_s psiNil
theorem psi_fing_ok : PsiFn Try.prog psi_fing := psiCons_ok fing_s_ok psiNil_ok
def env_rfing : Env := ⟨T, psi_fing, pspNil, pscNil, 24, [], none, true⟩
theorem eok_rfing : PsiOk Try.prog env_rfing := ⟨psi_fing_ok, pspNil_ok, pscNil_ok⟩
theorem rfing_fn (b : List UInt8) (hb : b.length ≤ 1000000) : Ctr Try.prog 32 false [lst .byt b] (.x (.c (.val (.int .u64 (fg b))))) := by
  refine Ctr_intro (E := env_rfing) Try.func32 rfl (by decide) rfl rfl (fun M0 W hM0 => ?_)
  refine G_run tOk eok_rfing 60 (fun _ => none) (fun bs => rfl) (fun bs => ?_) (fun bs => ?_)
  · (repeat' apply And.intro) <;> (intros; first | exact trivial | exact rfl | omega | exact u8_lo _ | exact u8_hi _ | exact u8_in64 _ | exact u8_in63 _ | (simp only [inR, IntKind.bits]; omega) | (simp [inR, IntKind.bits]; done) | (simp [inR, IntKind.bits] at * <;> omega) | (simp_all; done) | (with_reducible assumption) | skip)
  refine G_loop (fun i : Nat => [(0, lst .byt b), (3, int .u64 (fgN b i)), (4, int .i64 i)]) (fun i => []) (fun i => i ≤ b.length) (fun i => b.length - i) rfl [] 0 (Nat.zero_le _) ?wk (fun i hx => ?_)
  case wk => (repeat' apply And.intro) <;> (first | exact rfl | exact trivial | omega | refine sigEq ?_ | skip)
  refine G_run tOk eok_rfing 60 (fun _ => none) (fun bs => rfl) (fun bs => ?_) (fun bs => ?_)
  · (repeat' apply And.intro) <;> (intros; first | exact trivial | exact rfl | omega | exact u8_lo _ | exact u8_hi _ | exact u8_in64 _ | exact u8_in63 _ | (simp only [inR, IntKind.bits]; omega) | (simp [inR, IntKind.bits]; done) | (simp [inR, IntKind.bits] at * <;> omega) | (simp_all; done) | (with_reducible assumption) | skip)
  refine G_if rfl rfl (fun hk => ?_) (fun hk => ?_)
  · have hk' : i < b.length := by omega
    refine G_run tOk eok_rfing 60 (fun _ => none) (fun bs => rfl) (fun bs => ?_) (fun bs => ?_)
    · (repeat' apply And.intro) <;> (intros; first | exact trivial | exact rfl | omega | exact u8_lo _ | exact u8_hi _ | exact u8_in64 _ | exact u8_in63 _ | (simp only [inR, IntKind.bits]; omega) | (simp [inR, IntKind.bits]; done) | (simp [inR, IntKind.bits] at * <;> omega) | (simp_all; done) | (with_reducible assumption) | skip)
    refine G_lp [] (i + 1) ?ok ?wk1
    case ok => exact ⟨hk', by omega⟩
    case wk1 => (repeat' apply And.intro) <;> (first | exact rfl | exact trivial | omega | refine sigEq ?_ | skip)
  · have hk' : i = b.length := by omega
    subst hk'
    refine G_run tOk eok_rfing 60 (fun _ => none) (fun bs => rfl) (fun bs => ?_) (fun bs => ?_)
    · (repeat' apply And.intro) <;> (intros; first | exact trivial | exact rfl | omega | exact u8_lo _ | exact u8_hi _ | exact u8_in64 _ | exact u8_in63 _ | (simp only [inR, IntKind.bits]; omega) | (simp [inR, IntKind.bits]; done) | (simp [inR, IntKind.bits] at * <;> omega) | (simp_all; done) | (with_reducible assumption) | skip)
    exact G_ret tOk hM0 rfl rfl ⟨trivial, trivial⟩ ⟨rfl, rfl⟩

def rfing_s : FSpec
  | [.c (.pv (.lst .byt b))] => some ((b.length ≤ 1000000), false, .x (.c (.val (.int .u64 (fg b)))))
  | _ => none
theorem rfing_s_ok : SpecOk Try.prog 32 rfing_s := by
  intro args pre sh rv h hp; unfold rfing_s at h; split at h
  · cases h; have hb := hp; exact rfing_fn _ hb
  · cases h
def psi_rfing : FuncId → Option FSpec := psiCons 32 rfing_s psi_fing
theorem psi_rfing_ok : PsiFn Try.prog psi_rfing := psiCons_ok rfing_s_ok psi_fing_ok
def ixN (l : List Known) (x : Known) : Nat → Int
  | 0 => -1
  | k + 1 => match decide (0 ≤ ixN l x k) with
    | true => ixN l x k
    | false => match decide (x = l.getD k LK.knw.dft) with
      | true => k
      | false => -1
theorem ixN_keep {l : List Known} {x : Known} {i j : Nat} (h : 0 ≤ ixN l x i) (hj : i ≤ j) : ixN l x j = ixN l x i := by
  induction j with
  | zero => have : i = 0 := by omega
            subst this; rfl
  | succ j ih =>
    by_cases e : i = j + 1
    · subst e; rfl
    · have := ih (by omega)
      simp only [ixN, this, decide_eq_true h]
theorem ixN_lt (l : List Known) (x : Known) : ∀ k, -1 ≤ ixN l x k ∧ ixN l x k ≤ k := by
  intro k
  induction k with
  | zero => simp [ixN]
  | succ k ih =>
    simp only [ixN]
    split
    · omega
    · split <;> omega
def hasK (l : List Known) (x : Known) : Bool := decide (0 ≤ ixN l x l.length)
theorem kn_eq (x y : Known) : (decide (x.finger = y.finger) && (decide (x.e.kind = y.e.kind) && (decide (x.e.start = y.e.start) && (decide (x.e.count = y.e.count) && (decide (x.e.size = y.e.size) && (decide (x.e.sum = y.e.sum) && true)))))) = decide (x = y) := by
  obtain ⟨f, k, s, c, z, m⟩ := x; obtain ⟨f', k', s', c', z', m'⟩ := y
  rw [Bool.eq_iff_iff]; simp [and_assoc]
theorem kn_eqS (x y : Known) : EqS Try.prog 58 (((LK.enc .knw x)).map C.pv) ((LK.enc .knw y).map C.pv) (decide (x = y)) := by
  rw [← kn_eq]
  obtain ⟨inf, z, h1, h2, _⟩ := (tOk 28 _ rfl).info
  exact EqS_two (t0 := 0) (t1 := 0) (m := 5) (by kernel_rfl) Try.underlying58 (by kernel_rfl) (by kernel_rfl) rfl (by decide) Try.underlying28 rfl (by decide) (by kernel_rfl) h1 h2 (zs := [.pv (.val (.int .i64 0)), .pv (.val (.int .i64 0)), .pv (.val (.int .i64 0)), .pv (.val (.int .i64 0)), .pv (.val (.int .u32 0))]) (by kernel_rfl) rfl rfl rfl

def env_kidx : Env := ⟨T, psi_rfing, pspNil, pscNil, 19, [], none, true⟩
theorem eok_kidx : PsiOk Try.prog env_kidx := ⟨psi_rfing_ok, pspNil_ok, pscNil_ok⟩
theorem kidx_fn (l : List Known) (v0 : Int) (v1 : Int) (v2 : Int) (v3 : Int) (v4 : Int) (v5 : Int) (hl : l.length ≤ 1000000) : Ctr Try.prog 30 false [lst .knw l, .g [.pv (.val (.int .u64 v0)), .pv (.val (.int .i64 v1)), .pv (.val (.int .i64 v2)), .pv (.val (.int .i64 v3)), .pv (.val (.int .i64 v4)), .pv (.val (.int .u32 v5))]] (.x (.c (i64 (ixN l ⟨v0, ⟨v1, v2, v3, v4, v5⟩⟩ l.length)))) := by
  refine Ctr_intro (E := env_kidx) Try.func30 rfl (by decide) rfl rfl (fun M0 W hM0 => ?_)
  generalize hX : (⟨v0, ⟨v1, v2, v3, v4, v5⟩⟩ : Known) = X
  refine G_run tOk eok_kidx 60 (fun _ => none) (fun bs => rfl) (fun bs => ?_) (fun bs => ?_)
  · (repeat' apply And.intro) <;> (intros; first | exact trivial | exact rfl | omega | exact u8_lo _ | exact u8_hi _ | exact u8_in64 _ | exact u8_in63 _ | (simp only [inR, IntKind.bits]; omega) | (simp [inR, IntKind.bits]; done) | (simp [inR, IntKind.bits] at * <;> omega) | (simp_all; done) | (with_reducible assumption) | skip)
  refine G_wkB (ns := [0]) (fs := fun b => [(3, .c (.ptr 0 b 0)), (6, lst .knw l), (7, int .i64 l.length), (0, lst .knw l), (8, int .i64 0)]) (hs := fun b => [.blk b 58 ((LK.enc .knw X).map C.pv)]) ?b1 rfl ?wk0 (fun b => ?_)
  case wk0 =>
    (repeat' apply And.intro) <;> (first | exact rfl | exact trivial | omega | refine sigEq ?_ | skip)
    all_goals (subst hX; rfl)
  refine G_loop (fun i : Nat => [(3, .c (.ptr 0 b 0)), (0, lst .knw l), (7, int .i64 l.length), (8, int .i64 i)]) (fun i => [.blk b 58 ((LK.enc .knw X).map C.pv)]) (fun i => i ≤ l.length ∧ ixN l X i = -1) (fun i => l.length - i) rfl [0] 0 ⟨Nat.zero_le _, rfl⟩ ?wk (fun i hx => ?_)
  case wk => (repeat' apply And.intro) <;> (first | exact rfl | exact trivial | omega | refine sigEq ?_ | skip)
  obtain ⟨hx1, hx2⟩ := hx
  refine G_run tOk eok_kidx 60 (fun _ => none) (fun bs => rfl) (fun bs => ?_) (fun bs => ?_)
  · (repeat' apply And.intro) <;> (intros; first | exact trivial | exact rfl | omega | exact u8_lo _ | exact u8_hi _ | exact u8_in64 _ | exact u8_in63 _ | (simp only [inR, IntKind.bits]; omega) | (simp [inR, IntKind.bits]; done) | (simp [inR, IntKind.bits] at * <;> omega) | (simp_all; done) | (with_reducible assumption) | skip)
  refine G_if rfl rfl (fun hk => ?_) (fun hk => ?_)
  · have hk' : i < l.length := by omega
    refine G_run tOk eok_kidx 60 (fun _ => none) (fun bs => rfl) (fun bs => ?_) (fun bs => ?_)
    · (repeat' apply And.intro) <;> (intros; first | exact trivial | exact rfl | omega | exact u8_lo _ | exact u8_hi _ | exact u8_in64 _ | exact u8_in63 _ | (simp only [inR, IntKind.bits]; omega) | (simp [inR, IntKind.bits]; done) | (simp [inR, IntKind.bits] at * <;> omega) | (simp_all; done) | (with_reducible assumption) | skip)
    refine G_nx 1 rfl ?_
    refine G_draw tOk eok_kidx rfl (fun _ => none) 5 [0, 0, 0, 6, 14, 31] [] rfl (by decide +kernel) (fun bs => rfl) (fun bs => ?_) (fun bs => ?_)
    · (repeat' apply And.intro) <;> (intros; first | exact trivial | exact rfl | omega | exact u8_lo _ | exact u8_hi _ | exact u8_in64 _ | exact u8_in63 _ | (simp only [inR, IntKind.bits]; omega) | (simp [inR, IntKind.bits]; done) | (simp [inR, IntKind.bits] at * <;> omega) | (simp_all; done) | (with_reducible assumption) | skip)
    refine G_eqS (kn_eqS X (l.getD i LK.knw.dft)) rfl rfl rfl rfl rfl rfl ?_
    refine G_run tOk eok_kidx 60 (fun _ => none) (fun bs => rfl) (fun bs => ?_) (fun bs => ?_)
    · (repeat' apply And.intro) <;> (intros; first | exact trivial | exact rfl | omega | exact u8_lo _ | exact u8_hi _ | exact u8_in64 _ | exact u8_in63 _ | (simp only [inR, IntKind.bits]; omega) | (simp [inR, IntKind.bits]; done) | (simp [inR, IntKind.bits] at * <;> omega) | (simp_all; done) | (with_reducible assumption) | skip)
    refine G_cond (b := decide (X = l.getD i LK.knw.dft)) rfl rfl (fun h => ?_) (fun h => ?_)
    · have h1 : ixN l X (i + 1) = i := by simp only [ixN, hx2, h]; rfl
      have h2 : ixN l X l.length = i := by rw [ixN_keep (i := i + 1) (by omega) (by omega), h1]
      refine G_run tOk eok_kidx 60 (fun _ => none) (fun bs => rfl) (fun bs => ?_) (fun bs => ?_)
      · (repeat' apply And.intro) <;> (intros; first | exact trivial | exact rfl | omega | exact u8_lo _ | exact u8_hi _ | exact u8_in64 _ | exact u8_in63 _ | (simp only [inR, IntKind.bits]; omega) | (simp [inR, IntKind.bits]; done) | (simp [inR, IntKind.bits] at * <;> omega) | (simp_all; done) | (with_reducible assumption) | skip)
      exact G_ret tOk hM0 rfl rfl ⟨trivial, trivial⟩ ⟨rfl, h2.symm⟩
    · have h1 : ixN l X (i + 1) = -1 := by simp only [ixN, hx2, h]; rfl
      refine G_run tOk eok_kidx 60 (fun _ => none) (fun bs => rfl) (fun bs => ?_) (fun bs => ?_)
      · (repeat' apply And.intro) <;> (intros; first | exact trivial | exact rfl | omega | exact u8_lo _ | exact u8_hi _ | exact u8_in64 _ | exact u8_in63 _ | (simp only [inR, IntKind.bits]; omega) | (simp [inR, IntKind.bits]; done) | (simp [inR, IntKind.bits] at * <;> omega) | (simp_all; done) | (with_reducible assumption) | skip)
      refine G_lp [0] (i + 1) ?ok ?wk1
      case ok => exact ⟨⟨hk', h1⟩, by omega⟩
      case wk1 => (repeat' apply And.intro) <;> (first | exact rfl | exact trivial | omega | refine sigEq ?_ | skip)
  · have hk' : i = l.length := by omega
    subst hk'
    refine G_run tOk eok_kidx 60 (fun _ => none) (fun bs => rfl) (fun bs => ?_) (fun bs => ?_)
    · (repeat' apply And.intro) <;> (intros; first | exact trivial | exact rfl | omega | exact u8_lo _ | exact u8_hi _ | exact u8_in64 _ | exact u8_in63 _ | (simp only [inR, IntKind.bits]; omega) | (simp [inR, IntKind.bits]; done) | (simp [inR, IntKind.bits] at * <;> omega) | (simp_all; done) | (with_reducible assumption) | skip)
    exact G_ret tOk hM0 rfl rfl ⟨trivial, trivial⟩ ⟨rfl, hx2.symm⟩

def kidx_s : FSpec
  | [.c (.pv (.lst .knw l)), .g [.pv (.val (.int .u64 v0)), .pv (.val (.int .i64 v1)), .pv (.val (.int .i64 v2)), .pv (.val (.int .i64 v3)), .pv (.val (.int .i64 v4)), .pv (.val (.int .u32 v5))]] => some ((l.length ≤ 1000000), false, .x (.c (i64 (ixN l ⟨v0, ⟨v1, v2, v3, v4, v5⟩⟩ l.length))))
  | _ => none
theorem kidx_s_ok : SpecOk Try.prog 30 kidx_s := by
  intro args pre sh rv h hp; unfold kidx_s at h; split at h
  · cases h; have hl := hp; exact kidx_fn _ _ _ _ _ _ _ hl
  · cases h
def psi_kidx : FuncId → Option FSpec := psiCons 30 kidx_s psi_rfing
theorem psi_kidx_ok : PsiFn Try.prog psi_kidx := psiCons_ok kidx_s_ok psi_rfing_ok
def env_kcont : Env := ⟨T, psi_kidx, pspNil, pscNil, 9, [], none, true⟩
theorem eok_kcont : PsiOk Try.prog env_kcont := ⟨psi_kidx_ok, pspNil_ok, pscNil_ok⟩
theorem kcont_fn (l : List Known) (v0 : Int) (v1 : Int) (v2 : Int) (v3 : Int) (v4 : Int) (v5 : Int) (hl : l.length ≤ 1000000) : Ctr Try.prog 18 false [lst .knw l, .g [.pv (.val (.int .u64 v0)), .pv (.val (.int .i64 v1)), .pv (.val (.int .i64 v2)), .pv (.val (.int .i64 v3)), .pv (.val (.int .i64 v4)), .pv (.val (.int .u32 v5))]] (.x (.c (bv (hasK l ⟨v0, ⟨v1, v2, v3, v4, v5⟩⟩)))) := by
  refine Ctr_intro (E := env_kcont) Try.func18 rfl (by decide) rfl rfl (fun M0 W hM0 => ?_)
  refine G_run tOk eok_kcont 60 (fun _ => none) (fun bs => rfl) (fun bs => ?_) (fun bs => ?_)
  · (repeat' apply And.intro) <;> (intros; first | exact trivial | exact rfl | omega | exact u8_lo _ | exact u8_hi _ | exact u8_in64 _ | exact u8_in63 _ | (simp only [inR, IntKind.bits]; omega) | (simp [inR, IntKind.bits]; done) | (simp [inR, IntKind.bits] at * <;> omega) | (simp_all; done) | (with_reducible assumption) | skip)
  exact G_ret tOk hM0 rfl rfl ⟨trivial, trivial⟩ rfl
def kcont_s : FSpec
  | [.c (.pv (.lst .knw l)), .g [.pv (.val (.int .u64 v0)), .pv (.val (.int .i64 v1)), .pv (.val (.int .i64 v2)), .pv (.val (.int .i64 v3)), .pv (.val (.int .i64 v4)), .pv (.val (.int .u32 v5))]] => some ((l.length ≤ 1000000), false, .x (.c (bv (hasK l ⟨v0, ⟨v1, v2, v3, v4, v5⟩⟩))))
  | _ => none
theorem kcont_s_ok : SpecOk Try.prog 18 kcont_s := by
  intro args pre sh rv h hp; unfold kcont_s at h; split at h
  · cases h; have hl := hp; exact kcont_fn _ _ _ _ _ _ _ hl
  · cases h
def psi_kcont : FuncId → Option FSpec := psiCons 18 kcont_s psi_kidx
theorem psi_kcont_ok : PsiFn Try.prog psi_kcont := psiCons_ok kcont_s_ok psi_kidx_ok
end Go.Proofs.Ytbhemhmdmeomdaa
