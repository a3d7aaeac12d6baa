import Derived.Test.YtgobmfkffhomaaaShtE
import Derived.Test.YtgobmfkffhomaaaMtQ4
set_option linter.unusedSimpArgs false
set_option linter.unusedVariables false
namespace Go.Proofs.Ytgobmfkffhomaaa
open Go.Mt
namespace Tt

theorem pow_c {c : Int} (h : 0 ≤ c ∧ c ≤ 6) : (1 : Int) ≤ 2 ^ c.toNat ∧ (2 : Int) ^ c.toNat ≤ 64 := by
  have : c = 0 ∨ c = 1 ∨ c = 2 ∨ c = 3 ∨ c = 4 ∨ c = 5 ∨ c = 6 := by omega
  rcases this with h | h | h | h | h | h | h <;> subst h <;> decide
def placeB (st ct : Int) : Bool := decide (2 ≤ st) && decide (st ≤ 65536) && decide (0 ≤ ct) && decide (ct ≤ 65536 - st)
def mayE (k st ct sz sm c : Int) : Bool :=
  if c < 0 ∨ 6 < c then false else if k = 0 ∨ k = 1 then decide (st = 0 ∧ ct = 0 ∧ sz = 0 ∧ sm = 0)
  else if k = 2 then decide (ct = 2 ^ c.toNat ∧ sz = 0 ∧ 2 ≤ st ∧ st ≤ 65536 ∧ ct ≤ 65536 - st)
  else if k = 3 then decide (1 ≤ ct ∧ ct < 2 ^ c.toNat ∧ 1 ≤ sz ∧ (ct - 1) * 16 < sz ∧ sz ≤ ct * 16 ∧ 2 ≤ st ∧ st ≤ 65536 ∧ ct ≤ 65536 - st)
  else false
def env_rmay : Env := ⟨T, psi_rmaps, pspNil, pscNil, 108, [], none, true⟩
theorem eok_rmay : PsiOk Try.prog env_rmay := ⟨psi_rmaps_ok, pspNil_ok, pscNil_ok⟩
theorem rmay_fn (e0 : Int) (e1 : Int) (e2 : Int) (e3 : Int) (e4 : Int) (c : Int)  : Ctr Try.prog 36 false [.g [.pv (.val (.int .i64 e0)), .pv (.val (.int .i64 e1)), .pv (.val (.int .i64 e2)), .pv (.val (.int .i64 e3)), .pv (.val (.int .u32 e4))], int .i64 c] (.x (.c (bv (mayE e0 e1 e2 e3 e4 c)))) := by
  refine Ctr_intro (E := env_rmay) Try.func36 rfl (by decide) rfl rfl (fun M0 W hM0 => ?_)
  refine G_run tOk eok_rmay 60 (fun _ => none) (fun bs => rfl) (fun bs => ?_) (fun bs => ?_)
  · (repeat' apply And.intro) <;> (intros; first | exact trivial | exact rfl | omega | exact u8_lo _ | exact u8_hi _ | exact u8_in64 _ | exact u8_in63 _ | (simp only [inR, IntKind.bits]; omega) | (simp [inR, IntKind.bits]; done) | (simp [inR, IntKind.bits] at * <;> omega) | (simp_all; done) | (with_reducible assumption) | skip)
  refine G_cond rfl rfl (fun h => ?_) (fun h => ?_)
  · refine G_run tOk eok_rmay 60 (fun _ => none) (fun bs => rfl) (fun bs => ?_) (fun bs => ?_)
    · (repeat' apply And.intro) <;> (intros; first | exact trivial | exact rfl | omega | exact u8_lo _ | exact u8_hi _ | exact u8_in64 _ | exact u8_in63 _ | (simp only [inR, IntKind.bits]; omega) | (simp [inR, IntKind.bits]; done) | (simp [inR, IntKind.bits] at * <;> omega) | (simp_all; done) | (with_reducible assumption) | skip)
    have hb : mayE e0 e1 e2 e3 e4 c = false := by simp at h; simp [mayE, h]
    exact G_ret tOk hM0 rfl rfl ⟨trivial, trivial⟩ hb.symm
  have hc : 0 ≤ c ∧ c ≤ 6 := by simp at h; omega
  have hcn : ¬ (c < 0 ∨ 6 < c) := by omega
  clear h
  have hp := pow_c hc
  refine G_run tOk eok_rmay 60 (fun _ => none) (fun bs => rfl) (fun bs => ?_) (fun bs => ?_)
  · (repeat' apply And.intro) <;> (intros; first | exact trivial | exact rfl | omega | exact u8_lo _ | exact u8_hi _ | exact u8_in64 _ | exact u8_in63 _ | (simp only [inR, IntKind.bits]; omega) | (simp [inR, IntKind.bits]; done) | (simp [inR, IntKind.bits] at * <;> omega) | (simp_all; done) | (with_reducible assumption) | skip)
  by_cases k0 : e0 = 0
  · refine G_thn rfl rfl (by simp [k0]) ?_
    refine G_run tOk eok_rmay 60 (fun _ => none) (fun bs => rfl) (fun bs => ?_) (fun bs => ?_)
    · (repeat' apply And.intro) <;> (intros; first | exact trivial | exact rfl | omega | exact u8_lo _ | exact u8_hi _ | exact u8_in64 _ | exact u8_in63 _ | (simp only [inR, IntKind.bits]; omega) | (simp [inR, IntKind.bits]; done) | (simp [inR, IntKind.bits] at * <;> omega) | (simp_all; done) | (with_reducible assumption) | skip)
    refine G_thn rfl rfl (by simp [k0]) ?_
    refine G_run tOk eok_rmay 60 (fun _ => none) (fun bs => rfl) (fun bs => ?_) (fun bs => ?_)
    · (repeat' apply And.intro) <;> (intros; first | exact trivial | exact rfl | omega | exact u8_lo _ | exact u8_hi _ | exact u8_in64 _ | exact u8_in63 _ | (simp only [inR, IntKind.bits]; omega) | (simp [inR, IntKind.bits]; done) | (simp [inR, IntKind.bits] at * <;> omega) | (simp_all; done) | (with_reducible assumption) | skip)
    refine G_ret tOk hM0 rfl rfl ⟨trivial, trivial⟩ ?_
    conv => whnf
    simp [mayE, hcn, k0, and_assoc, Bool.and_assoc]
  refine G_els rfl rfl (by simp [k0]) ?_
  refine G_run tOk eok_rmay 60 (fun _ => none) (fun bs => rfl) (fun bs => ?_) (fun bs => ?_)
  · (repeat' apply And.intro) <;> (intros; first | exact trivial | exact rfl | omega | exact u8_lo _ | exact u8_hi _ | exact u8_in64 _ | exact u8_in63 _ | (simp only [inR, IntKind.bits]; omega) | (simp [inR, IntKind.bits]; done) | (simp [inR, IntKind.bits] at * <;> omega) | (simp_all; done) | (with_reducible assumption) | skip)
  by_cases k1 : e0 = 1
  · refine G_thn rfl rfl (by simp [k1]) ?_
    refine G_run tOk eok_rmay 60 (fun _ => none) (fun bs => rfl) (fun bs => ?_) (fun bs => ?_)
    · (repeat' apply And.intro) <;> (intros; first | exact trivial | exact rfl | omega | exact u8_lo _ | exact u8_hi _ | exact u8_in64 _ | exact u8_in63 _ | (simp only [inR, IntKind.bits]; omega) | (simp [inR, IntKind.bits]; done) | (simp [inR, IntKind.bits] at * <;> omega) | (simp_all; done) | (with_reducible assumption) | skip)
    refine G_ret tOk hM0 rfl rfl ⟨trivial, trivial⟩ ?_
    conv => whnf
    simp [mayE, hcn, k1, and_assoc, Bool.and_assoc]
  refine G_els rfl rfl (by simp [k1]) ?_
  refine G_run tOk eok_rmay 60 (fun _ => none) (fun bs => rfl) (fun bs => ?_) (fun bs => ?_)
  · (repeat' apply And.intro) <;> (intros; first | exact trivial | exact rfl | omega | exact u8_lo _ | exact u8_hi _ | exact u8_in64 _ | exact u8_in63 _ | (simp only [inR, IntKind.bits]; omega) | (simp [inR, IntKind.bits]; done) | (simp [inR, IntKind.bits] at * <;> omega) | (simp_all; done) | (with_reducible assumption) | skip)
  by_cases k2 : e0 = 2
  · refine G_thn rfl rfl (by simp [k2]) ?_
    refine G_run tOk eok_rmay 60 (fun _ => none) (fun bs => rfl) (fun bs => ?_) (fun bs => ?_)
    · (repeat' apply And.intro) <;> (intros; first | exact trivial | exact rfl | omega | exact u8_lo _ | exact u8_hi _ | exact u8_in64 _ | exact u8_in63 _ | (simp only [inR, IntKind.bits]; omega) | (simp [inR, IntKind.bits]; done) | (simp [inR, IntKind.bits] at * <;> omega) | (simp_all; done) | (with_reducible assumption) | skip)
    refine G_ret tOk hM0 rfl rfl ⟨trivial, trivial⟩ ?_
    conv => whnf
    simp [mayE, hcn, k2]
    rw [Bool.eq_iff_iff]; simp; omega
  refine G_els rfl rfl (by simp [k2]) ?_
  refine G_run tOk eok_rmay 60 (fun _ => none) (fun bs => rfl) (fun bs => ?_) (fun bs => ?_)
  · (repeat' apply And.intro) <;> (intros; first | exact trivial | exact rfl | omega | exact u8_lo _ | exact u8_hi _ | exact u8_in64 _ | exact u8_in63 _ | (simp only [inR, IntKind.bits]; omega) | (simp [inR, IntKind.bits]; done) | (simp [inR, IntKind.bits] at * <;> omega) | (simp_all; done) | (with_reducible assumption) | skip)
  by_cases k3 : e0 = 3
  · refine G_thn rfl rfl (by simp [k3]) ?_
    refine G_run tOk eok_rmay 60 (fun _ => none) (fun bs => rfl) (fun bs => ?_) (fun bs => ?_)
    · (repeat' apply And.intro) <;> (intros; first | exact trivial | exact rfl | omega | exact u8_lo _ | exact u8_hi _ | exact u8_in64 _ | exact u8_in63 _ | (simp only [inR, IntKind.bits]; omega) | (simp [inR, IntKind.bits]; done) | (simp [inR, IntKind.bits] at * <;> omega) | (simp_all; done) | (with_reducible assumption) | skip)
    refine G_ret tOk hM0 rfl rfl ⟨trivial, trivial⟩ ?_
    conv => whnf
    simp [mayE, hcn, k3]
    rw [Bool.eq_iff_iff]; simp; omega
  refine G_els rfl rfl (by simp [k3]) ?_
  refine G_run tOk eok_rmay 60 (fun _ => none) (fun bs => rfl) (fun bs => ?_) (fun bs => ?_)
  · (repeat' apply And.intro) <;> (intros; first | exact trivial | exact rfl | omega | exact u8_lo _ | exact u8_hi _ | exact u8_in64 _ | exact u8_in63 _ | (simp only [inR, IntKind.bits]; omega) | (simp [inR, IntKind.bits]; done) | (simp [inR, IntKind.bits] at * <;> omega) | (simp_all; done) | (with_reducible assumption) | skip)
  refine G_ret tOk hM0 rfl rfl ⟨trivial, trivial⟩ ?_
  conv => whnf
  simp [mayE, hcn, k0, k1, k2, k3]
def rmay_s : FSpec
  | [.g [.pv (.val (.int .i64 e0)), .pv (.val (.int .i64 e1)), .pv (.val (.int .i64 e2)), .pv (.val (.int .i64 e3)), .pv (.val (.int .u32 e4))], .c (.pv (.val (.int .i64 c)))] => some (True, false, .x (.c (bv (mayE e0 e1 e2 e3 e4 c))))
  | _ => none
theorem rmay_s_ok : SpecOk Try.prog 36 rmay_s := by
  intro args pre sh rv h hp; unfold rmay_s at h; split at h
  · cases h; exact rmay_fn _ _ _ _ _ _ 
  · cases h
def psi_rmay : FuncId → Option FSpec := psiCons 36 rmay_s psi_rmaps
theorem psi_rmay_ok : PsiFn Try.prog psi_rmay := psiCons_ok rmay_s_ok psi_rmaps_ok
def leaf (t : List (List Entry)) (i : Nat) : List Entry := t.getD i []
def gN (t : List (List Entry)) : Nat → Int
  | 0 => 0
  | k + 1 => gN t k + 1 + min ((leaf t k).length : Int) 6000
theorem gN_mono (t : List (List Entry)) : ∀ j k, j ≤ k → gN t j + (k - j) ≤ gN t k := by
  intro j k
  induction k with
  | zero => intro h; have : j = 0 := by omega
            subst this; simp
  | succ k ih =>
    intro h
    by_cases hj : j = k + 1
    · subst hj; simp
    · have := ih (by omega); simp only [gN]; omega
def greatB (t : List (List Entry)) : Bool := decide (6000 < gN t t.length)
theorem great_len {t : List (List Entry)} (h : greatB t = false) : t.length ≤ 6000 ∧ ∀ i, (leaf t i).length ≤ 6000 := by
  have h' : ¬ 6000 < gN t t.length := of_decide_eq_false h
  have h0 := gN_mono t 0 t.length (Nat.zero_le _)
  refine ⟨by simp only [gN] at h0; omega, fun i => ?_⟩
  by_cases hi : i < t.length
  · have h1 := gN_mono t (i + 1) t.length hi
    have h2 := gN_mono t 0 i (Nat.zero_le _)
    simp only [gN] at h1 h2
    omega
  · have : leaf t i = [] := by simp [leaf, List.getD, List.getElem?_eq_none (by omega : t.length ≤ i)]
    rw [this]; simp
def env_great : Env := ⟨T, psi_rmay, pspNil, pscNil, 28, [], none, true⟩
theorem eok_great : PsiOk Try.prog env_great := ⟨psi_rmay_ok, pspNil_ok, pscNil_ok⟩
theorem great_fn (t0 : List (List Entry)) (hl : t0.length ≤ 9223372036854775807) : Ctr Try.prog 31 false [.g [.pv (.lst .tbl t0)]] (.x (.c (bv (greatB t0)))) := by
  refine Ctr_intro (E := env_great) Try.func31 rfl (by decide) rfl rfl (fun M0 W hM0 => ?_)
  refine G_run tOk eok_great 60 (fun _ => none) (fun bs => rfl) (fun bs => ?_) (fun bs => ?_)
  · (repeat' apply And.intro) <;> (intros; first | exact trivial | exact rfl | omega | exact u8_lo _ | exact u8_hi _ | exact u8_in64 _ | exact u8_in63 _ | (simp only [inR, IntKind.bits]; omega) | (simp [inR, IntKind.bits]; done) | (simp [inR, IntKind.bits] at * <;> omega) | (simp_all; done) | (with_reducible assumption) | skip)
  refine G_loop (fun x : Nat => [(1, .c (.ptr 0 (bs 0 0).bn 0)), (3, int .i64 (gN t0 x)), (4, int .i64 x)]) (fun x => [.blk (bs 0 0).bn 26 [.pv (.lst .tbl t0)]]) (fun x => x ≤ t0.length ∧ gN t0 x ≤ 12001) (fun x => t0.length - x) rfl [0] 0 ⟨Nat.zero_le _, by simp [gN]⟩ ?wk (fun x hx => ?_)
  case wk => (repeat' apply And.intro) <;> (first | exact rfl | exact trivial | omega | refine sigEq ?_ | skip)
  have h0 := gN_mono t0 0 x (Nat.zero_le _)
  simp only [gN] at h0
  refine G_run tOk eok_great 60 (fun _ => none) (fun bs => rfl) (fun bs => ?_) (fun bs => ?_)
  · (repeat' apply And.intro) <;> (intros; first | exact trivial | exact rfl | omega | exact u8_lo _ | exact u8_hi _ | exact u8_in64 _ | exact u8_in63 _ | (simp only [inR, IntKind.bits]; omega) | (simp [inR, IntKind.bits]; done) | (simp [inR, IntKind.bits] at * <;> omega) | (simp_all; done) | (with_reducible assumption) | skip)
  refine G_cond rfl rfl (fun h => ?_) (fun h => ?_)
  · have h' : (x : Int) < t0.length ∧ gN t0 x ≤ 6000 := by simpa using h
    refine G_run tOk eok_great 60 (fun _ => none) (fun bs => rfl) (fun bs => ?_) (fun bs => ?_)
    · (repeat' apply And.intro) <;> (intros; first | exact trivial | exact rfl | omega | exact u8_lo _ | exact u8_hi _ | exact u8_in64 _ | exact u8_in63 _ | (simp only [inR, IntKind.bits]; omega) | (simp [inR, IntKind.bits]; done) | (simp [inR, IntKind.bits] at * <;> omega) | (simp_all; done) | (with_reducible assumption) | skip)
    refine G_lp [0] (x + 1) ?ok1 ?wk1
    case ok1 => exact ⟨⟨by omega, by simp only [gN]; omega⟩, by omega⟩
    case wk1 => (repeat' apply And.intro) <;> (first | exact rfl | exact trivial | omega | refine sigEq ?_ | skip)
  · have h' : ¬ ((x : Int) < t0.length ∧ gN t0 x ≤ 6000) := by simpa using h
    refine G_run tOk eok_great 60 (fun _ => none) (fun bs => rfl) (fun bs => ?_) (fun bs => ?_)
    · (repeat' apply And.intro) <;> (intros; first | exact trivial | exact rfl | omega | exact u8_lo _ | exact u8_hi _ | exact u8_in64 _ | exact u8_in63 _ | (simp only [inR, IntKind.bits]; omega) | (simp [inR, IntKind.bits]; done) | (simp [inR, IntKind.bits] at * <;> omega) | (simp_all; done) | (with_reducible assumption) | skip)
    refine G_ret tOk hM0 rfl rfl ⟨trivial, trivial⟩ ?_
    conv => whnf
    have h1 := gN_mono t0 x t0.length hx.1
    unfold greatB
    rw [decide_eq_decide]
    by_cases e : x = t0.length
    · rw [e]
    · have : ¬ gN t0 x ≤ 6000 := fun hh => h' ⟨by omega, hh⟩
      constructor <;> intro <;> omega
def great_s : FSpec
  | [.g [.pv (.lst .tbl t0)]] => some ((t0.length ≤ 9223372036854775807), false, .x (.c (bv (greatB t0))))
  | _ => none
theorem great_s_ok : SpecOk Try.prog 31 great_s := by
  intro args pre sh rv h hp; unfold great_s at h; split at h
  · cases h; have hl := hp; exact great_fn _ hl
  · cases h
def psi_great : FuncId → Option FSpec := psiCons 31 great_s psi_rmay
theorem psi_great_ok : PsiFn Try.prog psi_great := psiCons_ok great_s_ok psi_rmay_ok
def noneE (k st ct sz sm : Int) : Bool := decide (k = 0) && decide (st = 0) && decide (ct = 0) && decide (sz = 0) && decide (sm = 0)
def mayX (c : Int) (e : Entry) : Bool := mayE e.kind e.start e.count e.size e.sum c
def noneX (e : Entry) : Bool := noneE e.kind e.start e.count e.size e.sum
def entZ : Entry := ⟨0, 0, 0, 0, 0⟩
/-- An entry that may be where it is. -/
def entOk (c n p : Int) (e : Entry) : Bool := mayX c e && (noneX e || decide (p < n))
def rowN (c n : Int) (i : Nat) (l : List Entry) : Nat → Bool
  | 0 => true
  | k + 1 => rowN c n i l k && entOk c n (i * 8 + k) (l.getD k entZ)
def someN (l : List Entry) : Nat → Bool
  | 0 => false
  | k + 1 => someN l k || !noneX (l.getD k entZ)
def rowB (c n : Int) (i : Nat) (l : List Entry) : Bool := decide (l.length = 8) && (rowN c n i l 8 && someN l 8)
def okRow (t : List (List Entry)) (n c : Int) (i : Nat) : Bool := (decide ((leaf t i).length = 0) && decide (i + 1 < t.length)) || rowB c n i (leaf t i)
def rightN (t : List (List Entry)) (n c : Int) : Nat → Bool
  | 0 => true
  | k + 1 => rightN t n c k && okRow t n c k
def rightT (t : List (List Entry)) (n c : Int) : Bool := !(decide (n < 0) || decide (4096 < n) || decide (c < 0) || decide (6 < c)) && rightN t n c t.length
theorem rightN_false {t : List (List Entry)} {n c : Int} {i j : Nat} (h : rightN t n c i = false) (hij : i ≤ j) : rightN t n c j = false := by
  induction j with
  | zero => have : i = 0 := by omega
            subst this; exact h
  | succ j ih =>
    by_cases hi : i = j + 1
    · subst hi; exact h
    · simp [rightN, ih (by omega)]
theorem rowN_false {c n : Int} {l : List Entry} {q i j : Nat} (h : rowN c n q l i = false) (hij : i ≤ j) : rowN c n q l j = false := by
  induction j with
  | zero => have : i = 0 := by omega
            subst this; exact h
  | succ j ih =>
    by_cases hi : i = j + 1
    · subst hi; exact h
    · simp [rowN, ih (by omega)]
theorem right_at {t : List (List Entry)} {n c : Int} {i : Nat} (h : okRow t n c i = false) (hi : i < t.length) : rightT t n c = false := by
  have : rightN t n c t.length = false := rightN_false (i := i + 1) (by simp [rightN, h]) hi
  simp [rightT, this]
theorem okRow_no {t : List (List Entry)} {n c : Int} {x : Nat} (h1 : ¬ ((leaf t x).length = 0 ∧ x + 1 < t.length)) (h2 : rowB c n x (leaf t x) = false) : okRow t n c x = false := by
  have : (decide ((leaf t x).length = 0) && decide (x + 1 < t.length)) = false := by
    rw [Bool.eq_false_iff]; simp only [ne_eq, Bool.and_eq_true, decide_eq_true_eq]; exact h1
  simp only [okRow, this, h2]; rfl
theorem noneX_def (e : Entry) : noneE e.kind e.start e.count e.size e.sum = noneX e := rfl
theorem mayX_def (c : Int) (e : Entry) : mayE e.kind e.start e.count e.size e.sum c = mayX c e := rfl
theorem may_none {c : Int} {e : Entry} (h : mayX c e = true) : noneX e = decide (e.kind = 0) := by
  unfold mayX mayE at h
  unfold noneX noneE
  split at h
  · cases h
  · by_cases h0 : e.kind = 0
    · rw [if_pos (.inl h0)] at h
      simp only [decide_eq_true_eq] at h
      simp [h0, h.1, h.2.1, h.2.2.1, h.2.2.2]
    · simp [h0]
theorem leaf_app {t : List (List Entry)} {i : Nat} (h : t.length ≤ i) : leaf t i = [] := by simp [leaf, List.getD, List.getElem?_eq_none h]
theorem someN_ex {l : List Entry} : ∀ {k : Nat}, someN l k = true → ∃ j, j < k ∧ noneX (l.getD j entZ) = false := by
  intro k
  induction k with
  | zero => intro h; cases h
  | succ k ih =>
    intro h
    simp only [someN, Bool.or_eq_true, Bool.not_eq_true'] at h
    rcases h with h | h
    · obtain ⟨j, hj, h2⟩ := ih h; exact ⟨j, by omega, h2⟩
    · exact ⟨k, by omega, h⟩
theorem rowN_all {c n : Int} {i : Nat} {l : List Entry} : ∀ {k : Nat}, rowN c n i l k = true → ∀ j, j < k → entOk c n (i * 8 + j) (l.getD j entZ) = true := by
  intro k
  induction k with
  | zero => intro _ j hj; omega
  | succ k ih =>
    intro h j hj
    simp only [rowN, Bool.and_eq_true] at h
    by_cases e : j = k
    · subst e; exact h.2
    · exact ih h.1 j (by omega)
/-- A right table has no more leaves than there may be. -/
theorem right_few {t : List (List Entry)} {n c : Int} (h : rightT t n c = true) (h5 : 512 < t.length) : False := by
  simp only [rightT, Bool.and_eq_true, Bool.not_eq_true', Bool.or_eq_false_iff, decide_eq_false_iff_not] at h
  obtain ⟨⟨⟨⟨a1, a2⟩, a3⟩, a4⟩, hN⟩ := h
  have hrow : okRow t n c (t.length - 1) = true := by
    cases ho : okRow t n c (t.length - 1) with
    | true => rfl
    | false =>
      have : rightN t n c t.length = false := rightN_false (i := t.length - 1 + 1) (by simp [rightN, ho]) (by omega)
      rw [this] at hN; cases hN
  have hd : decide (t.length - 1 + 1 < t.length) = false := by simp; omega
  simp only [okRow, hd, Bool.and_false, Bool.false_or, rowB, Bool.and_eq_true] at hrow
  obtain ⟨_, r1, r2⟩ := hrow
  obtain ⟨j, hj, h2⟩ := someN_ex r2
  have := rowN_all r1 j hj
  simp only [entOk, h2, Bool.false_or, Bool.and_eq_true, decide_eq_true_eq] at this
  omega
def env_trright : Env := ⟨T, psi_great, pspNil, pscNil, 107, [], none, true⟩
theorem eok_trright : PsiOk Try.prog env_trright := ⟨psi_great_ok, pspNil_ok, pscNil_ok⟩
theorem trright_fn (t0 : List (List Entry)) (n : Int) (c : Int) (hl : t0.length ≤ 1000000000) (hf : ∀ i, (leaf t0 i).length ≤ 1000000000) : Ctr Try.prog 19 false [.g [.pv (.lst .tbl t0)], int .i64 n, int .i64 c] (.x (.c (bv (rightT t0 n c)))) := by
  refine Ctr_intro (E := env_trright) Try.func19 rfl (by decide) rfl rfl (fun M0 W hM0 => ?_)
  refine G_run tOk eok_trright 60 (fun _ => none) (fun bs => rfl) (fun bs => ?_) (fun bs => ?_)
  · (repeat' apply And.intro) <;> (intros; first | exact trivial | exact rfl | omega | exact u8_lo _ | exact u8_hi _ | exact u8_in64 _ | exact u8_in63 _ | (simp only [inR, IntKind.bits]; omega) | (simp [inR, IntKind.bits]; done) | (simp [inR, IntKind.bits] at * <;> omega) | (simp_all; done) | (with_reducible assumption) | skip)
  generalize (bs 0 0).bn = b
  have hll : t0.getD (Int.toNat ((t0.length : Int) - 1)) LK.tbl.dft = leaf t0 (t0.length - 1) := by
    rw [show Int.toNat ((t0.length : Int) - 1) = t0.length - 1 by omega]; rfl
  refine G_cond (b := decide (n < 0) || decide (4096 < n) || decide (c < 0) || decide (6 < c) || (decide (0 < (t0.length : Int)) && decide (((t0.getD (Int.toNat ((t0.length : Int) - 1)) LK.tbl.dft).length : Int) = 0)) || decide (512 < (t0.length : Int))) rfl rfl (fun h => ?_) (fun h => ?_)
  · refine G_run tOk eok_trright 60 (fun _ => none) (fun bs => rfl) (fun bs => ?_) (fun bs => ?_)
    · (repeat' apply And.intro) <;> (intros; first | exact trivial | exact rfl | omega | exact u8_lo _ | exact u8_hi _ | exact u8_in64 _ | exact u8_in63 _ | (simp only [inR, IntKind.bits]; omega) | (simp [inR, IntKind.bits]; done) | (simp [inR, IntKind.bits] at * <;> omega) | (simp_all; done) | (with_reducible assumption) | skip)
    refine G_ret tOk hM0 rfl rfl ⟨trivial, trivial⟩ ?_
    conv => whnf
    rw [hll] at h
    cases hr : rightT t0 n c with
    | false => rfl
    | true =>
      exfalso
      by_cases h5 : 512 < t0.length
      · exact right_few hr h5
      · simp only [rightT, Bool.and_eq_true, Bool.not_eq_true', Bool.or_eq_false_iff, decide_eq_false_iff_not] at hr
        obtain ⟨⟨⟨⟨a1, a2⟩, a3⟩, a4⟩, hN⟩ := hr
        simp only [Bool.or_eq_true, Bool.and_eq_true, decide_eq_true_eq] at h
        have hz : 0 < t0.length ∧ (leaf t0 (t0.length - 1)).length = 0 := by omega
        have : rightN t0 n c t0.length = false := rightN_false (i := t0.length - 1 + 1) (by
          have hd : decide (t0.length - 1 + 1 < t0.length) = false := by simp; omega
          simp [rightN, okRow, hd, rowB, hz.2]) (by omega)
        rw [this] at hN; cases hN
  rw [hll] at h
  simp only [Bool.or_eq_false_iff, Bool.and_eq_false_iff, decide_eq_false_iff_not] at h
  have hb : 0 ≤ n ∧ n ≤ 4096 ∧ 0 ≤ c ∧ c ≤ 6 ∧ t0.length ≤ 512 ∧ (0 < t0.length → 0 < (leaf t0 (t0.length - 1)).length) := by omega
  have hR : rightT t0 n c = rightN t0 n c t0.length := by
    have e : (decide (n < 0) || decide (4096 < n) || decide (c < 0) || decide (6 < c)) = false := by simp; omega
    simp only [rightT, e]; rfl
  have hF : ∀ x, x < t0.length → okRow t0 n c x = false → rightT t0 n c = false := fun x hx ho => right_at ho hx
  clear h
  refine G_run tOk eok_trright 60 (fun _ => none) (fun bs => rfl) (fun bs => ?_) (fun bs => ?_)
  · (repeat' apply And.intro) <;> (intros; first | exact trivial | exact rfl | omega | exact u8_lo _ | exact u8_hi _ | exact u8_in64 _ | exact u8_in63 _ | (simp only [inR, IntKind.bits]; omega) | (simp [inR, IntKind.bits]; done) | (simp [inR, IntKind.bits] at * <;> omega) | (simp_all; done) | (with_reducible assumption) | skip)
  refine G_loop (fun x : Nat => [(1, int .i64 n), (2, int .i64 c), (3, .c (.ptr 0 b 0)), (7, int .i64 x)]) (fun x => [.blk b 26 [.pv (.lst .tbl t0)]]) (fun x => x ≤ t0.length ∧ rightN t0 n c x = true) (fun x => t0.length - x) rfl [0] 0 ⟨Nat.zero_le _, rfl⟩ ?wk (fun x hx => ?_)
  case wk => (repeat' apply And.intro) <;> (first | exact rfl | exact trivial | omega | refine sigEq ?_ | skip)
  obtain ⟨hx, hr⟩ := hx
  refine G_run tOk eok_trright 60 (fun _ => none) (fun bs => rfl) (fun bs => ?_) (fun bs => ?_)
  · (repeat' apply And.intro) <;> (intros; first | exact trivial | exact rfl | omega | exact u8_lo _ | exact u8_hi _ | exact u8_in64 _ | exact u8_in63 _ | (simp only [inR, IntKind.bits]; omega) | (simp [inR, IntKind.bits]; done) | (simp [inR, IntKind.bits] at * <;> omega) | (simp_all; done) | (with_reducible assumption) | skip)
  refine G_if rfl rfl (fun hk => ?_) (fun hk => ?_)
  · have hk' : x < t0.length := by omega
    have hlf := hf x
    have hlx : t0.getD (Int.toNat (x : Int)) LK.tbl.dft = leaf t0 x := rfl
    refine G_run tOk eok_trright 60 (fun _ => none) (fun bs => rfl) (fun bs => ?_) (fun bs => ?_)
    · (repeat' apply And.intro) <;> (intros; first | exact trivial | exact rfl | omega | exact u8_lo _ | exact u8_hi _ | exact u8_in64 _ | exact u8_in63 _ | (simp only [inR, IntKind.bits]; omega) | (simp [inR, IntKind.bits]; done) | (simp [inR, IntKind.bits] at * <;> omega) | (simp_all; done) | (with_reducible assumption) | skip)
    refine G_cond (b := decide (((leaf t0 x).length : Int) = 0)) rfl rfl (fun h1 => ?_) (fun h1 => ?_)
    · have h1' : (leaf t0 x).length = 0 := by
        simp only [decide_eq_true_eq] at h1; omega
      have h1'' : x + 1 < t0.length := by
        by_cases e : x + 1 < t0.length
        · exact e
        · have := hb.2.2.2.2.2 (by omega)
          rw [show t0.length - 1 = x by omega] at this; omega
      refine G_run tOk eok_trright 60 (fun _ => none) (fun bs => rfl) (fun bs => ?_) (fun bs => ?_)
      · (repeat' apply And.intro) <;> (intros; first | exact trivial | exact rfl | omega | exact u8_lo _ | exact u8_hi _ | exact u8_in64 _ | exact u8_in63 _ | (simp only [inR, IntKind.bits]; omega) | (simp [inR, IntKind.bits]; done) | (simp [inR, IntKind.bits] at * <;> omega) | (simp_all; done) | (with_reducible assumption) | skip)
      refine G_lp [0] (x + 1) ?ok1 ?wk1
      case ok1 => exact ⟨⟨hk', by simp [rightN, hr, okRow, h1'', List.eq_nil_of_length_eq_zero h1']⟩, by omega⟩
      case wk1 => (repeat' apply And.intro) <;> (first | exact rfl | exact trivial | omega | refine sigEq ?_ | skip)
    have h1' : ¬ ((leaf t0 x).length = 0 ∧ x + 1 < t0.length) := by
      intro hh; rw [Bool.eq_false_iff] at h1; apply h1
      simp only [decide_eq_true_eq]; omega
    refine G_run tOk eok_trright 60 (fun _ => none) (fun bs => rfl) (fun bs => ?_) (fun bs => ?_)
    · (repeat' apply And.intro) <;> (intros; first | exact trivial | exact rfl | omega | exact u8_lo _ | exact u8_hi _ | exact u8_in64 _ | exact u8_in63 _ | (simp only [inR, IntKind.bits]; omega) | (simp [inR, IntKind.bits]; done) | (simp [inR, IntKind.bits] at * <;> omega) | (simp_all; done) | (with_reducible assumption) | skip)
    refine G_cond (b := !decide (((leaf t0 x).length : Int) = 8)) rfl rfl (fun h2 => ?_) (fun h2 => ?_)
    · refine G_run tOk eok_trright 60 (fun _ => none) (fun bs => rfl) (fun bs => ?_) (fun bs => ?_)
      · (repeat' apply And.intro) <;> (intros; first | exact trivial | exact rfl | omega | exact u8_lo _ | exact u8_hi _ | exact u8_in64 _ | exact u8_in63 _ | (simp only [inR, IntKind.bits]; omega) | (simp [inR, IntKind.bits]; done) | (simp [inR, IntKind.bits] at * <;> omega) | (simp_all; done) | (with_reducible assumption) | skip)
      refine G_ret tOk hM0 rfl rfl ⟨trivial, trivial⟩ ?_
      conv => whnf
      refine (hF x hk' (okRow_no h1' ?_)).symm
      have : ¬ (leaf t0 x).length = 8 := by simp at h2; omega
      simp [rowB, this]
    have h8 : (leaf t0 x).length = 8 := by simp at h2; omega
    refine G_run tOk eok_trright 60 (fun _ => none) (fun bs => rfl) (fun bs => ?_) (fun bs => ?_)
    · (repeat' apply And.intro) <;> (intros; first | exact trivial | exact rfl | omega | exact u8_lo _ | exact u8_hi _ | exact u8_in64 _ | exact u8_in63 _ | (simp only [inR, IntKind.bits]; omega) | (simp [inR, IntKind.bits]; done) | (simp [inR, IntKind.bits] at * <;> omega) | (simp_all; done) | (with_reducible assumption) | skip)
    have hrow : rowB c n x (leaf t0 x) = false → rightT t0 n c = false := fun hh => hF x hk' (okRow_no h1' hh)
    have hrow2 : rowB c n x (leaf t0 x) = true → rightN t0 n c (x + 1) = true := fun hh => by simp [rightN, hr, okRow, hh]
    refine G_loop (fun k : Nat => [(1, int .i64 n), (2, int .i64 c), (3, .c (.ptr 0 b 0)), (7, int .i64 x), (8, bool (someN (leaf t0 x) k)), (9, int .i64 k)]) (fun k => [.blk b 26 [.pv (.lst .tbl t0)]]) (fun k => k ≤ 8 ∧ rowN c n x (leaf t0 x) k = true) (fun k => 8 - k) rfl [0] 0 ⟨Nat.zero_le _, rfl⟩ ?wk2 (fun k hx2 => ?_)
    case wk2 => (repeat' apply And.intro) <;> (first | exact rfl | exact trivial | omega | refine sigEq ?_ | skip)
    obtain ⟨hx2, hr2⟩ := hx2
    have hx4 : x ≤ 1000000000 := by omega
    refine G_run tOk eok_trright 60 (fun _ => none) (fun bs => rfl) (fun bs => ?_) (fun bs => ?_)
    · (repeat' apply And.intro) <;> (intros; first | exact trivial | exact rfl | omega | exact u8_lo _ | exact u8_hi _ | exact u8_in64 _ | exact u8_in63 _ | (simp only [inR, IntKind.bits]; omega) | (simp [inR, IntKind.bits]; done) | (simp [inR, IntKind.bits] at * <;> omega) | (simp_all; done) | (with_reducible assumption) | skip)
    refine G_if rfl rfl (fun hk2 => ?_) (fun hk2 => ?_)
    · have hk2' : k < 8 := by omega
      obtain ⟨e, he⟩ : ∃ e, (leaf t0 x).getD k entZ = e := ⟨_, rfl⟩
      have he1 : List.getD (t0.getD (Int.toNat (x : Int)) LK.tbl.dft) (Int.toNat (k : Int)) LK.ent.dft = e := he
      have hno : entOk c n (x * 8 + k) e = false → rightT t0 n c = false := fun hh => hrow (by
        have : rowN c n x (leaf t0 x) 8 = false := rowN_false (i := k + 1) (by simp only [rowN, he, hh, Bool.and_false]) hk2'
        simp [rowB, this])
      have hyes : entOk c n (x * 8 + k) e = true → rowN c n x (leaf t0 x) (k + 1) = true := fun hh => by simp only [rowN, he, hr2, hh, Bool.and_self]
      have hsm : someN (leaf t0 x) (k + 1) = (someN (leaf t0 x) k || !noneX e) := by simp only [someN, he]
      have hlx8 : (t0.getD (Int.toNat (x : Int)) LK.tbl.dft).length = 8 := h8
      cases hm : mayX c e with
      | false =>
        refine G_run tOk eok_trright 60 (fun j => match j with | 4 => some true | 8 => some true | _ => none) (fun bs => rfl) (fun bs => ?_) (fun bs => ?_)
        · simp only [he1, mayX_def, hm, hlx8]
          (repeat' apply And.intro) <;> (intros; first | exact trivial | exact rfl | omega | exact u8_lo _ | exact u8_hi _ | exact u8_in64 _ | exact u8_in63 _ | (simp only [inR, IntKind.bits]; omega) | (simp [inR, IntKind.bits]; done) | (simp [inR, IntKind.bits] at * <;> omega) | (simp_all; done) | (with_reducible assumption) | skip)
        refine G_thn rfl rfl ?c1 ?_
        case c1 => simp [he1, mayX_def, hm]
        refine G_run tOk eok_trright 60 (fun _ => none) (fun bs => rfl) (fun bs => ?_) (fun bs => ?_)
        · (repeat' apply And.intro) <;> (intros; first | exact trivial | exact rfl | omega | exact u8_lo _ | exact u8_hi _ | exact u8_in64 _ | exact u8_in63 _ | (simp only [inR, IntKind.bits]; omega) | (simp [inR, IntKind.bits]; done) | (simp [inR, IntKind.bits] at * <;> omega) | (simp_all; done) | (with_reducible assumption) | skip)
        refine G_ret tOk hM0 rfl rfl ⟨trivial, trivial⟩ ?_
        conv => whnf
        exact (hno (by simp [entOk, hm])).symm
      | true =>
        have hme := may_none hm
        refine G_run tOk eok_trright 60 (fun j => match j with | 4 => some false | _ => none) (fun bs => rfl) (fun bs => ?_) (fun bs => ?_)
        · simp only [he1, mayX_def, noneX_def, hm, hlx8]
          (repeat' apply And.intro) <;> (intros; first | exact trivial | exact rfl | omega | exact u8_lo _ | exact u8_hi _ | exact u8_in64 _ | exact u8_in63 _ | (simp only [inR, IntKind.bits]; omega) | (simp [inR, IntKind.bits]; done) | (simp [inR, IntKind.bits] at * <;> omega) | (simp_all; done) | (with_reducible assumption) | skip)
        refine G_cond rfl rfl (fun h3 => ?_) (fun h3 => ?_)
        · simp only [he1, mayX_def, noneX_def, hm, Bool.not_true, Bool.false_or, Bool.and_eq_true, decide_eq_true_eq, Bool.not_eq_true', decide_eq_false_iff_not] at h3
          refine G_run tOk eok_trright 60 (fun _ => none) (fun bs => rfl) (fun bs => ?_) (fun bs => ?_)
          · (repeat' apply And.intro) <;> (intros; first | exact trivial | exact rfl | omega | exact u8_lo _ | exact u8_hi _ | exact u8_in64 _ | exact u8_in63 _ | (simp only [inR, IntKind.bits]; omega) | (simp [inR, IntKind.bits]; done) | (simp [inR, IntKind.bits] at * <;> omega) | (simp_all; done) | (with_reducible assumption) | skip)
          refine G_ret tOk hM0 rfl rfl ⟨trivial, trivial⟩ ?_
          conv => whnf
          refine (hno ?_).symm
          have h4 : ¬ ((x : Int) * 8 + k < n) := by omega
          have h5 : noneX e = false := by rw [hme]; simpa using h3.1
          simp [entOk, h4, h5]
        · simp only [he1, mayX_def, noneX_def, hm, Bool.not_true, Bool.false_or] at h3
          have h4 : entOk c n (x * 8 + k) e = true := by
            rw [Bool.eq_false_iff] at h3
            simp only [ne_eq, Bool.and_eq_true, decide_eq_true_eq, Bool.not_eq_true', decide_eq_false_iff_not] at h3
            simp only [entOk, hm, Bool.true_and, Bool.or_eq_true, decide_eq_true_eq, hme]
            by_cases h5 : e.kind = 0
            · exact .inl h5
            · exact .inr (by have : ¬ n ≤ (x : Int) * 8 + k := fun hh => h3 ⟨h5, hh⟩
                             omega)
          refine G_run tOk eok_trright 60 (fun _ => none) (fun bs => rfl) (fun bs => ?_) (fun bs => ?_)
          · simp only [he1]
            (repeat' apply And.intro) <;> (intros; first | exact trivial | exact rfl | omega | exact u8_lo _ | exact u8_hi _ | exact u8_in64 _ | exact u8_in63 _ | (simp only [inR, IntKind.bits]; omega) | (simp [inR, IntKind.bits]; done) | (simp [inR, IntKind.bits] at * <;> omega) | (simp_all; done) | (with_reducible assumption) | skip)
          refine G_lp [0] (k + 1) ?ok2 ?wk3
          case ok2 => exact ⟨⟨hk2', hyes h4⟩, by omega⟩
          case wk3 =>
            (repeat' apply And.intro) <;> (first | exact rfl | exact trivial | omega | refine sigEq ?_ | skip)
            all_goals (show (someN (leaf t0 x) k || !decide ((List.getD (t0.getD (Int.toNat (x : Int)) LK.tbl.dft) (Int.toNat (k : Int)) LK.ent.dft).kind = 0)) = someN (leaf t0 x) (k + 1); rw [he1, hsm, hme])
    · have hk2' : k = 8 := by omega
      subst hk2'
      refine G_run tOk eok_trright 60 (fun _ => none) (fun bs => rfl) (fun bs => ?_) (fun bs => ?_)
      · (repeat' apply And.intro) <;> (intros; first | exact trivial | exact rfl | omega | exact u8_lo _ | exact u8_hi _ | exact u8_in64 _ | exact u8_in63 _ | (simp only [inR, IntKind.bits]; omega) | (simp [inR, IntKind.bits]; done) | (simp [inR, IntKind.bits] at * <;> omega) | (simp_all; done) | (with_reducible assumption) | skip)
      refine G_cond (b := !someN (leaf t0 x) 8) rfl rfl (fun h3 => ?_) (fun h3 => ?_)
      · refine G_run tOk eok_trright 60 (fun _ => none) (fun bs => rfl) (fun bs => ?_) (fun bs => ?_)
        · (repeat' apply And.intro) <;> (intros; first | exact trivial | exact rfl | omega | exact u8_lo _ | exact u8_hi _ | exact u8_in64 _ | exact u8_in63 _ | (simp only [inR, IntKind.bits]; omega) | (simp [inR, IntKind.bits]; done) | (simp [inR, IntKind.bits] at * <;> omega) | (simp_all; done) | (with_reducible assumption) | skip)
        refine G_ret tOk hM0 rfl rfl ⟨trivial, trivial⟩ ?_
        conv => whnf
        refine (hrow ?_).symm
        have h4 : someN (leaf t0 x) 8 = false := by simpa using h3
        simp [rowB, h4]
      · refine G_run tOk eok_trright 60 (fun _ => none) (fun bs => rfl) (fun bs => ?_) (fun bs => ?_)
        · (repeat' apply And.intro) <;> (intros; first | exact trivial | exact rfl | omega | exact u8_lo _ | exact u8_hi _ | exact u8_in64 _ | exact u8_in63 _ | (simp only [inR, IntKind.bits]; omega) | (simp [inR, IntKind.bits]; done) | (simp [inR, IntKind.bits] at * <;> omega) | (simp_all; done) | (with_reducible assumption) | skip)
        refine G_lp [0] (x + 1) ?ok4 ?wk5
        case ok4 =>
          refine ⟨⟨hk', hrow2 ?_⟩, by omega⟩
          have h4 : someN (leaf t0 x) 8 = true := by simpa using h3
          simp [rowB, h4, hr2, h8]
        case wk5 => (repeat' apply And.intro) <;> (first | exact rfl | exact trivial | omega | refine sigEq ?_ | skip)
  · have hk' : x = t0.length := by omega
    subst hk'
    refine G_run tOk eok_trright 60 (fun _ => none) (fun bs => rfl) (fun bs => ?_) (fun bs => ?_)
    · (repeat' apply And.intro) <;> (intros; first | exact trivial | exact rfl | omega | exact u8_lo _ | exact u8_hi _ | exact u8_in64 _ | exact u8_in63 _ | (simp only [inR, IntKind.bits]; omega) | (simp [inR, IntKind.bits]; done) | (simp [inR, IntKind.bits] at * <;> omega) | (simp_all; done) | (with_reducible assumption) | skip)
    refine G_ret tOk hM0 rfl rfl ⟨trivial, trivial⟩ ?_
    conv => whnf
    rw [hR, hr]
def trright_s : FSpec
  | [.g [.pv (.lst .tbl t0)], .c (.pv (.val (.int .i64 n))), .c (.pv (.val (.int .i64 c)))] => some ((t0.length ≤ 1000000000) ∧ (∀ i, (leaf t0 i).length ≤ 1000000000), false, .x (.c (bv (rightT t0 n c))))
  | _ => none
theorem trright_s_ok : SpecOk Try.prog 19 trright_s := by
  intro args pre sh rv h hp; unfold trright_s at h; split at h
  · cases h; obtain ⟨hl, hf⟩ := hp; exact trright_fn _ _ _ hl hf
  · cases h
def psi_trright : FuncId → Option FSpec := psiCons 19 trright_s psi_great
theorem psi_trright_ok : PsiFn Try.prog psi_trright := psiCons_ok trright_s_ok psi_great_ok
theorem en_eq (x y : Entry) : (decide (x.kind = y.kind) && (decide (x.start = y.start) && (decide (x.count = y.count) && (decide (x.size = y.size) && (decide (x.sum = y.sum) && true))))) = decide (x = y) := by
  cases x; cases y; simp
def env_tables : Env := ⟨T, psi_trright, pspNil, pscNil, 61, [], none, true⟩
theorem eok_tables : PsiOk Try.prog env_tables := ⟨psi_trright_ok, pspNil_ok, pscNil_ok⟩
theorem tables_fn (a0 : List (List Entry)) (b0 : List (List Entry)) (hl : a0.length ≤ 1000000000) (hm : b0.length ≤ 1000000000) (hf : ∀ i, (leaf a0 i).length ≤ 1000000000) (hg : ∀ i, (leaf b0 i).length ≤ 1000000000) : Ctr Try.prog 17 false [.g [.pv (.lst .tbl a0)], .g [.pv (.lst .tbl b0)]] (.x (.c (bv (decide (a0 = b0))))) := by
  refine Ctr_intro (E := env_tables) Try.func17 rfl (by decide) rfl rfl (fun M0 W hM0 => ?_)
  refine G_run tOk eok_tables 60 (fun _ => none) (fun bs => rfl) (fun bs => ?_) (fun bs => ?_)
  · (repeat' apply And.intro) <;> (intros; first | exact trivial | exact rfl | omega | exact u8_lo _ | exact u8_hi _ | exact u8_in64 _ | exact u8_in63 _ | (simp only [inR, IntKind.bits]; omega) | (simp [inR, IntKind.bits]; done) | (simp [inR, IntKind.bits] at * <;> omega) | (simp_all; done) | (with_reducible assumption) | skip)
  refine G_cond rfl rfl (fun h => ?_) (fun h => ?_)
  · refine G_run tOk eok_tables 60 (fun _ => none) (fun bs => rfl) (fun bs => ?_) (fun bs => ?_)
    · (repeat' apply And.intro) <;> (intros; first | exact trivial | exact rfl | omega | exact u8_lo _ | exact u8_hi _ | exact u8_in64 _ | exact u8_in63 _ | (simp only [inR, IntKind.bits]; omega) | (simp [inR, IntKind.bits]; done) | (simp [inR, IntKind.bits] at * <;> omega) | (simp_all; done) | (with_reducible assumption) | skip)
    have hb : decide (a0 = b0) = false := by simp; intro e; subst e; simp at h
    exact G_ret tOk hM0 rfl rfl ⟨trivial, trivial⟩ hb.symm
  have hlm : a0.length = b0.length := by simp at h; omega
  refine G_run tOk eok_tables 60 (fun _ => none) (fun bs => rfl) (fun bs => ?_) (fun bs => ?_)
  · (repeat' apply And.intro) <;> (intros; first | exact trivial | exact rfl | omega | exact u8_lo _ | exact u8_hi _ | exact u8_in64 _ | exact u8_in63 _ | (simp only [inR, IntKind.bits]; omega) | (simp [inR, IntKind.bits]; done) | (simp [inR, IntKind.bits] at * <;> omega) | (simp_all; done) | (with_reducible assumption) | skip)
  refine G_wkB2 (ns := [0, 1]) (fs := fun b c => [(2, .c (.ptr 0 b 0)), (3, .c (.ptr 1 c 0)), (5, int .i64 0)]) (hs := fun b c => [.blk b 26 [.pv (.lst .tbl a0)], .blk c 26 [.pv (.lst .tbl b0)]]) ?b1 ?c1 rfl ?wk0 (fun b c => ?_)
  case wk0 => (repeat' apply And.intro) <;> (first | exact rfl | exact trivial | omega | refine sigEq ?_ | skip)
  refine G_loop (fun x : Nat => [(2, .c (.ptr 0 b 0)), (3, .c (.ptr 1 c 0)), (5, int .i64 x)]) (fun x => [.blk b 26 [.pv (.lst .tbl a0)], .blk c 26 [.pv (.lst .tbl b0)]]) (fun x => x ≤ a0.length ∧ a0.take x = b0.take x) (fun x => a0.length - x) rfl [0, 1] 0 ⟨Nat.zero_le _, rfl⟩ ?wk (fun x hx => ?_)
  case wk => (repeat' apply And.intro) <;> (first | exact rfl | exact trivial | omega | refine sigEq ?_ | skip)
  obtain ⟨hx, hr⟩ := hx
  refine G_run tOk eok_tables 60 (fun _ => none) (fun bs => rfl) (fun bs => ?_) (fun bs => ?_)
  · (repeat' apply And.intro) <;> (intros; first | exact trivial | exact rfl | omega | exact u8_lo _ | exact u8_hi _ | exact u8_in64 _ | exact u8_in63 _ | (simp only [inR, IntKind.bits]; omega) | (simp [inR, IntKind.bits]; done) | (simp [inR, IntKind.bits] at * <;> omega) | (simp_all; done) | (with_reducible assumption) | skip)
  refine G_if rfl rfl (fun hk => ?_) (fun hk => ?_)
  · have hk' : x < a0.length := by omega
    have ht := take_eq ([] : List Entry) hr hk' (by omega)
    have hfx := hf x
    have hgx := hg x
    have hno : leaf a0 x ≠ leaf b0 x → decide (a0 = b0) = false := fun hh => by
      simp only [decide_eq_false_iff_not]; rintro rfl; exact hh rfl
    refine G_run tOk eok_tables 60 (fun _ => none) (fun bs => rfl) (fun bs => ?_) (fun bs => ?_)
    · (repeat' apply And.intro) <;> (intros; first | exact trivial | exact rfl | omega | exact u8_lo _ | exact u8_hi _ | exact u8_in64 _ | exact u8_in63 _ | (simp only [inR, IntKind.bits]; omega) | (simp [inR, IntKind.bits]; done) | (simp [inR, IntKind.bits] at * <;> omega) | (simp_all; done) | (with_reducible assumption) | skip)
    refine G_nx 2 rfl ?_
    refine G_draw tOk eok_tables rfl (fun _ => none) 12 [0, 1, 0, 7, 15, 31, 0, 64, 0, 448, 960, 1984, 4095] [] rfl (by decide +kernel) (fun bs => rfl) (fun bs => ?_) (fun bs => ?_)
    · (repeat' apply And.intro) <;> (intros; first | exact trivial | exact rfl | omega | exact u8_lo _ | exact u8_hi _ | exact u8_in64 _ | exact u8_in63 _ | (simp only [inR, IntKind.bits]; omega) | (simp [inR, IntKind.bits]; done) | (simp [inR, IntKind.bits] at * <;> omega) | (simp_all; done) | (with_reducible assumption) | skip)
    refine G_run tOk eok_tables 60 (fun _ => none) (fun bs => rfl) (fun bs => by (repeat' apply And.intro) <;> (intros; first | exact trivial | exact rfl | omega | exact u8_lo _ | exact u8_hi _ | exact u8_in64 _ | exact u8_in63 _ | (simp only [inR, IntKind.bits]; omega) | (simp [inR, IntKind.bits]; done) | (simp [inR, IntKind.bits] at * <;> omega) | (simp_all; done) | (with_reducible assumption) | skip)) (fun bs => ?_)
    refine G_cond (b := !decide (((leaf a0 x).length : Int) = (leaf b0 x).length)) rfl rfl (fun h2 => ?_) (fun h2 => ?_)
    · refine G_run tOk eok_tables 60 (fun _ => none) (fun bs => rfl) (fun bs => ?_) (fun bs => ?_)
      · (repeat' apply And.intro) <;> (intros; first | exact trivial | exact rfl | omega | exact u8_lo _ | exact u8_hi _ | exact u8_in64 _ | exact u8_in63 _ | (simp only [inR, IntKind.bits]; omega) | (simp [inR, IntKind.bits]; done) | (simp [inR, IntKind.bits] at * <;> omega) | (simp_all; done) | (with_reducible assumption) | skip)
      refine G_ret tOk hM0 rfl rfl ⟨trivial, trivial⟩ (hno (fun e => ?_)).symm
      rw [e] at h2; simp at h2
    have hl2 : (leaf a0 x).length = (leaf b0 x).length := by simp at h2; omega
    refine G_run tOk eok_tables 60 (fun _ => none) (fun bs => rfl) (fun bs => ?_) (fun bs => ?_)
    · (repeat' apply And.intro) <;> (intros; first | exact trivial | exact rfl | omega | exact u8_lo _ | exact u8_hi _ | exact u8_in64 _ | exact u8_in63 _ | (simp only [inR, IntKind.bits]; omega) | (simp [inR, IntKind.bits]; done) | (simp [inR, IntKind.bits] at * <;> omega) | (simp_all; done) | (with_reducible assumption) | skip)
    refine G_loop (fun k : Nat => [(2, .c (.ptr 0 b 0)), (3, .c (.ptr 1 c 0)), (5, int .i64 x), (6, int .i64 k)]) (fun k => [.blk b 26 [.pv (.lst .tbl a0)], .blk c 26 [.pv (.lst .tbl b0)]]) (fun k => k ≤ (leaf a0 x).length ∧ (leaf a0 x).take k = (leaf b0 x).take k) (fun k => (leaf a0 x).length - k) rfl [0, 1] 0 ⟨Nat.zero_le _, rfl⟩ ?wk2 (fun k hx2 => ?_)
    case wk2 => (repeat' apply And.intro) <;> (first | exact rfl | exact trivial | omega | refine sigEq ?_ | skip)
    obtain ⟨hx2, hr2⟩ := hx2
    refine G_run tOk eok_tables 60 (fun _ => none) (fun bs => rfl) (fun bs => ?_) (fun bs => ?_)
    · (repeat' apply And.intro) <;> (intros; first | exact trivial | exact rfl | omega | exact u8_lo _ | exact u8_hi _ | exact u8_in64 _ | exact u8_in63 _ | (simp only [inR, IntKind.bits]; omega) | (simp [inR, IntKind.bits]; done) | (simp [inR, IntKind.bits] at * <;> omega) | (simp_all; done) | (with_reducible assumption) | skip)
    refine G_if (p := (k : Int) < (leaf a0 x).length) rfl rfl (fun hk2 => ?_) (fun hk2 => ?_)
    · have hk2' : k < (leaf a0 x).length := by omega
      have ht2 := take_eq entZ hr2 hk2' (by omega)
      have e1 : (a0.getD (Int.toNat (x : Int)) LK.tbl.dft).length = (leaf a0 x).length := rfl
      have e2 : (b0.getD (Int.toNat (x : Int)) LK.tbl.dft).length = (leaf b0 x).length := rfl
      refine G_run tOk eok_tables 60 (fun _ => none) (fun bs => rfl) (fun bs => ?_) (fun bs => ?_)
      · (repeat' apply And.intro) <;> (intros; first | exact trivial | exact rfl | omega | exact u8_lo _ | exact u8_hi _ | exact u8_in64 _ | exact u8_in63 _ | (simp only [inR, IntKind.bits]; omega) | (simp [inR, IntKind.bits]; done) | (simp [inR, IntKind.bits] at * <;> omega) | (simp_all; done) | (with_reducible assumption) | skip)
      refine G_nx 2 rfl ?_
      refine G_draw tOk eok_tables rfl (fun _ => none) 16 [0, 1, 0, 7, 15, 0, 63, 127, 0, 256, 0, 1792, 3840, 0, 16128, 32512, 65535] [] rfl (by decide +kernel) (fun bs => rfl) (fun bs => ?_) (fun bs => ?_)
      · (repeat' apply And.intro) <;> (intros; first | exact trivial | exact rfl | omega | exact u8_lo _ | exact u8_hi _ | exact u8_in64 _ | exact u8_in63 _ | (simp only [inR, IntKind.bits]; omega) | (simp [inR, IntKind.bits]; done) | (simp [inR, IntKind.bits] at * <;> omega) | (simp_all; done) | (with_reducible assumption) | skip)
      refine G_run tOk eok_tables 60 (fun _ => none) (fun bs => rfl) (fun bs => by (repeat' apply And.intro) <;> (intros; first | exact trivial | exact rfl | omega | exact u8_lo _ | exact u8_hi _ | exact u8_in64 _ | exact u8_in63 _ | (simp only [inR, IntKind.bits]; omega) | (simp [inR, IntKind.bits]; done) | (simp [inR, IntKind.bits] at * <;> omega) | (simp_all; done) | (with_reducible assumption) | skip)) (fun bs => ?_)
      refine G_cond (b := !decide ((leaf a0 x).getD k entZ = (leaf b0 x).getD k entZ)) rfl (by rw [← en_eq]; rfl) (fun h3 => ?_) (fun h3 => ?_)
      · refine G_run tOk eok_tables 60 (fun _ => none) (fun bs => rfl) (fun bs => ?_) (fun bs => ?_)
        · (repeat' apply And.intro) <;> (intros; first | exact trivial | exact rfl | omega | exact u8_lo _ | exact u8_hi _ | exact u8_in64 _ | exact u8_in63 _ | (simp only [inR, IntKind.bits]; omega) | (simp [inR, IntKind.bits]; done) | (simp [inR, IntKind.bits] at * <;> omega) | (simp_all; done) | (with_reducible assumption) | skip)
        refine G_ret tOk hM0 rfl rfl ⟨trivial, trivial⟩ (hno (fun e => ?_)).symm
        rw [e] at h3; simp at h3
      · refine G_run tOk eok_tables 60 (fun _ => none) (fun bs => rfl) (fun bs => ?_) (fun bs => ?_)
        · (repeat' apply And.intro) <;> (intros; first | exact trivial | exact rfl | omega | exact u8_lo _ | exact u8_hi _ | exact u8_in64 _ | exact u8_in63 _ | (simp only [inR, IntKind.bits]; omega) | (simp [inR, IntKind.bits]; done) | (simp [inR, IntKind.bits] at * <;> omega) | (simp_all; done) | (with_reducible assumption) | skip)
        refine G_lp [0, 1] (k + 1) ?ok2 ?wk3
        case ok2 => exact ⟨⟨hk2', ht2.2 (by simpa using h3)⟩, by omega⟩
        case wk3 => (repeat' apply And.intro) <;> (first | exact rfl | exact trivial | omega | refine sigEq ?_ | skip)
    · have hk2' : k = (leaf a0 x).length := by omega
      subst hk2'
      refine G_run tOk eok_tables 60 (fun _ => none) (fun bs => rfl) (fun bs => ?_) (fun bs => ?_)
      · (repeat' apply And.intro) <;> (intros; first | exact trivial | exact rfl | omega | exact u8_lo _ | exact u8_hi _ | exact u8_in64 _ | exact u8_in63 _ | (simp only [inR, IntKind.bits]; omega) | (simp [inR, IntKind.bits]; done) | (simp [inR, IntKind.bits] at * <;> omega) | (simp_all; done) | (with_reducible assumption) | skip)
      refine G_lp [0, 1] (x + 1) ?ok1 ?wk1
      case ok1 =>
        refine ⟨⟨hk', ht.2 ?_⟩, by omega⟩
        rw [List.take_length, hl2, List.take_length] at hr2
        exact hr2
      case wk1 => (repeat' apply And.intro) <;> (first | exact rfl | exact trivial | omega | refine sigEq ?_ | skip)
  · have hk' : x = a0.length := by omega
    subst hk'
    refine G_run tOk eok_tables 60 (fun _ => none) (fun bs => rfl) (fun bs => ?_) (fun bs => ?_)
    · (repeat' apply And.intro) <;> (intros; first | exact trivial | exact rfl | omega | exact u8_lo _ | exact u8_hi _ | exact u8_in64 _ | exact u8_in63 _ | (simp only [inR, IntKind.bits]; omega) | (simp [inR, IntKind.bits]; done) | (simp [inR, IntKind.bits] at * <;> omega) | (simp_all; done) | (with_reducible assumption) | skip)
    have hb : decide (a0 = b0) = true := by
      simp only [decide_eq_true_eq]
      rw [List.take_length, hlm, List.take_length] at hr; exact hr
    exact G_ret tOk hM0 rfl rfl ⟨trivial, trivial⟩ hb.symm
def tables_s : FSpec
  | [.g [.pv (.lst .tbl a0)], .g [.pv (.lst .tbl b0)]] => some ((a0.length ≤ 1000000000) ∧ (b0.length ≤ 1000000000) ∧ (∀ i, (leaf a0 i).length ≤ 1000000000) ∧ (∀ i, (leaf b0 i).length ≤ 1000000000), false, .x (.c (bv (decide (a0 = b0)))))
  | _ => none
theorem tables_s_ok : SpecOk Try.prog 17 tables_s := by
  intro args pre sh rv h hp; unfold tables_s at h; split at h
  · cases h; obtain ⟨hl, hm, hf, hg⟩ := hp; exact tables_fn _ _ hl hm hf hg
  · cases h
def psi_tables : FuncId → Option FSpec := psiCons 17 tables_s psi_trright
theorem psi_tables_ok : PsiFn Try.prog psi_tables := psiCons_ok tables_s_ok psi_trright_ok
def env_clone : Env := ⟨T, psi_tables, pspNil, pscNil, 8, [], none, true⟩
theorem eok_clone : PsiOk Try.prog env_clone := ⟨psi_tables_ok, pspNil_ok, pscNil_ok⟩
theorem clone_fn (l : List Entry) (hl : l.length ≤ 1000000000) : Ctr Try.prog 69 true [lst .ent l] (.x (.c (.lst .ent l))) := by
  refine Ctr_intro (E := env_clone) Try.func69 rfl (by decide) rfl rfl (fun M0 W hM0 => ?_)
  refine G_run tOk eok_clone 60 (fun _ => none) (fun bs => rfl) (fun bs => ?_) (fun bs => ?_)
  · (repeat' apply And.intro) <;> (intros; first | exact trivial | exact rfl | omega | exact u8_lo _ | exact u8_hi _ | exact u8_in64 _ | exact u8_in63 _ | (simp only [inR, IntKind.bits]; omega) | (simp [inR, IntKind.bits]; done) | (simp [inR, IntKind.bits] at * <;> omega) | (simp_all; done) | (with_reducible assumption) | skip)
  refine G_cond rfl rfl (fun h => ?_) (fun h => ?_)
  · have := nilB_nil h
    subst this
    refine G_run tOk eok_clone 60 (fun _ => none) (fun bs => rfl) (fun bs => ?_) (fun bs => ?_)
    · (repeat' apply And.intro) <;> (intros; first | exact trivial | exact rfl | omega | exact u8_lo _ | exact u8_hi _ | exact u8_in64 _ | exact u8_in63 _ | (simp only [inR, IntKind.bits]; omega) | (simp [inR, IntKind.bits]; done) | (simp [inR, IntKind.bits] at * <;> omega) | (simp_all; done) | (with_reducible assumption) | skip)
    refine G_ret tOk hM0 rfl rfl ⟨trivial, trivial⟩ ?_
    exact ⟨rfl, rfl⟩
  · refine G_run tOk eok_clone 60 (fun _ => none) (fun bs => rfl) (fun bs => ?_) (fun bs => ?_)
    · (repeat' apply And.intro) <;> (intros; first | exact trivial | exact rfl | omega | exact u8_lo _ | exact u8_hi _ | exact u8_in64 _ | exact u8_in63 _ | (simp only [inR, IntKind.bits]; omega) | (simp [inR, IntKind.bits]; done) | (simp [inR, IntKind.bits] at * <;> omega) | (simp_all; done) | (with_reducible assumption) | skip)
    refine G_freeze 1 [2] rfl ⟨rfl, trivial⟩ ?_
    exact G_ret tOk hM0 rfl rfl ⟨trivial, trivial⟩ rfl
def clone_s : FSpec
  | [.c (.pv (.lst .ent l))] => some ((l.length ≤ 1000000000), true, .x (.c (.lst .ent l)))
  | _ => none
theorem clone_s_ok : SpecOk Try.prog 69 clone_s := by
  intro args pre sh rv h hp; unfold clone_s at h; split at h
  · cases h; have hl := hp; exact clone_fn _ hl
  · cases h
def psi_clone : FuncId → Option FSpec := psiCons 69 clone_s psi_tables
theorem psi_clone_ok : PsiFn Try.prog psi_clone := psiCons_ok clone_s_ok psi_tables_ok
def env_copied : Env := ⟨T, psi_clone, pspNil, pscNil, 22, [], none, true⟩
theorem eok_copied : PsiOk Try.prog env_copied := ⟨psi_clone_ok, pspNil_ok, pscNil_ok⟩
theorem copied_fn (t0 : List (List Entry)) (hl : t0.length ≤ 1000000000) (hf : ∀ i, (leaf t0 i).length ≤ 1000000000) : Ctr Try.prog 62 true [.g [.pv (.lst .tbl t0)]] (.x (.g [.lst .tbl t0])) := by
  refine Ctr_intro (E := env_copied) Try.func62 rfl (by decide) rfl rfl (fun M0 W hM0 => ?_)
  refine G_run tOk eok_copied 60 (fun _ => none) (fun bs => rfl) (fun bs => ?_) (fun bs => ?_)
  · (repeat' apply And.intro) <;> (intros; first | exact trivial | exact rfl | omega | exact u8_lo _ | exact u8_hi _ | exact u8_in64 _ | exact u8_in63 _ | (simp only [inR, IntKind.bits]; omega) | (simp [inR, IntKind.bits]; done) | (simp [inR, IntKind.bits] at * <;> omega) | (simp_all; done) | (with_reducible assumption) | skip)
  refine G_ownB 2 0 59 rfl rfl ?_
  refine G_wkB3 (ns := [0, 1, 2, 3]) (fs := fun b c d => [(2, .c (.ptr 1 c 0)), (3, .c (.ptr 2 d 0)), (7, lst .tbl t0), (8, int .i64 t0.length), (9, int .i64 0)]) (hs := fun b c d => [.blk b 26 [.pv (.lst .tbl t0)], .blk c 26 [.pv (.nil .tbl)], .blk d 26 [.own 3 (.slice none 0 0)], .own (.slice none 0 0) 59 .tbl []]) ?b1 ?c1 ?d1 rfl ?wk0 (fun b c d => ?_)
  case wk0 => (repeat' apply And.intro) <;> (first | exact rfl | exact trivial | omega | refine sigEq ?_ | skip)
  refine G_loop (fun x : Nat × Value => [(2, .c (.ptr 1 c 0)), (3, .c (.ptr 2 d 0)), (7, lst .tbl t0), (8, int .i64 t0.length), (9, int .i64 x.1)]) (fun x => [.blk b 26 [.pv (.lst .tbl t0)], .blk c 26 [.pv (.nil .tbl)], .blk d 26 [.own 3 x.2], .own x.2 59 .tbl (t0.take x.1)]) (fun x => x.1 ≤ t0.length) (fun x => t0.length - x.1) rfl [0, 1, 2, 3] (0, .slice none 0 0) (Nat.zero_le _) ?wk (fun x hx => ?_)
  case wk => (repeat' apply And.intro) <;> (first | exact rfl | exact trivial | omega | refine sigEq ?_ | skip)
  obtain ⟨i, v⟩ := x
  dsimp only at hx ⊢
  refine G_run tOk eok_copied 60 (fun _ => none) (fun bs => rfl) (fun bs => ?_) (fun bs => ?_)
  · (repeat' apply And.intro) <;> (intros; first | exact trivial | exact rfl | omega | exact u8_lo _ | exact u8_hi _ | exact u8_in64 _ | exact u8_in63 _ | (simp only [inR, IntKind.bits]; omega) | (simp [inR, IntKind.bits]; done) | (simp [inR, IntKind.bits] at * <;> omega) | (simp_all; done) | (with_reducible assumption) | skip)
  refine G_if rfl rfl (fun hk => ?_) (fun hk => ?_)
  · have hk' : i < t0.length := by omega
    have hfx := hf i
    have hlx : t0.getD (Int.toNat (i : Int)) LK.tbl.dft = leaf t0 i := rfl
    refine G_run tOk eok_copied 60 (fun _ => none) (fun bs => rfl) (fun bs => ?_) (fun bs => ?_)
    · (repeat' apply And.intro) <;> (intros; first | exact trivial | exact rfl | omega | exact u8_lo _ | exact u8_hi _ | exact u8_in64 _ | exact u8_in63 _ | (simp only [inR, IntKind.bits]; omega) | (simp [inR, IntKind.bits]; done) | (simp [inR, IntKind.bits] at * <;> omega) | (simp_all; done) | (with_reducible assumption) | skip)
    refine G_nx 4 rfl ?_
    refine G_draw tOk eok_copied rfl (fun _ => none) 5 [0, 1, 0, 4, 12, 31, 63, 127] [] rfl (by decide +kernel) (fun bs => rfl) (fun bs => ?_) (fun bs => ?_)
    · simp only [hlx]
      (repeat' apply And.intro) <;> (intros; first | exact trivial | exact rfl | omega | exact u8_lo _ | exact u8_hi _ | exact u8_in64 _ | exact u8_in63 _ | (simp only [inR, IntKind.bits]; omega) | (simp [inR, IntKind.bits]; done) | (simp [inR, IntKind.bits] at * <;> omega) | (simp_all; done) | (with_reducible assumption) | skip)
    refine G_run tOk eok_copied 60 (fun _ => none) (fun bs => rfl) (fun bs => ?_) (fun bs => ?_)
    · simp only [hlx]
      (repeat' apply And.intro) <;> (intros; first | exact trivial | exact rfl | omega | exact u8_lo _ | exact u8_hi _ | exact u8_in64 _ | exact u8_in63 _ | (simp only [inR, IntKind.bits]; omega) | (simp [inR, IntKind.bits]; done) | (simp [inR, IntKind.bits] at * <;> omega) | (simp_all; done) | (with_reducible assumption) | skip)
    refine G_lp [0, 1, 2, 9] (i + 1, ?v1) ?ok1 ?wk1
    case ok1 => exact ⟨hk', by simp only; omega⟩
    case wk1 =>
      (repeat' apply And.intro) <;> (first | exact rfl | exact trivial | omega | refine sigEq ?_ | skip)
      all_goals (rw [List.take_add_one]; simp [List.getElem?_eq_getElem hk', hlx, leaf, List.getD])
  · have hk' : i = t0.length := by omega
    subst hk'
    refine G_freezeC 2 0 3 rfl rfl rfl ?_
    refine G_run tOk eok_copied 60 (fun _ => none) (fun bs => rfl) (fun bs => ?_) (fun bs => ?_)
    · (repeat' apply And.intro) <;> (intros; first | exact trivial | exact rfl | omega | exact u8_lo _ | exact u8_hi _ | exact u8_in64 _ | exact u8_in63 _ | (simp only [inR, IntKind.bits]; omega) | (simp [inR, IntKind.bits]; done) | (simp [inR, IntKind.bits] at * <;> omega) | (simp_all; done) | (with_reducible assumption) | skip)
    refine G_ret tOk hM0 rfl rfl ⟨rfl, trivial⟩ ?_
    exact ⟨congrArg (PV.lst .tbl) List.take_length, trivial⟩
def copied_s : FSpec
  | [.g [.pv (.lst .tbl t0)]] => some ((t0.length ≤ 1000000000) ∧ (∀ i, (leaf t0 i).length ≤ 1000000000), true, .x (.g [.lst .tbl t0]))
  | _ => none
theorem copied_s_ok : SpecOk Try.prog 62 copied_s := by
  intro args pre sh rv h hp; unfold copied_s at h; split at h
  · cases h; obtain ⟨hl, hf⟩ := hp; exact copied_fn _ hl hf
  · cases h
def psi_copied : FuncId → Option FSpec := psiCons 62 copied_s psi_clone
theorem psi_copied_ok : PsiFn Try.prog psi_copied := psiCons_ok copied_s_ok psi_clone_ok
end Tt
end Go.Proofs.Ytgobmfkffhomaaa
