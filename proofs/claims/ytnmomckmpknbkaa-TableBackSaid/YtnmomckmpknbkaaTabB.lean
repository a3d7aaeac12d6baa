import Derived.Test.YtnmomckmpknbkaaTabA
set_option linter.unusedSimpArgs false
set_option linter.unusedVariables false
namespace Go.Proofs.Ytnmomckmpknbkaa
open Go.Mt

def mayX (c : Int) (e : Entry) : Bool := mayE e.kind e.start e.count e.size e.sum c
def noneX (e : Entry) : Bool := noneE e.kind e.start e.count e.size e.sum
def entZ : Entry := ⟨0, 0, 0, 0, 0⟩
/-- An entry that may be where it is. -/
def entOk (c n p : Int) (e : Entry) : Bool := mayX c e && (noneX e || decide (p < n))
def rowN (c n : Int) (i : Nat) (l : List Entry) : Nat → Bool
  | 0 => true
  | k + 1 => rowN c n i l k && entOk c n (i * 8 + k) (l.getD k entZ)
def someN (l : List Entry) : Nat → Bool
  | 0 => false
  | k + 1 => someN l k || !noneX (l.getD k entZ)
def rowB (c n : Int) (i : Nat) (l : List Entry) : Bool := decide (l.length = 8) && (rowN c n i l 8 && someN l 8)
def okRow (t : List (List Entry)) (n c : Int) (i : Nat) : Bool := (decide ((leaf t i).length = 0) && decide (i + 1 < t.length)) || rowB c n i (leaf t i)
def rightN (t : List (List Entry)) (n c : Int) : Nat → Bool
  | 0 => true
  | k + 1 => rightN t n c k && okRow t n c k
def rightT (t : List (List Entry)) (n c : Int) : Bool := !(decide (n < 0) || decide (4096 < n) || decide (c < 0) || decide (6 < c)) && rightN t n c t.length
theorem rightN_false {t : List (List Entry)} {n c : Int} {i j : Nat} (h : rightN t n c i = false) (hij : i ≤ j) : rightN t n c j = false := by
  induction j with
  | zero => have : i = 0 := by omega
            subst this; exact h
  | succ j ih =>
    by_cases hi : i = j + 1
    · subst hi; exact h
    · simp [rightN, ih (by omega)]
theorem rowN_false {c n : Int} {l : List Entry} {q i j : Nat} (h : rowN c n q l i = false) (hij : i ≤ j) : rowN c n q l j = false := by
  induction j with
  | zero => have : i = 0 := by omega
            subst this; exact h
  | succ j ih =>
    by_cases hi : i = j + 1
    · subst hi; exact h
    · simp [rowN, ih (by omega)]
theorem right_at {t : List (List Entry)} {n c : Int} {i : Nat} (h : okRow t n c i = false) (hi : i < t.length) : rightT t n c = false := by
  have : rightN t n c t.length = false := rightN_false (i := i + 1) (by simp [rightN, h]) hi
  simp [rightT, this]

theorem okRow_no {t : List (List Entry)} {n c : Int} {x : Nat} (h1 : ¬ ((leaf t x).length = 0 ∧ x + 1 < t.length)) (h2 : rowB c n x (leaf t x) = false) : okRow t n c x = false := by
  have : (decide ((leaf t x).length = 0) && decide (x + 1 < t.length)) = false := by
    rw [Bool.eq_false_iff]; simp only [ne_eq, Bool.and_eq_true, decide_eq_true_eq]; exact h1
  simp only [okRow, this, h2]; rfl
theorem noneX_def (e : Entry) : noneE e.kind e.start e.count e.size e.sum = noneX e := rfl
theorem mayX_def (c : Int) (e : Entry) : mayE e.kind e.start e.count e.size e.sum c = mayX c e := rfl

def env_right : Env := ⟨T, psi_none, pspNil, 82, [], none, true⟩
theorem eok_right : PsiOk Try.prog env_right := ⟨psi_none_ok, pspNil_ok⟩
theorem right_fn (t0 : List (List Entry)) (n : Int) (c : Int) (hl : t0.length ≤ 1000000000) (hf : ∀ i, (leaf t0 i).length ≤ 1000000000) : Ctr Try.prog 14 false [.g [.pv (.lst .tbl t0)], int .i64 n, int .i64 c] (.x (.c (bv (rightT t0 n c)))) := by
  refine Ctr_intro (E := env_right) Try.func14 rfl (by decide) rfl rfl (fun M0 W hM0 => ?_)
  refine G_run tOk eok_right 60 (fun _ => none) (fun bs => rfl) (fun bs => ?_) (fun bs => ?_)
  · (repeat' apply And.intro) <;> (intros; first | exact trivial | exact rfl | omega | exact u8_lo _ | exact u8_hi _ | exact u8_in64 _ | exact u8_in63 _ | (simp only [inR, IntKind.bits]; omega) | (simp [inR, IntKind.bits]; done) | (simp [inR, IntKind.bits] at * <;> omega) | (simp_all; done) | skip)
  generalize (bs 0 0).bn = b
  refine G_cond (b := decide (n < 0) || decide (4096 < n) || decide (c < 0) || decide (6 < c)) rfl rfl (fun h => ?_) (fun h => ?_)
  · refine G_run tOk eok_right 60 (fun _ => none) (fun bs => rfl) (fun bs => ?_) (fun bs => ?_)
    · (repeat' apply And.intro) <;> (intros; first | exact trivial | exact rfl | omega | exact u8_lo _ | exact u8_hi _ | exact u8_in64 _ | exact u8_in63 _ | (simp only [inR, IntKind.bits]; omega) | (simp [inR, IntKind.bits]; done) | (simp [inR, IntKind.bits] at * <;> omega) | (simp_all; done) | skip)
    refine G_ret tOk hM0 rfl rfl ⟨trivial, trivial⟩ ?_
    conv => whnf
    simp only [rightT, h]; rfl
  have hb : 0 ≤ n ∧ n ≤ 4096 ∧ 0 ≤ c ∧ c ≤ 6 := by simp at h; omega
  have hR : rightT t0 n c = rightN t0 n c t0.length := by simp only [rightT, h]; rfl
  have hF : ∀ x, x < t0.length → okRow t0 n c x = false → rightT t0 n c = false := fun x hx ho => right_at ho hx
  refine G_run tOk eok_right 60 (fun _ => none) (fun bs => rfl) (fun bs => ?_) (fun bs => ?_)
  · (repeat' apply And.intro) <;> (intros; first | exact trivial | exact rfl | omega | exact u8_lo _ | exact u8_hi _ | exact u8_in64 _ | exact u8_in63 _ | (simp only [inR, IntKind.bits]; omega) | (simp [inR, IntKind.bits]; done) | (simp [inR, IntKind.bits] at * <;> omega) | (simp_all; done) | skip)
  refine G_loop (fun x : Nat => [(1, int .i64 n), (2, int .i64 c), (3, .c (.ptr 0 b 0)), (27, lst .tbl t0), (28, int .i64 t0.length), (29, int .i64 x)]) (fun x => [.blk b 24 [.pv (.lst .tbl t0)]]) (fun x => x ≤ t0.length ∧ rightN t0 n c x = true) (fun x => t0.length - x) rfl [0] 0 ⟨Nat.zero_le _, rfl⟩ ?wk (fun x hx => ?_)
  case wk => (repeat' apply And.intro) <;> (first | exact rfl | exact trivial | omega | refine sigEq ?_ | skip)
  obtain ⟨hx, hr⟩ := hx
  refine G_run tOk eok_right 60 (fun _ => none) (fun bs => rfl) (fun bs => ?_) (fun bs => ?_)
  · (repeat' apply And.intro) <;> (intros; first | exact trivial | exact rfl | omega | exact u8_lo _ | exact u8_hi _ | exact u8_in64 _ | exact u8_in63 _ | (simp only [inR, IntKind.bits]; omega) | (simp [inR, IntKind.bits]; done) | (simp [inR, IntKind.bits] at * <;> omega) | (simp_all; done) | skip)
  refine G_if rfl rfl (fun hk => ?_) (fun hk => ?_)
  · have hk' : x < t0.length := by omega
    have hlf := hf x
    have hlx : t0.getD (Int.toNat (x : Int)) LK.tbl.dft = leaf t0 x := rfl
    refine G_run tOk eok_right 60 (fun _ => none) (fun bs => rfl) (fun bs => ?_) (fun bs => ?_)
    · simp only [hlx]
      (repeat' apply And.intro) <;> (intros; first | exact trivial | exact rfl | omega | exact u8_lo _ | exact u8_hi _ | exact u8_in64 _ | exact u8_in63 _ | (simp only [inR, IntKind.bits]; omega) | (simp [inR, IntKind.bits]; done) | (simp [inR, IntKind.bits] at * <;> omega) | (simp_all; done) | skip)
    refine G_cond (b := decide (((leaf t0 x).length : Int) = 0) && decide ((x : Int) < t0.length - 1)) rfl rfl (fun h1 => ?_) (fun h1 => ?_)
    · have h1' : (leaf t0 x).length = 0 ∧ x + 1 < t0.length := by
        simp only [Bool.and_eq_true, decide_eq_true_eq] at h1; omega
      refine G_run tOk eok_right 60 (fun _ => none) (fun bs => rfl) (fun bs => ?_) (fun bs => ?_)
      · (repeat' apply And.intro) <;> (intros; first | exact trivial | exact rfl | omega | exact u8_lo _ | exact u8_hi _ | exact u8_in64 _ | exact u8_in63 _ | (simp only [inR, IntKind.bits]; omega) | (simp [inR, IntKind.bits]; done) | (simp [inR, IntKind.bits] at * <;> omega) | (simp_all; done) | skip)
      refine G_lp [0] (x + 1) ?ok1 ?wk1
      case ok1 => exact ⟨⟨hk', by simp [rightN, hr, okRow, h1'.2, List.eq_nil_of_length_eq_zero h1'.1]⟩, by omega⟩
      case wk1 => (repeat' apply And.intro) <;> (first | exact rfl | exact trivial | omega | refine sigEq ?_ | skip)
    have h1' : ¬ ((leaf t0 x).length = 0 ∧ x + 1 < t0.length) := by
      intro hh; rw [Bool.eq_false_iff] at h1; apply h1
      simp only [Bool.and_eq_true, decide_eq_true_eq]; omega
    refine G_run tOk eok_right 60 (fun _ => none) (fun bs => rfl) (fun bs => ?_) (fun bs => ?_)
    · (repeat' apply And.intro) <;> (intros; first | exact trivial | exact rfl | omega | exact u8_lo _ | exact u8_hi _ | exact u8_in64 _ | exact u8_in63 _ | (simp only [inR, IntKind.bits]; omega) | (simp [inR, IntKind.bits]; done) | (simp [inR, IntKind.bits] at * <;> omega) | (simp_all; done) | skip)
    refine G_cond (b := !decide (((leaf t0 x).length : Int) = 8)) rfl rfl (fun h2 => ?_) (fun h2 => ?_)
    · refine G_run tOk eok_right 60 (fun _ => none) (fun bs => rfl) (fun bs => ?_) (fun bs => ?_)
      · (repeat' apply And.intro) <;> (intros; first | exact trivial | exact rfl | omega | exact u8_lo _ | exact u8_hi _ | exact u8_in64 _ | exact u8_in63 _ | (simp only [inR, IntKind.bits]; omega) | (simp [inR, IntKind.bits]; done) | (simp [inR, IntKind.bits] at * <;> omega) | (simp_all; done) | skip)
      refine G_ret tOk hM0 rfl rfl ⟨trivial, trivial⟩ ?_
      conv => whnf
      refine (hF x hk' (okRow_no h1' ?_)).symm
      have : ¬ (leaf t0 x).length = 8 := by simp at h2; omega
      simp [rowB, this]
    have h8 : (leaf t0 x).length = 8 := by simp at h2; omega
    refine G_run tOk eok_right 60 (fun _ => none) (fun bs => rfl) (fun bs => ?_) (fun bs => ?_)
    · (repeat' apply And.intro) <;> (intros; first | exact trivial | exact rfl | omega | exact u8_lo _ | exact u8_hi _ | exact u8_in64 _ | exact u8_in63 _ | (simp only [inR, IntKind.bits]; omega) | (simp [inR, IntKind.bits]; done) | (simp [inR, IntKind.bits] at * <;> omega) | (simp_all; done) | skip)
    refine G_loop (fun k : Nat => [(1, int .i64 n), (2, int .i64 c), (3, .c (.ptr 0 b 0)), (7, int .i64 x), (8, lst .ent (leaf t0 x)), (9, bool (someN (leaf t0 x) k)), (27, lst .tbl t0), (28, int .i64 t0.length), (29, int .i64 x), (48, lst .ent (leaf t0 x)), (49, int .i64 (leaf t0 x).length), (50, int .i64 k)]) (fun k => [.blk b 24 [.pv (.lst .tbl t0)]]) (fun k => k ≤ 8 ∧ rowN c n x (leaf t0 x) k = true) (fun k => 8 - k) rfl [0] 0 ⟨Nat.zero_le _, rfl⟩ ?wk2 (fun k hx2 => ?_)
    case wk2 => (repeat' apply And.intro) <;> (first | exact rfl | exact trivial | omega | refine sigEq ?_ | skip)
    obtain ⟨hx2, hr2⟩ := hx2
    have hrow : rowB c n x (leaf t0 x) = false → rightT t0 n c = false := fun hh => hF x hk' (okRow_no h1' hh)
    have hrow2 : rowB c n x (leaf t0 x) = true → rightN t0 n c (x + 1) = true := fun hh => by simp [rightN, hr, okRow, hh]
    clear hlx h1 h1' h2 hlf
    generalize leaf t0 x = lf at *
    have hx4 : x ≤ 1000000000 := by omega
    refine G_run tOk eok_right 60 (fun _ => none) (fun bs => rfl) (fun bs => ?_) (fun bs => ?_)
    · (repeat' apply And.intro) <;> (intros; first | exact trivial | exact rfl | omega | exact u8_lo _ | exact u8_hi _ | exact u8_in64 _ | exact u8_in63 _ | (simp only [inR, IntKind.bits]; omega) | (simp [inR, IntKind.bits]; done) | (simp [inR, IntKind.bits] at * <;> omega) | (simp_all; done) | skip)
    refine G_if rfl rfl (fun hk2 => ?_) (fun hk2 => ?_)
    · have hk2' : k < 8 := by omega
      obtain ⟨e, he⟩ : ∃ e, lf.getD k entZ = e := ⟨_, rfl⟩
      have he1 : lf.getD (Int.toNat (k : Int)) LK.ent.dft = e := he
      have hno : entOk c n (x * 8 + k) e = false → rightT t0 n c = false := fun hh => hrow (by
        have : rowN c n x lf 8 = false := rowN_false (i := k + 1) (by simp only [rowN, he, hh, Bool.and_false]) hk2'
        simp [rowB, this])
      have hyes : entOk c n (x * 8 + k) e = true → rowN c n x lf (k + 1) = true := fun hh => by simp only [rowN, he, hr2, hh, Bool.and_self]
      have hsm : someN lf (k + 1) = (someN lf k || !noneX e) := by simp only [someN, he]
      cases hm : mayX c e with
      | false =>
        refine G_run tOk eok_right 60 (fun j => match j with | 4 => some true | 8 => some true | _ => none) (fun bs => rfl) (fun bs => ?_) (fun bs => ?_)
        · simp only [he1, mayX_def, hm]
          (repeat' apply And.intro) <;> (intros; first | exact trivial | exact rfl | omega | exact u8_lo _ | exact u8_hi _ | exact u8_in64 _ | exact u8_in63 _ | (simp only [inR, IntKind.bits]; omega) | (simp [inR, IntKind.bits]; done) | (simp [inR, IntKind.bits] at * <;> omega) | (simp_all; done) | skip)
        refine G_thn rfl rfl ?c1 ?_
        case c1 => simp [he1, mayX_def, hm]
        refine G_run tOk eok_right 60 (fun _ => none) (fun bs => rfl) (fun bs => ?_) (fun bs => ?_)
        · (repeat' apply And.intro) <;> (intros; first | exact trivial | exact rfl | omega | exact u8_lo _ | exact u8_hi _ | exact u8_in64 _ | exact u8_in63 _ | (simp only [inR, IntKind.bits]; omega) | (simp [inR, IntKind.bits]; done) | (simp [inR, IntKind.bits] at * <;> omega) | (simp_all; done) | skip)
        refine G_ret tOk hM0 rfl rfl ⟨trivial, trivial⟩ ?_
        conv => whnf
        exact (hno (by simp [entOk, hm])).symm
      | true =>
        refine G_run tOk eok_right 60 (fun j => match j with | 4 => some false | _ => none) (fun bs => rfl) (fun bs => ?_) (fun bs => ?_)
        · simp only [he1, mayX_def, noneX_def, hm]
          (repeat' apply And.intro) <;> (intros; first | exact trivial | exact rfl | omega | exact u8_lo _ | exact u8_hi _ | exact u8_in64 _ | exact u8_in63 _ | (simp only [inR, IntKind.bits]; omega) | (simp [inR, IntKind.bits]; done) | (simp [inR, IntKind.bits] at * <;> omega) | (simp_all; done) | skip)
        refine G_cond rfl rfl (fun h3 => ?_) (fun h3 => ?_)
        · simp only [he1, mayX_def, noneX_def, hm, Bool.not_true, Bool.false_or, Bool.and_eq_true, decide_eq_true_eq] at h3
          refine G_run tOk eok_right 60 (fun _ => none) (fun bs => rfl) (fun bs => ?_) (fun bs => ?_)
          · (repeat' apply And.intro) <;> (intros; first | exact trivial | exact rfl | omega | exact u8_lo _ | exact u8_hi _ | exact u8_in64 _ | exact u8_in63 _ | (simp only [inR, IntKind.bits]; omega) | (simp [inR, IntKind.bits]; done) | (simp [inR, IntKind.bits] at * <;> omega) | (simp_all; done) | skip)
          refine G_ret tOk hM0 rfl rfl ⟨trivial, trivial⟩ ?_
          conv => whnf
          refine (hno ?_).symm
          have h4 : ¬ ((x : Int) * 8 + k < n) := by omega
          have h5 : noneX e = false := by simpa using h3.1
          simp [entOk, h4, h5]
        · simp only [he1, mayX_def, noneX_def, hm, Bool.not_true, Bool.false_or] at h3
          have h4 : entOk c n (x * 8 + k) e = true := by
            rw [Bool.eq_false_iff] at h3
            simp only [ne_eq, Bool.and_eq_true, decide_eq_true_eq, Bool.not_eq_true'] at h3
            simp only [entOk, hm, Bool.true_and, Bool.or_eq_true, decide_eq_true_eq]
            cases h5 : noneX e with
            | true => exact .inl rfl
            | false => exact .inr (by have : ¬ n ≤ (x : Int) * 8 + k := fun hh => h3 ⟨h5, hh⟩
                                      omega)
          cases hs : someN lf k with
          | true =>
            refine G_run tOk eok_right 60 (fun j => match j with | 1 => some true | _ => none) (fun bs => rfl) (fun bs => ?_) (fun bs => ?_)
            · simp only [hs]
              (repeat' apply And.intro) <;> (intros; first | exact trivial | exact rfl | omega | exact u8_lo _ | exact u8_hi _ | exact u8_in64 _ | exact u8_in63 _ | (simp only [inR, IntKind.bits]; omega) | (simp [inR, IntKind.bits]; done) | (simp [inR, IntKind.bits] at * <;> omega) | (simp_all; done) | skip)
            refine G_lp [0] (k + 1) ?ok2 ?wk3
            case ok2 => exact ⟨⟨hk2', hyes h4⟩, by omega⟩
            case wk3 =>
              (repeat' apply And.intro) <;> (first | exact rfl | exact trivial | omega | refine sigEq ?_ | skip)
              all_goals (simp only [hsm, hs]; rfl)
          | false =>
            refine G_run tOk eok_right 60 (fun j => match j with | 1 => some false | _ => none) (fun bs => rfl) (fun bs => ?_) (fun bs => ?_)
            · simp only [he1, noneX_def, hs]
              (repeat' apply And.intro) <;> (intros; first | exact trivial | exact rfl | omega | exact u8_lo _ | exact u8_hi _ | exact u8_in64 _ | exact u8_in63 _ | (simp only [inR, IntKind.bits]; omega) | (simp [inR, IntKind.bits]; done) | (simp [inR, IntKind.bits] at * <;> omega) | (simp_all; done) | skip)
            refine G_lp [0] (k + 1) ?ok3 ?wk4
            case ok3 => exact ⟨⟨hk2', hyes h4⟩, by omega⟩
            case wk4 =>
              (repeat' apply And.intro) <;> (first | exact rfl | exact trivial | omega | refine sigEq ?_ | skip)
              all_goals (simp only [hsm, hs, he1, noneX_def]; rfl)
    · have hk2' : k = 8 := by omega
      subst hk2'
      refine G_run tOk eok_right 60 (fun _ => none) (fun bs => rfl) (fun bs => ?_) (fun bs => ?_)
      · (repeat' apply And.intro) <;> (intros; first | exact trivial | exact rfl | omega | exact u8_lo _ | exact u8_hi _ | exact u8_in64 _ | exact u8_in63 _ | (simp only [inR, IntKind.bits]; omega) | (simp [inR, IntKind.bits]; done) | (simp [inR, IntKind.bits] at * <;> omega) | (simp_all; done) | skip)
      refine G_cond (b := !someN lf 8) rfl rfl (fun h3 => ?_) (fun h3 => ?_)
      · refine G_run tOk eok_right 60 (fun _ => none) (fun bs => rfl) (fun bs => ?_) (fun bs => ?_)
        · (repeat' apply And.intro) <;> (intros; first | exact trivial | exact rfl | omega | exact u8_lo _ | exact u8_hi _ | exact u8_in64 _ | exact u8_in63 _ | (simp only [inR, IntKind.bits]; omega) | (simp [inR, IntKind.bits]; done) | (simp [inR, IntKind.bits] at * <;> omega) | (simp_all; done) | skip)
        refine G_ret tOk hM0 rfl rfl ⟨trivial, trivial⟩ ?_
        conv => whnf
        refine (hrow ?_).symm
        have h4 : someN lf 8 = false := by simpa using h3
        simp [rowB, h4]
      · refine G_run tOk eok_right 60 (fun _ => none) (fun bs => rfl) (fun bs => ?_) (fun bs => ?_)
        · (repeat' apply And.intro) <;> (intros; first | exact trivial | exact rfl | omega | exact u8_lo _ | exact u8_hi _ | exact u8_in64 _ | exact u8_in63 _ | (simp only [inR, IntKind.bits]; omega) | (simp [inR, IntKind.bits]; done) | (simp [inR, IntKind.bits] at * <;> omega) | (simp_all; done) | skip)
        refine G_lp [0] (x + 1) ?ok4 ?wk5
        case ok4 =>
          refine ⟨⟨hk', hrow2 ?_⟩, by omega⟩
          have h4 : someN lf 8 = true := by simpa using h3
          simp [rowB, h4, hr2, h8]
        case wk5 => (repeat' apply And.intro) <;> (first | exact rfl | exact trivial | omega | refine sigEq ?_ | skip)
  · have hk' : x = t0.length := by omega
    subst hk'
    refine G_run tOk eok_right 60 (fun _ => none) (fun bs => rfl) (fun bs => ?_) (fun bs => ?_)
    · (repeat' apply And.intro) <;> (intros; first | exact trivial | exact rfl | omega | exact u8_lo _ | exact u8_hi _ | exact u8_in64 _ | exact u8_in63 _ | (simp only [inR, IntKind.bits]; omega) | (simp [inR, IntKind.bits]; done) | (simp [inR, IntKind.bits] at * <;> omega) | (simp_all; done) | skip)
    refine G_ret tOk hM0 rfl rfl ⟨trivial, trivial⟩ ?_
    conv => whnf
    rw [hR, hr]
def right_s : FSpec
  | [.g [.pv (.lst .tbl t0)], .c (.pv (.val (.int .i64 n))), .c (.pv (.val (.int .i64 c)))] => some ((t0.length ≤ 1000000000) ∧ (∀ i, (leaf t0 i).length ≤ 1000000000), false, .x (.c (bv (rightT t0 n c))))
  | _ => none
theorem right_s_ok : SpecOk Try.prog 14 right_s := by
  intro args pre sh rv h hp; unfold right_s at h; split at h
  · cases h; obtain ⟨hl, hf⟩ := hp; exact right_fn _ _ _ hl hf
  · cases h
def psi_right : FuncId → Option FSpec := psiCons 14 right_s psi_none
theorem psi_right_ok : PsiFn Try.prog psi_right := psiCons_ok right_s_ok psi_none_ok
end Go.Proofs.Ytnmomckmpknbkaa
