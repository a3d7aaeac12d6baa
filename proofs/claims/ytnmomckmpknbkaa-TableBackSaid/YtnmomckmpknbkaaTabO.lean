import Derived.Test.YtnmomckmpknbkaaTabN
set_option linter.unusedSimpArgs false
set_option linter.unusedVariables false
namespace Go.Proofs.Ytnmomckmpknbkaa
open Go.Mt

def rawN (t : List (List Entry)) : Nat → Bool
  | 0 => false
  | k + 1 => rawN t k || decide ((atT t (k : Int)).kind = 2)
theorem rawN_iff (t : List (List Entry)) : ∀ k, rawN t k = true ↔ ∃ j : Nat, j < k ∧ (atT t (j : Int)).kind = 2 := by
  intro k
  induction k with
  | zero => simp [rawN]
  | succ k ih =>
    simp only [rawN, Bool.or_eq_true, ih, decide_eq_true_eq]
    constructor
    · rintro (⟨j, h1, h2⟩ | h)
      · exact ⟨j, by omega, h2⟩
      · exact ⟨k, by omega, h⟩
    · rintro ⟨j, h1, h2⟩
      by_cases e : j = k
      · subst e; exact .inr h2
      · exact .inl ⟨j, by omega, h2⟩
theorem may_count {c : Int} {e : Entry} (h : mayX c e = true) (hk : e.kind = 2) : e.count = 2 ^ c.toNat ∧ 0 ≤ c ∧ c ≤ 6 := by
  unfold mayX mayE at h
  split at h
  · cases h
  · rename_i hc
    simp only [hk, show ¬ ((2 : Int) = 0 ∨ (2 : Int) = 1) by decide, if_false, if_true, decide_eq_true_eq] at h
    exact ⟨h.1, by omega⟩
theorem pow_of {c : Int} (h : 0 ≤ c ∧ c ≤ 6) : (2 : Int) ^ c.toNat = 8 ↔ c = 3 := by
  have : c = 0 ∨ c = 1 ∨ c = 2 ∨ c = 3 ∨ c = 4 ∨ c = 5 ∨ c = 6 := by omega
  rcases this with rfl | rfl | rfl | rfl | rfl | rfl | rfl <;> decide
theorem pow_no {c : Int} (h : 0 ≤ c ∧ c ≤ 6) : (2 : Int) ^ c.toNat ≠ 3 := by
  have : c = 0 ∨ c = 1 ∨ c = 2 ∨ c = 3 ∨ c = 4 ∨ c = 5 ∨ c = 6 := by omega
  rcases this with rfl | rfl | rfl | rfl | rfl | rfl | rfl <;> decide
theorem setT_not {t : List (List Entry)} {e : Entry} (i : Int) (h : ∀ c : Int, mayX c e = true → rightT t 4096 c = true → False) : setT t i e = t := by
  unfold setT
  have : anyN t e 7 = false := by
    cases ha : anyN t e 7 with
    | false => rfl
    | true => obtain ⟨c, h1, h2⟩ := any_both ha; exact (h c h1 h2).elim
  rw [if_pos (.inr (.inr this))]
theorem madN_at {ns : List Int} (h : ∀ i, 0 ≤ ns.getD i 0) : ∀ k j : Nat, j < 4096 → atT (madN ns k) (j : Int) = entZ ∨ (j < 300 ∧ ∃ x, atT (madN ns k) (j : Int) = madeE x) := by
  intro k
  induction k with
  | zero => intro j hj; left; exact at_out (by simp [madN])
  | succ k ih =>
    intro j hj
    simp only [madN]
    obtain ⟨q, hq⟩ : ∃ q : Nat, ns.getD k 0 % 300 = q := ⟨(ns.getD k 0 % 300).toNat, by have := h k; omega⟩
    rw [hq, at_set (madN_right h k) (madeE_may (h k)) (by omega)]
    split
    · exact .inr ⟨by omega, _, rfl⟩
    · exact ih j hj
/-- Where all is right for some clusters, and nothing is raw, it is right for others. -/
theorem right_other {t : List (List Entry)} {c c' : Int} (h : rightT t 4096 c = true) (hc : 0 ≤ c' ∧ c' ≤ 6) (hm : ∀ j : Nat, j < 4096 → mayX c' (atT t (j : Int)) = true) : rightT t 4096 c' = true := by
  obtain ⟨h0, h512, hrow, hlast⟩ := right_good h
  refine good_right ⟨hc, h512, fun i => ?_, hlast⟩
  rcases hrow i with h1 | ⟨h8, _, hs⟩
  · exact .inl h1
  · refine .inr ⟨h8, fun j => ?_, hs⟩
    by_cases hj : j < 8
    · have hi : i < 512 := by
        by_cases hi : i < t.length
        · omega
        · rw [leaf_app (by omega)] at h8; simp at h8
      have := hm (i * 8 + j) (by omega)
      rw [atT_nat, show (i * 8 + j) / 8 = i by omega, show (i * 8 + j) % 8 = j by omega] at this
      exact this
    · rw [List.getD, List.getElem?_eq_none (by omega)]; exact may_zero hc
theorem mixed {ns : List Int} (hr : ∀ m ∈ ns, inR .u16 m) {k : Nat} (hk : k < 300) : decide (setT (madT ns) (k : Int) ⟨2, 2, 8, 0, 0⟩ = madT ns) = rawN (madT ns) 300 ∧ setT (madT ns) (k : Int) ⟨2, 2, 3, 0, 0⟩ = madT ns := by
  have hR := madT_right hr
  have hA := madN_at (fun i => (gets hr i).1) (min ns.length 60)
  have hA : ∀ j : Nat, j < 4096 → atT (madT ns) (j : Int) = entZ ∨ (j < 300 ∧ ∃ x, atT (madT ns) (j : Int) = madeE x) := hA
  constructor
  · cases hraw : rawN (madT ns) 300 with
    | true =>
      rw [rawN_iff] at hraw
      obtain ⟨j, hj, hj2⟩ := hraw
      have h2 := may_count (at_may hR j) hj2
      rw [setT_not _ (fun c h1 h3 => by
        have a := may_count h1 rfl
        have a1 : (8 : Int) = 2 ^ c.toNat := a.1
        have hc := (pow_of a.2).1 a1.symm
        subst hc
        have b := may_count (at_may h3 j) hj2
        rw [b.1] at h2
        exact absurd h2.1 (by decide))]
      simp
    | false =>
      have hno : ∀ j : Nat, j < 300 → (atT (madT ns) (j : Int)).kind ≠ 2 := fun j hj e => by
        have : rawN (madT ns) 300 = true := (rawN_iff _ _).2 ⟨j, hj, e⟩
        rw [hraw] at this; cases this
      have h3 : rightT (madT ns) 4096 3 = true := right_other hR (by decide) (fun j hj => by
        rcases hA j hj with e | ⟨hj3, x, e⟩
        · rw [e]; decide
        · have := hno j hj3
          rw [e] at this ⊢
          unfold madeE at this ⊢
          cases hd : decide (x % 3 = 0) with
          | true => rw [hd] at this; simp at this
          | false => exact may_one (by decide))
      have hat := at_set h3 (show mayX 3 ⟨2, 2, 8, 0, 0⟩ = true by decide) (show k < 4096 by omega) k
      rw [if_pos rfl] at hat
      rw [decide_eq_false_iff_not]
      intro e
      rw [e] at hat
      exact hno k hk (by rw [hat])
  · exact setT_not _ (fun c h1 _ => by
      have a := may_count h1 rfl
      exact pow_no a.2 a.1.symm)

def env_fmixed : Env := ⟨T, psi_fplaces, pspNil, 49, [], none, true⟩
theorem eok_fmixed : PsiOk Try.prog env_fmixed := ⟨psi_fplaces_ok, pspNil_ok⟩
theorem fmixed_fn (ns : List Int) (p : Int) (hn : ns.length ≤ 9223372036854775807) (hr : ∀ m ∈ ns, inR .u16 m) (hp : inR .u16 p) : Ctr Try.prog 6 false [lst (.ints .u16) ns, int .u16 p] (.x (.c (bv true))) := by
  refine Ctr_intro (E := env_fmixed) Try.func6 rfl (by decide) rfl rfl (fun M0 W hM0 => ?_)
  have hp' : 0 ≤ p ∧ p ≤ 65535 := hp
  have hR := madT_right hr
  obtain ⟨kk, hkk⟩ : ∃ kk : Nat, p % 300 = kk := ⟨(p % 300).toNat, by omega⟩
  have hk3 : kk < 300 := by omega
  obtain ⟨m1, m2⟩ := mixed hr hk3
  have ht1 := right_len hR
  have ht2 : ∀ i, (leaf (madT ns) i).length ≤ 1000000000 := fun i => Nat.le_trans (right_leaf hR i) (by decide)
  have hS : Sm (madT ns) := ⟨by omega, ht2⟩
  obtain ⟨u1, u2⟩ := sm_of hS (setT_or (madT ns) (kk : Int) ⟨2, 2, 8, 0, 0⟩)
  clear hS
  refine G_run tOk eok_fmixed 60 (fun _ => none) (fun bs => rfl) (fun bs => ?_) (fun bs => ?_)
  · (repeat' apply And.intro) <;> (intros; first | exact trivial | exact rfl | omega | exact u8_lo _ | exact u8_hi _ | exact u8_in64 _ | exact u8_in63 _ | (simp only [inR, IntKind.bits]; omega) | (simp [inR, IntKind.bits]; done) | (simp [inR, IntKind.bits] at * <;> omega) | (simp_all; done) | skip)
  generalize madT ns = t at *
  refine G_wkB (ns := [0]) (fs := fun b => [(1, int .u16 p), (5, .c (.ptr 0 b 0)), (6, bool false), (7, int .i64 0)]) (hs := fun b => [.blk b 24 [.pv (.lst .tbl t)]]) ?b1 rfl ?wk0 (fun b => ?_)
  case wk0 => (repeat' apply And.intro) <;> (first | exact rfl | exact trivial | omega | refine sigEq ?_ | skip)
  refine G_loop (fun j : Nat => [(1, int .u16 p), (5, .c (.ptr 0 b 0)), (6, bool (rawN t j)), (7, int .i64 j)]) (fun j => [.blk b 24 [.pv (.lst .tbl t)]]) (fun j => j ≤ 300) (fun j => 300 - j) rfl [0] 0 (Nat.zero_le _) ?wk (fun j hx => ?_)
  case wk => (repeat' apply And.intro) <;> (first | exact rfl | exact trivial | omega | refine sigEq ?_ | skip)
  refine G_run tOk eok_fmixed 60 (fun _ => none) (fun bs => rfl) (fun bs => ?_) (fun bs => ?_)
  · (repeat' apply And.intro) <;> (intros; first | exact trivial | exact rfl | omega | exact u8_lo _ | exact u8_hi _ | exact u8_in64 _ | exact u8_in63 _ | (simp only [inR, IntKind.bits]; omega) | (simp [inR, IntKind.bits]; done) | (simp [inR, IntKind.bits] at * <;> omega) | (simp_all; done) | skip)
  refine G_if rfl rfl (fun hk => ?_) (fun hk => ?_)
  · have hk' : j < 300 := by omega
    cases hs : rawN t j with
    | true =>
      refine G_run tOk eok_fmixed 60 (fun j => match j with | 1 => some true | _ => none) (fun bs => rfl) (fun bs => ?_) (fun bs => ?_)
      · simp only [hs]
        (repeat' apply And.intro) <;> (intros; first | exact trivial | exact rfl | omega | exact u8_lo _ | exact u8_hi _ | exact u8_in64 _ | exact u8_in63 _ | (simp only [inR, IntKind.bits]; omega) | (simp [inR, IntKind.bits]; done) | (simp [inR, IntKind.bits] at * <;> omega) | (simp_all; done) | skip)
      refine G_lp [0] (j + 1) ?ok1 ?wk1
      case ok1 => exact ⟨hk', by omega⟩
      case wk1 =>
        (repeat' apply And.intro) <;> (first | exact rfl | exact trivial | omega | refine sigEq ?_ | skip)
        all_goals (simp only [rawN, hs]; rfl)
    | false =>
      refine G_run tOk eok_fmixed 60 (fun j => match j with | 1 => some false | _ => none) (fun bs => rfl) (fun bs => ?_) (fun bs => ?_)
      · (repeat' apply And.intro) <;> (intros; first | exact trivial | exact rfl | exact hs | omega | exact ht2 _ | (simp; done) | skip)
      refine G_lp [0] (j + 1) ?ok2 ?wk2
      case ok2 => exact ⟨hk', by omega⟩
      case wk2 =>
        (repeat' apply And.intro) <;> (first | exact rfl | exact trivial | omega | refine sigEq ?_ | skip)
        all_goals (simp only [rawN, hs]; rfl)
  · have hk' : j = 300 := by omega
    subst hk'
    refine G_run tOk eok_fmixed 60 (fun _ => some true) (fun bs => rfl) (fun bs => ?_) (fun bs => ?_)
    · simp only [hkk, m2]
      (repeat' apply And.intro) <;> (intros; first | exact trivial | exact rfl | omega | exact ht2 _ | exact u2 _ | (simp [m1]; done) | (simp [inR]; omega) | skip)
    refine G_ret tOk hM0 rfl rfl ⟨trivial, trivial⟩ ?_
    conv => whnf
    simp [hkk, m2, m1]
def fmixed_s : FSpec
  | [.c (.pv (.lst (.ints .u16) ns)), .c (.pv (.val (.int .u16 p)))] => some ((ns.length ≤ 9223372036854775807) ∧ (∀ m ∈ ns, inR .u16 m) ∧ (inR .u16 p), false, .x (.c (bv true)))
  | _ => none
theorem fmixed_s_ok : SpecOk Try.prog 6 fmixed_s := by
  intro args pre sh rv h hp; unfold fmixed_s at h; split at h
  · cases h; obtain ⟨hn, hr, hp⟩ := hp; exact fmixed_fn _ _ hn hr hp
  · cases h
def psi_fmixed : FuncId → Option FSpec := psiCons 6 fmixed_s psi_fplaces
theorem psi_fmixed_ok : PsiFn Try.prog psi_fmixed := psiCons_ok fmixed_s_ok psi_fplaces_ok
end Go.Proofs.Ytnmomckmpknbkaa
