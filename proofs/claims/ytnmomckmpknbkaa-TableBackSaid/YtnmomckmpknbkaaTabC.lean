import Derived.Test.YtnmomckmpknbkaaTabB
set_option linter.unusedSimpArgs false
set_option linter.unusedVariables false
namespace Go.Proofs.Ytnmomckmpknbkaa
open Go.Mt

theorem may_none {c : Int} {e : Entry} (h : mayX c e = true) : noneX e = decide (e.kind = 0) := by
  unfold mayX mayE at h
  unfold noneX noneE
  split at h
  · cases h
  · by_cases h0 : e.kind = 0
    · rw [if_pos (.inl h0)] at h
      simp only [decide_eq_true_eq] at h
      simp [h0, h.1, h.2.1, h.2.2.1, h.2.2.2]
    · simp [h0]
theorem leaf_app {t : List (List Entry)} {i : Nat} (h : t.length ≤ i) : leaf t i = [] := by simp [leaf, List.getD, List.getElem?_eq_none h]
theorem someN_ex {l : List Entry} : ∀ {k : Nat}, someN l k = true → ∃ j, j < k ∧ noneX (l.getD j entZ) = false := by
  intro k
  induction k with
  | zero => intro h; cases h
  | succ k ih =>
    intro h
    simp only [someN, Bool.or_eq_true, Bool.not_eq_true'] at h
    rcases h with h | h
    · obtain ⟨j, hj, h2⟩ := ih h; exact ⟨j, by omega, h2⟩
    · exact ⟨k, by omega, h⟩
theorem rowN_all {c n : Int} {i : Nat} {l : List Entry} : ∀ {k : Nat}, rowN c n i l k = true → ∀ j, j < k → entOk c n (i * 8 + j) (l.getD j entZ) = true := by
  intro k
  induction k with
  | zero => intro _ j hj; omega
  | succ k ih =>
    intro h j hj
    simp only [rowN, Bool.and_eq_true] at h
    by_cases e : j = k
    · subst e; exact h.2
    · exact ih h.1 j (by omega)
/-- A right table has no more leaves than there may be. -/
theorem right_few {t : List (List Entry)} {n c : Int} (h : rightT t n c = true) (h5 : 512 < t.length) : False := by
  simp only [rightT, Bool.and_eq_true, Bool.not_eq_true', Bool.or_eq_false_iff, decide_eq_false_iff_not] at h
  obtain ⟨⟨⟨⟨a1, a2⟩, a3⟩, a4⟩, hN⟩ := h
  have hrow : okRow t n c (t.length - 1) = true := by
    cases ho : okRow t n c (t.length - 1) with
    | true => rfl
    | false =>
      have : rightN t n c t.length = false := rightN_false (i := t.length - 1 + 1) (by simp [rightN, ho]) (by omega)
      rw [this] at hN; cases hN
  have hd : decide (t.length - 1 + 1 < t.length) = false := by simp; omega
  simp only [okRow, hd, Bool.and_false, Bool.false_or, rowB, Bool.and_eq_true] at hrow
  obtain ⟨_, r1, r2⟩ := hrow
  obtain ⟨j, hj, h2⟩ := someN_ex r2
  have := rowN_all r1 j hj
  simp only [entOk, h2, Bool.false_or, Bool.and_eq_true, decide_eq_true_eq] at this
  omega

def env_rright : Env := ⟨T, psi_right, pspNil, 107, [], none, true⟩
theorem eok_rright : PsiOk Try.prog env_rright := ⟨psi_right_ok, pspNil_ok⟩
theorem rright_fn (t0 : List (List Entry)) (n : Int) (c : Int) (hl : t0.length ≤ 1000000000) (hf : ∀ i, (leaf t0 i).length ≤ 1000000000) : Ctr Try.prog 15 false [.g [.pv (.lst .tbl t0)], int .i64 n, int .i64 c] (.x (.c (bv (rightT t0 n c)))) := by
  refine Ctr_intro (E := env_rright) Try.func15 rfl (by decide) rfl rfl (fun M0 W hM0 => ?_)
  refine G_run tOk eok_rright 60 (fun _ => none) (fun bs => rfl) (fun bs => ?_) (fun bs => ?_)
  · (repeat' apply And.intro) <;> (intros; first | exact trivial | exact rfl | omega | exact u8_lo _ | exact u8_hi _ | exact u8_in64 _ | exact u8_in63 _ | (simp only [inR, IntKind.bits]; omega) | (simp [inR, IntKind.bits]; done) | (simp [inR, IntKind.bits] at * <;> omega) | (simp_all; done) | skip)
  generalize (bs 0 0).bn = b
  have hll : t0.getD (Int.toNat ((t0.length : Int) - 1)) LK.tbl.dft = leaf t0 (t0.length - 1) := by
    rw [show Int.toNat ((t0.length : Int) - 1) = t0.length - 1 by omega]; rfl
  refine G_cond (b := decide (n < 0) || decide (4096 < n) || decide (c < 0) || decide (6 < c) || (decide (0 < (t0.length : Int)) && decide (((t0.getD (Int.toNat ((t0.length : Int) - 1)) LK.tbl.dft).length : Int) = 0)) || decide (512 < (t0.length : Int))) rfl rfl (fun h => ?_) (fun h => ?_)
  · refine G_run tOk eok_rright 60 (fun _ => none) (fun bs => rfl) (fun bs => ?_) (fun bs => ?_)
    · (repeat' apply And.intro) <;> (intros; first | exact trivial | exact rfl | omega | exact u8_lo _ | exact u8_hi _ | exact u8_in64 _ | exact u8_in63 _ | (simp only [inR, IntKind.bits]; omega) | (simp [inR, IntKind.bits]; done) | (simp [inR, IntKind.bits] at * <;> omega) | (simp_all; done) | skip)
    refine G_ret tOk hM0 rfl rfl ⟨trivial, trivial⟩ ?_
    conv => whnf
    rw [hll] at h
    cases hr : rightT t0 n c with
    | false => rfl
    | true =>
      exfalso
      by_cases h5 : 512 < t0.length
      · exact right_few hr h5
      · simp only [rightT, Bool.and_eq_true, Bool.not_eq_true', Bool.or_eq_false_iff, decide_eq_false_iff_not] at hr
        obtain ⟨⟨⟨⟨a1, a2⟩, a3⟩, a4⟩, hN⟩ := hr
        simp only [Bool.or_eq_true, Bool.and_eq_true, decide_eq_true_eq] at h
        have hz : 0 < t0.length ∧ (leaf t0 (t0.length - 1)).length = 0 := by omega
        have : rightN t0 n c t0.length = false := rightN_false (i := t0.length - 1 + 1) (by
          have hd : decide (t0.length - 1 + 1 < t0.length) = false := by simp; omega
          simp [rightN, okRow, hd, rowB, hz.2]) (by omega)
        rw [this] at hN; cases hN
  rw [hll] at h
  simp only [Bool.or_eq_false_iff, Bool.and_eq_false_iff, decide_eq_false_iff_not] at h
  have hb : 0 ≤ n ∧ n ≤ 4096 ∧ 0 ≤ c ∧ c ≤ 6 ∧ t0.length ≤ 512 ∧ (0 < t0.length → 0 < (leaf t0 (t0.length - 1)).length) := by omega
  have hR : rightT t0 n c = rightN t0 n c t0.length := by
    have e : (decide (n < 0) || decide (4096 < n) || decide (c < 0) || decide (6 < c)) = false := by simp; omega
    simp only [rightT, e]; rfl
  have hF : ∀ x, x < t0.length → okRow t0 n c x = false → rightT t0 n c = false := fun x hx ho => right_at ho hx
  clear h
  refine G_run tOk eok_rright 60 (fun _ => none) (fun bs => rfl) (fun bs => ?_) (fun bs => ?_)
  · (repeat' apply And.intro) <;> (intros; first | exact trivial | exact rfl | omega | exact u8_lo _ | exact u8_hi _ | exact u8_in64 _ | exact u8_in63 _ | (simp only [inR, IntKind.bits]; omega) | (simp [inR, IntKind.bits]; done) | (simp [inR, IntKind.bits] at * <;> omega) | (simp_all; done) | skip)
  refine G_loop (fun x : Nat => [(1, int .i64 n), (2, int .i64 c), (3, .c (.ptr 0 b 0)), (7, int .i64 x)]) (fun x => [.blk b 24 [.pv (.lst .tbl t0)]]) (fun x => x ≤ t0.length ∧ rightN t0 n c x = true) (fun x => t0.length - x) rfl [0] 0 ⟨Nat.zero_le _, rfl⟩ ?wk (fun x hx => ?_)
  case wk => (repeat' apply And.intro) <;> (first | exact rfl | exact trivial | omega | refine sigEq ?_ | skip)
  obtain ⟨hx, hr⟩ := hx
  refine G_run tOk eok_rright 60 (fun _ => none) (fun bs => rfl) (fun bs => ?_) (fun bs => ?_)
  · (repeat' apply And.intro) <;> (intros; first | exact trivial | exact rfl | omega | exact u8_lo _ | exact u8_hi _ | exact u8_in64 _ | exact u8_in63 _ | (simp only [inR, IntKind.bits]; omega) | (simp [inR, IntKind.bits]; done) | (simp [inR, IntKind.bits] at * <;> omega) | (simp_all; done) | skip)
  refine G_if rfl rfl (fun hk => ?_) (fun hk => ?_)
  · have hk' : x < t0.length := by omega
    have hlf := hf x
    have hlx : t0.getD (Int.toNat (x : Int)) LK.tbl.dft = leaf t0 x := rfl
    refine G_run tOk eok_rright 60 (fun _ => none) (fun bs => rfl) (fun bs => ?_) (fun bs => ?_)
    · (repeat' apply And.intro) <;> (intros; first | exact trivial | exact rfl | omega | exact u8_lo _ | exact u8_hi _ | exact u8_in64 _ | exact u8_in63 _ | (simp only [inR, IntKind.bits]; omega) | (simp [inR, IntKind.bits]; done) | (simp [inR, IntKind.bits] at * <;> omega) | (simp_all; done) | skip)
    refine G_cond (b := decide (((leaf t0 x).length : Int) = 0)) rfl rfl (fun h1 => ?_) (fun h1 => ?_)
    · have h1' : (leaf t0 x).length = 0 := by
        simp only [decide_eq_true_eq] at h1; omega
      have h1'' : x + 1 < t0.length := by
        by_cases e : x + 1 < t0.length
        · exact e
        · have := hb.2.2.2.2.2 (by omega)
          rw [show t0.length - 1 = x by omega] at this; omega
      refine G_run tOk eok_rright 60 (fun _ => none) (fun bs => rfl) (fun bs => ?_) (fun bs => ?_)
      · (repeat' apply And.intro) <;> (intros; first | exact trivial | exact rfl | omega | exact u8_lo _ | exact u8_hi _ | exact u8_in64 _ | exact u8_in63 _ | (simp only [inR, IntKind.bits]; omega) | (simp [inR, IntKind.bits]; done) | (simp [inR, IntKind.bits] at * <;> omega) | (simp_all; done) | skip)
      refine G_lp [0] (x + 1) ?ok1 ?wk1
      case ok1 => exact ⟨⟨hk', by simp [rightN, hr, okRow, h1'', List.eq_nil_of_length_eq_zero h1']⟩, by omega⟩
      case wk1 => (repeat' apply And.intro) <;> (first | exact rfl | exact trivial | omega | refine sigEq ?_ | skip)
    have h1' : ¬ ((leaf t0 x).length = 0 ∧ x + 1 < t0.length) := by
      intro hh; rw [Bool.eq_false_iff] at h1; apply h1
      simp only [decide_eq_true_eq]; omega
    refine G_run tOk eok_rright 60 (fun _ => none) (fun bs => rfl) (fun bs => ?_) (fun bs => ?_)
    · (repeat' apply And.intro) <;> (intros; first | exact trivial | exact rfl | omega | exact u8_lo _ | exact u8_hi _ | exact u8_in64 _ | exact u8_in63 _ | (simp only [inR, IntKind.bits]; omega) | (simp [inR, IntKind.bits]; done) | (simp [inR, IntKind.bits] at * <;> omega) | (simp_all; done) | skip)
    refine G_cond (b := !decide (((leaf t0 x).length : Int) = 8)) rfl rfl (fun h2 => ?_) (fun h2 => ?_)
    · refine G_run tOk eok_rright 60 (fun _ => none) (fun bs => rfl) (fun bs => ?_) (fun bs => ?_)
      · (repeat' apply And.intro) <;> (intros; first | exact trivial | exact rfl | omega | exact u8_lo _ | exact u8_hi _ | exact u8_in64 _ | exact u8_in63 _ | (simp only [inR, IntKind.bits]; omega) | (simp [inR, IntKind.bits]; done) | (simp [inR, IntKind.bits] at * <;> omega) | (simp_all; done) | skip)
      refine G_ret tOk hM0 rfl rfl ⟨trivial, trivial⟩ ?_
      conv => whnf
      refine (hF x hk' (okRow_no h1' ?_)).symm
      have : ¬ (leaf t0 x).length = 8 := by simp at h2; omega
      simp [rowB, this]
    have h8 : (leaf t0 x).length = 8 := by simp at h2; omega
    refine G_run tOk eok_rright 60 (fun _ => none) (fun bs => rfl) (fun bs => ?_) (fun bs => ?_)
    · (repeat' apply And.intro) <;> (intros; first | exact trivial | exact rfl | omega | exact u8_lo _ | exact u8_hi _ | exact u8_in64 _ | exact u8_in63 _ | (simp only [inR, IntKind.bits]; omega) | (simp [inR, IntKind.bits]; done) | (simp [inR, IntKind.bits] at * <;> omega) | (simp_all; done) | skip)
    have hrow : rowB c n x (leaf t0 x) = false → rightT t0 n c = false := fun hh => hF x hk' (okRow_no h1' hh)
    have hrow2 : rowB c n x (leaf t0 x) = true → rightN t0 n c (x + 1) = true := fun hh => by simp [rightN, hr, okRow, hh]
    refine G_loop (fun k : Nat => [(1, int .i64 n), (2, int .i64 c), (3, .c (.ptr 0 b 0)), (7, int .i64 x), (8, bool (someN (leaf t0 x) k)), (9, int .i64 k)]) (fun k => [.blk b 24 [.pv (.lst .tbl t0)]]) (fun k => k ≤ 8 ∧ rowN c n x (leaf t0 x) k = true) (fun k => 8 - k) rfl [0] 0 ⟨Nat.zero_le _, rfl⟩ ?wk2 (fun k hx2 => ?_)
    case wk2 => (repeat' apply And.intro) <;> (first | exact rfl | exact trivial | omega | refine sigEq ?_ | skip)
    obtain ⟨hx2, hr2⟩ := hx2
    have hx4 : x ≤ 1000000000 := by omega
    refine G_run tOk eok_rright 60 (fun _ => none) (fun bs => rfl) (fun bs => ?_) (fun bs => ?_)
    · (repeat' apply And.intro) <;> (intros; first | exact trivial | exact rfl | omega | exact u8_lo _ | exact u8_hi _ | exact u8_in64 _ | exact u8_in63 _ | (simp only [inR, IntKind.bits]; omega) | (simp [inR, IntKind.bits]; done) | (simp [inR, IntKind.bits] at * <;> omega) | (simp_all; done) | skip)
    refine G_if rfl rfl (fun hk2 => ?_) (fun hk2 => ?_)
    · have hk2' : k < 8 := by omega
      obtain ⟨e, he⟩ : ∃ e, (leaf t0 x).getD k entZ = e := ⟨_, rfl⟩
      have he1 : List.getD (t0.getD (Int.toNat (x : Int)) LK.tbl.dft) (Int.toNat (k : Int)) LK.ent.dft = e := he
      have hno : entOk c n (x * 8 + k) e = false → rightT t0 n c = false := fun hh => hrow (by
        have : rowN c n x (leaf t0 x) 8 = false := rowN_false (i := k + 1) (by simp only [rowN, he, hh, Bool.and_false]) hk2'
        simp [rowB, this])
      have hyes : entOk c n (x * 8 + k) e = true → rowN c n x (leaf t0 x) (k + 1) = true := fun hh => by simp only [rowN, he, hr2, hh, Bool.and_self]
      have hsm : someN (leaf t0 x) (k + 1) = (someN (leaf t0 x) k || !noneX e) := by simp only [someN, he]
      have hlx8 : (t0.getD (Int.toNat (x : Int)) LK.tbl.dft).length = 8 := h8
      cases hm : mayX c e with
      | false =>
        refine G_run tOk eok_rright 60 (fun j => match j with | 4 => some true | 8 => some true | _ => none) (fun bs => rfl) (fun bs => ?_) (fun bs => ?_)
        · simp only [he1, mayX_def, hm, hlx8]
          (repeat' apply And.intro) <;> (intros; first | exact trivial | exact rfl | omega | exact u8_lo _ | exact u8_hi _ | exact u8_in64 _ | exact u8_in63 _ | (simp only [inR, IntKind.bits]; omega) | (simp [inR, IntKind.bits]; done) | (simp [inR, IntKind.bits] at * <;> omega) | (simp_all; done) | skip)
        refine G_thn rfl rfl ?c1 ?_
        case c1 => simp [he1, mayX_def, hm]
        refine G_run tOk eok_rright 60 (fun _ => none) (fun bs => rfl) (fun bs => ?_) (fun bs => ?_)
        · (repeat' apply And.intro) <;> (intros; first | exact trivial | exact rfl | omega | exact u8_lo _ | exact u8_hi _ | exact u8_in64 _ | exact u8_in63 _ | (simp only [inR, IntKind.bits]; omega) | (simp [inR, IntKind.bits]; done) | (simp [inR, IntKind.bits] at * <;> omega) | (simp_all; done) | skip)
        refine G_ret tOk hM0 rfl rfl ⟨trivial, trivial⟩ ?_
        conv => whnf
        exact (hno (by simp [entOk, hm])).symm
      | true =>
        have hme := may_none hm
        refine G_run tOk eok_rright 60 (fun j => match j with | 4 => some false | _ => none) (fun bs => rfl) (fun bs => ?_) (fun bs => ?_)
        · simp only [he1, mayX_def, noneX_def, hm, hlx8]
          (repeat' apply And.intro) <;> (intros; first | exact trivial | exact rfl | omega | exact u8_lo _ | exact u8_hi _ | exact u8_in64 _ | exact u8_in63 _ | (simp only [inR, IntKind.bits]; omega) | (simp [inR, IntKind.bits]; done) | (simp [inR, IntKind.bits] at * <;> omega) | (simp_all; done) | skip)
        refine G_cond rfl rfl (fun h3 => ?_) (fun h3 => ?_)
        · simp only [he1, mayX_def, noneX_def, hm, Bool.not_true, Bool.false_or, Bool.and_eq_true, decide_eq_true_eq, Bool.not_eq_true', decide_eq_false_iff_not] at h3
          refine G_run tOk eok_rright 60 (fun _ => none) (fun bs => rfl) (fun bs => ?_) (fun bs => ?_)
          · (repeat' apply And.intro) <;> (intros; first | exact trivial | exact rfl | omega | exact u8_lo _ | exact u8_hi _ | exact u8_in64 _ | exact u8_in63 _ | (simp only [inR, IntKind.bits]; omega) | (simp [inR, IntKind.bits]; done) | (simp [inR, IntKind.bits] at * <;> omega) | (simp_all; done) | skip)
          refine G_ret tOk hM0 rfl rfl ⟨trivial, trivial⟩ ?_
          conv => whnf
          refine (hno ?_).symm
          have h4 : ¬ ((x : Int) * 8 + k < n) := by omega
          have h5 : noneX e = false := by rw [hme]; simpa using h3.1
          simp [entOk, h4, h5]
        · simp only [he1, mayX_def, noneX_def, hm, Bool.not_true, Bool.false_or] at h3
          have h4 : entOk c n (x * 8 + k) e = true := by
            rw [Bool.eq_false_iff] at h3
            simp only [ne_eq, Bool.and_eq_true, decide_eq_true_eq, Bool.not_eq_true', decide_eq_false_iff_not] at h3
            simp only [entOk, hm, Bool.true_and, Bool.or_eq_true, decide_eq_true_eq, hme]
            by_cases h5 : e.kind = 0
            · exact .inl h5
            · exact .inr (by have : ¬ n ≤ (x : Int) * 8 + k := fun hh => h3 ⟨h5, hh⟩
                             omega)
          refine G_run tOk eok_rright 60 (fun _ => none) (fun bs => rfl) (fun bs => ?_) (fun bs => ?_)
          · simp only [he1]
            (repeat' apply And.intro) <;> (intros; first | exact trivial | exact rfl | omega | exact u8_lo _ | exact u8_hi _ | exact u8_in64 _ | exact u8_in63 _ | (simp only [inR, IntKind.bits]; omega) | (simp [inR, IntKind.bits]; done) | (simp [inR, IntKind.bits] at * <;> omega) | (simp_all; done) | skip)
          refine G_lp [0] (k + 1) ?ok2 ?wk3
          case ok2 => exact ⟨⟨hk2', hyes h4⟩, by omega⟩
          case wk3 =>
            (repeat' apply And.intro) <;> (first | exact rfl | exact trivial | omega | refine sigEq ?_ | skip)
            all_goals (show (someN (leaf t0 x) k || !decide ((List.getD (t0.getD (Int.toNat (x : Int)) LK.tbl.dft) (Int.toNat (k : Int)) LK.ent.dft).kind = 0)) = someN (leaf t0 x) (k + 1); rw [he1, hsm, hme])
    · have hk2' : k = 8 := by omega
      subst hk2'
      refine G_run tOk eok_rright 60 (fun _ => none) (fun bs => rfl) (fun bs => ?_) (fun bs => ?_)
      · (repeat' apply And.intro) <;> (intros; first | exact trivial | exact rfl | omega | exact u8_lo _ | exact u8_hi _ | exact u8_in64 _ | exact u8_in63 _ | (simp only [inR, IntKind.bits]; omega) | (simp [inR, IntKind.bits]; done) | (simp [inR, IntKind.bits] at * <;> omega) | (simp_all; done) | skip)
      refine G_cond (b := !someN (leaf t0 x) 8) rfl rfl (fun h3 => ?_) (fun h3 => ?_)
      · refine G_run tOk eok_rright 60 (fun _ => none) (fun bs => rfl) (fun bs => ?_) (fun bs => ?_)
        · (repeat' apply And.intro) <;> (intros; first | exact trivial | exact rfl | omega | exact u8_lo _ | exact u8_hi _ | exact u8_in64 _ | exact u8_in63 _ | (simp only [inR, IntKind.bits]; omega) | (simp [inR, IntKind.bits]; done) | (simp [inR, IntKind.bits] at * <;> omega) | (simp_all; done) | skip)
        refine G_ret tOk hM0 rfl rfl ⟨trivial, trivial⟩ ?_
        conv => whnf
        refine (hrow ?_).symm
        have h4 : someN (leaf t0 x) 8 = false := by simpa using h3
        simp [rowB, h4]
      · refine G_run tOk eok_rright 60 (fun _ => none) (fun bs => rfl) (fun bs => ?_) (fun bs => ?_)
        · (repeat' apply And.intro) <;> (intros; first | exact trivial | exact rfl | omega | exact u8_lo _ | exact u8_hi _ | exact u8_in64 _ | exact u8_in63 _ | (simp only [inR, IntKind.bits]; omega) | (simp [inR, IntKind.bits]; done) | (simp [inR, IntKind.bits] at * <;> omega) | (simp_all; done) | skip)
        refine G_lp [0] (x + 1) ?ok4 ?wk5
        case ok4 =>
          refine ⟨⟨hk', hrow2 ?_⟩, by omega⟩
          have h4 : someN (leaf t0 x) 8 = true := by simpa using h3
          simp [rowB, h4, hr2, h8]
        case wk5 => (repeat' apply And.intro) <;> (first | exact rfl | exact trivial | omega | refine sigEq ?_ | skip)
  · have hk' : x = t0.length := by omega
    subst hk'
    refine G_run tOk eok_rright 60 (fun _ => none) (fun bs => rfl) (fun bs => ?_) (fun bs => ?_)
    · (repeat' apply And.intro) <;> (intros; first | exact trivial | exact rfl | omega | exact u8_lo _ | exact u8_hi _ | exact u8_in64 _ | exact u8_in63 _ | (simp only [inR, IntKind.bits]; omega) | (simp [inR, IntKind.bits]; done) | (simp [inR, IntKind.bits] at * <;> omega) | (simp_all; done) | skip)
    refine G_ret tOk hM0 rfl rfl ⟨trivial, trivial⟩ ?_
    conv => whnf
    rw [hR, hr]

def rright_s : FSpec
  | [.g [.pv (.lst .tbl t0)], .c (.pv (.val (.int .i64 n))), .c (.pv (.val (.int .i64 c)))] => some ((t0.length ≤ 1000000000) ∧ (∀ i, (leaf t0 i).length ≤ 1000000000), false, .x (.c (bv (rightT t0 n c))))
  | _ => none
theorem rright_s_ok : SpecOk Try.prog 15 rright_s := by
  intro args pre sh rv h hp; unfold rright_s at h; split at h
  · cases h; obtain ⟨hl, hf⟩ := hp; exact rright_fn _ _ _ hl hf
  · cases h
def psi_rright : FuncId → Option FSpec := psiCons 15 rright_s psi_right
theorem psi_rright_ok : PsiFn Try.prog psi_rright := psiCons_ok rright_s_ok psi_right_ok
def atT (t : List (List Entry)) (i : Int) : Entry := if i < 0 then entZ else (leaf t (i / 8).toNat).getD (i % 8).toNat entZ

def env_tget : Env := ⟨T, psi_rright, pspNil, 34, [], none, true⟩
theorem eok_tget : PsiOk Try.prog env_tget := ⟨psi_rright_ok, pspNil_ok⟩
theorem tget_fn (t0 : List (List Entry)) (i : Int) (hl : t0.length ≤ 1000000000) (hf : ∀ i, (leaf t0 i).length ≤ 1000000000) (hi : i ≤ 9223372036854775807) : Ctr Try.prog 16 false [.g [.pv (.lst .tbl t0)], int .i64 i] (.x (.g [i64 (atT t0 i).kind, i64 (atT t0 i).start, i64 (atT t0 i).count, i64 (atT t0 i).size, .val (.int .u32 (atT t0 i).sum)])) := by
  refine Ctr_intro (E := env_tget) Try.func16 rfl (by decide) rfl rfl (fun M0 W hM0 => ?_)
  by_cases h0 : i < 0
  · refine G_run tOk eok_tget 60 (fun _ => some true) (fun bs => rfl) (fun bs => ?_) (fun bs => ?_)
    · (repeat' apply And.intro) <;> (intros; first | exact trivial | exact rfl | omega | exact u8_lo _ | exact u8_hi _ | exact u8_in64 _ | exact u8_in63 _ | (simp only [inR, IntKind.bits]; omega) | (simp [inR, IntKind.bits, h0]; done) | (simp [inR, IntKind.bits, h0] at * <;> omega) | (simp_all; done) | skip)
    refine G_thn rfl rfl ?c1 ?_
    case c1 => simp [h0]
    refine G_run tOk eok_tget 60 (fun _ => none) (fun bs => rfl) (fun bs => ?_) (fun bs => ?_)
    · (repeat' apply And.intro) <;> (intros; first | exact trivial | exact rfl | omega | exact u8_lo _ | exact u8_hi _ | exact u8_in64 _ | exact u8_in63 _ | (simp only [inR, IntKind.bits]; omega) | (simp [inR, IntKind.bits]; done) | (simp [inR, IntKind.bits] at * <;> omega) | (simp_all; done) | skip)
    refine G_ret tOk hM0 rfl rfl ⟨rfl, trivial⟩ ?_
    have : atT t0 i = entZ := by unfold atT; rw [if_pos h0]
    rw [this]
    exact ⟨⟨rfl, rfl⟩, ⟨rfl, rfl⟩, ⟨rfl, rfl⟩, ⟨rfl, rfl⟩, ⟨rfl, rfl⟩, trivial⟩
  have hq : 0 ≤ i / 8 := by omega
  have hq2 : i / 8 ≤ i := by omega
  have hlx : t0.getD (Int.toNat (i / 8)) LK.tbl.dft = leaf t0 (i / 8).toNat := rfl
  have hfx := hf (i / 8).toNat
  have hA : atT t0 i = (leaf t0 (i / 8).toNat).getD (i % 8).toNat entZ := by unfold atT; rw [if_neg h0]
  by_cases h1 : (t0.length : Int) ≤ i / 8
  · refine G_run tOk eok_tget 60 (fun _ => some false) (fun bs => rfl) (fun bs => ?_) (fun bs => ?_)
    · (repeat' apply And.intro) <;> (intros; first | exact trivial | exact rfl | omega | exact u8_lo _ | exact u8_hi _ | exact u8_in64 _ | exact u8_in63 _ | (simp only [inR, IntKind.bits]; omega) | (simp [inR, IntKind.bits, h0]; done) | (simp [inR, IntKind.bits, h0] at * <;> omega) | (simp_all; done) | skip)
    refine G_thn rfl rfl ?c2 ?_
    case c2 => simp [h0, h1]
    refine G_run tOk eok_tget 60 (fun _ => none) (fun bs => rfl) (fun bs => ?_) (fun bs => ?_)
    · (repeat' apply And.intro) <;> (intros; first | exact trivial | exact rfl | omega | exact u8_lo _ | exact u8_hi _ | exact u8_in64 _ | exact u8_in63 _ | (simp only [inR, IntKind.bits]; omega) | (simp [inR, IntKind.bits]; done) | (simp [inR, IntKind.bits] at * <;> omega) | (simp_all; done) | skip)
    refine G_ret tOk hM0 rfl rfl ⟨rfl, trivial⟩ ?_
    have : atT t0 i = entZ := by rw [hA, leaf_app (by omega)]; rfl
    rw [this]
    exact ⟨⟨rfl, rfl⟩, ⟨rfl, rfl⟩, ⟨rfl, rfl⟩, ⟨rfl, rfl⟩, ⟨rfl, rfl⟩, trivial⟩
  refine G_run tOk eok_tget 60 (fun _ => some false) (fun bs => rfl) (fun bs => ?_) (fun bs => ?_)
  · (repeat' apply And.intro) <;> (intros; first | exact trivial | exact rfl | omega | exact u8_lo _ | exact u8_hi _ | exact u8_in64 _ | exact u8_in63 _ | (simp only [inR, IntKind.bits]; omega) | (simp [inR, IntKind.bits, h0]; done) | (simp [inR, IntKind.bits, h0] at * <;> omega) | (simp_all; done) | skip)
  refine G_els rfl rfl ?c3 ?_
  case c3 => simp [h0, h1]
  refine G_run tOk eok_tget 60 (fun _ => none) (fun bs => rfl) (fun bs => ?_) (fun bs => ?_)
  · simp only [hlx]
    (repeat' apply And.intro) <;> (intros; first | exact trivial | exact rfl | omega | exact u8_lo _ | exact u8_hi _ | exact u8_in64 _ | exact u8_in63 _ | (simp only [inR, IntKind.bits]; omega) | (simp [inR, IntKind.bits]; done) | (simp [inR, IntKind.bits] at * <;> omega) | (simp_all; done) | skip)
  refine G_cond rfl rfl (fun h2 => ?_) (fun h2 => ?_)
  · refine G_run tOk eok_tget 60 (fun _ => none) (fun bs => rfl) (fun bs => ?_) (fun bs => ?_)
    · (repeat' apply And.intro) <;> (intros; first | exact trivial | exact rfl | omega | exact u8_lo _ | exact u8_hi _ | exact u8_in64 _ | exact u8_in63 _ | (simp only [inR, IntKind.bits]; omega) | (simp [inR, IntKind.bits]; done) | (simp [inR, IntKind.bits] at * <;> omega) | (simp_all; done) | skip)
    refine G_ret tOk hM0 rfl rfl ⟨rfl, trivial⟩ ?_
    have : atT t0 i = entZ := by
      rw [hA, List.getD, List.getElem?_eq_none]
      · rfl
      · simp only [hlx, decide_eq_true_eq] at h2; omega
    rw [this]
    exact ⟨⟨rfl, rfl⟩, ⟨rfl, rfl⟩, ⟨rfl, rfl⟩, ⟨rfl, rfl⟩, ⟨rfl, rfl⟩, trivial⟩
  · simp only [hlx, decide_eq_false_iff_not] at h2
    refine G_run tOk eok_tget 60 (fun _ => none) (fun bs => rfl) (fun bs => ?_) (fun bs => ?_)
    · simp only [hlx]
      (repeat' apply And.intro) <;> (intros; first | exact trivial | exact rfl | omega | exact u8_lo _ | exact u8_hi _ | exact u8_in64 _ | exact u8_in63 _ | (simp only [inR, IntKind.bits]; omega) | (simp [inR, IntKind.bits]; done) | (simp [inR, IntKind.bits] at * <;> omega) | (simp_all; done) | skip)
    refine G_ret tOk hM0 rfl rfl ⟨rfl, trivial⟩ ?_
    rw [hA]
    exact ⟨⟨rfl, rfl⟩, ⟨rfl, rfl⟩, ⟨rfl, rfl⟩, ⟨rfl, rfl⟩, ⟨rfl, rfl⟩, trivial⟩

def tget_s : FSpec
  | [.g [.pv (.lst .tbl t0)], .c (.pv (.val (.int .i64 i)))] => some ((t0.length ≤ 1000000000) ∧ (∀ i, (leaf t0 i).length ≤ 1000000000) ∧ (i ≤ 9223372036854775807), false, .x (.g [i64 (atT t0 i).kind, i64 (atT t0 i).start, i64 (atT t0 i).count, i64 (atT t0 i).size, .val (.int .u32 (atT t0 i).sum)]))
  | _ => none
theorem tget_s_ok : SpecOk Try.prog 16 tget_s := by
  intro args pre sh rv h hp; unfold tget_s at h; split at h
  · cases h; obtain ⟨hl, hf, hi⟩ := hp; exact tget_fn _ _ hl hf hi
  · cases h
def psi_tget : FuncId → Option FSpec := psiCons 16 tget_s psi_rright
theorem psi_tget_ok : PsiFn Try.prog psi_tget := psiCons_ok tget_s_ok psi_rright_ok
def env_rat : Env := ⟨T, psi_tget, pspNil, 38, [], none, true⟩
theorem eok_rat : PsiOk Try.prog env_rat := ⟨psi_tget_ok, pspNil_ok⟩
theorem rat_fn (t0 : List (List Entry)) (i : Int) (hl : t0.length ≤ 1000000000) (hf : ∀ i, (leaf t0 i).length ≤ 1000000000) (hi : i ≤ 9223372036854775807) : Ctr Try.prog 17 false [.g [.pv (.lst .tbl t0)], int .i64 i] (.x (.g [i64 (atT t0 i).kind, i64 (atT t0 i).start, i64 (atT t0 i).count, i64 (atT t0 i).size, .val (.int .u32 (atT t0 i).sum)])) := by
  refine Ctr_intro (E := env_rat) Try.func17 rfl (by decide) rfl rfl (fun M0 W hM0 => ?_)
  by_cases h0 : i < 0
  · refine G_run tOk eok_rat 60 (fun _ => some true) (fun bs => rfl) (fun bs => ?_) (fun bs => ?_)
    · (repeat' apply And.intro) <;> (intros; first | exact trivial | exact rfl | omega | exact u8_lo _ | exact u8_hi _ | exact u8_in64 _ | exact u8_in63 _ | (simp only [inR, IntKind.bits]; omega) | (simp [inR, IntKind.bits, h0]; done) | (simp [inR, IntKind.bits, h0] at * <;> omega) | (simp_all; done) | skip)
    refine G_thn rfl rfl ?c1 ?_
    case c1 => simp [h0]
    refine G_run tOk eok_rat 60 (fun _ => none) (fun bs => rfl) (fun bs => ?_) (fun bs => ?_)
    · (repeat' apply And.intro) <;> (intros; first | exact trivial | exact rfl | omega | exact u8_lo _ | exact u8_hi _ | exact u8_in64 _ | exact u8_in63 _ | (simp only [inR, IntKind.bits]; omega) | (simp [inR, IntKind.bits]; done) | (simp [inR, IntKind.bits] at * <;> omega) | (simp_all; done) | skip)
    refine G_ret tOk hM0 rfl rfl ⟨rfl, trivial⟩ ?_
    have : atT t0 i = entZ := by unfold atT; rw [if_pos h0]
    rw [this]
    exact ⟨⟨rfl, rfl⟩, ⟨rfl, rfl⟩, ⟨rfl, rfl⟩, ⟨rfl, rfl⟩, ⟨rfl, rfl⟩, trivial⟩
  have hq : 0 ≤ i / 8 := by omega
  have hq2 : i / 8 ≤ i := by omega
  have hlx : t0.getD (Int.toNat (i / 8)) LK.tbl.dft = leaf t0 (i / 8).toNat := rfl
  have hfx := hf (i / 8).toNat
  have hA : atT t0 i = (leaf t0 (i / 8).toNat).getD (i % 8).toNat entZ := by unfold atT; rw [if_neg h0]
  by_cases h1 : (t0.length : Int) ≤ i / 8
  · refine G_run tOk eok_rat 60 (fun j => match j with | 2 => some false | 10 => some true | _ => none) (fun bs => rfl) (fun bs => ?_) (fun bs => ?_)
    · simp only [hlx]
      (repeat' apply And.intro) <;> (intros; first | exact trivial | exact rfl | omega | exact u8_lo _ | exact u8_hi _ | exact u8_in64 _ | exact u8_in63 _ | (simp only [inR, IntKind.bits]; omega) | (simp [inR, IntKind.bits]; done) | (simp [inR, IntKind.bits] at * <;> omega) | (simp_all; done) | skip)
    refine G_thn rfl rfl ?c2 ?_
    case c2 => simp [h0, h1]
    refine G_run tOk eok_rat 60 (fun _ => none) (fun bs => rfl) (fun bs => ?_) (fun bs => ?_)
    · (repeat' apply And.intro) <;> (intros; first | exact trivial | exact rfl | omega | exact u8_lo _ | exact u8_hi _ | exact u8_in64 _ | exact u8_in63 _ | (simp only [inR, IntKind.bits]; omega) | (simp [inR, IntKind.bits]; done) | (simp [inR, IntKind.bits] at * <;> omega) | (simp_all; done) | skip)
    refine G_ret tOk hM0 rfl rfl ⟨rfl, trivial⟩ ?_
    have : atT t0 i = entZ := by rw [hA, leaf_app (by omega)]; rfl
    rw [this]
    exact ⟨⟨rfl, rfl⟩, ⟨rfl, rfl⟩, ⟨rfl, rfl⟩, ⟨rfl, rfl⟩, ⟨rfl, rfl⟩, trivial⟩
  refine G_run tOk eok_rat 60 (fun j => match j with | 2 => some false | 10 => some false | _ => none) (fun bs => rfl) (fun bs => ?_) (fun bs => ?_)
  · simp only [hlx]
    (repeat' apply And.intro) <;> (intros; first | exact trivial | exact rfl | omega | exact u8_lo _ | exact u8_hi _ | exact u8_in64 _ | exact u8_in63 _ | (simp only [inR, IntKind.bits]; omega) | (simp [inR, IntKind.bits]; done) | (simp [inR, IntKind.bits] at * <;> omega) | (simp_all; done) | skip)
  refine G_cond rfl rfl (fun h2 => ?_) (fun h2 => ?_)
  · refine G_run tOk eok_rat 60 (fun _ => none) (fun bs => rfl) (fun bs => ?_) (fun bs => ?_)
    · (repeat' apply And.intro) <;> (intros; first | exact trivial | exact rfl | omega | exact u8_lo _ | exact u8_hi _ | exact u8_in64 _ | exact u8_in63 _ | (simp only [inR, IntKind.bits]; omega) | (simp [inR, IntKind.bits]; done) | (simp [inR, IntKind.bits] at * <;> omega) | (simp_all; done) | skip)
    refine G_ret tOk hM0 rfl rfl ⟨rfl, trivial⟩ ?_
    have : atT t0 i = entZ := by
      rw [hA, List.getD, List.getElem?_eq_none]
      · rfl
      · simp only [hlx, Bool.or_eq_true, decide_eq_true_eq] at h2; omega
    rw [this]
    exact ⟨⟨rfl, rfl⟩, ⟨rfl, rfl⟩, ⟨rfl, rfl⟩, ⟨rfl, rfl⟩, ⟨rfl, rfl⟩, trivial⟩
  · simp only [hlx, Bool.or_eq_false_iff, decide_eq_false_iff_not] at h2
    refine G_run tOk eok_rat 60 (fun _ => none) (fun bs => rfl) (fun bs => ?_) (fun bs => ?_)
    · simp only [hlx]
      (repeat' apply And.intro) <;> (intros; first | exact trivial | exact rfl | omega | exact u8_lo _ | exact u8_hi _ | exact u8_in64 _ | exact u8_in63 _ | (simp only [inR, IntKind.bits]; omega) | (simp [inR, IntKind.bits]; done) | (simp [inR, IntKind.bits] at * <;> omega) | (simp_all; done) | skip)
    refine G_ret tOk hM0 rfl rfl ⟨rfl, trivial⟩ ?_
    rw [hA]
    exact ⟨⟨rfl, rfl⟩, ⟨rfl, rfl⟩, ⟨rfl, rfl⟩, ⟨rfl, rfl⟩, ⟨rfl, rfl⟩, trivial⟩

def rat_s : FSpec
  | [.g [.pv (.lst .tbl t0)], .c (.pv (.val (.int .i64 i)))] => some ((t0.length ≤ 1000000000) ∧ (∀ i, (leaf t0 i).length ≤ 1000000000) ∧ (i ≤ 9223372036854775807), false, .x (.g [i64 (atT t0 i).kind, i64 (atT t0 i).start, i64 (atT t0 i).count, i64 (atT t0 i).size, .val (.int .u32 (atT t0 i).sum)]))
  | _ => none
theorem rat_s_ok : SpecOk Try.prog 17 rat_s := by
  intro args pre sh rv h hp; unfold rat_s at h; split at h
  · cases h; obtain ⟨hl, hf, hi⟩ := hp; exact rat_fn _ _ hl hf hi
  · cases h
def psi_rat : FuncId → Option FSpec := psiCons 17 rat_s psi_tget
theorem psi_rat_ok : PsiFn Try.prog psi_rat := psiCons_ok rat_s_ok psi_tget_ok
end Go.Proofs.Ytnmomckmpknbkaa
