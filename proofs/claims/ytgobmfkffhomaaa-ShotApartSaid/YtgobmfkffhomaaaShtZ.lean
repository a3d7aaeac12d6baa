import Derived.Test.YtgobmfkffhomaaaShtY
set_option linter.unusedSimpArgs false
set_option linter.unusedVariables false
set_option maxHeartbeats 1600000
namespace Go.Proofs.Ytgobmfkffhomaaa
open Go.Mt
namespace Tt
def env_trright2 : Env := ⟨T, psi_sturns, pspNil, psc_del, 107, [], none, true⟩
theorem eok_trright2 : PsiOk Try.prog env_trright2 := ⟨psi_sturns_ok, pspNil_ok, psc_del_ok⟩
theorem trright2_fn (t0 : List (List Entry)) (n : Int) (c : Int) (hl : t0.length ≤ 9223372036854775807) (hf : ∀ i, (leaf t0 i).length ≤ 9223372036854775807) : Ctr Try.prog 19 false [.g [.pv (.lst .tbl t0)], int .i64 n, int .i64 c] (.x (.c (bv (rightT t0 n c)))) := by
  refine Ctr_intro (E := env_trright2) Try.func19 rfl (by decide) rfl rfl (fun M0 W hM0 => ?_)
  refine G_run tOk eok_trright2 60 (fun _ => none) (fun bs => rfl) (fun bs => ?_) (fun bs => ?_)
  · (repeat' apply And.intro) <;> (intros; first | exact trivial | exact rfl | omega | exact u8_lo _ | exact u8_hi _ | exact u8_in64 _ | exact u8_in63 _ | (simp only [inR, IntKind.bits]; omega) | (simp [inR, IntKind.bits]; done) | (simp [inR, IntKind.bits] at * <;> omega) | (simp_all; done) | (with_reducible assumption) | skip)
  generalize (bs 0 0).bn = b
  have hll : t0.getD (Int.toNat ((t0.length : Int) - 1)) LK.tbl.dft = leaf t0 (t0.length - 1) := by
    rw [show Int.toNat ((t0.length : Int) - 1) = t0.length - 1 by omega]; rfl
  refine G_cond (b := decide (n < 0) || decide (4096 < n) || decide (c < 0) || decide (6 < c) || (decide (0 < (t0.length : Int)) && decide (((t0.getD (Int.toNat ((t0.length : Int) - 1)) LK.tbl.dft).length : Int) = 0)) || decide (512 < (t0.length : Int))) rfl rfl (fun h => ?_) (fun h => ?_)
  · refine G_run tOk eok_trright2 60 (fun _ => none) (fun bs => rfl) (fun bs => ?_) (fun bs => ?_)
    · (repeat' apply And.intro) <;> (intros; first | exact trivial | exact rfl | omega | exact u8_lo _ | exact u8_hi _ | exact u8_in64 _ | exact u8_in63 _ | (simp only [inR, IntKind.bits]; omega) | (simp [inR, IntKind.bits]; done) | (simp [inR, IntKind.bits] at * <;> omega) | (simp_all; done) | (with_reducible assumption) | skip)
    refine G_ret tOk hM0 rfl rfl ⟨trivial, trivial⟩ ?_
    conv => whnf
    rw [hll] at h
    cases hr : rightT t0 n c with
    | false => rfl
    | true =>
      exfalso
      by_cases h5 : 512 < t0.length
      · exact right_few hr h5
      · simp only [rightT, Bool.and_eq_true, Bool.not_eq_true', Bool.or_eq_false_iff, decide_eq_false_iff_not] at hr
        obtain ⟨⟨⟨⟨a1, a2⟩, a3⟩, a4⟩, hN⟩ := hr
        simp only [Bool.or_eq_true, Bool.and_eq_true, decide_eq_true_eq] at h
        have hz : 0 < t0.length ∧ (leaf t0 (t0.length - 1)).length = 0 := by omega
        have : rightN t0 n c t0.length = false := rightN_false (i := t0.length - 1 + 1) (by
          have hd : decide (t0.length - 1 + 1 < t0.length) = false := by simp; omega
          simp [rightN, okRow, hd, rowB, hz.2]) (by omega)
        rw [this] at hN; cases hN
  rw [hll] at h
  simp only [Bool.or_eq_false_iff, Bool.and_eq_false_iff, decide_eq_false_iff_not] at h
  have hb : 0 ≤ n ∧ n ≤ 4096 ∧ 0 ≤ c ∧ c ≤ 6 ∧ t0.length ≤ 512 ∧ (0 < t0.length → 0 < (leaf t0 (t0.length - 1)).length) := by omega
  have hR : rightT t0 n c = rightN t0 n c t0.length := by
    have e : (decide (n < 0) || decide (4096 < n) || decide (c < 0) || decide (6 < c)) = false := by simp; omega
    simp only [rightT, e]; rfl
  have hF : ∀ x, x < t0.length → okRow t0 n c x = false → rightT t0 n c = false := fun x hx ho => right_at ho hx
  clear h
  refine G_run tOk eok_trright2 60 (fun _ => none) (fun bs => rfl) (fun bs => ?_) (fun bs => ?_)
  · (repeat' apply And.intro) <;> (intros; first | exact trivial | exact rfl | omega | exact u8_lo _ | exact u8_hi _ | exact u8_in64 _ | exact u8_in63 _ | (simp only [inR, IntKind.bits]; omega) | (simp [inR, IntKind.bits]; done) | (simp [inR, IntKind.bits] at * <;> omega) | (simp_all; done) | (with_reducible assumption) | skip)
  refine G_loop (fun x : Nat => [(1, int .i64 n), (2, int .i64 c), (3, .c (.ptr 0 b 0)), (7, int .i64 x)]) (fun x => [.blk b 26 [.pv (.lst .tbl t0)]]) (fun x => x ≤ t0.length ∧ rightN t0 n c x = true) (fun x => t0.length - x) rfl [0] 0 ⟨Nat.zero_le _, rfl⟩ ?wk (fun x hx => ?_)
  case wk => (repeat' apply And.intro) <;> (first | exact rfl | exact trivial | omega | refine sigEq ?_ | skip)
  obtain ⟨hx, hr⟩ := hx
  refine G_run tOk eok_trright2 60 (fun _ => none) (fun bs => rfl) (fun bs => ?_) (fun bs => ?_)
  · (repeat' apply And.intro) <;> (intros; first | exact trivial | exact rfl | omega | exact u8_lo _ | exact u8_hi _ | exact u8_in64 _ | exact u8_in63 _ | (simp only [inR, IntKind.bits]; omega) | (simp [inR, IntKind.bits]; done) | (simp [inR, IntKind.bits] at * <;> omega) | (simp_all; done) | (with_reducible assumption) | skip)
  refine G_if rfl rfl (fun hk => ?_) (fun hk => ?_)
  · have hk' : x < t0.length := by omega
    have hlf := hf x
    have hlx : t0.getD (Int.toNat (x : Int)) LK.tbl.dft = leaf t0 x := rfl
    refine G_run tOk eok_trright2 60 (fun _ => none) (fun bs => rfl) (fun bs => ?_) (fun bs => ?_)
    · (repeat' apply And.intro) <;> (intros; first | exact trivial | exact rfl | omega | exact u8_lo _ | exact u8_hi _ | exact u8_in64 _ | exact u8_in63 _ | (simp only [inR, IntKind.bits]; omega) | (simp [inR, IntKind.bits]; done) | (simp [inR, IntKind.bits] at * <;> omega) | (simp_all; done) | (with_reducible assumption) | skip)
    refine G_cond (b := decide (((leaf t0 x).length : Int) = 0)) rfl rfl (fun h1 => ?_) (fun h1 => ?_)
    · have h1' : (leaf t0 x).length = 0 := by
        simp only [decide_eq_true_eq] at h1; omega
      have h1'' : x + 1 < t0.length := by
        by_cases e : x + 1 < t0.length
        · exact e
        · have := hb.2.2.2.2.2 (by omega)
          rw [show t0.length - 1 = x by omega] at this; omega
      refine G_run tOk eok_trright2 60 (fun _ => none) (fun bs => rfl) (fun bs => ?_) (fun bs => ?_)
      · (repeat' apply And.intro) <;> (intros; first | exact trivial | exact rfl | omega | exact u8_lo _ | exact u8_hi _ | exact u8_in64 _ | exact u8_in63 _ | (simp only [inR, IntKind.bits]; omega) | (simp [inR, IntKind.bits]; done) | (simp [inR, IntKind.bits] at * <;> omega) | (simp_all; done) | (with_reducible assumption) | skip)
      refine G_lp [0] (x + 1) ?ok1 ?wk1
      case ok1 => exact ⟨⟨hk', by simp [rightN, hr, okRow, h1'', List.eq_nil_of_length_eq_zero h1']⟩, by omega⟩
      case wk1 => (repeat' apply And.intro) <;> (first | exact rfl | exact trivial | omega | refine sigEq ?_ | skip)
    have h1' : ¬ ((leaf t0 x).length = 0 ∧ x + 1 < t0.length) := by
      intro hh; rw [Bool.eq_false_iff] at h1; apply h1
      simp only [decide_eq_true_eq]; omega
    refine G_run tOk eok_trright2 60 (fun _ => none) (fun bs => rfl) (fun bs => ?_) (fun bs => ?_)
    · (repeat' apply And.intro) <;> (intros; first | exact trivial | exact rfl | omega | exact u8_lo _ | exact u8_hi _ | exact u8_in64 _ | exact u8_in63 _ | (simp only [inR, IntKind.bits]; omega) | (simp [inR, IntKind.bits]; done) | (simp [inR, IntKind.bits] at * <;> omega) | (simp_all; done) | (with_reducible assumption) | skip)
    refine G_cond (b := !decide (((leaf t0 x).length : Int) = 8)) rfl rfl (fun h2 => ?_) (fun h2 => ?_)
    · refine G_run tOk eok_trright2 60 (fun _ => none) (fun bs => rfl) (fun bs => ?_) (fun bs => ?_)
      · (repeat' apply And.intro) <;> (intros; first | exact trivial | exact rfl | omega | exact u8_lo _ | exact u8_hi _ | exact u8_in64 _ | exact u8_in63 _ | (simp only [inR, IntKind.bits]; omega) | (simp [inR, IntKind.bits]; done) | (simp [inR, IntKind.bits] at * <;> omega) | (simp_all; done) | (with_reducible assumption) | skip)
      refine G_ret tOk hM0 rfl rfl ⟨trivial, trivial⟩ ?_
      conv => whnf
      refine (hF x hk' (okRow_no h1' ?_)).symm
      have : ¬ (leaf t0 x).length = 8 := by simp at h2; omega
      simp [rowB, this]
    have h8 : (leaf t0 x).length = 8 := by simp at h2; omega
    refine G_run tOk eok_trright2 60 (fun _ => none) (fun bs => rfl) (fun bs => ?_) (fun bs => ?_)
    · (repeat' apply And.intro) <;> (intros; first | exact trivial | exact rfl | omega | exact u8_lo _ | exact u8_hi _ | exact u8_in64 _ | exact u8_in63 _ | (simp only [inR, IntKind.bits]; omega) | (simp [inR, IntKind.bits]; done) | (simp [inR, IntKind.bits] at * <;> omega) | (simp_all; done) | (with_reducible assumption) | skip)
    have hrow : rowB c n x (leaf t0 x) = false → rightT t0 n c = false := fun hh => hF x hk' (okRow_no h1' hh)
    have hrow2 : rowB c n x (leaf t0 x) = true → rightN t0 n c (x + 1) = true := fun hh => by simp [rightN, hr, okRow, hh]
    refine G_loop (fun k : Nat => [(1, int .i64 n), (2, int .i64 c), (3, .c (.ptr 0 b 0)), (7, int .i64 x), (8, bool (someN (leaf t0 x) k)), (9, int .i64 k)]) (fun k => [.blk b 26 [.pv (.lst .tbl t0)]]) (fun k => k ≤ 8 ∧ rowN c n x (leaf t0 x) k = true) (fun k => 8 - k) rfl [0] 0 ⟨Nat.zero_le _, rfl⟩ ?wk2 (fun k hx2 => ?_)
    case wk2 => (repeat' apply And.intro) <;> (first | exact rfl | exact trivial | omega | refine sigEq ?_ | skip)
    obtain ⟨hx2, hr2⟩ := hx2
    have hx4 : x ≤ 1000000000 := by omega
    refine G_run tOk eok_trright2 60 (fun _ => none) (fun bs => rfl) (fun bs => ?_) (fun bs => ?_)
    · (repeat' apply And.intro) <;> (intros; first | exact trivial | exact rfl | omega | exact u8_lo _ | exact u8_hi _ | exact u8_in64 _ | exact u8_in63 _ | (simp only [inR, IntKind.bits]; omega) | (simp [inR, IntKind.bits]; done) | (simp [inR, IntKind.bits] at * <;> omega) | (simp_all; done) | (with_reducible assumption) | skip)
    refine G_if rfl rfl (fun hk2 => ?_) (fun hk2 => ?_)
    · have hk2' : k < 8 := by omega
      obtain ⟨e, he⟩ : ∃ e, (leaf t0 x).getD k entZ = e := ⟨_, rfl⟩
      have he1 : List.getD (t0.getD (Int.toNat (x : Int)) LK.tbl.dft) (Int.toNat (k : Int)) LK.ent.dft = e := he
      have hno : entOk c n (x * 8 + k) e = false → rightT t0 n c = false := fun hh => hrow (by
        have : rowN c n x (leaf t0 x) 8 = false := rowN_false (i := k + 1) (by simp only [rowN, he, hh, Bool.and_false]) hk2'
        simp [rowB, this])
      have hyes : entOk c n (x * 8 + k) e = true → rowN c n x (leaf t0 x) (k + 1) = true := fun hh => by simp only [rowN, he, hr2, hh, Bool.and_self]
      have hsm : someN (leaf t0 x) (k + 1) = (someN (leaf t0 x) k || !noneX e) := by simp only [someN, he]
      have hlx8 : (t0.getD (Int.toNat (x : Int)) LK.tbl.dft).length = 8 := h8
      cases hm : mayX c e with
      | false =>
        refine G_run tOk eok_trright2 60 (fun j => match j with | 4 => some true | 8 => some true | _ => none) (fun bs => rfl) (fun bs => ?_) (fun bs => ?_)
        · simp only [he1, mayX_def, hm, hlx8]
          (repeat' apply And.intro) <;> (intros; first | exact trivial | exact rfl | omega | exact u8_lo _ | exact u8_hi _ | exact u8_in64 _ | exact u8_in63 _ | (simp only [inR, IntKind.bits]; omega) | (simp [inR, IntKind.bits]; done) | (simp [inR, IntKind.bits] at * <;> omega) | (simp_all; done) | (with_reducible assumption) | skip)
        refine G_thn rfl rfl ?c1 ?_
        case c1 => simp [he1, mayX_def, hm]
        refine G_run tOk eok_trright2 60 (fun _ => none) (fun bs => rfl) (fun bs => ?_) (fun bs => ?_)
        · (repeat' apply And.intro) <;> (intros; first | exact trivial | exact rfl | omega | exact u8_lo _ | exact u8_hi _ | exact u8_in64 _ | exact u8_in63 _ | (simp only [inR, IntKind.bits]; omega) | (simp [inR, IntKind.bits]; done) | (simp [inR, IntKind.bits] at * <;> omega) | (simp_all; done) | (with_reducible assumption) | skip)
        refine G_ret tOk hM0 rfl rfl ⟨trivial, trivial⟩ ?_
        conv => whnf
        exact (hno (by simp [entOk, hm])).symm
      | true =>
        have hme := may_none hm
        refine G_run tOk eok_trright2 60 (fun j => match j with | 4 => some false | _ => none) (fun bs => rfl) (fun bs => ?_) (fun bs => ?_)
        · simp only [he1, mayX_def, noneX_def, hm, hlx8]
          (repeat' apply And.intro) <;> (intros; first | exact trivial | exact rfl | omega | exact u8_lo _ | exact u8_hi _ | exact u8_in64 _ | exact u8_in63 _ | (simp only [inR, IntKind.bits]; omega) | (simp [inR, IntKind.bits]; done) | (simp [inR, IntKind.bits] at * <;> omega) | (simp_all; done) | (with_reducible assumption) | skip)
        refine G_cond rfl rfl (fun h3 => ?_) (fun h3 => ?_)
        · simp only [he1, mayX_def, noneX_def, hm, Bool.not_true, Bool.false_or, Bool.and_eq_true, decide_eq_true_eq, Bool.not_eq_true', decide_eq_false_iff_not] at h3
          refine G_run tOk eok_trright2 60 (fun _ => none) (fun bs => rfl) (fun bs => ?_) (fun bs => ?_)
          · (repeat' apply And.intro) <;> (intros; first | exact trivial | exact rfl | omega | exact u8_lo _ | exact u8_hi _ | exact u8_in64 _ | exact u8_in63 _ | (simp only [inR, IntKind.bits]; omega) | (simp [inR, IntKind.bits]; done) | (simp [inR, IntKind.bits] at * <;> omega) | (simp_all; done) | (with_reducible assumption) | skip)
          refine G_ret tOk hM0 rfl rfl ⟨trivial, trivial⟩ ?_
          conv => whnf
          refine (hno ?_).symm
          have h4 : ¬ ((x : Int) * 8 + k < n) := by omega
          have h5 : noneX e = false := by rw [hme]; simpa using h3.1
          simp [entOk, h4, h5]
        · simp only [he1, mayX_def, noneX_def, hm, Bool.not_true, Bool.false_or] at h3
          have h4 : entOk c n (x * 8 + k) e = true := by
            rw [Bool.eq_false_iff] at h3
            simp only [ne_eq, Bool.and_eq_true, decide_eq_true_eq, Bool.not_eq_true', decide_eq_false_iff_not] at h3
            simp only [entOk, hm, Bool.true_and, Bool.or_eq_true, decide_eq_true_eq, hme]
            by_cases h5 : e.kind = 0
            · exact .inl h5
            · exact .inr (by have : ¬ n ≤ (x : Int) * 8 + k := fun hh => h3 ⟨h5, hh⟩
                             omega)
          refine G_run tOk eok_trright2 60 (fun _ => none) (fun bs => rfl) (fun bs => ?_) (fun bs => ?_)
          · simp only [he1]
            (repeat' apply And.intro) <;> (intros; first | exact trivial | exact rfl | omega | exact u8_lo _ | exact u8_hi _ | exact u8_in64 _ | exact u8_in63 _ | (simp only [inR, IntKind.bits]; omega) | (simp [inR, IntKind.bits]; done) | (simp [inR, IntKind.bits] at * <;> omega) | (simp_all; done) | (with_reducible assumption) | skip)
          refine G_lp [0] (k + 1) ?ok2 ?wk3
          case ok2 => exact ⟨⟨hk2', hyes h4⟩, by omega⟩
          case wk3 =>
            (repeat' apply And.intro) <;> (first | exact rfl | exact trivial | omega | refine sigEq ?_ | skip)
            all_goals (show (someN (leaf t0 x) k || !decide ((List.getD (t0.getD (Int.toNat (x : Int)) LK.tbl.dft) (Int.toNat (k : Int)) LK.ent.dft).kind = 0)) = someN (leaf t0 x) (k + 1); rw [he1, hsm, hme])
    · have hk2' : k = 8 := by omega
      subst hk2'
      refine G_run tOk eok_trright2 60 (fun _ => none) (fun bs => rfl) (fun bs => ?_) (fun bs => ?_)
      · (repeat' apply And.intro) <;> (intros; first | exact trivial | exact rfl | omega | exact u8_lo _ | exact u8_hi _ | exact u8_in64 _ | exact u8_in63 _ | (simp only [inR, IntKind.bits]; omega) | (simp [inR, IntKind.bits]; done) | (simp [inR, IntKind.bits] at * <;> omega) | (simp_all; done) | (with_reducible assumption) | skip)
      refine G_cond (b := !someN (leaf t0 x) 8) rfl rfl (fun h3 => ?_) (fun h3 => ?_)
      · refine G_run tOk eok_trright2 60 (fun _ => none) (fun bs => rfl) (fun bs => ?_) (fun bs => ?_)
        · (repeat' apply And.intro) <;> (intros; first | exact trivial | exact rfl | omega | exact u8_lo _ | exact u8_hi _ | exact u8_in64 _ | exact u8_in63 _ | (simp only [inR, IntKind.bits]; omega) | (simp [inR, IntKind.bits]; done) | (simp [inR, IntKind.bits] at * <;> omega) | (simp_all; done) | (with_reducible assumption) | skip)
        refine G_ret tOk hM0 rfl rfl ⟨trivial, trivial⟩ ?_
        conv => whnf
        refine (hrow ?_).symm
        have h4 : someN (leaf t0 x) 8 = false := by simpa using h3
        simp [rowB, h4]
      · refine G_run tOk eok_trright2 60 (fun _ => none) (fun bs => rfl) (fun bs => ?_) (fun bs => ?_)
        · (repeat' apply And.intro) <;> (intros; first | exact trivial | exact rfl | omega | exact u8_lo _ | exact u8_hi _ | exact u8_in64 _ | exact u8_in63 _ | (simp only [inR, IntKind.bits]; omega) | (simp [inR, IntKind.bits]; done) | (simp [inR, IntKind.bits] at * <;> omega) | (simp_all; done) | (with_reducible assumption) | skip)
        refine G_lp [0] (x + 1) ?ok4 ?wk5
        case ok4 =>
          refine ⟨⟨hk', hrow2 ?_⟩, by omega⟩
          have h4 : someN (leaf t0 x) 8 = true := by simpa using h3
          simp [rowB, h4, hr2, h8]
        case wk5 => (repeat' apply And.intro) <;> (first | exact rfl | exact trivial | omega | refine sigEq ?_ | skip)
  · have hk' : x = t0.length := by omega
    subst hk'
    refine G_run tOk eok_trright2 60 (fun _ => none) (fun bs => rfl) (fun bs => ?_) (fun bs => ?_)
    · (repeat' apply And.intro) <;> (intros; first | exact trivial | exact rfl | omega | exact u8_lo _ | exact u8_hi _ | exact u8_in64 _ | exact u8_in63 _ | (simp only [inR, IntKind.bits]; omega) | (simp [inR, IntKind.bits]; done) | (simp [inR, IntKind.bits] at * <;> omega) | (simp_all; done) | (with_reducible assumption) | skip)
    refine G_ret tOk hM0 rfl rfl ⟨trivial, trivial⟩ ?_
    conv => whnf
    rw [hR, hr]
def trright2_s : FSpec
  | [.g [.pv (.lst .tbl t0)], .c (.pv (.val (.int .i64 n))), .c (.pv (.val (.int .i64 c)))] => some ((t0.length ≤ 9223372036854775807) ∧ (∀ i, (leaf t0 i).length ≤ 9223372036854775807), false, .x (.c (bv (rightT t0 n c))))
  | _ => none
theorem trright2_s_ok : SpecOk Try.prog 19 trright2_s := by
  intro args pre sh rv h hp; unfold trright2_s at h; split at h
  · cases h; obtain ⟨hl, hf⟩ := hp; exact trright2_fn _ _ _ hl hf
  · cases h
def psi_trright2 : FuncId → Option FSpec := psiCons 19 trright2_s psi_sturns
theorem psi_trright2_ok : PsiFn Try.prog psi_trright2 := psiCons_ok trright2_s_ok psi_sturns_ok
end Tt
end Go.Proofs.Ytgobmfkffhomaaa
