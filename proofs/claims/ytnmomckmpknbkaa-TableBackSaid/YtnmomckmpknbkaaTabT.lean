import Derived.Test.YtnmomckmpknbkaaTabQ
set_option linter.unusedSimpArgs false
set_option linter.unusedVariables false
namespace Go.Proofs.Ytnmomckmpknbkaa
open Go.Mt

theorem en_eq (x y : Entry) : (decide (x.kind = y.kind) && (decide (x.start = y.start) && (decide (x.count = y.count) && (decide (x.size = y.size) && (decide (x.sum = y.sum) && true))))) = decide (x = y) := by
  cases x; cases y; simp
theorem take_eq {α : Type} {l m : List α} {i : Nat} (d : α) (h : l.take i = m.take i) (hl : i < l.length) (hm : i < m.length) : l.take (i + 1) = m.take (i + 1) ↔ l.getD i d = m.getD i d := by
  have e1 : l.getD i d = l[i] := by simp [List.getD, List.getElem?_eq_getElem hl]
  have e2 : m.getD i d = m[i] := by simp [List.getD, List.getElem?_eq_getElem hm]
  rw [List.take_succ_eq_append_getElem hl, List.take_succ_eq_append_getElem hm, h, e1, e2]
  constructor
  · intro h; simpa using List.append_cancel_left h
  · intro h; rw [h]

def env_tables : Env := ⟨T, psi_ftputs, pspNil, 61, [], none, true⟩
theorem eok_tables : PsiOk Try.prog env_tables := ⟨psi_ftputs_ok, pspNil_ok⟩
theorem tables_fn (a0 : List (List Entry)) (b0 : List (List Entry)) (hl : a0.length ≤ 1000000000) (hm : b0.length ≤ 1000000000) (hf : ∀ i, (leaf a0 i).length ≤ 1000000000) (hg : ∀ i, (leaf b0 i).length ≤ 1000000000) : Ctr Try.prog 20 false [.g [.pv (.lst .tbl a0)], .g [.pv (.lst .tbl b0)]] (.x (.c (bv (decide (a0 = b0))))) := by
  refine Ctr_intro (E := env_tables) Try.func20 rfl (by decide) rfl rfl (fun M0 W hM0 => ?_)
  refine G_run tOk eok_tables 60 (fun _ => none) (fun bs => rfl) (fun bs => ?_) (fun bs => ?_)
  · (repeat' apply And.intro) <;> (intros; first | exact trivial | exact rfl | omega | exact u8_lo _ | exact u8_hi _ | exact u8_in64 _ | exact u8_in63 _ | (simp only [inR, IntKind.bits]; omega) | (simp [inR, IntKind.bits]; done) | (simp [inR, IntKind.bits] at * <;> omega) | (simp_all; done) | skip)
  refine G_cond rfl rfl (fun h => ?_) (fun h => ?_)
  · refine G_run tOk eok_tables 60 (fun _ => none) (fun bs => rfl) (fun bs => ?_) (fun bs => ?_)
    · (repeat' apply And.intro) <;> (intros; first | exact trivial | exact rfl | omega | exact u8_lo _ | exact u8_hi _ | exact u8_in64 _ | exact u8_in63 _ | (simp only [inR, IntKind.bits]; omega) | (simp [inR, IntKind.bits]; done) | (simp [inR, IntKind.bits] at * <;> omega) | (simp_all; done) | skip)
    have hb : decide (a0 = b0) = false := by simp; intro e; subst e; simp at h
    exact G_ret tOk hM0 rfl rfl ⟨trivial, trivial⟩ hb.symm
  have hlm : a0.length = b0.length := by simp at h; omega
  refine G_run tOk eok_tables 60 (fun _ => none) (fun bs => rfl) (fun bs => ?_) (fun bs => ?_)
  · (repeat' apply And.intro) <;> (intros; first | exact trivial | exact rfl | omega | exact u8_lo _ | exact u8_hi _ | exact u8_in64 _ | exact u8_in63 _ | (simp only [inR, IntKind.bits]; omega) | (simp [inR, IntKind.bits]; done) | (simp [inR, IntKind.bits] at * <;> omega) | (simp_all; done) | skip)
  refine G_wkB2 (ns := [0, 1]) (fs := fun b c => [(2, .c (.ptr 0 b 0)), (3, .c (.ptr 1 c 0)), (5, int .i64 0)]) (hs := fun b c => [.blk b 24 [.pv (.lst .tbl a0)], .blk c 24 [.pv (.lst .tbl b0)]]) ?b1 ?c1 rfl ?wk0 (fun b c => ?_)
  case wk0 => (repeat' apply And.intro) <;> (first | exact rfl | exact trivial | omega | refine sigEq ?_ | skip)
  refine G_loop (fun x : Nat => [(2, .c (.ptr 0 b 0)), (3, .c (.ptr 1 c 0)), (5, int .i64 x)]) (fun x => [.blk b 24 [.pv (.lst .tbl a0)], .blk c 24 [.pv (.lst .tbl b0)]]) (fun x => x ≤ a0.length ∧ a0.take x = b0.take x) (fun x => a0.length - x) rfl [0, 1] 0 ⟨Nat.zero_le _, rfl⟩ ?wk (fun x hx => ?_)
  case wk => (repeat' apply And.intro) <;> (first | exact rfl | exact trivial | omega | refine sigEq ?_ | skip)
  obtain ⟨hx, hr⟩ := hx
  refine G_run tOk eok_tables 60 (fun _ => none) (fun bs => rfl) (fun bs => ?_) (fun bs => ?_)
  · (repeat' apply And.intro) <;> (intros; first | exact trivial | exact rfl | omega | exact u8_lo _ | exact u8_hi _ | exact u8_in64 _ | exact u8_in63 _ | (simp only [inR, IntKind.bits]; omega) | (simp [inR, IntKind.bits]; done) | (simp [inR, IntKind.bits] at * <;> omega) | (simp_all; done) | skip)
  refine G_if rfl rfl (fun hk => ?_) (fun hk => ?_)
  · have hk' : x < a0.length := by omega
    have ht := take_eq ([] : List Entry) hr hk' (by omega)
    have hfx := hf x
    have hgx := hg x
    have hno : leaf a0 x ≠ leaf b0 x → decide (a0 = b0) = false := fun hh => by
      simp only [decide_eq_false_iff_not]; rintro rfl; exact hh rfl
    refine G_run tOk eok_tables 60 (fun _ => none) (fun bs => rfl) (fun bs => ?_) (fun bs => ?_)
    · (repeat' apply And.intro) <;> (intros; first | exact trivial | exact rfl | omega | exact u8_lo _ | exact u8_hi _ | exact u8_in64 _ | exact u8_in63 _ | (simp only [inR, IntKind.bits]; omega) | (simp [inR, IntKind.bits]; done) | (simp [inR, IntKind.bits] at * <;> omega) | (simp_all; done) | skip)
    refine G_nx 2 rfl ?_
    refine G_draw tOk eok_tables rfl (fun _ => none) 12 [0, 1, 0, 7, 15, 31, 0, 64, 0, 448, 960, 1984, 4095] [] rfl (by decide +kernel) (fun bs => rfl) (fun bs => ?_) (fun bs => ?_)
    · (repeat' apply And.intro) <;> (intros; first | exact trivial | exact rfl | omega | exact u8_lo _ | exact u8_hi _ | exact u8_in64 _ | exact u8_in63 _ | (simp only [inR, IntKind.bits]; omega) | (simp [inR, IntKind.bits]; done) | (simp [inR, IntKind.bits] at * <;> omega) | (simp_all; done) | skip)
    refine G_run tOk eok_tables 60 (fun _ => none) (fun bs => rfl) (fun bs => by (repeat' apply And.intro) <;> (intros; first | exact trivial | exact rfl | omega | exact u8_lo _ | exact u8_hi _ | exact u8_in64 _ | exact u8_in63 _ | (simp only [inR, IntKind.bits]; omega) | (simp [inR, IntKind.bits]; done) | (simp [inR, IntKind.bits] at * <;> omega) | (simp_all; done) | skip)) (fun bs => ?_)
    refine G_cond (b := !decide (((leaf a0 x).length : Int) = (leaf b0 x).length)) rfl rfl (fun h2 => ?_) (fun h2 => ?_)
    · refine G_run tOk eok_tables 60 (fun _ => none) (fun bs => rfl) (fun bs => ?_) (fun bs => ?_)
      · (repeat' apply And.intro) <;> (intros; first | exact trivial | exact rfl | omega | exact u8_lo _ | exact u8_hi _ | exact u8_in64 _ | exact u8_in63 _ | (simp only [inR, IntKind.bits]; omega) | (simp [inR, IntKind.bits]; done) | (simp [inR, IntKind.bits] at * <;> omega) | (simp_all; done) | skip)
      refine G_ret tOk hM0 rfl rfl ⟨trivial, trivial⟩ (hno (fun e => ?_)).symm
      rw [e] at h2; simp at h2
    have hl2 : (leaf a0 x).length = (leaf b0 x).length := by simp at h2; omega
    refine G_run tOk eok_tables 60 (fun _ => none) (fun bs => rfl) (fun bs => ?_) (fun bs => ?_)
    · (repeat' apply And.intro) <;> (intros; first | exact trivial | exact rfl | omega | exact u8_lo _ | exact u8_hi _ | exact u8_in64 _ | exact u8_in63 _ | (simp only [inR, IntKind.bits]; omega) | (simp [inR, IntKind.bits]; done) | (simp [inR, IntKind.bits] at * <;> omega) | (simp_all; done) | skip)
    refine G_loop (fun k : Nat => [(2, .c (.ptr 0 b 0)), (3, .c (.ptr 1 c 0)), (5, int .i64 x), (6, int .i64 k)]) (fun k => [.blk b 24 [.pv (.lst .tbl a0)], .blk c 24 [.pv (.lst .tbl b0)]]) (fun k => k ≤ (leaf a0 x).length ∧ (leaf a0 x).take k = (leaf b0 x).take k) (fun k => (leaf a0 x).length - k) rfl [0, 1] 0 ⟨Nat.zero_le _, rfl⟩ ?wk2 (fun k hx2 => ?_)
    case wk2 => (repeat' apply And.intro) <;> (first | exact rfl | exact trivial | omega | refine sigEq ?_ | skip)
    obtain ⟨hx2, hr2⟩ := hx2
    refine G_run tOk eok_tables 60 (fun _ => none) (fun bs => rfl) (fun bs => ?_) (fun bs => ?_)
    · (repeat' apply And.intro) <;> (intros; first | exact trivial | exact rfl | omega | exact u8_lo _ | exact u8_hi _ | exact u8_in64 _ | exact u8_in63 _ | (simp only [inR, IntKind.bits]; omega) | (simp [inR, IntKind.bits]; done) | (simp [inR, IntKind.bits] at * <;> omega) | (simp_all; done) | skip)
    refine G_if (p := (k : Int) < (leaf a0 x).length) rfl rfl (fun hk2 => ?_) (fun hk2 => ?_)
    · have hk2' : k < (leaf a0 x).length := by omega
      have ht2 := take_eq entZ hr2 hk2' (by omega)
      have e1 : (a0.getD (Int.toNat (x : Int)) LK.tbl.dft).length = (leaf a0 x).length := rfl
      have e2 : (b0.getD (Int.toNat (x : Int)) LK.tbl.dft).length = (leaf b0 x).length := rfl
      refine G_run tOk eok_tables 60 (fun _ => none) (fun bs => rfl) (fun bs => ?_) (fun bs => ?_)
      · (repeat' apply And.intro) <;> (intros; first | exact trivial | exact rfl | omega | exact u8_lo _ | exact u8_hi _ | exact u8_in64 _ | exact u8_in63 _ | (simp only [inR, IntKind.bits]; omega) | (simp [inR, IntKind.bits]; done) | (simp [inR, IntKind.bits] at * <;> omega) | (simp_all; done) | skip)
      refine G_nx 2 rfl ?_
      refine G_draw tOk eok_tables rfl (fun _ => none) 16 [0, 1, 0, 7, 15, 0, 63, 127, 0, 256, 0, 1792, 3840, 0, 16128, 32512, 65535] [] rfl (by decide +kernel) (fun bs => rfl) (fun bs => ?_) (fun bs => ?_)
      · (repeat' apply And.intro) <;> (intros; first | exact trivial | exact rfl | omega | exact u8_lo _ | exact u8_hi _ | exact u8_in64 _ | exact u8_in63 _ | (simp only [inR, IntKind.bits]; omega) | (simp [inR, IntKind.bits]; done) | (simp [inR, IntKind.bits] at * <;> omega) | (simp_all; done) | skip)
      refine G_run tOk eok_tables 60 (fun _ => none) (fun bs => rfl) (fun bs => by (repeat' apply And.intro) <;> (intros; first | exact trivial | exact rfl | omega | exact u8_lo _ | exact u8_hi _ | exact u8_in64 _ | exact u8_in63 _ | (simp only [inR, IntKind.bits]; omega) | (simp [inR, IntKind.bits]; done) | (simp [inR, IntKind.bits] at * <;> omega) | (simp_all; done) | skip)) (fun bs => ?_)
      refine G_cond (b := !decide ((leaf a0 x).getD k entZ = (leaf b0 x).getD k entZ)) rfl (by rw [← en_eq]; rfl) (fun h3 => ?_) (fun h3 => ?_)
      · refine G_run tOk eok_tables 60 (fun _ => none) (fun bs => rfl) (fun bs => ?_) (fun bs => ?_)
        · (repeat' apply And.intro) <;> (intros; first | exact trivial | exact rfl | omega | exact u8_lo _ | exact u8_hi _ | exact u8_in64 _ | exact u8_in63 _ | (simp only [inR, IntKind.bits]; omega) | (simp [inR, IntKind.bits]; done) | (simp [inR, IntKind.bits] at * <;> omega) | (simp_all; done) | skip)
        refine G_ret tOk hM0 rfl rfl ⟨trivial, trivial⟩ (hno (fun e => ?_)).symm
        rw [e] at h3; simp at h3
      · refine G_run tOk eok_tables 60 (fun _ => none) (fun bs => rfl) (fun bs => ?_) (fun bs => ?_)
        · (repeat' apply And.intro) <;> (intros; first | exact trivial | exact rfl | omega | exact u8_lo _ | exact u8_hi _ | exact u8_in64 _ | exact u8_in63 _ | (simp only [inR, IntKind.bits]; omega) | (simp [inR, IntKind.bits]; done) | (simp [inR, IntKind.bits] at * <;> omega) | (simp_all; done) | skip)
        refine G_lp [0, 1] (k + 1) ?ok2 ?wk3
        case ok2 => exact ⟨⟨hk2', ht2.2 (by simpa using h3)⟩, by omega⟩
        case wk3 => (repeat' apply And.intro) <;> (first | exact rfl | exact trivial | omega | refine sigEq ?_ | skip)
    · have hk2' : k = (leaf a0 x).length := by omega
      subst hk2'
      refine G_run tOk eok_tables 60 (fun _ => none) (fun bs => rfl) (fun bs => ?_) (fun bs => ?_)
      · (repeat' apply And.intro) <;> (intros; first | exact trivial | exact rfl | omega | exact u8_lo _ | exact u8_hi _ | exact u8_in64 _ | exact u8_in63 _ | (simp only [inR, IntKind.bits]; omega) | (simp [inR, IntKind.bits]; done) | (simp [inR, IntKind.bits] at * <;> omega) | (simp_all; done) | skip)
      refine G_lp [0, 1] (x + 1) ?ok1 ?wk1
      case ok1 =>
        refine ⟨⟨hk', ht.2 ?_⟩, by omega⟩
        rw [List.take_length, hl2, List.take_length] at hr2
        exact hr2
      case wk1 => (repeat' apply And.intro) <;> (first | exact rfl | exact trivial | omega | refine sigEq ?_ | skip)
  · have hk' : x = a0.length := by omega
    subst hk'
    refine G_run tOk eok_tables 60 (fun _ => none) (fun bs => rfl) (fun bs => ?_) (fun bs => ?_)
    · (repeat' apply And.intro) <;> (intros; first | exact trivial | exact rfl | omega | exact u8_lo _ | exact u8_hi _ | exact u8_in64 _ | exact u8_in63 _ | (simp only [inR, IntKind.bits]; omega) | (simp [inR, IntKind.bits]; done) | (simp [inR, IntKind.bits] at * <;> omega) | (simp_all; done) | skip)
    have hb : decide (a0 = b0) = true := by
      simp only [decide_eq_true_eq]
      rw [List.take_length, hlm, List.take_length] at hr; exact hr
    exact G_ret tOk hM0 rfl rfl ⟨trivial, trivial⟩ hb.symm

def tables_s : FSpec
  | [.g [.pv (.lst .tbl a0)], .g [.pv (.lst .tbl b0)]] => some ((a0.length ≤ 1000000000) ∧ (b0.length ≤ 1000000000) ∧ (∀ i, (leaf a0 i).length ≤ 1000000000) ∧ (∀ i, (leaf b0 i).length ≤ 1000000000), false, .x (.c (bv (decide (a0 = b0)))))
  | _ => none
theorem tables_s_ok : SpecOk Try.prog 20 tables_s := by
  intro args pre sh rv h hp; unfold tables_s at h; split at h
  · cases h; obtain ⟨hl, hm, hf, hg⟩ := hp; exact tables_fn _ _ hl hm hf hg
  · cases h
def psi_tables : FuncId → Option FSpec := psiCons 20 tables_s psi_ftputs
theorem psi_tables_ok : PsiFn Try.prog psi_tables := psiCons_ok tables_s_ok psi_ftputs_ok
def env_fits : Env := ⟨T, psi_tables, pspNil, 18, [], none, true⟩
theorem eok_fits : PsiOk Try.prog env_fits := ⟨psi_tables_ok, pspNil_ok⟩
theorem fits_fn (t0 : List (List Entry)) (e0 : Int) (e1 : Int) (e2 : Int) (e3 : Int) (e4 : Int) (hl : t0.length ≤ 1000000000) (hf : ∀ i, (leaf t0 i).length ≤ 1000000000) : Ctr Try.prog 37 false [.g [.pv (.lst .tbl t0)], .g [.pv (.val (.int .i64 e0)), .pv (.val (.int .i64 e1)), .pv (.val (.int .i64 e2)), .pv (.val (.int .i64 e3)), .pv (.val (.int .u32 e4))]] (.x (.c (bv (anyN t0 ⟨e0, e1, e2, e3, e4⟩ 7)))) := by
  refine Ctr_intro (E := env_fits) Try.func37 rfl (by decide) rfl rfl (fun M0 W hM0 => ?_)
  refine G_run tOk eok_fits 60 (fun _ => none) (fun bs => rfl) (fun bs => ?_) (fun bs => ?_)
  · (repeat' apply And.intro) <;> (intros; first | exact trivial | exact rfl | omega | exact u8_lo _ | exact u8_hi _ | exact u8_in64 _ | exact u8_in63 _ | (simp only [inR, IntKind.bits]; omega) | (simp [inR, IntKind.bits]; done) | (simp [inR, IntKind.bits] at * <;> omega) | (simp_all; done) | skip)
  refine G_wkB2 (ns := [0, 1]) (fs := fun b c => [(2, .c (.ptr 0 b 0)), (3, .c (.ptr 1 c 0)), (5, int .i64 0)]) (hs := fun b c => [.blk b 24 [.pv (.lst .tbl t0)], .blk c 30 [.pv (i64 e0), .pv (i64 e1), .pv (i64 e2), .pv (i64 e3), .pv (.val (.int .u32 e4))]]) ?b1 ?c1 rfl ?wk0 (fun b c => ?_)
  case wk0 => (repeat' apply And.intro) <;> (first | exact rfl | exact trivial | omega | refine sigEq ?_ | skip)
  refine G_loop (fun x : Nat => [(2, .c (.ptr 0 b 0)), (3, .c (.ptr 1 c 0)), (5, int .i64 x)]) (fun x => [.blk b 24 [.pv (.lst .tbl t0)], .blk c 30 [.pv (i64 e0), .pv (i64 e1), .pv (i64 e2), .pv (i64 e3), .pv (.val (.int .u32 e4))]]) (fun x => x ≤ 7 ∧ anyN t0 ⟨e0, e1, e2, e3, e4⟩ x = false) (fun x => 7 - x) rfl [0, 1] 0 ⟨Nat.zero_le _, rfl⟩ ?wk (fun x hx => ?_)
  case wk => (repeat' apply And.intro) <;> (first | exact rfl | exact trivial | omega | refine sigEq ?_ | skip)
  obtain ⟨hx, hs⟩ := hx
  refine G_run tOk eok_fits 60 (fun _ => none) (fun bs => rfl) (fun bs => ?_) (fun bs => ?_)
  · (repeat' apply And.intro) <;> (intros; first | exact trivial | exact rfl | omega | exact u8_lo _ | exact u8_hi _ | exact u8_in64 _ | exact u8_in63 _ | (simp only [inR, IntKind.bits]; omega) | (simp [inR, IntKind.bits]; done) | (simp [inR, IntKind.bits] at * <;> omega) | (simp_all; done) | skip)
  refine G_if rfl rfl (fun hk => ?_) (fun hk => ?_)
  · have hk' : x < 7 := by omega
    have hT : anyN t0 ⟨e0, e1, e2, e3, e4⟩ (x + 1) = true → anyN t0 ⟨e0, e1, e2, e3, e4⟩ 7 = true := by
      intro h
      have hx7 : x = 0 ∨ x = 1 ∨ x = 2 ∨ x = 3 ∨ x = 4 ∨ x = 5 ∨ x = 6 := by omega
      simp only [anyN, Bool.or_eq_true] at h ⊢
      rcases hx7 with rfl | rfl | rfl | rfl | rfl | rfl | rfl <;> simp only [anyN, Bool.or_eq_true] at h ⊢ <;> (revert h; generalize (_ ∨ _ : Prop) = q; intro h; first | exact h | exact .inl h | exact .inl (.inl h) | exact .inl (.inl (.inl h)) | exact .inl (.inl (.inl (.inl h))) | exact .inl (.inl (.inl (.inl (.inl h)))) | exact .inl (.inl (.inl (.inl (.inl (.inl h))))))
    have hmd : mayE e0 e1 e2 e3 e4 x = mayX x ⟨e0, e1, e2, e3, e4⟩ := rfl
    cases hm : rightT t0 4096 x with
    | true =>
      refine G_run tOk eok_fits 60 (fun _ => some true) (fun bs => rfl) (fun bs => ?_) (fun bs => ?_)
      · (repeat' apply And.intro) <;> (intros; first | exact trivial | exact rfl | omega | exact u8_lo _ | exact u8_hi _ | exact u8_in64 _ | exact u8_in63 _ | (simp only [inR, IntKind.bits]; omega) | (simp [inR, IntKind.bits, hf, hm]; done) | (simp [inR, IntKind.bits, hf, hm] at * <;> omega) | (simp_all; done) | skip)
      refine G_cond (b := rightT t0 4096 x && mayX x ⟨e0, e1, e2, e3, e4⟩) rfl rfl (fun h => ?_) (fun h => ?_)
      · refine G_run tOk eok_fits 60 (fun _ => none) (fun bs => rfl) (fun bs => ?_) (fun bs => ?_)
        · (repeat' apply And.intro) <;> (intros; first | exact trivial | exact rfl | omega | exact u8_lo _ | exact u8_hi _ | exact u8_in64 _ | exact u8_in63 _ | (simp only [inR, IntKind.bits]; omega) | (simp [inR, IntKind.bits]; done) | (simp [inR, IntKind.bits] at * <;> omega) | (simp_all; done) | skip)
        refine G_ret tOk hM0 rfl rfl ⟨trivial, trivial⟩ ?_
        refine (hT ?_).symm
        rw [Bool.and_comm] at h
        simp only [anyN, hs, h]; rfl
      · refine G_run tOk eok_fits 60 (fun _ => none) (fun bs => rfl) (fun bs => ?_) (fun bs => ?_)
        · (repeat' apply And.intro) <;> (intros; first | exact trivial | exact rfl | omega | exact u8_lo _ | exact u8_hi _ | exact u8_in64 _ | exact u8_in63 _ | (simp only [inR, IntKind.bits]; omega) | (simp [inR, IntKind.bits]; done) | (simp [inR, IntKind.bits] at * <;> omega) | (simp_all; done) | skip)
        refine G_lp [0, 1] (x + 1) ?ok ?wk2
        case ok => exact ⟨⟨hk', by rw [Bool.and_comm] at h; simp only [anyN, hs, h]; rfl⟩, by omega⟩
        case wk2 => (repeat' apply And.intro) <;> (first | exact rfl | exact trivial | omega | refine sigEq ?_ | skip)
    | false =>
      refine G_run tOk eok_fits 60 (fun _ => some false) (fun bs => rfl) (fun bs => ?_) (fun bs => ?_)
      · (repeat' apply And.intro) <;> (intros; first | exact trivial | exact rfl | omega | exact u8_lo _ | exact u8_hi _ | exact u8_in64 _ | exact u8_in63 _ | (simp only [inR, IntKind.bits]; omega) | (simp [inR, IntKind.bits, hf, hm]; done) | (simp [inR, IntKind.bits, hf, hm] at * <;> omega) | (simp_all; done) | skip)
      refine G_els rfl rfl ?c2 ?_
      case c2 => simp [hm]
      refine G_run tOk eok_fits 60 (fun _ => none) (fun bs => rfl) (fun bs => ?_) (fun bs => ?_)
      · (repeat' apply And.intro) <;> (intros; first | exact trivial | exact rfl | omega | exact u8_lo _ | exact u8_hi _ | exact u8_in64 _ | exact u8_in63 _ | (simp only [inR, IntKind.bits]; omega) | (simp [inR, IntKind.bits]; done) | (simp [inR, IntKind.bits] at * <;> omega) | (simp_all; done) | skip)
      refine G_lp [0, 1] (x + 1) ?ok3 ?wk3
      case ok3 => exact ⟨⟨hk', by simp only [anyN, hs, hm, Bool.and_false]; rfl⟩, by omega⟩
      case wk3 => (repeat' apply And.intro) <;> (first | exact rfl | exact trivial | omega | refine sigEq ?_ | skip)
  · have hk' : x = 7 := by omega
    subst hk'
    refine G_run tOk eok_fits 60 (fun _ => none) (fun bs => rfl) (fun bs => ?_) (fun bs => ?_)
    · (repeat' apply And.intro) <;> (intros; first | exact trivial | exact rfl | omega | exact u8_lo _ | exact u8_hi _ | exact u8_in64 _ | exact u8_in63 _ | (simp only [inR, IntKind.bits]; omega) | (simp [inR, IntKind.bits]; done) | (simp [inR, IntKind.bits] at * <;> omega) | (simp_all; done) | skip)
    exact G_ret tOk hM0 rfl rfl ⟨trivial, trivial⟩ hs.symm
def fits_s : FSpec
  | [.g [.pv (.lst .tbl t0)], .g [.pv (.val (.int .i64 e0)), .pv (.val (.int .i64 e1)), .pv (.val (.int .i64 e2)), .pv (.val (.int .i64 e3)), .pv (.val (.int .u32 e4))]] => some ((t0.length ≤ 1000000000) ∧ (∀ i, (leaf t0 i).length ≤ 1000000000), false, .x (.c (bv (anyN t0 ⟨e0, e1, e2, e3, e4⟩ 7))))
  | _ => none
theorem fits_s_ok : SpecOk Try.prog 37 fits_s := by
  intro args pre sh rv h hp; unfold fits_s at h; split at h
  · cases h; obtain ⟨hl, hf⟩ := hp; exact fits_fn _ _ _ _ _ _ hl hf
  · cases h
def psi_fits : FuncId → Option FSpec := psiCons 37 fits_s psi_tables
theorem psi_fits_ok : PsiFn Try.prog psi_fits := psiCons_ok fits_s_ok psi_tables_ok
end Go.Proofs.Ytnmomckmpknbkaa
