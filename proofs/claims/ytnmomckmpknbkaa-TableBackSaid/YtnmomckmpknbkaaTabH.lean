import Derived.Test.YtnmomckmpknbkaaTabR
set_option linter.unusedSimpArgs false
set_option linter.unusedVariables false
namespace Go.Proofs.Ytnmomckmpknbkaa
open Go.Mt

def oneE : Entry := ⟨1, 0, 0, 0, 0⟩
def ordA (ns : List Int) : Nat → List (List Entry)
  | 0 => []
  | k + 1 => setT (ordA ns k) (ns.getD k 0 % 500) oneE
def ordB (ns : List Int) : Nat → List (List Entry)
  | 0 => []
  | k + 1 => setT (setT (ordB ns k) (ns.getD (ns.length - 1 - k) 0 % 500) ⟨2, 5, 1, 0, 0⟩) (ns.getD (ns.length - 1 - k) 0 % 500) oneE
theorem one_may : mayX 0 oneE = true := may_one (by decide)
theorem raw_may : mayX 0 ⟨2, 5, 1, 0, 0⟩ = true := by decide
theorem ordA_ok {ns : List Int} (h : ∀ i, 0 ≤ ns.getD i 0) : ∀ k : Nat, rightT (ordA ns k) 4096 0 = true ∧ ∀ j : Nat, j < 4096 → ((∃ i : Nat, i < k ∧ ns.getD i 0 % 500 = (j : Int)) → atT (ordA ns k) (j : Int) = oneE) ∧ ((¬ ∃ i : Nat, i < k ∧ ns.getD i 0 % 500 = (j : Int)) → atT (ordA ns k) (j : Int) = entZ) := by
  intro k
  induction k with
  | zero =>
    refine ⟨nil_right (by decide), fun j hj => ⟨?_, fun _ => atnil j⟩⟩
    rintro ⟨i, h1, _⟩; omega
  | succ k ih =>
    obtain ⟨i1, i2⟩ := ih
    obtain ⟨q, hq⟩ : ∃ q : Nat, ns.getD k 0 % 500 = q := ⟨(ns.getD k 0 % 500).toNat, by have := h k; omega⟩
    refine ⟨right_set i1 one_may _, fun j hj => ?_⟩
    simp only [ordA]
    rw [hq, at_set i1 one_may (by omega)]
    by_cases e : j = q
    · rw [if_pos e]
      refine ⟨fun _ => rfl, fun hn => (hn ⟨k, by omega, by rw [hq, e]⟩).elim⟩
    · rw [if_neg e]
      refine ⟨?_, fun hn => (i2 j hj).2 (fun ⟨i, h1, h2⟩ => hn ⟨i, by omega, h2⟩)⟩
      rintro ⟨i, h1, h2⟩
      by_cases e2 : i = k
      · subst e2; rw [hq] at h2; omega
      · exact (i2 j hj).1 ⟨i, by omega, h2⟩
theorem ordB_mid {ns : List Int} {k : Nat} (h : rightT (ordB ns k) 4096 0 = true) : rightT (setT (ordB ns k) (ns.getD (ns.length - 1 - k) 0 % 500) ⟨2, 5, 1, 0, 0⟩) 4096 0 = true := right_set h raw_may _
theorem ordB_ok {ns : List Int} (h : ∀ i, 0 ≤ ns.getD i 0) : ∀ k : Nat, rightT (ordB ns k) 4096 0 = true ∧ ∀ j : Nat, j < 4096 → ((∃ i : Nat, i < k ∧ ns.getD (ns.length - 1 - i) 0 % 500 = (j : Int)) → atT (ordB ns k) (j : Int) = oneE) ∧ ((¬ ∃ i : Nat, i < k ∧ ns.getD (ns.length - 1 - i) 0 % 500 = (j : Int)) → atT (ordB ns k) (j : Int) = entZ) := by
  intro k
  induction k with
  | zero =>
    refine ⟨nil_right (by decide), fun j hj => ⟨?_, fun _ => atnil j⟩⟩
    rintro ⟨i, h1, _⟩; omega
  | succ k ih =>
    obtain ⟨i1, i2⟩ := ih
    obtain ⟨q, hq⟩ : ∃ q : Nat, ns.getD (ns.length - 1 - k) 0 % 500 = q := ⟨(ns.getD (ns.length - 1 - k) 0 % 500).toNat, by have := h (ns.length - 1 - k); omega⟩
    have i3 := ordB_mid i1
    refine ⟨right_set i3 one_may _, fun j hj => ?_⟩
    simp only [ordB]
    rw [hq] at i3 ⊢
    rw [at_set i3 one_may (by omega)]
    by_cases e : j = q
    · rw [if_pos e]
      refine ⟨fun _ => rfl, fun hn => (hn ⟨k, by omega, by rw [hq, e]⟩).elim⟩
    · rw [if_neg e, at_set i1 raw_may (by omega), if_neg e]
      refine ⟨?_, fun hn => (i2 j hj).2 (fun ⟨i, h1, h2⟩ => hn ⟨i, by omega, h2⟩)⟩
      rintro ⟨i, h1, h2⟩
      by_cases e2 : i = k
      · subst e2; rw [hq] at h2; omega
      · exact (i2 j hj).1 ⟨i, by omega, h2⟩
theorem ord_eq {ns : List Int} (h : ∀ i, 0 ≤ ns.getD i 0) : ordB ns ns.length = ordA ns ns.length := by
  obtain ⟨a1, a2⟩ := ordA_ok h ns.length
  obtain ⟨b1, b2⟩ := ordB_ok h ns.length
  refine tab_ext b1 a1 (fun j hj => ?_)
  by_cases e : ∃ i : Nat, i < ns.length ∧ ns.getD i 0 % 500 = (j : Int)
  · rw [(a2 j hj).1 e]
    obtain ⟨i, h1, h2⟩ := e
    exact (b2 j hj).1 ⟨ns.length - 1 - i, by omega, by rw [show ns.length - 1 - (ns.length - 1 - i) = i by omega]; exact h2⟩
  · rw [(a2 j hj).2 e]
    refine (b2 j hj).2 (fun ⟨i, h1, h2⟩ => e ⟨ns.length - 1 - i, by omega, h2⟩)
theorem set_unset {t : List (List Entry)} (ht : rightT t 4096 0 = true) {q : Nat} (hq : q < 4096) (hz : atT t (q : Int) = entZ) : setT (setT t (q : Int) oneE) (q : Int) entZ = t := by
  have h1 := right_set ht one_may (q : Int)
  refine tab_ext (right_set h1 (may_zero (by decide)) _) ht (fun j hj => ?_)
  rw [at_set h1 (may_zero (by decide)) hq, at_set ht one_may hq]
  by_cases e : j = q
  · rw [if_pos e, e, hz]
  · rw [if_neg e, if_neg e]
theorem ord_un {ns : List Int} (h : ∀ i, 0 ≤ ns.getD i 0) {k : Nat} (hk : k < 40) : setT (setT (ordA ns ns.length) (500 + (k : Int)) oneE) (500 + (k : Int)) entZ = ordA ns ns.length := by
  obtain ⟨a1, a2⟩ := ordA_ok h ns.length
  have := set_unset a1 (show 500 + k < 4096 by omega) ((a2 (500 + k) (by omega)).2 (fun ⟨i, _, h2⟩ => by have := h i; omega))
  rw [show ((500 + k : Nat) : Int) = 500 + (k : Int) by omega] at this
  exact this

def env_forder : Env := ⟨T, psi_fempties, pspNil, 67, [], none, true⟩
theorem eok_forder : PsiOk Try.prog env_forder := ⟨psi_fempties_ok, pspNil_ok⟩
theorem forder_fn (ns : List Int) (hn : ns.length ≤ 9223372036854775807) (hr : ∀ m ∈ ns, inR .u16 m) : Ctr Try.prog 5 false [lst (.ints .u16) ns] (.x (.c (bv true))) := by
  refine Ctr_intro (E := env_forder) Try.func5 rfl (by decide) rfl rfl (fun M0 W hM0 => ?_)
  have hg := gets hr
  have hA := ordA_ok (fun i => (hg i).1)
  have hB := ordB_ok (fun i => (hg i).1)
  have hU := fun k hk => ord_un (fun i => (hg i).1) (k := k) hk
  have hE := ord_eq (fun i => (hg i).1)
  refine G_run tOk eok_forder 60 (fun _ => none) (fun bs => rfl) (fun bs => ?_) (fun bs => ?_)
  · (repeat' apply And.intro) <;> (intros; first | exact trivial | exact rfl | omega | exact u8_lo _ | exact u8_hi _ | exact u8_in64 _ | exact u8_in63 _ | (simp only [inR, IntKind.bits]; omega) | (simp [inR, IntKind.bits]; done) | (simp [inR, IntKind.bits] at * <;> omega) | (simp_all; done) | skip)
  refine G_if rfl rfl (fun h => ?_) (fun h => ?_)
  · refine G_run tOk eok_forder 60 (fun _ => none) (fun bs => rfl) (fun bs => ?_) (fun bs => ?_)
    · (repeat' apply And.intro) <;> (intros; first | exact trivial | exact rfl | omega | exact u8_lo _ | exact u8_hi _ | exact u8_in64 _ | exact u8_in63 _ | (simp only [inR, IntKind.bits]; omega) | (simp [inR, IntKind.bits]; done) | (simp [inR, IntKind.bits] at * <;> omega) | (simp_all; done) | skip)
    exact G_ret tOk hM0 rfl rfl ⟨trivial, trivial⟩ rfl
  have h40 : ns.length ≤ 40 := by omega
  refine G_run tOk eok_forder 60 (fun _ => none) (fun bs => rfl) (fun bs => ?_) (fun bs => ?_)
  · (repeat' apply And.intro) <;> (intros; first | exact trivial | exact rfl | omega | exact u8_lo _ | exact u8_hi _ | exact u8_in64 _ | exact u8_in63 _ | (simp only [inR, IntKind.bits]; omega) | (simp [inR, IntKind.bits]; done) | (simp [inR, IntKind.bits] at * <;> omega) | (simp_all; done) | skip)
  refine G_wkB2 (ns := [0, 1]) (fs := fun b c => [(0, lst (.ints .u16) ns), (3, .c (.ptr 0 b 0)), (4, .c (.ptr 1 c 0)), (5, int .i64 0)]) (hs := fun b c => [.blk b 24 [.pv (.lst .tbl [])], .blk c 24 [.pv (.lst .tbl [])]]) ?b1 ?c1 rfl ?wk0 (fun b c => ?_)
  case wk0 => (repeat' apply And.intro) <;> (first | exact rfl | exact trivial | omega | refine sigEq ?_ | skip)
  refine G_loop (fun k : Nat => [(0, lst (.ints .u16) ns), (3, .c (.ptr 0 b 0)), (4, .c (.ptr 1 c 0)), (5, int .i64 k)]) (fun k => [.blk b 24 [.pv (.lst .tbl (ordA ns k))], .blk c 24 [.pv (.lst .tbl (ordB ns k))]]) (fun k => k ≤ ns.length) (fun k => 60 - k) rfl [0, 1] 0 (Nat.zero_le _) ?wk (fun k hx => ?_)
  case wk => (repeat' apply And.intro) <;> (first | exact rfl | exact trivial | omega | refine sigEq ?_ | skip)
  refine G_run tOk eok_forder 60 (fun _ => none) (fun bs => rfl) (fun bs => ?_) (fun bs => ?_)
  · (repeat' apply And.intro) <;> (intros; first | exact trivial | exact rfl | omega | exact u8_lo _ | exact u8_hi _ | exact u8_in64 _ | exact u8_in63 _ | (simp only [inR, IntKind.bits]; omega) | (simp [inR, IntKind.bits]; done) | (simp [inR, IntKind.bits] at * <;> omega) | (simp_all; done) | skip)
  refine G_if rfl rfl (fun h => ?_) (fun h => ?_)
  · have h' : k < ns.length := by omega
    have hRA := (hA k).1
    have hRB := (hB k).1
    have hRC := ordB_mid hRB
    have hN : ordA ns (k + 1) = setT (ordA ns k) (ns.getD k 0 % 500) oneE := rfl
    have hM : ordB ns (k + 1) = setT (setT (ordB ns k) (ns.getD (ns.length - 1 - k) 0 % 500) ⟨2, 5, 1, 0, 0⟩) (ns.getD (ns.length - 1 - k) 0 % 500) oneE := rfl
    have g1 := hg k
    have g2 := hg (ns.length - 1 - k)
    obtain ⟨x, hx1⟩ : ∃ x, ns.getD k 0 = x := ⟨_, rfl⟩
    have hx2 : ns.getD (Int.toNat (k : Int)) (LK.ints IntKind.u16).dft = x := hx1
    obtain ⟨y, hy1⟩ : ∃ y, ns.getD (ns.length - 1 - k) 0 = y := ⟨_, rfl⟩
    have hy2 : ns.getD (Int.toNat ((ns.length : Int) - 1 - (k : Int))) (LK.ints IntKind.u16).dft = y := by rw [show Int.toNat ((ns.length : Int) - 1 - (k : Int)) = ns.length - 1 - k by omega]; exact hy1
    rw [hx1] at g1 hN
    rw [hy1] at g2 hM hRC
    generalize ordA ns k = ta at *
    generalize ordB ns k = tb at *
    have la1 := right_len hRA
    have la2 : ∀ i, (leaf ta i).length ≤ 1000000000 := fun i => Nat.le_trans (right_leaf hRA i) (by decide)
    have lb1 := right_len hRB
    have lb2 : ∀ i, (leaf tb i).length ≤ 1000000000 := fun i => Nat.le_trans (right_leaf hRB i) (by decide)
    have lc1 := right_len hRC
    have lc2 : ∀ i, (leaf (setT tb (y % 500) ⟨2, 5, 1, 0, 0⟩) i).length ≤ 1000000000 := fun i => Nat.le_trans (right_leaf hRC i) (by decide)
    refine G_run tOk eok_forder 60 (fun _ => none) (fun bs => rfl) (fun bs => ?_) (fun bs => ?_)
    · (repeat' apply And.intro) <;> (intros; first | exact trivial | exact rfl | omega | exact u8_lo _ | exact u8_hi _ | exact u8_in64 _ | exact u8_in63 _ | (simp only [inR, IntKind.bits]; omega) | (simp [inR, IntKind.bits]; done) | (simp [inR, IntKind.bits] at * <;> omega) | (simp_all; done) | skip)
    refine G_nx 2 rfl ?_
    refine G_draw tOk eok_forder rfl (fun _ => none) 8 [0, 0, 0, 6, 14, 30, 62, 0, 255, 511] [] rfl (by decide +kernel) (fun bs => rfl) (fun bs => ?_) (fun bs => ?_)
    · simp only [hx2]
      (repeat' apply And.intro) <;> (intros; first | exact trivial | exact rfl | omega | exact u8_lo _ | exact u8_hi _ | exact u8_in64 _ | exact u8_in63 _ | (simp only [inR, IntKind.bits]; omega) | (simp [inR, IntKind.bits]; done) | (simp [inR, IntKind.bits] at * <;> omega) | (simp_all; done) | skip)
    refine G_run tOk eok_forder 60 (fun _ => none) (fun bs => rfl) (fun bs => ?_) (fun bs => ?_)
    · simp only [hx2, hy2]
      (repeat' apply And.intro) <;> (intros; first | exact trivial | exact rfl | omega | exact la2 _ | exact lb2 _ | exact lc2 _ | (simp; done) | (simp [inR]; omega) | skip)
    refine G_lp [0, 1] (k + 1) ?ok1 ?wk1
    case ok1 => exact ⟨by omega, by omega⟩
    case wk1 =>
      (repeat' apply And.intro) <;> (first | exact rfl | exact trivial | omega | refine sigEq ?_ | skip)
      · refine congrArg (PV.lst .tbl) ?_; rw [hN, ← hx2]; rfl
      · refine congrArg (PV.lst .tbl) ?_; rw [hM, ← hy2]; rfl
  · have hk' : k = ns.length := by omega
    subst hk'
    rw [hE]
    have hRA := (hA ns.length).1
    have hRD := fun i => right_set hRA one_may i
    generalize ordA ns ns.length = ta at *
    have la1 := right_len hRA
    have la2 : ∀ i, (leaf ta i).length ≤ 1000000000 := fun i => Nat.le_trans (right_leaf hRA i) (by decide)
    refine G_run tOk eok_forder 60 (fun _ => none) (fun bs => rfl) (fun bs => ?_) (fun bs => ?_)
    · (repeat' apply And.intro) <;> (intros; first | exact trivial | exact rfl | omega | exact u8_lo _ | exact u8_hi _ | exact u8_in64 _ | exact u8_in63 _ | (simp only [inR, IntKind.bits]; omega) | (simp [inR, IntKind.bits]; done) | (simp [inR, IntKind.bits] at * <;> omega) | (simp_all; done) | skip)
    refine G_loop (fun k : Nat => [(0, lst (.ints .u16) ns), (3, .c (.ptr 0 b 0)), (4, .c (.ptr 1 c 0)), (7, int .i64 k)]) (fun k => [.blk b 24 [.pv (.lst .tbl ta)], .blk c 24 [.pv (.lst .tbl ta)]]) (fun k => k ≤ ns.length) (fun k => 60 - k) rfl [0, 1] 0 (Nat.zero_le _) ?wk2 (fun k hx2 => ?_)
    case wk2 => (repeat' apply And.intro) <;> (first | exact rfl | exact trivial | omega | refine sigEq ?_ | skip)
    refine G_run tOk eok_forder 60 (fun _ => none) (fun bs => rfl) (fun bs => ?_) (fun bs => ?_)
    · (repeat' apply And.intro) <;> (intros; first | exact trivial | exact rfl | omega | exact u8_lo _ | exact u8_hi _ | exact u8_in64 _ | exact u8_in63 _ | (simp only [inR, IntKind.bits]; omega) | (simp [inR, IntKind.bits]; done) | (simp [inR, IntKind.bits] at * <;> omega) | (simp_all; done) | skip)
    refine G_if rfl rfl (fun h => ?_) (fun h => ?_)
    · have h' : k < ns.length := by omega
      have hu := hU k (by omega)
      have hRD := hRD (500 + (k : Int))
      have ld1 := right_len hRD
      have ld2 : ∀ i, (leaf (setT ta (500 + (k : Int)) oneE) i).length ≤ 1000000000 := fun i => Nat.le_trans (right_leaf hRD i) (by decide)
      have ld1' : (setT ta (500 + (k : Int)) ⟨1, 0, 0, 0, 0⟩).length ≤ 512 := ld1
      refine G_run tOk eok_forder 60 (fun _ => none) (fun bs => rfl) (fun bs => ?_) (fun bs => ?_)
      · (repeat' apply And.intro) <;> (intros; first | exact trivial | exact rfl | omega | exact la2 _ | exact ld2 _ | (simp; done) | (simp [inR]; omega) | skip)
      refine G_lp [0, 1] (k + 1) ?ok3 ?wk3
      case ok3 => exact ⟨by omega, by omega⟩
      case wk3 =>
        (repeat' apply And.intro) <;> (first | exact rfl | exact trivial | omega | refine sigEq ?_ | skip)
        all_goals (refine congrArg (PV.lst .tbl) ?_; exact hu)
    · refine G_run tOk eok_forder 60 (fun _ => some true) (fun bs => rfl) (fun bs => ?_) (fun bs => ?_)
      · (repeat' apply And.intro) <;> (intros; first | exact trivial | exact rfl | omega | exact u8_lo _ | exact u8_hi _ | exact u8_in64 _ | exact u8_in63 _ | (simp only [inR, IntKind.bits]; omega) | (simp [inR, IntKind.bits]; done) | (simp [inR, IntKind.bits] at * <;> omega) | (simp_all; done) | skip)
      refine G_ret tOk hM0 rfl rfl ⟨trivial, trivial⟩ ?_
      conv => whnf
      simp
def forder_s : FSpec
  | [.c (.pv (.lst (.ints .u16) ns))] => some ((ns.length ≤ 9223372036854775807) ∧ (∀ m ∈ ns, inR .u16 m), false, .x (.c (bv true)))
  | _ => none
theorem forder_s_ok : SpecOk Try.prog 5 forder_s := by
  intro args pre sh rv h hp; unfold forder_s at h; split at h
  · cases h; obtain ⟨hn, hr⟩ := hp; exact forder_fn _ hn hr
  · cases h
def psi_forder : FuncId → Option FSpec := psiCons 5 forder_s psi_fempties
theorem psi_forder_ok : PsiFn Try.prog psi_forder := psiCons_ok forder_s_ok psi_fempties_ok
end Go.Proofs.Ytnmomckmpknbkaa
