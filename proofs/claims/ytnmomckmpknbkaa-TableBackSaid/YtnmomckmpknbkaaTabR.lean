import Derived.Test.YtnmomckmpknbkaaTabO
set_option linter.unusedSimpArgs false
set_option linter.unusedVariables false
namespace Go.Proofs.Ytnmomckmpknbkaa
open Go.Mt

def clrN (t : List (List Entry)) (ns : List Int) : Nat → List (List Entry)
  | 0 => t
  | k + 1 => setT (clrN t ns k) (ns.getD k 0 % 300) entZ
theorem atnil (j : Nat) : atT [] (j : Int) = entZ := at_out (Nat.zero_le _)
theorem madN_in {ns : List Int} (h : ∀ i, 0 ≤ ns.getD i 0) : ∀ k j : Nat, j < 4096 → atT (madN ns k) (j : Int) = entZ ∨ ∃ i : Nat, i < k ∧ ns.getD i 0 % 300 = (j : Int) := by
  intro k
  induction k with
  | zero => intro j hj; left; exact at_out (by simp [madN])
  | succ k ih =>
    intro j hj
    simp only [madN]
    obtain ⟨q, hq⟩ : ∃ q : Nat, ns.getD k 0 % 300 = q := ⟨(ns.getD k 0 % 300).toNat, by have := h k; omega⟩
    rw [hq, at_set (madN_right h k) (madeE_may (h k)) (by omega)]
    split
    · rename_i e; exact .inr ⟨k, by omega, by rw [hq, e]⟩
    · rcases ih j hj with h1 | ⟨i, h1, h2⟩
      · exact .inl h1
      · exact .inr ⟨i, by omega, h2⟩
theorem clrN_ok {t : List (List Entry)} {ns : List Int} (ht : rightT t 4096 2 = true) (h : ∀ i, 0 ≤ ns.getD i 0) : ∀ k : Nat, rightT (clrN t ns k) 4096 2 = true ∧ ∀ j : Nat, j < 4096 → (atT t (j : Int) = entZ ∨ ∃ i : Nat, i < k ∧ ns.getD i 0 % 300 = (j : Int)) → atT (clrN t ns k) (j : Int) = entZ := by
  intro k
  induction k with
  | zero =>
    refine ⟨ht, fun j hj h1 => ?_⟩
    rcases h1 with h1 | ⟨i, h1, _⟩
    · exact h1
    · omega
  | succ k ih =>
    obtain ⟨i1, i2⟩ := ih
    obtain ⟨q, hq⟩ : ∃ q : Nat, ns.getD k 0 % 300 = q := ⟨(ns.getD k 0 % 300).toNat, by have := h k; omega⟩
    refine ⟨right_set i1 (may_zero (by decide)) _, fun j hj h1 => ?_⟩
    simp only [clrN]
    rw [hq, at_set i1 (may_zero (by decide)) (by omega)]
    split
    · rfl
    · rename_i hne
      refine i2 j hj ?_
      rcases h1 with h1 | ⟨i, h1, h2⟩
      · exact .inl h1
      · by_cases e : i = k
        · subst e; rw [hq] at h2; omega
        · exact .inr ⟨i, by omega, h2⟩
theorem clr_all {ns : List Int} (hr : ∀ m ∈ ns, inR .u16 m) : clrN (madT ns) ns (min ns.length 60) = [] := by
  have hg := fun i => (gets hr i).1
  obtain ⟨c1, c2⟩ := clrN_ok (madT_right hr) hg (min ns.length 60)
  refine tab_ext c1 (nil_right (c := 2) (by decide)) (fun j hj => ?_)
  rw [atnil]
  exact c2 j hj (madN_in hg _ j hj)
theorem setT_far (t : List (List Entry)) (e : Entry) {i : Int} (h : i < 0 ∨ 4096 ≤ i) : setT t i e = t := by
  unfold setT; rw [if_pos (by omega)]
theorem set_last {t : List (List Entry)} (ht : rightT t 4096 2 = true) : (setT t 4095 ⟨1, 0, 0, 0, 0⟩).length = 512 ∧ (atT (setT t 4095 ⟨1, 0, 0, 0, 0⟩) 4095).kind = 1 := by
  have h1 := right_len (right_set ht (may_one (c := 2) (by decide)) 4095)
  have h2 := at_set ht (may_one (c := 2) (by decide)) (show 4095 < 4096 by decide) 4095
  rw [if_pos rfl] at h2
  refine ⟨?_, by rw [show (4095 : Int) = ((4095 : Nat) : Int) from rfl, h2]⟩
  by_cases h : (setT t 4095 ⟨1, 0, 0, 0, 0⟩).length ≤ 511
  · have := at_out (t := setT t 4095 ⟨1, 0, 0, 0, 0⟩) (j := 4095) (by omega)
    rw [show (4095 : Int) = ((4095 : Nat) : Int) from rfl] at this
    rw [this] at h2
    exact absurd h2 (by decide)
  · omega
theorem cut_zero {t : List (List Entry)} (ht : rightT t 4096 2 = true) : cutT t 0 = [] := by
  unfold cutT
  rw [zero_any ht]
  obtain ⟨c1, c2⟩ := cutN_ok ht 0 (t.length * 8)
  refine tab_ext c1 (nil_right (c := 2) (by decide)) (fun j hj => ?_)
  have := c2 j hj
  refine Eq.trans this ?_
  rw [atnil]
  split
  · rfl
  · exact at_out (by omega)

def env_fempties : Env := ⟨T, psi_fmixed, pspNil, 85, [], none, true⟩
theorem eok_fempties : PsiOk Try.prog env_fempties := ⟨psi_fmixed_ok, pspNil_ok⟩
theorem fempties_fn (ns : List Int) (far : Int) (hn : ns.length ≤ 9223372036854775807) (hr : ∀ m ∈ ns, inR .u16 m) (hp : inR .u16 far) : Ctr Try.prog 8 false [lst (.ints .u16) ns, int .u16 far] (.x (.c (bv true))) := by
  refine Ctr_intro (E := env_fempties) Try.func8 rfl (by decide) rfl rfl (fun M0 W hM0 => ?_)
  have hp' : 0 ≤ far ∧ far ≤ 65535 := hp
  have hR := madT_right hr
  have hg := gets hr
  have hC := clrN_ok hR (fun i => (hg i).1)
  have hall := clr_all hr
  obtain ⟨l1, l2⟩ := set_last hR
  have l3 := cut_zero hR
  have l4 : ((setT (madT ns) 4095 ⟨1, 0, 0, 0, 0⟩).length : Int) = 512 := by rw [l1]; rfl
  have hS := right_set hR (may_one (c := 2) (by decide)) 4095
  have s2 : ∀ i, (leaf (setT (madT ns) 4095 ⟨1, 0, 0, 0, 0⟩) i).length ≤ 1000000000 := fun i => Nat.le_trans (right_leaf hS i) (by decide)
  have ff := fun e => setT_far (madT ns) e (i := 4096 + far) (by omega)
  have fb := fun e => setT_far (madT ns) e (i := -1 - far) (by omega)
  have ht1 := right_len hR
  have ht2 : ∀ i, (leaf (madT ns) i).length ≤ 1000000000 := fun i => Nat.le_trans (right_leaf hR i) (by decide)
  refine G_run tOk eok_fempties 60 (fun _ => none) (fun bs => rfl) (fun bs => ?_) (fun bs => ?_)
  · (repeat' apply And.intro) <;> (intros; first | exact trivial | exact rfl | omega | exact u8_lo _ | exact u8_hi _ | exact u8_in64 _ | exact u8_in63 _ | (simp only [inR, IntKind.bits]; omega) | (simp [inR, IntKind.bits]; done) | (simp [inR, IntKind.bits] at * <;> omega) | (simp_all; done) | skip)
  generalize madT ns = t at *
  refine G_wkB2 (ns := [0, 1]) (fs := fun b c => [(0, lst (.ints .u16) ns), (1, int .u16 far), (5, .c (.ptr 0 b 0)), (6, .c (.ptr 1 c 0)), (7, int .i64 0)]) (hs := fun b c => [.blk b 24 [.pv (.lst .tbl t)], .blk c 24 [.pv (.lst .tbl t)]]) ?b1 ?c1 rfl ?wk0 (fun b c => ?_)
  case wk0 => (repeat' apply And.intro) <;> (first | exact rfl | exact trivial | omega | refine sigEq ?_ | skip)
  refine G_loop (fun k : Nat => [(0, lst (.ints .u16) ns), (1, int .u16 far), (5, .c (.ptr 0 b 0)), (6, .c (.ptr 1 c 0)), (7, int .i64 k)]) (fun k => [.blk b 24 [.pv (.lst .tbl (clrN t ns k))], .blk c 24 [.pv (.lst .tbl t)]]) (fun k => k ≤ min ns.length 60) (fun k => 60 - k) rfl [0, 1] 0 (Nat.zero_le _) ?wk (fun k hx => ?_)
  case wk => (repeat' apply And.intro) <;> (first | exact rfl | exact trivial | omega | refine sigEq ?_ | skip)
  have hR := (hC k).1
  have hl2 := right_len hR
  have hl3 : ∀ i, (leaf (clrN t ns k) i).length ≤ 1000000000 := fun i => Nat.le_trans (right_leaf hR i) (by decide)
  refine G_run tOk eok_fempties 60 (fun _ => none) (fun bs => rfl) (fun bs => ?_) (fun bs => ?_)
  · (repeat' apply And.intro) <;> (intros; first | exact trivial | exact rfl | omega | exact u8_lo _ | exact u8_hi _ | exact u8_in64 _ | exact u8_in63 _ | (simp only [inR, IntKind.bits]; omega) | (simp [inR, IntKind.bits]; done) | (simp [inR, IntKind.bits] at * <;> omega) | (simp_all; done) | skip)
  refine G_cond rfl rfl (fun h => ?_) (fun h => ?_)
  · have h' : (k : Int) < ns.length ∧ (k : Int) < 60 := by simpa using h
    have g1 := hg k
    obtain ⟨x, hx1⟩ : ∃ x, ns.getD k 0 = x := ⟨_, rfl⟩
    have hx2 : ns.getD (Int.toNat (k : Int)) (LK.ints IntKind.u16).dft = x := hx1
    rw [hx1] at g1
    have hN : clrN t ns (k + 1) = setT (clrN t ns k) (x % 300) entZ := by simp only [clrN, hx1]
    refine G_run tOk eok_fempties 60 (fun _ => none) (fun bs => rfl) (fun bs => ?_) (fun bs => ?_)
    · (repeat' apply And.intro) <;> (intros; first | exact trivial | exact rfl | omega | exact u8_lo _ | exact u8_hi _ | exact u8_in64 _ | exact u8_in63 _ | (simp only [inR, IntKind.bits]; omega) | (simp [inR, IntKind.bits]; done) | (simp [inR, IntKind.bits] at * <;> omega) | (simp_all; done) | skip)
    refine G_nx 2 rfl ?_
    refine G_draw tOk eok_fempties rfl (fun _ => none) 8 [0, 0, 0, 6, 14, 30, 62, 0, 255, 511] [] rfl (by decide +kernel) (fun bs => rfl) (fun bs => ?_) (fun bs => ?_)
    · simp only [hx2]
      (repeat' apply And.intro) <;> (intros; first | exact trivial | exact rfl | omega | exact u8_lo _ | exact u8_hi _ | exact u8_in64 _ | exact u8_in63 _ | (simp only [inR, IntKind.bits]; omega) | (simp [inR, IntKind.bits]; done) | (simp [inR, IntKind.bits] at * <;> omega) | (simp_all; done) | skip)
    refine G_run tOk eok_fempties 60 (fun _ => none) (fun bs => rfl) (fun bs => ?_) (fun bs => ?_)
    · (repeat' apply And.intro) <;> (intros; first | exact trivial | exact rfl | omega | exact u8_lo _ | exact u8_hi _ | exact u8_in64 _ | exact u8_in63 _ | (simp only [inR, IntKind.bits]; omega) | (simp [inR, IntKind.bits]; done) | (simp [inR, IntKind.bits] at * <;> omega) | (simp_all; done) | skip)
    refine G_lp [0, 1] (k + 1) ?ok1 ?wk1
    case ok1 => exact ⟨by omega, by omega⟩
    case wk1 =>
      (repeat' apply And.intro) <;> (first | exact rfl | exact trivial | omega | refine sigEq ?_ | skip)
      all_goals (refine congrArg (PV.lst .tbl) ?_; rw [hN, ← hx1]; rfl)
  · have h' : ¬ ((k : Int) < ns.length ∧ (k : Int) < 60) := by simpa using h
    have hk' : k = min ns.length 60 := by omega
    subst hk'
    rw [hall]
    refine G_run tOk eok_fempties 60 (fun _ => some true) (fun bs => rfl) (fun bs => ?_) (fun bs => ?_)
    · simp only [ff, fb, l3, l1, l2]
      (repeat' apply And.intro) <;> (intros; first | exact trivial | exact rfl | omega | exact ht2 _ | exact s2 _ | (simp; done) | (simp [inR]; omega) | skip)
    refine G_ret tOk hM0 rfl rfl ⟨trivial, trivial⟩ ?_
    conv => whnf
    simp [ff, fb, l1, l2, l3]
def fempties_s : FSpec
  | [.c (.pv (.lst (.ints .u16) ns)), .c (.pv (.val (.int .u16 far)))] => some ((ns.length ≤ 9223372036854775807) ∧ (∀ m ∈ ns, inR .u16 m) ∧ (inR .u16 far), false, .x (.c (bv true)))
  | _ => none
theorem fempties_s_ok : SpecOk Try.prog 8 fempties_s := by
  intro args pre sh rv h hp; unfold fempties_s at h; split at h
  · cases h; obtain ⟨hn, hr, hp⟩ := hp; exact fempties_fn _ _ hn hr hp
  · cases h
def psi_fempties : FuncId → Option FSpec := psiCons 8 fempties_s psi_fmixed
theorem psi_fempties_ok : PsiFn Try.prog psi_fempties := psiCons_ok fempties_s_ok psi_fmixed_ok
end Go.Proofs.Ytnmomckmpknbkaa
