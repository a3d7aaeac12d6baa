import Derived.Test.YtnmomckmpknbkaaTabX
set_option linter.unusedSimpArgs false
set_option linter.unusedVariables false
namespace Go.Proofs.Ytnmomckmpknbkaa
open Go.Mt
namespace Th
def env_rcopy : Env := ⟨T, psi_rset, pspNil, 25, [], none, true⟩
theorem eok_rcopy : PsiOk Try.prog env_rcopy := ⟨psi_rset_ok, pspNil_ok⟩
theorem rcopy_fn (t0 : List (List Entry)) (hl : t0.length ≤ 1000000000) (hf : ∀ i, (leaf t0 i).length ≤ 1000000000) : Ctr Try.prog 21 true [.g [.pv (.lst .tbl t0)]] (.x (.g [.lst .tbl t0])) := by
  refine Ctr_intro (E := env_rcopy) Try.func21 rfl (by decide) rfl rfl (fun M0 W hM0 => ?_)
  refine G_run tOk eok_rcopy 60 (fun _ => none) (fun bs => rfl) (fun bs => ?_) (fun bs => ?_)
  · (repeat' apply And.intro) <;> (intros; first | exact trivial | exact rfl | omega | exact u8_lo _ | exact u8_hi _ | exact u8_in64 _ | exact u8_in63 _ | (simp only [inR, IntKind.bits]; omega) | (simp [inR, IntKind.bits]; done) | (simp [inR, IntKind.bits] at * <;> omega) | (simp_all; done) | skip)
  refine G_ownB 2 0 58 rfl rfl ?_
  refine G_tblH 3 rfl ?_
  refine G_wkB3 (ns := [0, 1, 2, 3]) (fs := fun b c d => [(1, .c (.ptr 0 b 0)), (2, .c (.ptr 1 c 0)), (3, .c (.ptr 2 d 0)), (4, int .i64 0)]) (hs := fun b c d => [.blk b 24 [.pv (.lst .tbl t0)], .blk c 24 [.pv (.nil .tbl)], .blk d 24 [.own 3 (.slice none 0 0)], .own (.slice none 0 0) 58 .tbh []]) ?b1 ?c1 ?d1 rfl ?wk0 (fun b c d => ?_)
  case wk0 => (repeat' apply And.intro) <;> (first | exact rfl | exact trivial | omega | refine sigEq ?_ | skip)
  refine G_loop (fun x : Nat × Value => [(1, .c (.ptr 0 b 0)), (2, .c (.ptr 1 c 0)), (3, .c (.ptr 2 d 0)), (4, int .i64 x.1)]) (fun x => [.blk b 24 [.pv (.lst .tbl t0)], .blk c 24 [.pv (.nil .tbl)], .blk d 24 [.own 3 x.2], .own x.2 58 .tbh ((t0.take x.1).map .l)]) (fun x => x.1 ≤ t0.length) (fun x => t0.length - x.1) rfl [0, 1, 2, 3] (0, .slice none 0 0) (Nat.zero_le _) ?wk (fun x hx => ?_)
  case wk => (repeat' apply And.intro) <;> (first | exact rfl | exact trivial | omega | refine sigEq ?_ | skip)
  obtain ⟨i, V⟩ := x
  dsimp only at hx ⊢
  refine G_run tOk eok_rcopy 60 (fun _ => none) (fun bs => rfl) (fun bs => ?_) (fun bs => ?_)
  · (repeat' apply And.intro) <;> (intros; first | exact trivial | exact rfl | omega | exact u8_lo _ | exact u8_hi _ | exact u8_in64 _ | exact u8_in63 _ | (simp only [inR, IntKind.bits]; omega) | (simp [inR, IntKind.bits]; done) | (simp [inR, IntKind.bits] at * <;> omega) | (simp_all; done) | skip)
  refine G_if rfl rfl (fun hk => ?_) (fun hk => ?_)
  · have hk' : i < t0.length := by omega
    have hfx := hf i
    have hlx : t0.getD (Int.toNat (i : Int)) LK.tbl.dft = leaf t0 i := rfl
    have hLL : ((t0.take i).map TE.l).length = i := by simp; omega
    refine G_run tOk eok_rcopy 60 (fun _ => none) (fun bs => rfl) (fun bs => ?_) (fun bs => ?_)
    · (repeat' apply And.intro) <;> (intros; first | exact trivial | exact rfl | omega | exact u8_lo _ | exact u8_hi _ | exact u8_in64 _ | exact u8_in63 _ | (simp only [inR, IntKind.bits]; omega) | (simp [inR, IntKind.bits]; done) | (simp [inR, IntKind.bits] at * <;> omega) | (simp_all; done) | skip)
    refine G_nx 4 rfl ?_
    refine G_draw tOk eok_rcopy rfl (fun _ => none) 10 [0, 1, 0, 0, 8, 0, 56, 120, 252, 508, 1023, 2047, 4095] [(8, 6)] rfl (by decide +kernel) (fun bs => rfl) (fun bs => ?_) (fun bs => ?_)
    · simp only [hlx]
      (repeat' apply And.intro) <;> (intros; first | exact trivial | exact rfl | omega | exact u8_lo _ | exact u8_hi _ | exact u8_in64 _ | exact u8_in63 _ | (simp only [inR, IntKind.bits]; omega) | (simp [inR, IntKind.bits]; done) | (simp [inR, IntKind.bits] at * <;> omega) | (simp_all; done) | skip)
    refine G_run tOk eok_rcopy 60 (fun _ => none) (fun bs => rfl) (fun bs => ?_) (fun bs => ?_)
    · simp only [hlx, hLL]
      (repeat' apply And.intro) <;> (intros; first | exact trivial | exact rfl | omega | exact u8_lo _ | exact u8_hi _ | exact u8_in64 _ | exact u8_in63 _ | (simp only [inR, IntKind.bits]; omega) | (simp [inR, IntKind.bits]; done) | (simp [inR, IntKind.bits] at * <;> omega) | (simp_all; done) | skip)
    have hget : ∀ x : TE, ((t0.take i).map TE.l ++ [x])[i]? = some x := fun x => by
      rw [List.getElem?_append_right (by omega), hLL]; simp
    have hset : ∀ x y : TE, ((t0.take i).map TE.l ++ [x]).set i y = (t0.take i).map TE.l ++ [y] := fun x y => by
      rw [List.set_append, hLL, if_neg (by omega)]; simp
    refine G_tbhF 14 12 i rfl (hget _) rfl ?_
    refine G_lp [0, 1, 2, 14] (i + 1, ?v3) ?ok2 ?wk2
    case wk2 =>
      (repeat' apply And.intro) <;> (first | exact rfl | exact trivial | omega | refine sigEq ?_ | skip)
      all_goals
        refine (hset _ _).trans ?_
        have e : t0.take (i + 1) = t0.take i ++ [leaf t0 i] := by
          rw [List.take_add_one, List.getElem?_eq_getElem hk']; simp [leaf, List.getD, List.getElem?_eq_getElem hk']
        rw [e, List.map_append]; rfl
    case ok2 => exact ⟨hk', by simp only; omega⟩
  · have hk' : i = t0.length := by omega
    subst hk'
    refine G_tbhT 3 t0 rfl (by rw [List.take_length]) ?_
    refine G_freezeC 2 0 3 rfl rfl rfl ?_
    refine G_run tOk eok_rcopy 60 (fun _ => none) (fun bs => rfl) (fun bs => ?_) (fun bs => ?_)
    · (repeat' apply And.intro) <;> (intros; first | exact trivial | exact rfl | omega | exact u8_lo _ | exact u8_hi _ | exact u8_in64 _ | exact u8_in63 _ | (simp only [inR, IntKind.bits]; omega) | (simp [inR, IntKind.bits]; done) | (simp [inR, IntKind.bits] at * <;> omega) | (simp_all; done) | skip)
    refine G_ret tOk hM0 rfl rfl ⟨rfl, trivial⟩ ?_
    exact ⟨rfl, trivial⟩
def rcopy_s : FSpec
  | [.g [.pv (.lst .tbl t0)]] => some ((t0.length ≤ 1000000000) ∧ (∀ i, (leaf t0 i).length ≤ 1000000000), true, .x (.g [.lst .tbl t0]))
  | _ => none
theorem rcopy_s_ok : SpecOk Try.prog 21 rcopy_s := by
  intro args pre sh rv h hp; unfold rcopy_s at h; split at h
  · cases h; obtain ⟨hl, hf⟩ := hp; exact rcopy_fn _ hl hf
  · cases h
def psi_rcopy : FuncId → Option FSpec := psiCons 21 rcopy_s psi_rset
theorem psi_rcopy_ok : PsiFn Try.prog psi_rcopy := psiCons_ok rcopy_s_ok psi_rset_ok
end Th

/-! ### what is behind a place is let go -/
def cutN (t : List (List Entry)) (n : Nat) : Nat → List (List Entry)
  | 0 => t
  | k + 1 => match noneX (atT (cutN t n k) ((n + k : Nat) : Int)) with
    | true => cutN t n k
    | false => setT (cutN t n k) ((n + k : Nat) : Int) entZ
def cutT (t : List (List Entry)) (n : Int) : List (List Entry) := match anyN t entZ 7 with
  | true => cutN t (max n 0).toNat (t.length * 8 - (max n 0).toNat)
  | false => t
theorem any_ok {t : List (List Entry)} (h : anyN t entZ 7 = true) : ∃ c : Int, rightT t 4096 c = true := any_right h
theorem cutN_ok {t : List (List Entry)} {c : Int} (h : rightT t 4096 c = true) (n : Nat) : ∀ k, rightT (cutN t n k) 4096 c = true ∧ ∀ j : Nat, j < 4096 → atT (cutN t n k) j = if n ≤ j ∧ j < n + k then entZ else atT t j := by
  intro k
  induction k with
  | zero => exact ⟨h, fun j _ => by rw [if_neg (by omega)]; rfl⟩
  | succ k ih =>
    obtain ⟨i1, i2⟩ := ih
    have hz := may_zero (right_c h)
    simp only [cutN]
    cases hn : noneX (atT (cutN t n k) ((n + k : Nat) : Int)) with
    | true =>
      refine ⟨i1, fun j hj => ?_⟩
      simp only
      rw [i2 j hj]
      by_cases e : j = n + k
      · subst e
        have := none_zero (at_may i1 (n + k)) hn
        rw [i2 _ hj] at this
        rw [this, if_pos (by omega)]
      · by_cases e2 : n ≤ j ∧ j < n + k
        · rw [if_pos e2, if_pos (by omega)]
        · rw [if_neg e2, if_neg (by omega)]
    | false =>
      refine ⟨right_set i1 hz _, fun j hj => ?_⟩
      simp only
      by_cases hb : n + k < 4096
      · rw [at_set i1 hz hb, i2 j hj]
        by_cases e : j = n + k
        · rw [if_pos e, if_pos (by omega)]
        · rw [if_neg e]
          by_cases e2 : n ≤ j ∧ j < n + k
          · rw [if_pos e2, if_pos (by omega)]
          · rw [if_neg e2, if_neg (by omega)]
      · have : setT (cutN t n k) ((n + k : Nat) : Int) entZ = cutN t n k := by unfold setT; rw [if_pos (by omega)]
        rw [this, i2 j hj]
        by_cases e2 : n ≤ j ∧ j < n + k
        · rw [if_pos e2, if_pos (by omega)]
        · rw [if_neg e2, if_neg (by omega)]
/-- Once nothing is behind, nothing changes. -/
theorem cutN_rest {t : List (List Entry)} {c : Int} (h : rightT t 4096 c = true) (n : Nat) {k m : Nat} (hk : (cutN t n k).length * 8 ≤ n + k) (hm : t.length * 8 ≤ n + m) : cutN t n k = cutN t n m := by
  have a := cutN_ok h n k
  have b := cutN_ok h n m
  refine tab_ext a.1 b.1 (fun j hj => ?_)
  rw [b.2 j hj]
  by_cases e : n ≤ j ∧ j < n + m
  · rw [if_pos e]
    by_cases e2 : j < n + k
    · rw [a.2 j hj, if_pos ⟨e.1, e2⟩]
    · exact at_out (by omega)
  · rw [if_neg e, a.2 j hj]
    by_cases e2 : n ≤ j ∧ j < n + k
    · rw [if_pos e2]; exact (at_out (by omega)).symm
    · rw [if_neg e2]
theorem right_leaf {t : List (List Entry)} {n c : Int} (h : rightT t n c = true) (i : Nat) : (leaf t i).length ≤ 8 := by rcases right_row h i with h | h <;> omega
theorem right_len {t : List (List Entry)} {n c : Int} (h : rightT t n c = true) : t.length ≤ 512 := by
  by_cases hh : 512 < t.length
  · exact (right_few h hh).elim
  · omega
theorem zero_any {t : List (List Entry)} {c : Int} (h : rightT t 4096 c = true) : anyN t entZ 7 = true := any_of h (may_zero (right_c h))

def psi_y : FuncId → Option FSpec := psiCons 33 copied_s Th.psi_rcopy
theorem psi_y_ok : PsiFn Try.prog psi_y := psiCons_ok copied_s_ok Th.psi_rcopy_ok

def env_tcut : Env := ⟨T, psi_y, pspNil, 28, [], none, true⟩
theorem eok_tcut : PsiOk Try.prog env_tcut := ⟨psi_y_ok, pspNil_ok⟩
theorem tcut_fn (t0 : List (List Entry)) (n : Int) (hl : t0.length ≤ 1000000000) (hf : ∀ i, (leaf t0 i).length ≤ 1000000000) (hn : n ≤ 9223372036854775807) : Ctr Try.prog 22 true [.g [.pv (.lst .tbl t0)], int .i64 n] (.x (.g [.lst .tbl (cutT t0 n)])) := by
  refine Ctr_intro (E := env_tcut) Try.func22 rfl (by decide) rfl rfl (fun M0 W hM0 => ?_)
  refine G_run tOk eok_tcut 60 (fun _ => none) (fun bs => rfl) (fun bs => ?_) (fun bs => ?_)
  · (repeat' apply And.intro) <;> (intros; first | exact trivial | exact rfl | omega | exact u8_lo _ | exact u8_hi _ | exact u8_in64 _ | exact u8_in63 _ | (simp only [inR, IntKind.bits]; omega) | (simp [inR, IntKind.bits]; done) | (simp [inR, IntKind.bits] at * <;> omega) | (simp_all; done) | skip)
  obtain ⟨m, hm⟩ : ∃ m : Nat, max n 0 = m := ⟨(max n 0).toNat, by omega⟩
  have hmt : (max n 0).toNat = m := by omega
  cases ha : anyN t0 entZ 7 with
  | false =>
    have hC : cutT t0 n = t0 := by simp only [cutT, ha]
    have hS : ∀ i, setT t0 i entZ = t0 := fun i => by unfold setT; rw [if_pos (.inr (.inr ha))]
    rw [hC]
    refine G_wkB2 (ns := [0, 1]) (fs := fun b c => [(2, .c (.ptr 0 b 0)), (4, .c (.ptr 1 c 0)), (5, int .i64 (max n 0))]) (hs := fun b c => [.blk b 24 [.pv (.lst .tbl t0)], .blk c 24 [.pv (.nil .tbl)]]) ?b1 ?c1 rfl ?wk0 (fun b c => ?_)
    case wk0 => (repeat' apply And.intro) <;> (first | exact rfl | exact trivial | omega | refine sigEq ?_ | skip)
    rw [hm]
    refine G_loop (fun x : Nat => [(2, .c (.ptr 0 b 0)), (4, .c (.ptr 1 c 0)), (5, int .i64 x)]) (fun x => [.blk b 24 [.pv (.lst .tbl t0)], .blk c 24 [.pv (.nil .tbl)]]) (fun x => m ≤ x) (fun x => 4096 - x) rfl [0, 1] m (Nat.le_refl _) ?wk (fun x hx => ?_)
    case wk => (repeat' apply And.intro) <;> (first | exact rfl | exact trivial | omega | refine sigEq ?_ | skip)
    refine G_run tOk eok_tcut 60 (fun _ => none) (fun bs => rfl) (fun bs => ?_) (fun bs => ?_)
    · (repeat' apply And.intro) <;> (intros; first | exact trivial | exact rfl | omega | exact u8_lo _ | exact u8_hi _ | exact u8_in64 _ | exact u8_in63 _ | (simp only [inR, IntKind.bits]; omega) | (simp [inR, IntKind.bits]; done) | (simp [inR, IntKind.bits] at * <;> omega) | (simp_all; done) | skip)
    refine G_if (p := (x : Int) < min ((t0.length : Int) * 8) 4096) rfl rfl (fun hk => ?_) (fun hk => ?_)
    · have hk' : x < 4096 := by omega
      refine G_run tOk eok_tcut 60 (fun _ => none) (fun bs => rfl) (fun bs => ?_) (fun bs => ?_)
      · (repeat' apply And.intro) <;> (intros; first | exact trivial | exact rfl | omega | exact u8_lo _ | exact u8_hi _ | exact u8_in64 _ | exact u8_in63 _ | (simp only [inR, IntKind.bits]; omega) | (simp [inR, IntKind.bits, hf]; done) | (simp [inR, IntKind.bits, hf] at * <;> omega) | (simp_all; done) | skip)
      refine G_cond (b := !noneX (atT t0 x)) rfl rfl (fun h2 => ?_) (fun h2 => ?_)
      · refine G_run tOk eok_tcut 60 (fun _ => none) (fun bs => rfl) (fun bs => ?_) (fun bs => ?_)
        · (repeat' apply And.intro) <;> (intros; first | exact trivial | exact rfl | omega | exact u8_lo _ | exact u8_hi _ | exact u8_in64 _ | exact u8_in63 _ | (simp only [inR, IntKind.bits]; omega) | (simp [inR, IntKind.bits, hf]; done) | (simp [inR, IntKind.bits, hf] at * <;> omega) | (simp_all; done) | skip)
        refine G_lp [0, 1] (x + 1) ?ok1 ?wk1
        case ok1 => exact ⟨by omega, by omega⟩
        case wk1 =>
          (repeat' apply And.intro) <;> (first | exact rfl | exact trivial | omega | refine sigEq ?_ | skip)
          all_goals (exact congrArg (PV.lst .tbl) (hS x))
      · refine G_run tOk eok_tcut 60 (fun _ => none) (fun bs => rfl) (fun bs => ?_) (fun bs => ?_)
        · (repeat' apply And.intro) <;> (intros; first | exact trivial | exact rfl | omega | exact u8_lo _ | exact u8_hi _ | exact u8_in64 _ | exact u8_in63 _ | (simp only [inR, IntKind.bits]; omega) | (simp [inR, IntKind.bits]; done) | (simp [inR, IntKind.bits] at * <;> omega) | (simp_all; done) | skip)
        refine G_lp [0, 1] (x + 1) ?ok2 ?wk2
        case ok2 => exact ⟨by omega, by omega⟩
        case wk2 => (repeat' apply And.intro) <;> (first | exact rfl | exact trivial | omega | refine sigEq ?_ | skip)
    · refine G_run tOk eok_tcut 60 (fun _ => none) (fun bs => rfl) (fun bs => ?_) (fun bs => ?_)
      · (repeat' apply And.intro) <;> (intros; first | exact trivial | exact rfl | omega | exact u8_lo _ | exact u8_hi _ | exact u8_in64 _ | exact u8_in63 _ | (simp only [inR, IntKind.bits]; omega) | (simp [inR, IntKind.bits, hf]; done) | (simp [inR, IntKind.bits, hf] at * <;> omega) | (simp_all; done) | skip)
      refine G_ret tOk hM0 rfl rfl ⟨rfl, trivial⟩ ?_
      exact ⟨rfl, trivial⟩
  | true =>
    obtain ⟨cc, hcc⟩ := any_ok ha
    have hC : cutT t0 n = cutN t0 m (t0.length * 8 - m) := by simp only [cutT, ha, hmt]
    have hl512 := right_len hcc
    rw [hC]
    refine G_wkB2 (ns := [0, 1]) (fs := fun b c => [(2, .c (.ptr 0 b 0)), (4, .c (.ptr 1 c 0)), (5, int .i64 (max n 0))]) (hs := fun b c => [.blk b 24 [.pv (.lst .tbl t0)], .blk c 24 [.pv (.nil .tbl)]]) ?b1 ?c1 rfl ?wk0 (fun b c => ?_)
    case wk0 => (repeat' apply And.intro) <;> (first | exact rfl | exact trivial | omega | refine sigEq ?_ | skip)
    rw [hm]
    refine G_loop (fun k : Nat => [(2, .c (.ptr 0 b 0)), (4, .c (.ptr 1 c 0)), (5, int .i64 ((m + k : Nat) : Int))]) (fun k => [.blk b 24 [.pv (.lst .tbl (cutN t0 m k))], .blk c 24 [.pv (.nil .tbl)]]) (fun k => True) (fun k => 4096 - (m + k)) rfl [0, 1] 0 trivial ?wk (fun k hx => ?_)
    case wk => (repeat' apply And.intro) <;> (first | exact rfl | exact trivial | omega | refine sigEq ?_ | skip)
    have hck := (cutN_ok hcc m k).1
    have hl2 := right_len hck
    have hl3 : ∀ i, (leaf (cutN t0 m k) i).length ≤ 1000000000 := fun i => Nat.le_trans (right_leaf hck i) (by decide)
    refine G_run tOk eok_tcut 60 (fun _ => none) (fun bs => rfl) (fun bs => ?_) (fun bs => ?_)
    · (repeat' apply And.intro) <;> (intros; first | exact trivial | exact rfl | omega | exact u8_lo _ | exact u8_hi _ | exact u8_in64 _ | exact u8_in63 _ | (simp only [inR, IntKind.bits]; omega) | (simp [inR, IntKind.bits]; done) | (simp [inR, IntKind.bits] at * <;> omega) | (simp_all; done) | skip)
    refine G_if (p := ((m + k : Nat) : Int) < min (((cutN t0 m k).length : Int) * 8) 4096) rfl rfl (fun hk => ?_) (fun hk => ?_)
    · have hk' : m + k < 4096 := by omega
      refine G_run tOk eok_tcut 60 (fun _ => none) (fun bs => rfl) (fun bs => ?_) (fun bs => ?_)
      · (repeat' apply And.intro) <;> (intros; first | exact trivial | exact rfl | omega | exact u8_lo _ | exact u8_hi _ | exact u8_in64 _ | exact u8_in63 _ | (simp only [inR, IntKind.bits]; omega) | (simp [inR, IntKind.bits, hl3]; done) | (simp [inR, IntKind.bits, hl3] at * <;> omega) | (simp_all; done) | skip)
      refine G_cond (b := !noneX (atT (cutN t0 m k) ((m + k : Nat) : Int))) rfl rfl (fun h2 => ?_) (fun h2 => ?_)
      · have h3 : noneX (atT (cutN t0 m k) ((m + k : Nat) : Int)) = false := by simpa using h2
        refine G_run tOk eok_tcut 60 (fun _ => none) (fun bs => rfl) (fun bs => ?_) (fun bs => ?_)
        · (repeat' apply And.intro) <;> (intros; first | exact trivial | exact rfl | omega | exact u8_lo _ | exact u8_hi _ | exact u8_in64 _ | exact u8_in63 _ | (simp only [inR, IntKind.bits]; omega) | (simp [inR, IntKind.bits, hl3]; done) | (simp [inR, IntKind.bits, hl3] at * <;> omega) | (simp_all; done) | skip)
        refine G_lp [0, 1] (k + 1) ?ok1 ?wk1
        case ok1 => exact ⟨trivial, by omega⟩
        case wk1 =>
          (repeat' apply And.intro) <;> (first | exact rfl | exact trivial | omega | refine sigEq ?_ | skip)
          all_goals (refine congrArg (PV.lst .tbl) ?_; simp only [cutN, h3]; rfl)
      · have h3 : noneX (atT (cutN t0 m k) ((m + k : Nat) : Int)) = true := by simpa using h2
        refine G_run tOk eok_tcut 60 (fun _ => none) (fun bs => rfl) (fun bs => ?_) (fun bs => ?_)
        · (repeat' apply And.intro) <;> (intros; first | exact trivial | exact rfl | omega | exact u8_lo _ | exact u8_hi _ | exact u8_in64 _ | exact u8_in63 _ | (simp only [inR, IntKind.bits]; omega) | (simp [inR, IntKind.bits]; done) | (simp [inR, IntKind.bits] at * <;> omega) | (simp_all; done) | skip)
        refine G_lp [0, 1] (k + 1) ?ok2 ?wk2
        case ok2 => exact ⟨trivial, by omega⟩
        case wk2 =>
          (repeat' apply And.intro) <;> (first | exact rfl | exact trivial | omega | refine sigEq ?_ | skip)
          all_goals (refine congrArg (PV.lst .tbl) ?_; simp only [cutN, h3])
    · refine G_run tOk eok_tcut 60 (fun _ => none) (fun bs => rfl) (fun bs => ?_) (fun bs => ?_)
      · (repeat' apply And.intro) <;> (intros; first | exact trivial | exact rfl | omega | exact u8_lo _ | exact u8_hi _ | exact u8_in64 _ | exact u8_in63 _ | (simp only [inR, IntKind.bits]; omega) | (simp [inR, IntKind.bits, hl3]; done) | (simp [inR, IntKind.bits, hl3] at * <;> omega) | (simp_all; done) | skip)
      refine G_ret tOk hM0 rfl rfl ⟨rfl, trivial⟩ ?_
      refine ⟨?_, trivial⟩
      exact congrArg (PV.lst .tbl) (cutN_rest hcc m (by omega) (by omega))
def tcut_s : FSpec
  | [.g [.pv (.lst .tbl t0)], .c (.pv (.val (.int .i64 n)))] => some ((t0.length ≤ 1000000000) ∧ (∀ i, (leaf t0 i).length ≤ 1000000000) ∧ (n ≤ 9223372036854775807), true, .x (.g [.lst .tbl (cutT t0 n)]))
  | _ => none
theorem tcut_s_ok : SpecOk Try.prog 22 tcut_s := by
  intro args pre sh rv h hp; unfold tcut_s at h; split at h
  · cases h; obtain ⟨hl, hf, hn⟩ := hp; exact tcut_fn _ _ hl hf hn
  · cases h
def psi_tcut : FuncId → Option FSpec := psiCons 22 tcut_s psi_y
theorem psi_tcut_ok : PsiFn Try.prog psi_tcut := psiCons_ok tcut_s_ok psi_y_ok
end Go.Proofs.Ytnmomckmpknbkaa
