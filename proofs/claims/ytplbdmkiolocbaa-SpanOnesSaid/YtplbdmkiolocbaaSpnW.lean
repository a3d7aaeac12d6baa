import Derived.Test.YtplbdmkiolocbaaSpnV
import Derived.Test.YtplbdmkiolocbaaMtQ4
set_option linter.unusedSimpArgs false
set_option linter.unusedVariables false
namespace Go.Proofs.Ytplbdmkiolocbaa
open Go.Mt

def nb (ns : List UInt8) (i : Nat) : Nat := (ns.getD i 0).toNat
def oneA (ns : List UInt8) : Nat → List Span
  | 0 => []
  | k + 1 => addL (oneA ns k) ⟨nb ns k, (nb ns k : Int) + 1⟩
def oneS (ns : List UInt8) : Nat → List Bool
  | 0 => List.replicate 256 false
  | k + 1 => (oneS ns k).set (nb ns k) true
def oneC (ns : List UInt8) : Nat → Int
  | 0 => 0
  | k + 1 => match (oneS ns k).getD (nb ns k) false with
    | true => oneC ns k
    | false => oneC ns k + 1
def oneD (ns : List UInt8) (l : List Span) : Nat → List Span
  | 0 => l
  | k + 1 => subL (oneD ns l k) ⟨nb ns k, (nb ns k : Int) + 1⟩
theorem nb_lt (ns : List UInt8) (i : Nat) : nb ns i < 256 := (ns.getD i 0).toNat_lt
theorem one_sp (ns : List UInt8) (i : Nat) : Sp ⟨nb ns i, (nb ns i : Int) + 1⟩ := by have := nb_lt ns i; unfold Sp; dsimp only; omega
theorem oneS_len (ns : List UInt8) : ∀ k, (oneS ns k).length = 256 := by
  intro k
  induction k with
  | zero => exact List.length_replicate
  | succ k ih => simp only [oneS, List.length_set, ih]
theorem rep_get (N n : Nat) (hn : n < N) : (List.replicate N false).getD n false = false := by
  rw [List.getD, List.getElem?_replicate, if_pos hn]; rfl
theorem oneS0 {ns : List UInt8} (n : Nat) (hn : n < 256) : (oneS ns 0).getD n false = false := rep_get 256 n hn
theorem oneS_iff (ns : List UInt8) : ∀ k (n : Nat), n < 256 → ((oneS ns k).getD n false = true ↔ ∃ i : Nat, i < k ∧ nb ns i = n) := by
  intro k
  induction k with
  | zero =>
    intro n hn
    rw [oneS0 n hn]
    constructor
    · intro h; cases h
    · rintro ⟨i, h, _⟩; omega
  | succ k ih =>
    intro n hn
    simp only [oneS, List.getD, List.getElem?_set]
    by_cases e : nb ns k = n
    · rw [if_pos e, if_pos (by rw [oneS_len]; exact nb_lt ns k)]
      simp only [Option.getD_some, true_iff]; exact ⟨k, by omega, e⟩
    · rw [if_neg e]
      have := ih n hn
      simp only [List.getD] at this
      rw [this]
      constructor
      · rintro ⟨i, h1, h2⟩; exact ⟨i, by omega, h2⟩
      · rintro ⟨i, h1, h2⟩
        by_cases e2 : i = k
        · subst e2; exact (e h2).elim
        · exact ⟨i, by omega, h2⟩
theorem oneA_ok (ns : List UInt8) : ∀ k, RtM 256 (oneA ns k) ∧ ∀ n : Int, inL (oneA ns k) n = true ↔ ∃ i : Nat, i < k ∧ (nb ns i : Int) = n := by
  intro k
  induction k with
  | zero =>
    refine ⟨⟨Rt.nil, fun n h => by simp [oneA, inL] at h⟩, fun n => ?_⟩
    constructor
    · intro h; simp [oneA, inL] at h
    · rintro ⟨i, h, _⟩; omega
  | succ k ih =>
    obtain ⟨i1, i2⟩ := ih
    have hs := one_sp ns k
    have := nb_lt ns k
    refine ⟨i1.add hs (by dsimp only; omega), fun n => ?_⟩
    simp only [oneA]
    rw [(addL_set i1.1 hs).2, Bool.or_eq_true, i2, hasX_iff]
    dsimp only
    constructor
    · rintro (⟨i, h1, h2⟩ | h)
      · exact ⟨i, by omega, h2⟩
      · exact ⟨k, by omega, by omega⟩
    · rintro ⟨i, h1, h2⟩
      by_cases e2 : i = k
      · subst e2; right; omega
      · left; exact ⟨i, by omega, h2⟩
theorem oneD_ok (ns : List UInt8) {l : List Span} (hl : RtM 256 l) : ∀ k, RtM 256 (oneD ns l k) ∧ ∀ n : Int, inL (oneD ns l k) n = true ↔ inL l n = true ∧ ¬ ∃ i : Nat, i < k ∧ (nb ns i : Int) = n := by
  intro k
  induction k with
  | zero => exact ⟨hl, fun n => ⟨fun h => ⟨h, fun ⟨i, h1, _⟩ => by omega⟩, fun h => h.1⟩⟩
  | succ k ih =>
    obtain ⟨i1, i2⟩ := ih
    have hs := one_sp ns k
    refine ⟨i1.sub hs, fun n => ?_⟩
    simp only [oneD]
    rw [(subL_set i1.1 hs).2, Bool.and_eq_true, i2, Bool.not_eq_true', hasX_iffF]
    dsimp only
    constructor
    · rintro ⟨⟨h1, h2⟩, h3⟩
      refine ⟨h1, fun ⟨i, h4, h5⟩ => ?_⟩
      by_cases e2 : i = k
      · subst e2; omega
      · exact h2 ⟨i, by omega, h5⟩
    · rintro ⟨h1, h2⟩
      exact ⟨⟨h1, fun ⟨i, h4, h5⟩ => h2 ⟨i, by omega, h5⟩⟩, fun h => h2 ⟨k, by omega, by omega⟩⟩
theorem one_none (ns : List UInt8) : oneD ns (oneA ns ns.length) ns.length = [] := by
  obtain ⟨a1, a2⟩ := oneA_ok ns ns.length
  obtain ⟨d1, d2⟩ := oneD_ok ns a1 ns.length
  refine Rt_ext d1.1 Rt.nil (fun n => ?_)
  cases h : inL (oneD ns (oneA ns ns.length) ns.length) n with
  | false => rfl
  | true =>
    obtain ⟨h1, h2⟩ := (d2 n).1 h
    exact (h2 ((a2 n).1 h1)).elim
theorem one_has (ns : List UInt8) (k n : Nat) (hn : n < 256) : hasL (oneA ns k) n = (oneS ns k).getD n false := by
  obtain ⟨a1, a2⟩ := oneA_ok ns k
  rw [hasL_of a1.1, Bool.eq_iff_iff, a2, oneS_iff ns k n hn]
  constructor
  · rintro ⟨i, h1, h2⟩; exact ⟨i, h1, by omega⟩
  · rintro ⟨i, h1, h2⟩; exact ⟨i, h1, by omega⟩
theorem cN_set {f g : Nat → Bool} {q : Nat} (h : ∀ n, n ≠ q → g n = f n) (hg : g q = true) : ∀ M, cN g M = cN f M + (if q < M then (match f q with | true => 0 | false => 1) else 0) := by
  intro M
  induction M with
  | zero => simp [cN]
  | succ M ih =>
    simp only [cN, ih]
    by_cases e : M = q
    · subst e
      rw [if_neg (by omega), if_pos (by omega), hg]
      cases f M <;> simp only [Int.add_zero]
    · rw [h M e]
      by_cases e2 : q < M
      · rw [if_pos e2, if_pos (by omega)]; omega
      · rw [if_neg e2, if_neg (by omega)]; simp only [Int.add_zero]
theorem oneC_ok (ns : List UInt8) : ∀ k, oneC ns k = cN (fun n => (oneS ns k).getD n false) 256 := by
  intro k
  induction k with
  | zero =>
    have : cN (fun n => (oneS ns 0).getD n false) 256 = cN (fun n => inL [] n) 256 := cN_congr (fun n hn => by rw [oneS0 n hn]; rfl)
    rw [this, cN_none]; rfl
  | succ k ih =>
    have hq := nb_lt ns k
    rw [cN_set (f := fun n => (oneS ns k).getD n false) (q := nb ns k) (fun n hn => by simp only [oneS, List.getD, List.getElem?_set]; rw [if_neg (fun e => hn e.symm)]) (by simp only [oneS, List.getD, List.getElem?_set, if_true, oneS_len, hq, Option.getD_some]), ← ih, if_pos hq]
    cases h : (oneS ns k).getD (nb ns k) false with
    | true => simp only [oneC, h]; omega
    | false => simp only [oneC, h]
theorem one_cnt (ns : List UInt8) (k : Nat) : countL (oneA ns k) = oneC ns k := by
  obtain ⟨a1, a2⟩ := oneA_ok ns k
  rw [a1.cnt, oneC_ok]
  exact cN_congr (fun n hn => by rw [← hasL_of a1.1, one_has ns k n hn])
theorem oneC_le (ns : List UInt8) (k : Nat) : 0 ≤ oneC ns k ∧ oneC ns k ≤ 256 := by rw [oneC_ok]; exact cN_le _ 256

def env_fones : Env := ⟨T, psi_fwrong, pspNil, 93, [], none, true⟩
theorem eok_fones : PsiOk Try.prog env_fones := ⟨psi_fwrong_ok, pspNil_ok⟩
theorem fones_fn (ns : List UInt8) (hn : ns.length ≤ 9223372036854775807) : Ctr Try.prog 10 false [lst .byt ns] (.x (.c (bv true))) := by
  refine Ctr_intro (E := env_fones) Try.func10 rfl (by decide) rfl rfl (fun M0 W hM0 => ?_)
  refine G_run tOk eok_fones 60 (fun _ => none) (fun bs => rfl) (fun bs => ?_) (fun bs => ?_)
  · (repeat' apply And.intro) <;> (intros; first | exact trivial | exact rfl | omega | exact u8_lo _ | exact u8_hi _ | exact u8_in64 _ | exact u8_in63 _ | (simp only [inR, IntKind.bits]; omega) | (simp [inR, IntKind.bits]; done) | (simp [inR, IntKind.bits] at * <;> omega) | (simp_all; done) | skip)
  refine G_if rfl rfl (fun h => ?_) (fun h => ?_)
  · refine G_run tOk eok_fones 60 (fun _ => none) (fun bs => rfl) (fun bs => ?_) (fun bs => ?_)
    · (repeat' apply And.intro) <;> (intros; first | exact trivial | exact rfl | omega | exact u8_lo _ | exact u8_hi _ | exact u8_in64 _ | exact u8_in63 _ | (simp only [inR, IntKind.bits]; omega) | (simp [inR, IntKind.bits]; done) | (simp [inR, IntKind.bits] at * <;> omega) | (simp_all; done) | skip)
    exact G_ret tOk hM0 rfl rfl ⟨trivial, trivial⟩ rfl
  have h1 : ns.length ≤ 100 := by omega
  refine G_run tOk eok_fones 60 (fun _ => none) (fun bs => rfl) (fun bs => ?_) (fun bs => ?_)
  · (repeat' apply And.intro) <;> (intros; first | exact trivial | exact rfl | omega | exact u8_lo _ | exact u8_hi _ | exact u8_in64 _ | exact u8_in63 _ | (simp only [inR, IntKind.bits]; omega) | (simp [inR, IntKind.bits]; done) | (simp [inR, IntKind.bits] at * <;> omega) | (simp_all; done) | skip)
  refine G_arrF 0 256 rfl (by decide) ?_
  refine G_wkB (ns := [0]) (fs := fun b => [(0, lst .byt ns), (3, lst .spn (oneA ns 0)), (4, .c (.ptr 0 b 0)), (5, int .i64 0), (6, int .i64 0)]) (hs := fun b => [.own (.slice (some ⟨b, 0, none⟩) 256 256) 53 .bls (oneS ns 0)]) ?b1 rfl ?wk0 (fun b => ?_)
  case wk0 => (repeat' apply And.intro) <;> (first | exact rfl | exact trivial | omega | refine sigEq ?_ | skip)
  refine G_loop (fun k : Nat => [(0, lst .byt ns), (3, lst .spn (oneA ns k)), (4, .c (.ptr 0 b 0)), (5, int .i64 (oneC ns k)), (6, int .i64 k)]) (fun k => [.own (.slice (some ⟨b, 0, none⟩) 256 256) 53 .bls (oneS ns k)]) (fun k => k ≤ ns.length) (fun k => ns.length - k) rfl [0] 0 (Nat.zero_le _) ?wk (fun k hx => ?_)
  case wk => (repeat' apply And.intro) <;> (first | exact rfl | exact trivial | omega | refine sigEq ?_ | skip)
  obtain ⟨hA, _⟩ := oneA_ok ns k
  have hl := hA.len
  have hS := oneS_len ns k
  have hC := oneC_le ns k
  refine G_run tOk eok_fones 60 (fun _ => none) (fun bs => rfl) (fun bs => ?_) (fun bs => ?_)
  · (repeat' apply And.intro) <;> (intros; first | exact trivial | exact rfl | omega | exact u8_lo _ | exact u8_hi _ | exact u8_in64 _ | exact u8_in63 _ | (simp only [inR, IntKind.bits]; omega) | (simp [inR, IntKind.bits]; done) | (simp [inR, IntKind.bits] at * <;> omega) | (simp_all; done) | skip)
  refine G_if rfl rfl (fun hk => ?_) (fun hk => ?_)
  · have hk' : k < ns.length := by omega
    have hlt := nb_lt ns k
    have hb2 : ((ns.getD (Int.toNat (k : Int)) LK.byt.dft).toNat : Int) = nb ns k := rfl
    have hN : oneA ns (k + 1) = addL (oneA ns k) ⟨nb ns k, (nb ns k : Int) + 1⟩ := rfl
    have hM : oneS ns (k + 1) = (oneS ns k).set (nb ns k) true := rfl
    have hl2 := (oneA_ok ns (k + 1)).1.len
    rw [hN] at hl2
    refine G_run tOk eok_fones 60 (fun _ => none) (fun bs => rfl) (fun bs => ?_) (fun bs => ?_)
    · (repeat' apply And.intro) <;> (intros; first | exact trivial | exact rfl | omega | exact u8_lo _ | exact u8_hi _ | exact u8_in64 _ | exact u8_in63 _ | (simp only [inR, IntKind.bits]; omega) | (simp [inR, IntKind.bits]; done) | (simp [inR, IntKind.bits] at * <;> omega) | (simp_all; done) | skip)
    refine G_nx 1 rfl ?_
    refine G_draw tOk eok_fones rfl (fun _ => none) 13 [0, 0, 0, 6, 14, 30, 0, 0, 192, 448, 960, 1984, 4094, 8191, 16383] [] rfl (by decide +kernel) (fun bs => rfl) (fun bs => ?_) (fun bs => ?_)
    · simp only [hb2]
      (repeat' apply And.intro) <;> (intros; first | exact trivial | exact rfl | omega | exact u8_lo _ | exact u8_hi _ | exact u8_in64 _ | exact u8_in63 _ | (simp only [inR, IntKind.bits]; omega) | (simp [inR, IntKind.bits]; done) | (simp [inR, IntKind.bits] at * <;> omega) | (simp_all; done) | skip)
    refine G_run tOk eok_fones 60 (fun _ => none) (fun bs => rfl) (fun bs => ?_) (fun bs => ?_)
    · simp only [hb2]
      (repeat' apply And.intro) <;> (intros; first | exact trivial | exact rfl | omega | exact u8_lo _ | exact u8_hi _ | exact u8_in64 _ | exact u8_in63 _ | (simp only [inR, IntKind.bits]; omega) | (simp [inR, IntKind.bits]; done) | (simp [inR, IntKind.bits] at * <;> omega) | (simp_all; done) | skip)
    refine G_freeze 14 [3] rfl ⟨rfl, trivial⟩ ?_
    refine G_cond (b := !(oneS ns k).getD (nb ns k) false) rfl rfl (fun h2 => ?_) (fun h2 => ?_)
    · have hC1 : oneC ns (k + 1) = oneC ns k + 1 := by
        have : (oneS ns k).getD (nb ns k) false = false := by simpa using h2
        simp only [oneC, this]
      refine G_run tOk eok_fones 60 (fun _ => none) (fun bs => rfl) (fun bs => ?_) (fun bs => ?_)
      · simp only [hb2]
        (repeat' apply And.intro) <;> (intros; first | exact trivial | exact rfl | omega | exact u8_lo _ | exact u8_hi _ | exact u8_in64 _ | exact u8_in63 _ | (simp only [inR, IntKind.bits]; omega) | (simp [inR, IntKind.bits]; done) | (simp [inR, IntKind.bits] at * <;> omega) | (simp_all; done) | skip)
      refine G_lp [0] (k + 1) ?ok1 ?wk1
      case ok1 => exact ⟨hk', by omega⟩
      case wk1 =>
        (repeat' apply And.intro) <;> (first | exact rfl | exact trivial | omega | refine sigEq ?_ | skip)
        all_goals first | exact hC1.symm | rfl | skip
    · have hC1 : oneC ns (k + 1) = oneC ns k := by
        have : (oneS ns k).getD (nb ns k) false = true := by simpa using h2
        simp only [oneC, this]
      refine G_run tOk eok_fones 60 (fun _ => none) (fun bs => rfl) (fun bs => ?_) (fun bs => ?_)
      · simp only [hb2]
        (repeat' apply And.intro) <;> (intros; first | exact trivial | exact rfl | omega | exact u8_lo _ | exact u8_hi _ | exact u8_in64 _ | exact u8_in63 _ | (simp only [inR, IntKind.bits]; omega) | (simp [inR, IntKind.bits]; done) | (simp [inR, IntKind.bits] at * <;> omega) | (simp_all; done) | skip)
      refine G_lp [0] (k + 1) ?ok2 ?wk2
      case ok2 => exact ⟨hk', by omega⟩
      case wk2 =>
        (repeat' apply And.intro) <;> (first | exact rfl | exact trivial | omega | refine sigEq ?_ | skip)
        all_goals first | exact hC1.symm | rfl | skip
  · have hk' : k = ns.length := by omega
    subst hk'
    have hcnt := one_cnt ns ns.length
    have hhas := one_has ns ns.length
    have hnone := one_none ns
    have hright : rightB (oneA ns ns.length) = true := right_iff.2 hA.1
    have hDD := fun k => (oneD_ok ns hA k).1
    have hD0 : ∀ k, oneD ns (oneA ns ns.length) (k + 1) = subL (oneD ns (oneA ns ns.length) k) ⟨nb ns k, (nb ns k : Int) + 1⟩ := fun k => rfl
    have hD1 : oneD ns (oneA ns ns.length) 0 = oneA ns ns.length := rfl
    generalize oneA ns ns.length = L at *
    generalize oneS ns ns.length = S at *
    refine G_run tOk eok_fones 60 (fun _ => some false) (fun bs => rfl) (fun bs => ?_) (fun bs => ?_)
    · (repeat' apply And.intro) <;> (intros; first | exact trivial | exact rfl | omega | exact u8_lo _ | exact u8_hi _ | exact u8_in64 _ | exact u8_in63 _ | (simp only [inR, IntKind.bits]; omega) | (simp [inR, IntKind.bits, hcnt, hright]; done) | (simp [inR, IntKind.bits, hcnt, hright] at * <;> omega) | (simp_all; done) | skip)
    refine G_els rfl rfl (by simp [hcnt, hright]) ?_
    refine G_run tOk eok_fones 60 (fun _ => none) (fun bs => rfl) (fun bs => ?_) (fun bs => ?_)
    · (repeat' apply And.intro) <;> (intros; first | exact trivial | exact rfl | omega | exact u8_lo _ | exact u8_hi _ | exact u8_in64 _ | exact u8_in63 _ | (simp only [inR, IntKind.bits]; omega) | (simp [inR, IntKind.bits]; done) | (simp [inR, IntKind.bits] at * <;> omega) | (simp_all; done) | skip)
    refine G_loop (fun k : Nat => [(0, lst .byt ns), (3, lst .spn L), (4, .c (.ptr 0 b 0)), (7, int .i64 k)]) (fun k => [.own (.slice (some ⟨b, 0, none⟩) 256 256) 53 .bls S]) (fun k => k ≤ 256) (fun k => 256 - k) rfl [0] 0 (Nat.zero_le _) ?wk3 (fun k hx => ?_)
    case wk3 => (repeat' apply And.intro) <;> (first | exact rfl | exact trivial | omega | refine sigEq ?_ | skip)
    refine G_run tOk eok_fones 60 (fun _ => none) (fun bs => rfl) (fun bs => ?_) (fun bs => ?_)
    · (repeat' apply And.intro) <;> (intros; first | exact trivial | exact rfl | omega | exact u8_lo _ | exact u8_hi _ | exact u8_in64 _ | exact u8_in63 _ | (simp only [inR, IntKind.bits]; omega) | (simp [inR, IntKind.bits]; done) | (simp [inR, IntKind.bits] at * <;> omega) | (simp_all; done) | skip)
    refine G_if rfl rfl (fun hk => ?_) (fun hk => ?_)
    · have hk' : k < 256 := by omega
      have hh := hhas k hk'
      refine G_run tOk eok_fones 60 (fun _ => none) (fun bs => rfl) (fun bs => ?_) (fun bs => ?_)
      · (repeat' apply And.intro) <;> (intros; first | exact trivial | exact rfl | omega | exact u8_lo _ | exact u8_hi _ | exact u8_in64 _ | exact u8_in63 _ | (simp only [inR, IntKind.bits]; omega) | (simp [inR, IntKind.bits]; done) | (simp [inR, IntKind.bits] at * <;> omega) | (simp_all; done) | skip)
      refine G_nx 1 rfl ?_
      refine G_draw tOk eok_fones rfl (fun _ => none) 6 [0, 0, 3, 0, 8, 24, 63] [] rfl (by decide +kernel) (fun bs => rfl) (fun bs => ?_) (fun bs => ?_)
      · (repeat' apply And.intro) <;> (intros; first | exact trivial | exact rfl | omega | exact u8_lo _ | exact u8_hi _ | exact u8_in64 _ | exact u8_in63 _ | (simp only [inR, IntKind.bits]; omega) | (simp [inR, IntKind.bits]; done) | (simp [inR, IntKind.bits] at * <;> omega) | (simp_all; done) | skip)
      refine G_run tOk eok_fones 60 (fun _ => none) (fun bs => rfl) (fun bs => ?_) (fun bs => ?_)
      · (repeat' apply And.intro) <;> (intros; first | exact trivial | exact rfl | omega | exact u8_lo _ | exact u8_hi _ | exact u8_in64 _ | exact u8_in63 _ | (simp only [inR, IntKind.bits]; omega) | (simp [inR, IntKind.bits]; done) | (simp [inR, IntKind.bits] at * <;> omega) | (simp_all; done) | skip)
      refine G_cond (b := !decide (hasL L k = S.getD k false)) rfl rfl (fun h2 => ?_) (fun h2 => ?_)
      · rw [hh] at h2; simp at h2
      · refine G_run tOk eok_fones 60 (fun _ => none) (fun bs => rfl) (fun bs => ?_) (fun bs => ?_)
        · (repeat' apply And.intro) <;> (intros; first | exact trivial | exact rfl | omega | exact u8_lo _ | exact u8_hi _ | exact u8_in64 _ | exact u8_in63 _ | (simp only [inR, IntKind.bits]; omega) | (simp [inR, IntKind.bits]; done) | (simp [inR, IntKind.bits] at * <;> omega) | (simp_all; done) | skip)
        refine G_lp [0] (k + 1) ?ok3 ?wk4
        case ok3 => exact ⟨hk', by omega⟩
        case wk4 => (repeat' apply And.intro) <;> (first | exact rfl | exact trivial | omega | refine sigEq ?_ | skip)
    · refine G_run tOk eok_fones 60 (fun _ => none) (fun bs => rfl) (fun bs => ?_) (fun bs => ?_)
      · (repeat' apply And.intro) <;> (intros; first | exact trivial | exact rfl | omega | exact u8_lo _ | exact u8_hi _ | exact u8_in64 _ | exact u8_in63 _ | (simp only [inR, IntKind.bits]; omega) | (simp [inR, IntKind.bits]; done) | (simp [inR, IntKind.bits] at * <;> omega) | (simp_all; done) | skip)
      refine G_loop (fun k : Nat => [(0, lst .byt ns), (3, lst .spn (oneD ns L k)), (8, int .i64 k)]) (fun k => []) (fun k => k ≤ ns.length) (fun k => ns.length - k) rfl [] 0 (Nat.zero_le _) ?wk5 (fun k hx => ?_)
      case wk5 => (repeat' apply And.intro) <;> (first | exact rfl | exact trivial | omega | refine sigEq ?_ | skip)
      have hld := (hDD k).len
      refine G_run tOk eok_fones 60 (fun _ => none) (fun bs => rfl) (fun bs => ?_) (fun bs => ?_)
      · (repeat' apply And.intro) <;> (intros; first | exact trivial | exact rfl | omega | exact u8_lo _ | exact u8_hi _ | exact u8_in64 _ | exact u8_in63 _ | (simp only [inR, IntKind.bits]; omega) | (simp [inR, IntKind.bits]; done) | (simp [inR, IntKind.bits] at * <;> omega) | (simp_all; done) | skip)
      refine G_if rfl rfl (fun hk => ?_) (fun hk => ?_)
      · have hk' : k < ns.length := by omega
        have hlt := nb_lt ns k
        have hb2 : ((ns.getD (Int.toNat (k : Int)) LK.byt.dft).toNat : Int) = nb ns k := rfl
        refine G_run tOk eok_fones 60 (fun _ => none) (fun bs => rfl) (fun bs => ?_) (fun bs => ?_)
        · (repeat' apply And.intro) <;> (intros; first | exact trivial | exact rfl | omega | exact u8_lo _ | exact u8_hi _ | exact u8_in64 _ | exact u8_in63 _ | (simp only [inR, IntKind.bits]; omega) | (simp [inR, IntKind.bits]; done) | (simp [inR, IntKind.bits] at * <;> omega) | (simp_all; done) | skip)
        refine G_nx 0 rfl ?_
        refine G_draw tOk eok_fones rfl (fun _ => none) 13 [0, 0, 0, 6, 14, 30, 0, 0, 192, 448, 960, 1984, 4094, 8191, 16383] [] rfl (by decide +kernel) (fun bs => rfl) (fun bs => ?_) (fun bs => ?_)
        · simp only [hb2]
          (repeat' apply And.intro) <;> (intros; first | exact trivial | exact rfl | omega | exact u8_lo _ | exact u8_hi _ | exact u8_in64 _ | exact u8_in63 _ | (simp only [inR, IntKind.bits]; omega) | (simp [inR, IntKind.bits]; done) | (simp [inR, IntKind.bits] at * <;> omega) | (simp_all; done) | skip)
        refine G_run tOk eok_fones 60 (fun _ => none) (fun bs => rfl) (fun bs => ?_) (fun bs => ?_)
        · (repeat' apply And.intro) <;> (intros; first | exact trivial | exact rfl | omega | exact u8_lo _ | exact u8_hi _ | exact u8_in64 _ | exact u8_in63 _ | (simp only [inR, IntKind.bits]; omega) | (simp [inR, IntKind.bits]; done) | (simp [inR, IntKind.bits] at * <;> omega) | (simp_all; done) | skip)
        refine G_freeze 13 [3] rfl ⟨rfl, trivial⟩ ?_
        refine G_lp [] (k + 1) ?ok4 ?wk6
        case ok4 => exact ⟨hk', by omega⟩
        case wk6 => (repeat' apply And.intro) <;> (first | exact rfl | exact trivial | omega | refine sigEq ?_ | skip)
      · have hk' : k = ns.length := by omega
        subst hk'
        rw [hnone]
        refine G_run tOk eok_fones 60 (fun _ => some true) (fun bs => rfl) (fun bs => ?_) (fun bs => ?_)
        · (repeat' apply And.intro) <;> (intros; first | exact trivial | exact rfl | omega | exact u8_lo _ | exact u8_hi _ | exact u8_in64 _ | exact u8_in63 _ | (simp only [inR, IntKind.bits]; omega) | (simp [inR, IntKind.bits]; done) | (simp [inR, IntKind.bits] at * <;> omega) | (simp_all; done) | skip)
        refine G_ret tOk hM0 rfl rfl ⟨trivial, trivial⟩ ?_
        conv => whnf
        simp
def fones_s : FSpec
  | [.c (.pv (.lst .byt ns))] => some ((ns.length ≤ 9223372036854775807), false, .x (.c (bv true)))
  | _ => none
theorem fones_s_ok : SpecOk Try.prog 10 fones_s := by
  intro args pre sh rv h hp; unfold fones_s at h; split at h
  · cases h; have hn := hp; exact fones_fn _ hn
  · cases h
def psi_fones : FuncId → Option FSpec := psiCons 10 fones_s psi_fwrong
theorem psi_fones_ok : PsiFn Try.prog psi_fones := psiCons_ok fones_s_ok psi_fwrong_ok
end Go.Proofs.Ytplbdmkiolocbaa
