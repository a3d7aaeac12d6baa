import Derived.Test.YtjalmhbmlkamlaaField3
import Derived.Test.YtjalmhbmlkamlaaMtZ
set_option linter.unusedSimpArgs false
set_option linter.unusedVariables false
namespace Go.Proofs.Ytjalmhbmlkamlaa
open Go.Mt

theorem pow256 (k : Int) (h : 0 ≤ k) : 2 ^ (8 * k).toNat = 256 ^ k.toNat := by
  have : (8 * k).toNat = 8 * k.toNat := by omega
  rw [this, show (256 : Nat) = 2 ^ 8 from rfl, ← Nat.pow_mul]
theorem putE_ok (k : Int) (x : Nat) (h1 : 1 ≤ k) (h8 : k ≤ 8) (hx : x < 256 ^ k.toNat) : putE k (x : Int) = 0 := by
  have : (x : Int) / 2 ^ (8 * k).toNat = 0 := by
    have h2 : (x : Int) / 2 ^ (8 * k).toNat = ((x / 2 ^ (8 * k).toNat : Nat) : Int) := by simp
    rw [h2, pow256 k (by omega), Nat.div_eq_of_lt hx]; rfl
  simp only [putE]
  rw [if_neg (by omega), if_neg (by simp [this])]
theorem put_side (k : Int) (x : Nat) (h1 : 1 ≤ k) (h8 : k ≤ 8) (hx : x < 256 ^ k.toNat) (i : Nat) (hi : (i : Int) < k) : (putL [] k true (x : Int)).getD i 0 = (putL [] k false (x : Int)).getD (k - 1 - i).toNat 0 := by
  have he := putE_ok k x h1 h8 hx
  have h3 : (k - 1 - i).toNat < k.toNat := by omega
  have h4 : i < k.toNat := by omega
  simp only [putL, he, if_true, List.nil_append, putB, List.getD, List.getElem?_map, List.getElem?_range h3, List.getElem?_range h4, Option.map_some, Option.getD_some]
  congr 1; omega

def env_fsides : Env := ⟨T, psi_rread, psp_atom, 74, []⟩
theorem eok_fsides : PsiOk Try.prog env_fsides := ⟨psi_rread_ok, psp_atom_ok⟩
theorem fsides_fn (n : Int) (v : Int) (hn : inR .u8 n) (hv : inR .u64 v) : Ctr Try.prog 4 false [int .u8 n, int .u64 v] (.x (.c (bv true))) := by
  refine Ctr_intro (E := env_fsides) Try.func4 rfl (by decide) rfl rfl (fun M0 W hM0 => ?_)
  simp only [inR] at hn hv
  refine G_run tOk eok_fsides 60 (fun _ => none) (fun bs => rfl) (fun bs => ?_) (fun bs => ?_)
  · (repeat' apply And.intro) <;> (intros; first | exact trivial | exact rfl | omega | exact u8_lo _ | exact u8_hi _ | exact u8_in64 _ | exact u8_in63 _ | (simp only [inR, IntKind.bits]; omega) | (simp [inR, IntKind.bits]; done) | (simp [inR, IntKind.bits] at * <;> omega) | (simp_all; done) | skip)
  refine G_cut (X := Int × Nat) (fun x => [(5, int .i64 x.1), (1, int .u64 x.2)]) (fun _ => []) (fun x => 1 ≤ x.1 ∧ x.1 ≤ 8 ∧ x.2 < 256 ^ x.1.toNat) rfl ?_ (fun x hx => ?_)
  · refine G_if rfl rfl (fun h => ?_) (fun h => ?_)
    · have hk : 1 + n % 8 < 8 := h
      refine G_run tOk eok_fsides 60 (fun _ => none) (fun bs => rfl) (fun bs => ?_) (fun bs => ?_)
      · (repeat' apply And.intro) <;> (intros; first | exact trivial | exact rfl | omega | exact u8_lo _ | exact u8_hi _ | exact u8_in64 _ | exact u8_in63 _ | (simp only [inR, IntKind.bits]; omega) | (simp [inR, IntKind.bits]; done) | (simp [inR, IntKind.bits] at * <;> omega) | (simp_all; done) | skip)
      refine G_lp [] (1 + n % 8, v.toNat % 2 ^ (8 * (1 + n % 8)).toNat) ?ok ?wk
      case ok => exact ⟨by simp only; omega, by simp only; omega, by simp only; rw [pow256 _ (by omega)]; exact Nat.mod_lt _ (Nat.pow_pos (by omega))⟩
      case wk =>
        (repeat' apply And.intro) <;> (first | exact rfl | exact trivial | omega | refine sigEq ?_ | skip)
        all_goals exact iand_mask hv (by omega)
    · have hk : ¬ 1 + n % 8 < 8 := h
      refine G_run tOk eok_fsides 60 (fun _ => none) (fun bs => rfl) (fun bs => ?_) (fun bs => ?_)
      · (repeat' apply And.intro) <;> (intros; first | exact trivial | exact rfl | omega | exact u8_lo _ | exact u8_hi _ | exact u8_in64 _ | exact u8_in63 _ | (simp only [inR, IntKind.bits]; omega) | (simp [inR, IntKind.bits]; done) | (simp [inR, IntKind.bits] at * <;> omega) | (simp_all; done) | skip)
      refine G_lp [] (1 + n % 8, v.toNat) ?ok2 ?wk2
      case ok2 =>
        refine ⟨by simp only; omega, by simp only; omega, ?_⟩
        have : (1 + n % 8).toNat = 8 := by omega
        simp only [this]; omega
      case wk2 =>
        (repeat' apply And.intro) <;> (first | exact rfl | exact trivial | omega | refine sigEq ?_ | skip)
        all_goals (show v = ((v.toNat : Nat) : Int); omega)
  obtain ⟨k, x⟩ := x
  obtain ⟨h1, h8, hx⟩ := hx
  simp only at h1 h8 hx
  have he := putE_ok k x h1 h8 hx
  have hlt : (x : Int) ≤ 18446744073709551615 := by
    have : 256 ^ k.toNat ≤ 256 ^ 8 := Nat.pow_le_pow_right (by omega) (by omega)
    omega
  have hLa : ((putL [] k true (x : Int)).length : Int) = k := by rw [putL_len he]; simp; omega
  have hLb : ((putL [] k false (x : Int)).length : Int) = k := by rw [putL_len he]; simp; omega
  refine G_run tOk eok_fsides 60 (fun _ => some false) (fun bs => rfl) (fun bs => ?_) (fun bs => ?_)
  · simp only [he, hLa, hLb]
    (repeat' apply And.intro) <;> (intros; first | exact trivial | exact rfl | omega | exact u8_lo _ | exact u8_hi _ | exact u8_in64 _ | exact u8_in63 _ | (simp only [inR, IntKind.bits]; omega) | (simp [inR, IntKind.bits]; done) | (simp [inR, IntKind.bits] at * <;> omega) | (simp_all; done) | skip)
  refine G_els rfl rfl ?_ ?_
  · simp only [he, hLa, hLb]; simp
  refine G_run tOk eok_fsides 60 (fun _ => none) (fun bs => rfl) (fun bs => ?_) (fun bs => ?_)
  · (repeat' apply And.intro) <;> (intros; first | exact trivial | exact rfl | omega | exact u8_lo _ | exact u8_hi _ | exact u8_in64 _ | exact u8_in63 _ | (simp only [inR, IntKind.bits]; omega) | (simp [inR, IntKind.bits]; done) | (simp [inR, IntKind.bits] at * <;> omega) | (simp_all; done) | skip)
  refine G_freeze 0 [6] rfl ⟨rfl, trivial⟩ ?_
  refine G_freeze 1 [8] rfl ⟨rfl, trivial⟩ ?_
  refine G_loop (fun i : Nat => [(5, int .i64 k), (6, lst .byt (putL [] k true (x : Int))), (8, lst .byt (putL [] k false (x : Int))), (10, int .i64 i)]) (fun i => [])
    (fun i => i ≤ k.toNat) (fun i => k.toNat - i) rfl [] 0 (Nat.zero_le _) ?wk (fun i hi => ?_)
  case wk => (repeat' apply And.intro) <;> (first | exact rfl | exact trivial | omega | refine sigEq ?_ | skip)
  have hi' : i ≤ k.toNat := hi
  refine G_run tOk eok_fsides 60 (fun _ => none) (fun bs => rfl) (fun bs => ?_) (fun bs => ?_)
  · (repeat' apply And.intro) <;> (intros; first | exact trivial | exact rfl | omega | exact u8_lo _ | exact u8_hi _ | exact u8_in64 _ | exact u8_in63 _ | (simp only [inR, IntKind.bits]; omega) | (simp [inR, IntKind.bits]; done) | (simp [inR, IntKind.bits] at * <;> omega) | (simp_all; done) | skip)
  refine G_if rfl rfl (fun hk => ?_) (fun hk => ?_)
  · have hk' : (i : Int) < k := hk
    refine G_run tOk eok_fsides 60 (fun _ => none) (fun bs => rfl) (fun bs => ?_) (fun bs => ?_)
    · (repeat' apply And.intro) <;> (intros; first | exact trivial | exact rfl | omega | exact u8_lo _ | exact u8_hi _ | exact u8_in64 _ | exact u8_in63 _ | (simp only [inR, IntKind.bits]; omega) | (simp [inR, IntKind.bits]; done) | (simp [inR, IntKind.bits] at * <;> omega) | (simp_all; done) | skip)
    refine G_draw tOk eok_fsides rfl (fun _ => none) [0, 0, 3, 7, 0, 0, 32, 0, 224, 496, 1008, 2047] [] rfl (by decide +kernel) (fun bs => rfl) (fun bs => ?_) (fun bs => ?_)
    · (repeat' apply And.intro) <;> (intros; first | exact trivial | exact rfl | omega | exact u8_lo _ | exact u8_hi _ | exact u8_in64 _ | exact u8_in63 _ | (simp only [inR, IntKind.bits]; omega) | (simp [inR, IntKind.bits]; done) | (simp [inR, IntKind.bits] at * <;> omega) | (simp_all; done) | skip)
    refine G_els rfl rfl ?_ ?_
    · have := put_side k x h1 h8 hx i hk'
      simp at this ⊢
      exact congrArg (fun b : UInt8 => ((b.toNat : Nat) : Int)) this
    refine G_run tOk eok_fsides 60 (fun _ => none) (fun bs => rfl) (fun bs => ?_) (fun bs => ?_)
    · (repeat' apply And.intro) <;> (intros; first | exact trivial | exact rfl | omega | exact u8_lo _ | exact u8_hi _ | exact u8_in64 _ | exact u8_in63 _ | (simp only [inR, IntKind.bits]; omega) | (simp [inR, IntKind.bits]; done) | (simp [inR, IntKind.bits] at * <;> omega) | (simp_all; done) | skip)
    refine G_lp [] (i + 1) ?ok3 ?wk3
    case ok3 => exact ⟨by omega, by omega⟩
    case wk3 => (repeat' apply And.intro) <;> (first | exact rfl | exact trivial | omega | refine sigEq ?_ | skip)
  · refine G_run tOk eok_fsides 60 (fun _ => none) (fun bs => rfl) (fun bs => ?_) (fun bs => ?_)
    · (repeat' apply And.intro) <;> (intros; first | exact trivial | exact rfl | omega | exact u8_lo _ | exact u8_hi _ | exact u8_in64 _ | exact u8_in63 _ | (simp only [inR, IntKind.bits]; omega) | (simp [inR, IntKind.bits]; done) | (simp [inR, IntKind.bits] at * <;> omega) | (simp_all; done) | skip)
    refine G_ret tOk hM0 rfl rfl ⟨trivial, trivial⟩ ?_
    conv => whnf

def fsides_s : FSpec
  | [.c (.pv (.val (.int .u8 n))), .c (.pv (.val (.int .u64 v)))] => some ((inR .u8 n) ∧ (inR .u64 v), false, .x (.c (bv true)))
  | _ => none
theorem fsides_s_ok : SpecOk Try.prog 4 fsides_s := by
  intro args pre sh rv h hp; unfold fsides_s at h; split at h
  · cases h; obtain ⟨hn, hv⟩ := hp; exact fsides_fn _ _ hn hv
  · cases h
def psi_fsides : FuncId → Option FSpec := psiCons 4 fsides_s psi_rread
theorem psi_fsides_ok : PsiFn Try.prog psi_fsides := psiCons_ok fsides_s_ok psi_rread_ok
theorem text_read2 (t s m : List UInt8) (hs : s.length ≤ 65535) : readE (textL t s ++ m) t.length = 0 ∧ readS (textL t s ++ m) t.length = s ∧ readN (textL t s ++ m) t.length = (textL t s).length := by
  have e : textL t s ++ m = t ++ putB 2 false s.length 2 ++ (s ++ m) := by rw [text_ok t s hs]; simp
  have hl : (textL t s).length = t.length + 2 + s.length := text_len t s hs
  have g0 : getV (t ++ putB 2 false s.length 2 ++ (s ++ m)) t.length 2 false = (s.length : Int) ∧ getE (t ++ putB 2 false s.length 2 ++ (s ++ m)) t.length 2 = 0 := getV_put t (s ++ m) 2 false s.length (by omega) (by omega) (by omega)
  rw [← e] at g0
  obtain ⟨g1', g2'⟩ := g0
  have hb : thereB (textL t s ++ m) ((t.length : Int) + 2) s.length = true := by simp only [thereB, List.length_append, hl, decide_eq_true_eq]; omega
  have he : readE (textL t s ++ m) t.length = 0 := by unfold readE; rw [if_pos ⟨g2', by rw [g1']; exact hb⟩]
  refine ⟨he, ?_, ?_⟩
  · simp only [readS, he, if_true, g1', thereL, hb]
    rw [show ((t.length : Int) + 2 + s.length).toNat = (textL t s).length by omega, List.take_left, text_ok t s hs, show ((t.length : Int) + 2).toNat = (t ++ putB 2 false s.length 2).length by simp [putB]; omega, List.drop_left]
  · simp only [readN, he, if_true, g1']; omega

def env_fback : Env := ⟨T, psi_fsides, psp_atom, 136, []⟩
theorem eok_fback : PsiOk Try.prog env_fback := ⟨psi_fsides_ok, psp_atom_ok⟩
theorem fback_fn (l : List UInt8) (m : List UInt8) (n : Int) (big : Bool) (v : Int) (s : List UInt8) (hn : inR .u8 n) (hv : inR .u64 v) : Ctr Try.prog 8 false [lst .byt l, lst .byt m, int .u8 n, bool big, int .u64 v, str s] (.x (.c (bv true))) := by
  refine Ctr_intro (E := env_fback) Try.func8 rfl (by decide) rfl rfl (fun M0 W hM0 => ?_)
  simp only [inR] at hn hv
  refine G_run tOk eok_fback 60 (fun _ => none) (fun bs => rfl) (fun bs => ?_) (fun bs => ?_)
  · (repeat' apply And.intro) <;> (intros; first | exact trivial | exact rfl | omega | exact u8_lo _ | exact u8_hi _ | exact u8_in64 _ | exact u8_in63 _ | (simp only [inR, IntKind.bits]; omega) | (simp [inR, IntKind.bits]; done) | (simp [inR, IntKind.bits] at * <;> omega) | (simp_all; done) | skip)
  refine G_cond rfl rfl (fun h => ?_) (fun h => ?_)
  · refine G_run tOk eok_fback 60 (fun _ => none) (fun bs => rfl) (fun bs => ?_) (fun bs => ?_)
    · (repeat' apply And.intro) <;> (intros; first | exact trivial | exact rfl | omega | exact u8_lo _ | exact u8_hi _ | exact u8_in64 _ | exact u8_in63 _ | (simp only [inR, IntKind.bits]; omega) | (simp [inR, IntKind.bits]; done) | (simp [inR, IntKind.bits] at * <;> omega) | (simp_all; done) | skip)
    exact G_ret tOk hM0 rfl rfl ⟨trivial, trivial⟩ rfl
  have hl2 : (l.length ≤ 5000 ∧ m.length ≤ 5000) ∧ s.length ≤ 5000 := by simp at h; omega
  refine G_run tOk eok_fback 60 (fun _ => none) (fun bs => rfl) (fun bs => ?_) (fun bs => ?_)
  · (repeat' apply And.intro) <;> (intros; first | exact trivial | exact rfl | omega | exact u8_lo _ | exact u8_hi _ | exact u8_in64 _ | exact u8_in63 _ | (simp only [inR, IntKind.bits]; omega) | (simp [inR, IntKind.bits]; done) | (simp [inR, IntKind.bits] at * <;> omega) | (simp_all; done) | skip)
  refine G_cut (X := Int × Nat) (fun x => [(0, lst .byt l), (1, lst .byt m), (3, bool big), (5, str s), (13, int .i64 x.1), (4, int .u64 x.2)]) (fun _ => []) (fun x => 1 ≤ x.1 ∧ x.1 ≤ 8 ∧ x.2 < 256 ^ x.1.toNat) rfl ?_ (fun x hx => ?_)
  · refine G_if rfl rfl (fun h => ?_) (fun h => ?_)
    · have hk : 1 + n % 8 < 8 := h
      refine G_run tOk eok_fback 60 (fun _ => none) (fun bs => rfl) (fun bs => ?_) (fun bs => ?_)
      · (repeat' apply And.intro) <;> (intros; first | exact trivial | exact rfl | omega | exact u8_lo _ | exact u8_hi _ | exact u8_in64 _ | exact u8_in63 _ | (simp only [inR, IntKind.bits]; omega) | (simp [inR, IntKind.bits]; done) | (simp [inR, IntKind.bits] at * <;> omega) | (simp_all; done) | skip)
      refine G_lp [] (1 + n % 8, v.toNat % 2 ^ (8 * (1 + n % 8)).toNat) ?ok ?wk
      case ok => exact ⟨by simp only; omega, by simp only; omega, by simp only; rw [pow256 _ (by omega)]; exact Nat.mod_lt _ (Nat.pow_pos (by omega))⟩
      case wk =>
        (repeat' apply And.intro) <;> (first | exact rfl | exact trivial | omega | refine sigEq ?_ | skip)
        all_goals exact iand_mask hv (by omega)
    · have hk : ¬ 1 + n % 8 < 8 := h
      refine G_run tOk eok_fback 60 (fun _ => none) (fun bs => rfl) (fun bs => ?_) (fun bs => ?_)
      · (repeat' apply And.intro) <;> (intros; first | exact trivial | exact rfl | omega | exact u8_lo _ | exact u8_hi _ | exact u8_in64 _ | exact u8_in63 _ | (simp only [inR, IntKind.bits]; omega) | (simp [inR, IntKind.bits]; done) | (simp [inR, IntKind.bits] at * <;> omega) | (simp_all; done) | skip)
      refine G_lp [] (1 + n % 8, v.toNat) ?ok2 ?wk2
      case ok2 =>
        refine ⟨by simp only; omega, by simp only; omega, ?_⟩
        have : (1 + n % 8).toNat = 8 := by omega
        simp only [this]; omega
      case wk2 =>
        (repeat' apply And.intro) <;> (first | exact rfl | exact trivial | omega | refine sigEq ?_ | skip)
        all_goals (show v = ((v.toNat : Nat) : Int); omega)
  obtain ⟨k, x⟩ := x
  obtain ⟨h1, h8, hx⟩ := hx
  simp only at h1 h8 hx
  have he := putE_ok k x h1 h8 hx
  have hlt : (x : Int) ≤ 18446744073709551615 := by
    have : 256 ^ k.toNat ≤ 256 ^ 8 := Nat.pow_le_pow_right (by omega) (by omega)
    omega
  have hA : ((putL l k big (x : Int)).length : Int) = (l.length : Int) + k := by rw [putL_len he]; omega
  have hT := text_len (putL l k big (x : Int)) s (by omega)
  have hE : textE s = 0 := by simp [textE]; omega
  obtain ⟨t1, t2, t3⟩ := text_read2 (putL l k big (x : Int)) s m (by omega)
  have eall : textL (putL l k big (x : Int)) s ++ m = l ++ putB k.toNat big x k.toNat ++ (putB 2 false s.length 2 ++ s ++ m) := by
    rw [text_ok _ _ (by omega)]
    simp only [putL, he, if_true, show ((k.toNat : Nat) : Int) = k by omega]
    simp
  obtain ⟨g1, g2⟩ := getV_put l (putB 2 false s.length 2 ++ s ++ m) k.toNat big x (by omega) (by omega) hx
  rw [← eall, show ((k.toNat : Nat) : Int) = k by omega] at g1 g2
  have etk : (textL (putL l k big (x : Int)) s ++ m).take l.length = l := by rw [eall, List.append_assoc, List.take_left]
  rw [hA] at t1 t2 t3
  have hall : (textL (putL l k big (x : Int)) s ++ m).length = (textL (putL l k big (x : Int)) s).length + m.length := List.length_append
  refine G_run tOk eok_fback 60 (fun _ => some true) (fun bs => rfl) (fun bs => ?_) (fun bs => ?_)
  · simp only [List.nil_append, he, hA, hT, hE, t1, t2, t3, g1, g2, hall]
    (repeat' apply And.intro) <;> (intros; first | exact trivial | exact rfl | omega | exact u8_lo _ | exact u8_hi _ | exact u8_in64 _ | exact u8_in63 _ | (simp only [inR, IntKind.bits]; omega) | (simp [inR, IntKind.bits]; done) | (simp [inR, IntKind.bits] at * <;> omega) | (simp_all; done) | skip)
  refine G_freeze 4 [18] rfl ⟨rfl, trivial⟩ ?_
  refine G_draw tOk eok_fback rfl (fun _ => some true) [0, 1, 3, 7, 15, 31, 63, 127, 255, 511, 1023, 2047, 4095, 8191, 16383, 32767, 65535, 131071, 262143, 524287, 524287, 2097151, 4194303, 8388607, 16777215, 16777215, 67108863, 134217727, 268435455, 536870911, 536870911, 1610612735, 4294967295, 8589934591, 17179869183, 34359738367, 34359738367, 103079215103, 274877906943, 549755813887, 34359738367, 1133871366143, 4398046511103, 8796093022207, 17592186044415, 35184372088831, 70368744177663, 140737488355327] [] rfl (by decide +kernel) (fun bs => rfl) (fun bs => ?_) (fun bs => ?_)
  · simp only [List.nil_append, he, hA, hE, t1, t2, t3, g1, g2, hall, etk]
    (repeat' apply And.intro) <;> (intros; first | exact trivial | exact rfl | omega | exact u8_lo _ | exact u8_hi _ | exact u8_in64 _ | exact u8_in63 _ | (simp only [inR, IntKind.bits]; omega) | (simp [inR, IntKind.bits]; done) | (simp [inR, IntKind.bits] at * <;> omega) | (simp_all; done) | skip)
  refine G_run tOk eok_fback 60 (fun _ => none) (fun bs => rfl) (fun bs => ?_) (fun bs => ?_)
  · (repeat' apply And.intro) <;> (intros; first | exact trivial | exact rfl | omega | exact u8_lo _ | exact u8_hi _ | exact u8_in64 _ | exact u8_in63 _ | (simp only [inR, IntKind.bits]; omega) | (simp [inR, IntKind.bits]; done) | (simp [inR, IntKind.bits] at * <;> omega) | (simp_all; done) | skip)
  refine G_ret tOk hM0 rfl rfl ⟨trivial, trivial⟩ ?_
  conv => whnf
  simp only [List.nil_append, he, hA, hE, t1, t2, t3, g1, g2, hall, etk]
  simp
  exact etk
def fback_s : FSpec
  | [.c (.pv (.lst .byt l)), .c (.pv (.lst .byt m)), .c (.pv (.val (.int .u8 n))), .c (.pv (.val (.bool big))), .c (.pv (.val (.int .u64 v))), .c (.pv (.val (.string ⟨⟨s⟩⟩)))] => some ((inR .u8 n) ∧ (inR .u64 v), false, .x (.c (bv true)))
  | _ => none
theorem fback_s_ok : SpecOk Try.prog 8 fback_s := by
  intro args pre sh rv h hp; unfold fback_s at h; split at h
  · cases h; obtain ⟨hn, hv⟩ := hp; exact fback_fn _ _ _ _ _ _ hn hv
  · cases h
def psi_fback : FuncId → Option FSpec := psiCons 8 fback_s psi_fsides
theorem psi_fback_ok : PsiFn Try.prog psi_fback := psiCons_ok fback_s_ok psi_fsides_ok
end Go.Proofs.Ytjalmhbmlkamlaa
