import Derived.Test.YtnmomckmpknbkaaTabG
set_option linter.unusedSimpArgs false
set_option linter.unusedVariables false
namespace Go.Proofs.Ytnmomckmpknbkaa
open Go.Mt

def eL (c : Int) (e : Entry) : List UInt8 := entL e.kind e.start e.count e.size e.sum c
theorem eL_len (c : Int) (e : Entry) : (eL c e).length ≤ 16 := entL_len _ _ _ _ _ _
def entsN (c : Int) (l : List Entry) : Nat → List UInt8
  | 0 => []
  | k + 1 => entsN c l k ++ eL c (l.getD k entZ)
theorem entsN_len (c : Int) (l : List Entry) : ∀ k, (entsN c l k).length ≤ 16 * k := by
  intro k
  induction k with
  | zero => exact Nat.le_refl _
  | succ k ih => simp only [entsN, List.length_append]; have := eL_len c (l.getD k entZ); omega
def cntN (t : List (List Entry)) : Nat → Nat
  | 0 => 0
  | i + 1 => match decide ((leaf t i).length = 0) with
    | true => cntN t i
    | false => cntN t i + 1
def bodN (c : Int) (t : List (List Entry)) : Nat → List UInt8
  | 0 => []
  | i + 1 => match decide ((leaf t i).length = 0) with
    | true => bodN c t i
    | false => bodN c t i ++ putL [] 2 false i ++ entsN c (leaf t i) 8
def tabL (t : List (List Entry)) (c : Int) : List UInt8 := if rightT t 4096 c = true then putL [] 2 false (cntN t t.length) ++ bodN c t t.length else []
def tabE (t : List (List Entry)) (c : Int) : Int := if rightT t 4096 c = true then 0 else 1
theorem cntN_le (t : List (List Entry)) : ∀ i, cntN t i ≤ i := by
  intro i
  induction i with
  | zero => exact Nat.le_refl _
  | succ i ih => simp only [cntN]; split <;> omega
theorem put2_len (v : Int) : (putL [] 2 false v).length ≤ 2 := by
  unfold putL; split <;> simp [putB]
theorem bodN_len (c : Int) (t : List (List Entry)) : ∀ i, (bodN c t i).length ≤ 130 * i := by
  intro i
  induction i with
  | zero => exact Nat.le_refl _
  | succ i ih =>
    simp only [bodN]
    split
    · omega
    · simp only [List.length_append]
      have := put2_len i; have := entsN_len c (leaf t i) 8; omega

def env_tput : Env := ⟨T, psi_frights, pspNil, 70, [], none, true⟩
theorem eok_tput : PsiOk Try.prog env_tput := ⟨psi_frights_ok, pspNil_ok⟩
theorem tput_fn (t0 : List (List Entry)) (c : Int) (hl : t0.length ≤ 1000000000) (hf : ∀ i, (leaf t0 i).length ≤ 1000000000) (hs : ∀ i k, inR .u32 ((leaf t0 i).getD k entZ).sum) : Ctr Try.prog 25 false [.g [.pv (.lst .tbl t0)], int .i64 c] (.ot 5 .byt (tabL t0 c) [.c (i64 (tabE t0 c))]) := by
  refine Ctr_intro (E := env_tput) Try.func25 rfl (by decide) rfl rfl (fun M0 W hM0 => ?_)
  refine G_run tOk eok_tput 60 (fun _ => none) (fun bs => rfl) (fun bs => ?_) (fun bs => ?_)
  · (repeat' apply And.intro) <;> (intros; first | exact trivial | exact rfl | omega | exact u8_lo _ | exact u8_hi _ | exact u8_in64 _ | exact u8_in63 _ | (simp only [inR, IntKind.bits]; omega) | (simp [inR, IntKind.bits, hf]; done) | (simp [inR, IntKind.bits, hf] at * <;> omega) | (simp_all; done) | skip)
  cases hr : rightT t0 4096 c with
  | false =>
    refine G_thn rfl rfl (by simp [hr]) ?_
    refine G_run tOk eok_tput 60 (fun _ => none) (fun bs => rfl) (fun bs => ?_) (fun bs => ?_)
    · (repeat' apply And.intro) <;> (intros; first | exact trivial | exact rfl | omega | exact u8_lo _ | exact u8_hi _ | exact u8_in64 _ | exact u8_in63 _ | (simp only [inR, IntKind.bits]; omega) | (simp [inR, IntKind.bits]; done) | (simp [inR, IntKind.bits] at * <;> omega) | (simp_all; done) | skip)
    have h1 : tabE t0 c = 1 := by simp [tabE, hr]
    have h2 : tabL t0 c = [] := by simp [tabL, hr]
    exact G_ret tOk hM0 rfl rfl ⟨trivial, trivial, trivial⟩ ⟨h2, ⟨rfl, h1.symm⟩, trivial⟩
  | true =>
  refine G_els rfl rfl (by simp [hr]) ?_
  have hE : tabE t0 c = 0 := by simp [tabE, hr]
  have hL : tabL t0 c = putL [] 2 false (cntN t0 t0.length) ++ bodN c t0 t0.length := by simp [tabL, hr]
  rw [hE, hL]
  have h512 : t0.length ≤ 512 := by
    by_cases h : 512 < t0.length
    · exact (right_few hr h).elim
    · omega
  refine G_run tOk eok_tput 60 (fun _ => none) (fun bs => rfl) (fun bs => ?_) (fun bs => ?_)
  · (repeat' apply And.intro) <;> (intros; first | exact trivial | exact rfl | omega | exact u8_lo _ | exact u8_hi _ | exact u8_in64 _ | exact u8_in63 _ | (simp only [inR, IntKind.bits]; omega) | (simp [inR, IntKind.bits]; done) | (simp [inR, IntKind.bits] at * <;> omega) | (simp_all; done) | skip)
  refine G_own 7 5 rfl ?_
  refine G_loop (fun x : Nat × Value => [(1, int .i64 c), (6, int .i64 (cntN t0 x.1)), (7, .c (.own 0 x.2)), (23, lst .tbl t0), (24, int .i64 t0.length), (25, int .i64 x.1)]) (fun x => [.own x.2 5 .byt (bodN c t0 x.1)])
    (fun x => x.1 ≤ t0.length) (fun x => t0.length - x.1) rfl [1] (0, .slice none 0 0) (Nat.zero_le _) ?wk (fun x hx => ?_)
  case wk => (repeat' apply And.intro) <;> (first | exact rfl | exact trivial | omega | refine sigEq ?_ | skip)
  obtain ⟨i, v⟩ := x
  dsimp only at hx ⊢
  have hc1 := cntN_le t0 i
  have hb1 := bodN_len c t0 i
  refine G_run tOk eok_tput 60 (fun _ => none) (fun bs => rfl) (fun bs => ?_) (fun bs => ?_)
  · (repeat' apply And.intro) <;> (intros; first | exact trivial | exact rfl | omega | exact u8_lo _ | exact u8_hi _ | exact u8_in64 _ | exact u8_in63 _ | (simp only [inR, IntKind.bits]; omega) | (simp [inR, IntKind.bits]; done) | (simp [inR, IntKind.bits] at * <;> omega) | (simp_all; done) | skip)
  refine G_if rfl rfl (fun hk => ?_) (fun hk => ?_)
  · have hk' : i < t0.length := by omega
    have hlx : t0.getD (Int.toNat (i : Int)) LK.tbl.dft = leaf t0 i := rfl
    refine G_run tOk eok_tput 60 (fun _ => none) (fun bs => rfl) (fun bs => ?_) (fun bs => ?_)
    · (repeat' apply And.intro) <;> (intros; first | exact trivial | exact rfl | omega | exact u8_lo _ | exact u8_hi _ | exact u8_in64 _ | exact u8_in63 _ | (simp only [inR, IntKind.bits]; omega) | (simp [inR, IntKind.bits]; done) | (simp [inR, IntKind.bits] at * <;> omega) | (simp_all; done) | skip)
    rcases right_row hr i with h8 | h8
    · refine G_thn rfl rfl (show decide ((((t0.getD (Int.toNat (i : Int)) LK.tbl.dft).length : Nat) : Int) = 0) = true by rw [hlx, h8]; rfl) ?_
      refine G_run tOk eok_tput 60 (fun _ => none) (fun bs => rfl) (fun bs => ?_) (fun bs => ?_)
      · (repeat' apply And.intro) <;> (intros; first | exact trivial | exact rfl | omega | exact u8_lo _ | exact u8_hi _ | exact u8_in64 _ | exact u8_in63 _ | (simp only [inR, IntKind.bits]; omega) | (simp [inR, IntKind.bits]; done) | (simp [inR, IntKind.bits] at * <;> omega) | (simp_all; done) | skip)
      refine G_lp [0] (i + 1, v) ?ok1 ?wk1
      case ok1 => exact ⟨hk', by simp only; omega⟩
      case wk1 =>
        (repeat' apply And.intro) <;> (first | exact rfl | exact trivial | omega | refine sigEq ?_ | skip)
        all_goals (simp only [cntN, bodN, h8]; rfl)
    refine G_els rfl rfl (show decide ((((t0.getD (Int.toNat (i : Int)) LK.tbl.dft).length : Nat) : Int) = 0) = false by rw [hlx, h8]; rfl) ?_
    have hp2 := put2_len i
    refine G_run tOk eok_tput 60 (fun _ => none) (fun bs => rfl) (fun bs => ?_) (fun bs => ?_)
    · simp only [hlx, h8]
      (repeat' apply And.intro) <;> (intros; first | exact trivial | exact rfl | omega | exact u8_lo _ | exact u8_hi _ | exact u8_in64 _ | exact u8_in63 _ | (simp only [inR, IntKind.bits]; omega) | (simp [inR, IntKind.bits]; done) | (simp [inR, IntKind.bits] at * <;> omega) | (simp_all; done) | skip)
    refine G_loop (fun x : Nat × Value => [(1, int .i64 c), (6, int .i64 ((cntN t0 i : Int) + 1)), (7, .c (.own 0 x.2)), (8, int .i64 i), (23, lst .tbl t0), (24, int .i64 t0.length), (25, int .i64 i), (44, lst .ent (leaf t0 i)), (45, int .i64 (leaf t0 i).length), (46, int .i64 x.1)]) (fun x => [.own x.2 5 .byt (bodN c t0 i ++ putL [] 2 false i ++ entsN c (leaf t0 i) x.1)])
      (fun x => x.1 ≤ 8) (fun x => 8 - x.1) rfl [2] (0, ?v2) (Nat.zero_le _) ?wk2 (fun x hx2 => ?_)
    case wk2 =>
      (repeat' apply And.intro) <;> (first | exact rfl | exact trivial | omega | refine sigEq ?_ | skip)
      all_goals (simp only [entsN, List.append_nil])
    obtain ⟨k, v2⟩ := x
    dsimp only at hx2 ⊢
    have he1 := entsN_len c (leaf t0 i) k
    refine G_run tOk eok_tput 60 (fun _ => none) (fun bs => rfl) (fun bs => ?_) (fun bs => ?_)
    · (repeat' apply And.intro) <;> (intros; first | exact trivial | exact rfl | omega | exact u8_lo _ | exact u8_hi _ | exact u8_in64 _ | exact u8_in63 _ | (simp only [inR, IntKind.bits]; omega) | (simp [inR, IntKind.bits]; done) | (simp [inR, IntKind.bits] at * <;> omega) | (simp_all; done) | skip)
    refine G_if rfl rfl (fun hk2 => ?_) (fun hk2 => ?_)
    · have hk2' : k < 8 := by omega
      have he2 := eL_len c ((leaf t0 i).getD k entZ)
      have he3 : (entL ((leaf t0 i).getD (Int.toNat (k : Int)) LK.ent.dft).kind ((leaf t0 i).getD (Int.toNat (k : Int)) LK.ent.dft).start ((leaf t0 i).getD (Int.toNat (k : Int)) LK.ent.dft).count ((leaf t0 i).getD (Int.toNat (k : Int)) LK.ent.dft).size ((leaf t0 i).getD (Int.toNat (k : Int)) LK.ent.dft).sum c).length ≤ 16 := he2
      refine G_run tOk eok_tput 60 (fun _ => none) (fun bs => rfl) (fun bs => ?_) (fun bs => ?_)
      · (repeat' apply And.intro) <;> (intros; first | exact trivial | exact rfl | omega | (simp only [List.length_append]; omega) | exact (hs i k).1 | exact (hs i k).2 | (simp [inR]; omega) | skip)
      refine G_lp [3] (k + 1, ?v3) ?ok3 ?wk3
      case ok3 => exact ⟨hk2', by simp only; omega⟩
      case wk3 =>
        (repeat' apply And.intro) <;> (first | exact rfl | exact trivial | omega | refine sigEq ?_ | skip)
        all_goals (simp only [entsN, List.append_assoc]; rfl)
    · have hk2' : k = 8 := by omega
      subst hk2'
      refine G_run tOk eok_tput 60 (fun _ => none) (fun bs => rfl) (fun bs => ?_) (fun bs => ?_)
      · (repeat' apply And.intro) <;> (intros; first | exact trivial | exact rfl | omega | exact u8_lo _ | exact u8_hi _ | exact u8_in64 _ | exact u8_in63 _ | (simp only [inR, IntKind.bits]; omega) | (simp [inR, IntKind.bits]; done) | (simp [inR, IntKind.bits] at * <;> omega) | (simp_all; done) | skip)
      refine G_lp [0] (i + 1, v2) ?ok4 ?wk4
      case ok4 => exact ⟨hk', by simp only; omega⟩
      case wk4 =>
        (repeat' apply And.intro) <;> (first | exact rfl | exact trivial | omega | refine sigEq ?_ | skip)
        all_goals (simp only [cntN, bodN, h8]; rfl)
  · have hk' : i = t0.length := by omega
    subst hk'
    have hp2 := put2_len (cntN t0 t0.length)
    refine G_run tOk eok_tput 60 (fun _ => none) (fun bs => rfl) (fun bs => ?_) (fun bs => ?_)
    · (repeat' apply And.intro) <;> (intros; first | exact trivial | exact rfl | omega | exact u8_lo _ | exact u8_hi _ | exact u8_in64 _ | exact u8_in63 _ | (simp only [inR, IntKind.bits]; omega) | (simp [inR, IntKind.bits]; done) | (simp [inR, IntKind.bits] at * <;> omega) | (simp_all; done) | skip)
    exact G_ret tOk hM0 rfl rfl ⟨trivial, trivial, trivial⟩ ⟨⟨rfl, rfl, rfl, sigEq rfl⟩, ⟨rfl, rfl⟩, trivial⟩

def tput_s : FSpec
  | [.g [.pv (.lst .tbl t0)], .c (.pv (.val (.int .i64 c)))] => some ((t0.length ≤ 1000000000) ∧ (∀ i, (leaf t0 i).length ≤ 1000000000) ∧ (∀ i k, inR .u32 ((leaf t0 i).getD k entZ).sum), false, .ot 5 .byt (tabL t0 c) [.c (i64 (tabE t0 c))])
  | _ => none
theorem tput_s_ok : SpecOk Try.prog 25 tput_s := by
  intro args pre sh rv h hp; unfold tput_s at h; split at h
  · cases h; obtain ⟨hl, hf, hs⟩ := hp; exact tput_fn _ _ hl hf hs
  · cases h
def psi_tput : FuncId → Option FSpec := psiCons 25 tput_s psi_frights
theorem psi_tput_ok : PsiFn Try.prog psi_tput := psiCons_ok tput_s_ok psi_frights_ok
theorem put2_app (l : List UInt8) {v : Int} (h : 0 ≤ v ∧ v < 65536) : putL l 2 false v = l ++ putL [] 2 false v := by
  have e : putE 2 v = 0 := by
    unfold putE
    rw [if_neg (by omega), if_neg]
    intro hh; apply hh.2
    show v / 65536 = 0
    omega
  unfold putL; rw [if_pos e, if_pos e]; simp

def env_rtab : Env := ⟨T, psi_tput, pspNil, 67, [], none, true⟩
theorem eok_rtab : PsiOk Try.prog env_rtab := ⟨psi_tput_ok, pspNil_ok⟩
theorem rtab_fn (t0 : List (List Entry)) (c : Int) (hl : t0.length ≤ 1000000000) (hf : ∀ i, (leaf t0 i).length ≤ 1000000000) (hs : ∀ i k, inR .u32 ((leaf t0 i).getD k entZ).sum) : Ctr Try.prog 26 false [.g [.pv (.lst .tbl t0)], int .i64 c] (.ot 5 .byt (tabL t0 c) [.c (i64 (tabE t0 c))]) := by
  refine Ctr_intro (E := env_rtab) Try.func26 rfl (by decide) rfl rfl (fun M0 W hM0 => ?_)
  have hbad : (c < 0 ∨ 6 < c) → rightT t0 4096 c = false := by
    intro h
    have : (decide ((4096 : Int) < 0) || decide (4096 < (4096 : Int)) || decide (c < 0) || decide (6 < c)) = true := by simp; omega
    simp only [rightT, this]; rfl
  have bad : rightT t0 4096 c = false → tabE t0 c = 1 ∧ tabL t0 c = [] := fun hr => ⟨by simp [tabE, hr], by simp [tabL, hr]⟩
  by_cases h0 : c < 0 ∨ 6 < c
  · refine G_run tOk eok_rtab 60 (fun j => match j with | 6 => some true | _ => none) (fun bs => rfl) (fun bs => ?_) (fun bs => ?_)
    · (repeat' apply And.intro) <;> (intros; first | exact trivial | exact rfl | omega | exact u8_lo _ | exact u8_hi _ | exact u8_in64 _ | exact u8_in63 _ | (simp only [inR, IntKind.bits]; omega) | (simp [inR, IntKind.bits, h0]; done) | (simp [inR, IntKind.bits, h0] at * <;> omega) | (simp_all; done) | skip)
    refine G_thn rfl rfl (by simp [h0]) ?_
    refine G_run tOk eok_rtab 60 (fun _ => none) (fun bs => rfl) (fun bs => ?_) (fun bs => ?_)
    · (repeat' apply And.intro) <;> (intros; first | exact trivial | exact rfl | omega | exact u8_lo _ | exact u8_hi _ | exact u8_in64 _ | exact u8_in63 _ | (simp only [inR, IntKind.bits]; omega) | (simp [inR, IntKind.bits]; done) | (simp [inR, IntKind.bits] at * <;> omega) | (simp_all; done) | skip)
    obtain ⟨h1, h2⟩ := bad (hbad h0)
    exact G_ret tOk hM0 rfl rfl ⟨trivial, trivial, trivial⟩ ⟨h2, ⟨rfl, h1.symm⟩, trivial⟩
  have h0a : ¬ c < 0 := fun h => h0 (.inl h)
  have h0b : ¬ 6 < c := fun h => h0 (.inr h)
  refine G_run tOk eok_rtab 60 (fun j => match j with | 6 => some false | _ => none) (fun bs => rfl) (fun bs => ?_) (fun bs => ?_)
  · (repeat' apply And.intro) <;> (intros; first | exact trivial | exact rfl | omega | exact u8_lo _ | exact u8_hi _ | exact u8_in64 _ | exact u8_in63 _ | (simp only [inR, IntKind.bits]; omega) | (simp [inR, IntKind.bits, h0a, h0b, hf]; done) | (simp [inR, IntKind.bits, h0a, h0b, hf] at * <;> omega) | (simp_all; done) | skip)
  cases hr : rightT t0 4096 c with
  | false =>
    refine G_thn rfl rfl (by simp [hr]) ?_
    refine G_run tOk eok_rtab 60 (fun _ => none) (fun bs => rfl) (fun bs => ?_) (fun bs => ?_)
    · (repeat' apply And.intro) <;> (intros; first | exact trivial | exact rfl | omega | exact u8_lo _ | exact u8_hi _ | exact u8_in64 _ | exact u8_in63 _ | (simp only [inR, IntKind.bits]; omega) | (simp [inR, IntKind.bits]; done) | (simp [inR, IntKind.bits] at * <;> omega) | (simp_all; done) | skip)
    obtain ⟨h1, h2⟩ := bad hr
    exact G_ret tOk hM0 rfl rfl ⟨trivial, trivial, trivial⟩ ⟨h2, ⟨rfl, h1.symm⟩, trivial⟩
  | true =>
  refine G_els rfl rfl (by simp [hr, h0a, h0b]) ?_
  have hE : tabE t0 c = 0 := by simp [tabE, hr]
  have hL : tabL t0 c = putL [] 2 false (cntN t0 t0.length) ++ bodN c t0 t0.length := by simp [tabL, hr]
  rw [hE, hL]
  have h512 : t0.length ≤ 512 := by
    by_cases h : 512 < t0.length
    · exact (right_few hr h).elim
    · omega
  clear hbad bad h0
  refine G_run tOk eok_rtab 60 (fun _ => none) (fun bs => rfl) (fun bs => ?_) (fun bs => ?_)
  · (repeat' apply And.intro) <;> (intros; first | exact trivial | exact rfl | omega | exact u8_lo _ | exact u8_hi _ | exact u8_in64 _ | exact u8_in63 _ | (simp only [inR, IntKind.bits]; omega) | (simp [inR, IntKind.bits]; done) | (simp [inR, IntKind.bits] at * <;> omega) | (simp_all; done) | skip)
  refine G_own 7 5 rfl ?_
  generalize (bs 0 0).bn = b
  refine G_wkB (ns := [0, 1]) (fs := fun b => [(1, int .i64 c), (2, .c (.ptr 0 b 0)), (6, int .i64 0), (7, .c (.own 1 (.slice none 0 0))), (8, int .i64 0)]) (hs := fun b => [.blk b 24 [.pv (.lst .tbl t0)], .own (.slice none 0 0) 5 .byt []]) ?b1 rfl ?wk0 (fun b => ?_)
  case wk0 => (repeat' apply And.intro) <;> (first | exact rfl | exact trivial | omega | refine sigEq ?_ | skip)
  refine G_loop (fun x : Nat × Value => [(1, int .i64 c), (2, .c (.ptr 0 b 0)), (6, int .i64 (cntN t0 x.1)), (7, .c (.own 1 x.2)), (8, int .i64 x.1)]) (fun x => [.blk b 24 [.pv (.lst .tbl t0)], .own x.2 5 .byt (bodN c t0 x.1)])
    (fun x => x.1 ≤ t0.length) (fun x => t0.length - x.1) rfl [0, 1] (0, .slice none 0 0) (Nat.zero_le _) ?wk (fun x hx => ?_)
  case wk => (repeat' apply And.intro) <;> (first | exact rfl | exact trivial | omega | refine sigEq ?_ | skip)
  obtain ⟨i, v⟩ := x
  dsimp only at hx ⊢
  have hc1 := cntN_le t0 i
  have hb1 := bodN_len c t0 i
  refine G_run tOk eok_rtab 60 (fun _ => none) (fun bs => rfl) (fun bs => ?_) (fun bs => ?_)
  · (repeat' apply And.intro) <;> (intros; first | exact trivial | exact rfl | omega | exact u8_lo _ | exact u8_hi _ | exact u8_in64 _ | exact u8_in63 _ | (simp only [inR, IntKind.bits]; omega) | (simp [inR, IntKind.bits]; done) | (simp [inR, IntKind.bits] at * <;> omega) | (simp_all; done) | skip)
  refine G_if rfl rfl (fun hk => ?_) (fun hk => ?_)
  · have hk' : i < t0.length := by omega
    have hlx : t0.getD (Int.toNat (i : Int)) LK.tbl.dft = leaf t0 i := rfl
    refine G_run tOk eok_rtab 60 (fun _ => none) (fun bs => rfl) (fun bs => ?_) (fun bs => ?_)
    · (repeat' apply And.intro) <;> (intros; first | exact trivial | exact rfl | omega | exact u8_lo _ | exact u8_hi _ | exact u8_in64 _ | exact u8_in63 _ | (simp only [inR, IntKind.bits]; omega) | (simp [inR, IntKind.bits]; done) | (simp [inR, IntKind.bits] at * <;> omega) | (simp_all; done) | skip)
    rcases right_row hr i with h8 | h8
    · refine G_thn rfl rfl (show decide ((((t0.getD (Int.toNat (i : Int)) LK.tbl.dft).length : Nat) : Int) = 0) = true by rw [hlx, h8]; rfl) ?_
      refine G_run tOk eok_rtab 60 (fun _ => none) (fun bs => rfl) (fun bs => ?_) (fun bs => ?_)
      · (repeat' apply And.intro) <;> (intros; first | exact trivial | exact rfl | omega | exact u8_lo _ | exact u8_hi _ | exact u8_in64 _ | exact u8_in63 _ | (simp only [inR, IntKind.bits]; omega) | (simp [inR, IntKind.bits]; done) | (simp [inR, IntKind.bits] at * <;> omega) | (simp_all; done) | skip)
      refine G_lp [0, 1] (i + 1, v) ?ok1 ?wk1
      case ok1 => exact ⟨hk', by simp only; omega⟩
      case wk1 =>
        (repeat' apply And.intro) <;> (first | exact rfl | exact trivial | omega | refine sigEq ?_ | skip)
        all_goals (simp only [cntN, bodN, h8]; rfl)
    refine G_els rfl rfl (show decide ((((t0.getD (Int.toNat (i : Int)) LK.tbl.dft).length : Nat) : Int) = 0) = false by rw [hlx, h8]; rfl) ?_
    have hp2 := put2_len i
    have hp3 := put2_app (bodN c t0 i) (v := i) (by omega)
    refine G_run tOk eok_rtab 60 (fun _ => none) (fun bs => rfl) (fun bs => ?_) (fun bs => ?_)
    · simp only [hlx, h8]
      (repeat' apply And.intro) <;> (intros; first | exact trivial | exact rfl | omega | exact u8_lo _ | exact u8_hi _ | exact u8_in64 _ | exact u8_in63 _ | (simp only [inR, IntKind.bits]; omega) | (simp [inR, IntKind.bits]; done) | (simp [inR, IntKind.bits] at * <;> omega) | (simp_all; done) | skip)
    refine G_loop (fun x : Nat × Value => [(1, int .i64 c), (2, .c (.ptr 0 b 0)), (6, int .i64 ((cntN t0 i : Int) + 1)), (7, .c (.own 1 x.2)), (8, int .i64 i), (9, int .i64 x.1)]) (fun x => [.blk b 24 [.pv (.lst .tbl t0)], .own x.2 5 .byt (bodN c t0 i ++ putL [] 2 false i ++ entsN c (leaf t0 i) x.1)])
      (fun x => x.1 ≤ 8) (fun x => 8 - x.1) rfl [0, 2] (0, ?v2) (Nat.zero_le _) ?wk2 (fun x hx2 => ?_)
    case wk2 =>
      (repeat' apply And.intro) <;> (first | exact rfl | exact trivial | omega | refine sigEq ?_ | skip)
      all_goals (simp only [entsN, List.append_nil]; exact hp3)
    obtain ⟨k, v2⟩ := x
    dsimp only at hx2 ⊢
    have he1 := entsN_len c (leaf t0 i) k
    refine G_run tOk eok_rtab 60 (fun _ => none) (fun bs => rfl) (fun bs => ?_) (fun bs => ?_)
    · (repeat' apply And.intro) <;> (intros; first | exact trivial | exact rfl | omega | exact u8_lo _ | exact u8_hi _ | exact u8_in64 _ | exact u8_in63 _ | (simp only [inR, IntKind.bits]; omega) | (simp [inR, IntKind.bits]; done) | (simp [inR, IntKind.bits] at * <;> omega) | (simp_all; done) | skip)
    refine G_if rfl rfl (fun hk2 => ?_) (fun hk2 => ?_)
    · have hk2' : k < 8 := by omega
      have hlx8 : (t0.getD (Int.toNat (i : Int)) LK.tbl.dft).length = 8 := h8
      have he2 := eL_len c ((leaf t0 i).getD k entZ)
      have he3 : (entL (List.getD (t0.getD (Int.toNat (i : Int)) LK.tbl.dft) (Int.toNat (k : Int)) LK.ent.dft).kind (List.getD (t0.getD (Int.toNat (i : Int)) LK.tbl.dft) (Int.toNat (k : Int)) LK.ent.dft).start (List.getD (t0.getD (Int.toNat (i : Int)) LK.tbl.dft) (Int.toNat (k : Int)) LK.ent.dft).count (List.getD (t0.getD (Int.toNat (i : Int)) LK.tbl.dft) (Int.toNat (k : Int)) LK.ent.dft).size (List.getD (t0.getD (Int.toNat (i : Int)) LK.tbl.dft) (Int.toNat (k : Int)) LK.ent.dft).sum c).length ≤ 16 := he2
      refine G_run tOk eok_rtab 60 (fun _ => none) (fun bs => rfl) (fun bs => ?_) (fun bs => ?_)
      · simp only [hlx8]
        (repeat' apply And.intro) <;> (intros; first | exact trivial | exact rfl | omega | (simp only [List.length_append]; omega) | exact (hs i k).1 | exact (hs i k).2 | (simp [inR]; omega) | skip)
      refine G_lp [0, 3] (k + 1, ?v3) ?ok3 ?wk3
      case ok3 => exact ⟨hk2', by simp only; omega⟩
      case wk3 =>
        (repeat' apply And.intro) <;> (first | exact rfl | exact trivial | omega | refine sigEq ?_ | skip)
        all_goals (simp only [entsN, List.append_assoc]; rfl)
    · have hk2' : k = 8 := by omega
      subst hk2'
      refine G_run tOk eok_rtab 60 (fun _ => none) (fun bs => rfl) (fun bs => ?_) (fun bs => ?_)
      · (repeat' apply And.intro) <;> (intros; first | exact trivial | exact rfl | omega | exact u8_lo _ | exact u8_hi _ | exact u8_in64 _ | exact u8_in63 _ | (simp only [inR, IntKind.bits]; omega) | (simp [inR, IntKind.bits]; done) | (simp [inR, IntKind.bits] at * <;> omega) | (simp_all; done) | skip)
      refine G_lp [0, 1] (i + 1, v2) ?ok4 ?wk4
      case ok4 => exact ⟨hk', by simp only; omega⟩
      case wk4 =>
        (repeat' apply And.intro) <;> (first | exact rfl | exact trivial | omega | refine sigEq ?_ | skip)
        all_goals (simp only [cntN, bodN, h8]; rfl)
  · have hk' : i = t0.length := by omega
    subst hk'
    have hp2 := put2_len (cntN t0 t0.length)
    refine G_run tOk eok_rtab 60 (fun _ => none) (fun bs => rfl) (fun bs => ?_) (fun bs => ?_)
    · (repeat' apply And.intro) <;> (intros; first | exact trivial | exact rfl | omega | exact u8_lo _ | exact u8_hi _ | exact u8_in64 _ | exact u8_in63 _ | (simp only [inR, IntKind.bits]; omega) | (simp [inR, IntKind.bits]; done) | (simp [inR, IntKind.bits] at * <;> omega) | (simp_all; done) | skip)
    exact G_ret tOk hM0 rfl rfl ⟨trivial, trivial, trivial⟩ ⟨⟨rfl, rfl, rfl, sigEq rfl⟩, ⟨rfl, rfl⟩, trivial⟩
def rtab_s : FSpec
  | [.g [.pv (.lst .tbl t0)], .c (.pv (.val (.int .i64 c)))] => some ((t0.length ≤ 1000000000) ∧ (∀ i, (leaf t0 i).length ≤ 1000000000) ∧ (∀ i k, inR .u32 ((leaf t0 i).getD k entZ).sum), false, .ot 5 .byt (tabL t0 c) [.c (i64 (tabE t0 c))])
  | _ => none
theorem rtab_s_ok : SpecOk Try.prog 26 rtab_s := by
  intro args pre sh rv h hp; unfold rtab_s at h; split at h
  · cases h; obtain ⟨hl, hf, hs⟩ := hp; exact rtab_fn _ _ hl hf hs
  · cases h
def psi_rtab : FuncId → Option FSpec := psiCons 26 rtab_s psi_tput
theorem psi_rtab_ok : PsiFn Try.prog psi_rtab := psiCons_ok rtab_s_ok psi_tput_ok
end Go.Proofs.Ytnmomckmpknbkaa
