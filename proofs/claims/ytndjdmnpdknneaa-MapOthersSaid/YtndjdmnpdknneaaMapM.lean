import Derived.Test.YtndjdmnpdknneaaMapL
set_option linter.unusedSimpArgs false
set_option linter.unusedVariables false
namespace Go.Proofs.Ytndjdmnpdknneaa
open Go.Mt

def nmj (i : Nat) : List UInt8 := [UInt8.ofNat (IntKind.u8.wrap (97 + (i : Int))).toNat]
def mb (m i : Nat) : List Bitmap := ((List.range m).drop i).map (fun j => ⟨nmj j, true, []⟩)
theorem mm_add : ∀ i, i < 8 → mpE (mb i 0) (nmj i) = 0 ∧ mpL (mb i 0) (nmj i) = mb (i + 1) 0 ∧ mpE (mb (i + 1) 0) (nmj i) = 5 ∧ (mb (i + 1) 0).getD i LK.bms.dft = ⟨nmj i, true, []⟩ := by decide +kernel
theorem mm_many : ∀ i, i < 13 → 8 ≤ i → mpE (mb 8 0) (nmj i) = 9 := by decide +kernel
theorem mm_drop : ∀ m, m < 9 → ∀ i, i < m → drE (mb m i) (nmj i) = 0 ∧ drL (mb m i) (nmj i) = mb m (i + 1) ∧ drE (mb m (i + 1)) (nmj i) = 4 := by decide +kernel
theorem mb_len (m i : Nat) : (mb m i).length = m - i := by simp [mb]
theorem mb_ok {m : Nat} (i : Nat) (h : m ≤ 9) : BmOk (mb m i) := by
  refine ⟨by rw [mb_len]; omega, fun b hb => ?_⟩
  simp only [mb, List.mem_map] at hb
  obtain ⟨j, _, rfl⟩ := hb
  simp
theorem nmj_len (i : Nat) : (nmj i).length ≤ 1000000000 := by simp [nmj]

def env_fmany : Env := ⟨T, psi_awake, pspNil, psc_del, 116, [], none, true⟩
theorem eok_fmany : PsiOk Try.prog env_fmany := ⟨psi_awake_ok, pspNil_ok, psc_del_ok⟩
theorem fmany_fn (n : Int) (hn : 0 ≤ n ∧ n ≤ 255) : Ctr Try.prog 5 false [int .u8 n] (.x (.c (bv true))) := by
  refine Ctr_intro (E := env_fmany) Try.func5 rfl (by decide) rfl rfl (fun M0 W hM0 => ?_)
  refine G_run tOk eok_fmany 60 (fun _ => none) (fun bs => rfl) (fun bs => ?_) (fun bs => ?_)
  · (repeat' apply And.intro) <;> (intros; first | exact trivial | exact rfl | omega | exact u8_lo _ | exact u8_hi _ | exact u8_in64 _ | exact u8_in63 _ | (simp only [inR, IntKind.bits]; omega) | (simp [inR, IntKind.bits]; done) | (simp [inR, IntKind.bits] at * <;> omega) | (simp_all; done) | (with_reducible assumption) | skip)
  obtain ⟨k, hk⟩ : ∃ k : Nat, 1 + n % 12 = k := ⟨(1 + n % 12).toNat, by omega⟩
  rw [hk]
  refine G_loop (fun i : Nat => [(3, lst .bms (mb (min i 8) 0)), (4, int .i64 k), (5, int .i64 i)]) (fun i => []) (fun i => i ≤ k) (fun i => k - i) rfl [] 0 (Nat.zero_le _) ?wk (fun i hi => ?_)
  case wk => (repeat' apply And.intro) <;> (first | exact rfl | exact trivial | omega | refine sigEq ?_ | skip)
  have bi : BmOk (mb (min i 8) 0) := mb_ok 0 (by omega)
  have hnl : (nmj i).length ≤ 1000000000 := nmj_len i
  refine G_run tOk eok_fmany 60 (fun _ => none) (fun bs => rfl) (fun bs => ?_) (fun bs => ?_)
  · (repeat' apply And.intro) <;> (intros; first | exact trivial | exact rfl | omega | exact u8_lo _ | exact u8_hi _ | exact u8_in64 _ | exact u8_in63 _ | (simp only [inR, IntKind.bits]; omega) | (simp [inR, IntKind.bits]; done) | (simp [inR, IntKind.bits] at * <;> omega) | (simp_all; done) | (with_reducible assumption) | skip)
  refine G_if rfl rfl (fun hk1 => ?_) (fun hk1 => ?_)
  · have hk' : i < k := by omega
    by_cases h8 : 8 ≤ i
    · have e1 : min i 8 = 8 := by omega
      rw [e1] at bi ⊢
      have hE := mm_many i (by omega) h8
      refine G_run tOk eok_fmany 6 (fun _ => none) (fun bs => rfl) (fun bs => ?_) (fun bs => ?_)
      · (repeat' apply And.intro) <;> (intros; first | exact trivial | exact rfl | omega | exact u8_lo _ | exact u8_hi _ | exact u8_in64 _ | exact u8_in63 _ | (simp only [inR, IntKind.bits]; omega) | (simp [inR, IntKind.bits]; done) | (simp [inR, IntKind.bits] at * <;> omega) | (simp_all; done) | (with_reducible assumption) | skip)
      rw [show mpE (mb 8 0) [UInt8.ofNat (IntKind.u8.wrap (97 + (i : Int))).toNat] = 9 from hE]
      refine G_run tOk eok_fmany 60 (fun _ => none) (fun bs => rfl) (fun bs => ?_) (fun bs => ?_)
      · (repeat' apply And.intro) <;> (intros; first | exact trivial | exact rfl | omega | exact u8_lo _ | exact u8_hi _ | exact u8_in64 _ | exact u8_in63 _ | (simp only [inR, IntKind.bits]; omega) | (simp [inR, IntKind.bits]; done) | (simp [inR, IntKind.bits] at * <;> omega) | (simp_all; done) | (with_reducible assumption) | skip)
      refine G_thn rfl rfl (by simp; omega) ?_
      refine G_run tOk eok_fmany 60 (fun _ => none) (fun bs => rfl) (fun bs => ?_) (fun bs => ?_)
      · (repeat' apply And.intro) <;> (intros; first | exact trivial | exact rfl | omega | exact u8_lo _ | exact u8_hi _ | exact u8_in64 _ | exact u8_in63 _ | (simp only [inR, IntKind.bits]; omega) | (simp [inR, IntKind.bits]; done) | (simp [inR, IntKind.bits] at * <;> omega) | (simp_all; done) | (with_reducible assumption) | skip)
      refine G_els rfl rfl rfl ?_
      refine G_run tOk eok_fmany 60 (fun _ => none) (fun bs => rfl) (fun bs => ?_) (fun bs => ?_)
      · (repeat' apply And.intro) <;> (intros; first | exact trivial | exact rfl | omega | exact u8_lo _ | exact u8_hi _ | exact u8_in64 _ | exact u8_in63 _ | (simp only [inR, IntKind.bits]; omega) | (simp [inR, IntKind.bits]; done) | (simp [inR, IntKind.bits] at * <;> omega) | (simp_all; done) | (with_reducible assumption) | skip)
      refine G_lp [] (i + 1) ?ok ?wk1
      case ok => exact ⟨hk', by omega⟩
      case wk1 =>
        show Wk _ _ [(3, lst .bms (mb (min (i + 1) 8) 0)), (4, int .i64 k), (5, int .i64 ((i + 1 : Nat) : Int))] []
        rw [show min (i + 1) 8 = 8 by omega]
        (repeat' apply And.intro) <;> (first | exact rfl | exact trivial | omega | refine sigEq ?_ | skip)
    · have e1 : min i 8 = i := by omega
      rw [e1] at bi ⊢
      obtain ⟨hE, hL, hE5, hg⟩ := mm_add i (by omega)
      have bj : BmOk (mb (i + 1) 0) := mb_ok 0 (by omega)
      have hlen := mb_len (i + 1) 0
      refine G_run tOk eok_fmany 6 (fun _ => none) (fun bs => rfl) (fun bs => ?_) (fun bs => ?_)
      · (repeat' apply And.intro) <;> (intros; first | exact trivial | exact rfl | omega | exact u8_lo _ | exact u8_hi _ | exact u8_in64 _ | exact u8_in63 _ | (simp only [inR, IntKind.bits]; omega) | (simp [inR, IntKind.bits]; done) | (simp [inR, IntKind.bits] at * <;> omega) | (simp_all; done) | (with_reducible assumption) | skip)
      rw [show mpE (mb i 0) [UInt8.ofNat (IntKind.u8.wrap (97 + (i : Int))).toNat] = 0 from hE, show mpL (mb i 0) [UInt8.ofNat (IntKind.u8.wrap (97 + (i : Int))).toNat] = mb (i + 1) 0 from hL]
      refine G_run tOk eok_fmany 60 (fun _ => none) (fun bs => rfl) (fun bs => ?_) (fun bs => ?_)
      · (repeat' apply And.intro) <;> (intros; first | exact trivial | exact rfl | omega | exact u8_lo _ | exact u8_hi _ | exact u8_in64 _ | exact u8_in63 _ | (simp only [inR, IntKind.bits]; omega) | (simp [inR, IntKind.bits]; done) | (simp [inR, IntKind.bits] at * <;> omega) | (simp_all; done) | (with_reducible assumption) | skip)
      refine G_els rfl rfl (by simp; omega) ?_
      refine G_run tOk eok_fmany 60 (fun _ => none) (fun bs => rfl) (fun bs => ?_) (fun bs => ?_)
      · (repeat' apply And.intro) <;> (intros; first | exact trivial | exact rfl | omega | exact u8_lo _ | exact u8_hi _ | exact u8_in64 _ | exact u8_in63 _ | (simp only [inR, IntKind.bits]; omega) | (simp [inR, IntKind.bits]; done) | (simp [inR, IntKind.bits] at * <;> omega) | (simp_all; done) | (with_reducible assumption) | skip)
      refine G_freeze 1 [32, 6, 40] rfl ⟨rfl, rfl, rfl, trivial⟩ ?_
      refine G_run tOk eok_fmany 3 (fun _ => none) (fun bs => rfl) (fun bs => ?_) (fun bs => ?_)
      · (repeat' apply And.intro) <;> (intros; first | exact trivial | exact rfl | omega | exact u8_lo _ | exact u8_hi _ | exact u8_in64 _ | exact u8_in63 _ | (simp only [inR, IntKind.bits]; omega) | (simp [inR, IntKind.bits]; done) | (simp [inR, IntKind.bits] at * <;> omega) | (simp_all; done) | (with_reducible assumption) | skip)
      rw [show mpE (mb (i + 1) 0) [UInt8.ofNat (IntKind.u8.wrap (97 + (i : Int))).toNat] = 5 from hE5]
      have hg' : (mb (i + 1) 0).getD (i : Int).toNat LK.bms.dft = ⟨nmj i, true, []⟩ := hg
      refine G_run tOk eok_fmany 60 (fun _ => some false) (fun bs => rfl) (fun bs => ?_) (fun bs => ?_)
      · (repeat' apply And.intro) <;> (intros; first | exact trivial | exact rfl | omega | exact u8_lo _ | exact u8_hi _ | exact u8_in64 _ | exact u8_in63 _ | (simp only [inR, IntKind.bits]; omega) | (simp [inR, IntKind.bits]; done) | (simp [inR, IntKind.bits] at * <;> omega) | (simp_all; done) | (with_reducible assumption) | skip)
        all_goals first | (rw [hg']; rfl) | (rw [hlen]; omega) | skip
      refine G_els rfl rfl ?hb ?_
      case hb => rw [hg']; rfl
      refine G_run tOk eok_fmany 60 (fun _ => none) (fun bs => rfl) (fun bs => ?_) (fun bs => ?_)
      · (repeat' apply And.intro) <;> (intros; first | exact trivial | exact rfl | omega | exact u8_lo _ | exact u8_hi _ | exact u8_in64 _ | exact u8_in63 _ | (simp only [inR, IntKind.bits]; omega) | (simp [inR, IntKind.bits]; done) | (simp [inR, IntKind.bits] at * <;> omega) | (simp_all; done) | (with_reducible assumption) | skip)
      refine G_lp [] (i + 1) ?ok2 ?wk2
      case ok2 => exact ⟨hk', by omega⟩
      case wk2 =>
        show Wk _ _ [(3, lst .bms (mb (min (i + 1) 8) 0)), (4, int .i64 k), (5, int .i64 ((i + 1 : Nat) : Int))] []
        rw [show min (i + 1) 8 = i + 1 by omega]
        (repeat' apply And.intro) <;> (first | exact rfl | exact trivial | omega | refine sigEq ?_ | skip)
  have hk' : i = k := by omega
  subst hk'
  refine G_run tOk eok_fmany 60 (fun _ => none) (fun bs => rfl) (fun bs => ?_) (fun bs => ?_)
  · (repeat' apply And.intro) <;> (intros; first | exact trivial | exact rfl | omega | exact u8_lo _ | exact u8_hi _ | exact u8_in64 _ | exact u8_in63 _ | (simp only [inR, IntKind.bits]; omega) | (simp [inR, IntKind.bits]; done) | (simp [inR, IntKind.bits] at * <;> omega) | (simp_all; done) | (with_reducible assumption) | skip)
  refine G_loop (fun j : Nat => [(3, lst .bms (mb (min i 8) j)), (4, int .i64 i), (10, int .i64 j)]) (fun j => []) (fun j => j ≤ min i 8) (fun j => 8 - j) rfl [] 0 (Nat.zero_le _) ?wk3 (fun j hj => ?_)
  case wk3 => (repeat' apply And.intro) <;> (first | exact rfl | exact trivial | omega | refine sigEq ?_ | skip)
  have bj := mb_ok (m := min i 8) j (by omega)
  have bj1 := mb_ok (m := min i 8) (j + 1) (by omega)
  refine G_run tOk eok_fmany 60 (fun _ => none) (fun bs => rfl) (fun bs => ?_) (fun bs => ?_)
  · (repeat' apply And.intro) <;> (intros; first | exact trivial | exact rfl | omega | exact u8_lo _ | exact u8_hi _ | exact u8_in64 _ | exact u8_in63 _ | (simp only [inR, IntKind.bits]; omega) | (simp [inR, IntKind.bits]; done) | (simp [inR, IntKind.bits] at * <;> omega) | (simp_all; done) | (with_reducible assumption) | skip)
  refine G_if rfl rfl (fun hk1 => ?_) (fun hk1 => ?_)
  · have hj' : j < min i 8 := by omega
    obtain ⟨hE, hL, hE4⟩ := mm_drop (min i 8) (by omega) j hj'
    refine G_run tOk eok_fmany 6 (fun _ => none) (fun bs => rfl) (fun bs => ?_) (fun bs => ?_)
    · (repeat' apply And.intro) <;> (intros; first | exact trivial | exact rfl | omega | exact u8_lo _ | exact u8_hi _ | exact u8_in64 _ | exact u8_in63 _ | (simp only [inR, IntKind.bits]; omega) | (simp [inR, IntKind.bits]; done) | (simp [inR, IntKind.bits] at * <;> omega) | (simp_all; done) | (with_reducible assumption) | skip)
    rw [show drE (mb (min i 8) j) [UInt8.ofNat (IntKind.u8.wrap (97 + (j : Int))).toNat] = 0 from hE, show drL (mb (min i 8) j) [UInt8.ofNat (IntKind.u8.wrap (97 + (j : Int))).toNat] = mb (min i 8) (j + 1) from hL]
    refine G_run tOk eok_fmany 60 (fun _ => none) (fun bs => rfl) (fun bs => ?_) (fun bs => ?_)
    · (repeat' apply And.intro) <;> (intros; first | exact trivial | exact rfl | omega | exact u8_lo _ | exact u8_hi _ | exact u8_in64 _ | exact u8_in63 _ | (simp only [inR, IntKind.bits]; omega) | (simp [inR, IntKind.bits]; done) | (simp [inR, IntKind.bits] at * <;> omega) | (simp_all; done) | (with_reducible assumption) | skip)
    refine G_freeze 1 [89, 11, 92] rfl ⟨rfl, rfl, rfl, trivial⟩ ?_
    refine G_run tOk eok_fmany 3 (fun _ => none) (fun bs => rfl) (fun bs => ?_) (fun bs => ?_)
    · (repeat' apply And.intro) <;> (intros; first | exact trivial | exact rfl | omega | exact u8_lo _ | exact u8_hi _ | exact u8_in64 _ | exact u8_in63 _ | (simp only [inR, IntKind.bits]; omega) | (simp [inR, IntKind.bits]; done) | (simp [inR, IntKind.bits] at * <;> omega) | (simp_all; done) | (with_reducible assumption) | skip)
    rw [show drE (mb (min i 8) (j + 1)) [UInt8.ofNat (IntKind.u8.wrap (97 + (j : Int))).toNat] = 4 from hE4]
    refine G_run tOk eok_fmany 60 (fun _ => some false) (fun bs => rfl) (fun bs => ?_) (fun bs => ?_)
    · (repeat' apply And.intro) <;> (intros; first | exact trivial | exact rfl | omega | exact u8_lo _ | exact u8_hi _ | exact u8_in64 _ | exact u8_in63 _ | (simp only [inR, IntKind.bits]; omega) | (simp [inR, IntKind.bits]; done) | (simp [inR, IntKind.bits] at * <;> omega) | (simp_all; done) | (with_reducible assumption) | skip)
    refine G_els rfl rfl rfl ?_
    refine G_run tOk eok_fmany 60 (fun _ => none) (fun bs => rfl) (fun bs => ?_) (fun bs => ?_)
    · (repeat' apply And.intro) <;> (intros; first | exact trivial | exact rfl | omega | exact u8_lo _ | exact u8_hi _ | exact u8_in64 _ | exact u8_in63 _ | (simp only [inR, IntKind.bits]; omega) | (simp [inR, IntKind.bits]; done) | (simp [inR, IntKind.bits] at * <;> omega) | (simp_all; done) | (with_reducible assumption) | skip)
    refine G_lp [] (j + 1) ?ok4 ?wk4
    case ok4 => exact ⟨hj', by omega⟩
    case wk4 => (repeat' apply And.intro) <;> (first | exact rfl | exact trivial | omega | refine sigEq ?_ | skip)
  · have hj' : j = min i 8 := by omega
    subst hj'
    have hl := mb_len (min i 8) (min i 8)
    have hl0 : (mb (min i 8) (min i 8)).length = 0 := by rw [hl]; omega
    refine G_run tOk eok_fmany 60 (fun _ => some true) (fun bs => rfl) (fun bs => ?_) (fun bs => ?_)
    · (repeat' apply And.intro) <;> (intros; first | exact trivial | exact rfl | omega | exact u8_lo _ | exact u8_hi _ | exact u8_in64 _ | exact u8_in63 _ | (simp only [inR, IntKind.bits]; omega) | (simp [inR, IntKind.bits]; done) | (simp [inR, IntKind.bits] at * <;> omega) | (simp_all; done) | (with_reducible assumption) | skip)
      all_goals first | (simp [hl0]; done) | skip
    refine G_ret tOk hM0 rfl rfl ⟨trivial, trivial⟩ ?_
    conv => whnf
    simp [hl0]
def fmany_s : FSpec
  | [.c (.pv (.val (.int .u8 n)))] => some ((0 ≤ n ∧ n ≤ 255), false, .x (.c (bv true)))
  | _ => none
theorem fmany_s_ok : SpecOk Try.prog 5 fmany_s := by
  intro args pre sh rv h hp; unfold fmany_s at h; split at h
  · cases h; have hn := hp; exact fmany_fn _ hn
  · cases h
def psi_fmany : FuncId → Option FSpec := psiCons 5 fmany_s psi_awake
theorem psi_fmany_ok : PsiFn Try.prog psi_fmany := psiCons_ok fmany_s_ok psi_awake_ok
end Go.Proofs.Ytndjdmnpdknneaa
