import Derived.Test.YtgobmfkffhomaaaShtI
set_option linter.unusedSimpArgs false
set_option linter.unusedVariables false
namespace Go.Proofs.Ytgobmfkffhomaaa
open Go.Mt

def nmj (i : Nat) : List UInt8 := [UInt8.ofNat (IntKind.u8.wrap (97 + (i : Int))).toNat]
def sb (m i : Nat) : List Shot := ((List.range m).drop i).map (fun j => ⟨nmj j, 0, []⟩)
def sbC (m i : Nat) : List C := [.pv (i64 0), .pv (i64 0), .pv (.val (.string ⟨⟨[]⟩⟩)), .pv (.lst .tbl []), .pv (.lst .sht (sb m i)), .pv (.lst .bms []), .pv (.lst (.ints .i64) [])]
theorem sm_add : ∀ i, i < 8 → saE ⟨0, 0, [], [], sb i 0, [], []⟩ (nmj i) = 0 ∧ saM ⟨0, 0, [], [], sb i 0, [], []⟩ (nmj i) = ⟨0, 0, [], [], sb (i + 1) 0, [], []⟩ ∧ saE ⟨0, 0, [], [], sb (i + 1) 0, [], []⟩ (nmj i) = 5 := by decide +kernel
theorem sm_many : ∀ i, i < 13 → 8 ≤ i → saE ⟨0, 0, [], [], sb 8 0, [], []⟩ (nmj i) = 9 := by decide +kernel
theorem sm_drop : ∀ m, m < 9 → ∀ i, i < m → sdE ⟨0, 0, [], [], sb m i, [], []⟩ (nmj i) = 0 ∧ sdM ⟨0, 0, [], [], sb m i, [], []⟩ (nmj i) = ⟨0, 0, [], [], sb m (i + 1), [], []⟩ ∧ sdE ⟨0, 0, [], [], sb m (i + 1), [], []⟩ (nmj i) = 4 := by decide +kernel
theorem sb_len (m i : Nat) : (sb m i).length = m - i := by simp [sb]
theorem sb_ok {m : Nat} (i : Nat) (h : m ≤ 9) : MtaOk ⟨0, 0, [], [], sb m i, [], []⟩ := by
  refine ⟨TlOk.nil, ⟨by rw [sb_len]; omega, fun b hb => ?_⟩, ⟨by simp, by simp⟩, by simp⟩
  simp only [sb, List.mem_map] at hb
  obtain ⟨j, _, rfl⟩ := hb
  exact TlOk.nil
theorem nmj_len (i : Nat) : (nmj i).length ≤ 1000000000 := by simp [nmj]

def env_fmany : Env := ⟨T, psi_snames, pspNil, psc_del, 101, [], none, true⟩
theorem eok_fmany : PsiOk Try.prog env_fmany := ⟨psi_snames_ok, pspNil_ok, psc_del_ok⟩
theorem fmany_fn (n : Int) (hn : 0 ≤ n ∧ n ≤ 255) : Ctr Try.prog 4 false [int .u8 n] (.x (.c (bv true))) := by
  refine Ctr_intro (E := env_fmany) Try.func4 rfl (by decide) rfl rfl (fun M0 W hM0 => ?_)
  refine G_run tOk eok_fmany 60 (fun _ => none) (fun bs => rfl) (fun bs => ?_) (fun bs => ?_)
  · (repeat' apply And.intro) <;> (intros; first | exact trivial | exact rfl | omega | exact u8_lo _ | exact u8_hi _ | exact u8_in64 _ | exact u8_in63 _ | (simp only [inR, IntKind.bits]; omega) | (simp [inR, IntKind.bits]; done) | (simp [inR, IntKind.bits] at * <;> omega) | (simp_all; done) | (with_reducible assumption) | skip)
  obtain ⟨k, hk⟩ : ∃ k : Nat, 1 + n % 12 = k := ⟨(1 + n % 12).toNat, by omega⟩
  rw [hk]
  refine G_wkB (ns := [0]) (fs := fun b => [(3, .c (.ptr 0 b 0)), (4, int .i64 k), (5, int .i64 0)]) (hs := fun b => [.blk b 31 (sbC 0 0)]) ?b1 rfl ?wk0 (fun b => ?_)
  case wk0 => (repeat' apply And.intro) <;> (first | exact rfl | exact trivial | omega | refine sigEq ?_ | skip)
  refine G_loop (fun i : Nat => [(3, .c (.ptr 0 b 0)), (4, int .i64 k), (5, int .i64 i)]) (fun i => [.blk b 31 (sbC (min i 8) 0)]) (fun i => i ≤ k) (fun i => k - i) rfl [0] 0 (Nat.zero_le _) ?wk (fun i hi => ?_)
  case wk => (repeat' apply And.intro) <;> (first | exact rfl | exact trivial | omega | refine sigEq ?_ | skip)
  have bi := sb_ok (m := min i 8) 0 (by omega)
  have hnl : (nmj i).length ≤ 1000000000 := nmj_len i
  refine G_run tOk eok_fmany 60 (fun _ => none) (fun bs => rfl) (fun bs => ?_) (fun bs => ?_)
  · (repeat' apply And.intro) <;> (intros; first | exact trivial | exact rfl | omega | exact u8_lo _ | exact u8_hi _ | exact u8_in64 _ | exact u8_in63 _ | (simp only [inR, IntKind.bits]; omega) | (simp [inR, IntKind.bits]; done) | (simp [inR, IntKind.bits] at * <;> omega) | (simp_all; done) | (with_reducible assumption) | skip)
  refine G_if rfl rfl (fun hk1 => ?_) (fun hk1 => ?_)
  · have hk' : i < k := by omega
    by_cases h8 : 8 ≤ i
    · have e1 : min i 8 = 8 := by omega
      rw [e1] at bi ⊢
      have hE := sm_many i (by omega) h8
      refine G_run tOk eok_fmany 8 (fun _ => none) (fun bs => rfl) (fun bs => ?_) (fun bs => ?_)
      · (repeat' apply And.intro) <;> (intros; first | exact trivial | exact rfl | omega | exact u8_lo _ | exact u8_hi _ | exact u8_in64 _ | exact u8_in63 _ | (simp only [inR, IntKind.bits]; omega) | (simp [inR, IntKind.bits]; done) | (simp [inR, IntKind.bits] at * <;> omega) | (simp_all; done) | (with_reducible assumption) | skip)
      rw [show saE ⟨0, 0, [], [], sb 8 0, [], []⟩ [UInt8.ofNat (IntKind.u8.wrap (97 + (i : Int))).toNat] = 9 from hE]
      refine G_run tOk eok_fmany 60 (fun _ => none) (fun bs => rfl) (fun bs => ?_) (fun bs => ?_)
      · (repeat' apply And.intro) <;> (intros; first | exact trivial | exact rfl | omega | exact u8_lo _ | exact u8_hi _ | exact u8_in64 _ | exact u8_in63 _ | (simp only [inR, IntKind.bits]; omega) | (simp [inR, IntKind.bits]; done) | (simp [inR, IntKind.bits] at * <;> omega) | (simp_all; done) | (with_reducible assumption) | skip)
      refine G_thn rfl rfl (by simp; omega) ?_
      refine G_run tOk eok_fmany 60 (fun _ => none) (fun bs => rfl) (fun bs => ?_) (fun bs => ?_)
      · (repeat' apply And.intro) <;> (intros; first | exact trivial | exact rfl | omega | exact u8_lo _ | exact u8_hi _ | exact u8_in64 _ | exact u8_in63 _ | (simp only [inR, IntKind.bits]; omega) | (simp [inR, IntKind.bits]; done) | (simp [inR, IntKind.bits] at * <;> omega) | (simp_all; done) | (with_reducible assumption) | skip)
      refine G_els rfl rfl rfl ?_
      refine G_run tOk eok_fmany 60 (fun _ => none) (fun bs => rfl) (fun bs => ?_) (fun bs => ?_)
      · (repeat' apply And.intro) <;> (intros; first | exact trivial | exact rfl | omega | exact u8_lo _ | exact u8_hi _ | exact u8_in64 _ | exact u8_in63 _ | (simp only [inR, IntKind.bits]; omega) | (simp [inR, IntKind.bits]; done) | (simp [inR, IntKind.bits] at * <;> omega) | (simp_all; done) | (with_reducible assumption) | skip)
      refine G_lp [0] (i + 1) ?ok ?wk1
      case ok => exact ⟨hk', by omega⟩
      case wk1 =>
        show Wk _ _ [(3, .c (.ptr 0 b 0)), (4, int .i64 k), (5, int .i64 ((i + 1 : Nat) : Int))] [.blk b 31 (sbC (min (i + 1) 8) 0)]
        rw [show min (i + 1) 8 = 8 by omega]
        (repeat' apply And.intro) <;> (first | exact rfl | exact trivial | omega | refine sigEq ?_ | skip)
    · have e1 : min i 8 = i := by omega
      rw [e1] at bi ⊢
      obtain ⟨hE, hL, hE5⟩ := sm_add i (by omega)
      have bj := sb_ok (m := i + 1) 0 (by omega)
      refine G_run tOk eok_fmany 8 (fun _ => none) (fun bs => rfl) (fun bs => ?_) (fun bs => ?_)
      · (repeat' apply And.intro) <;> (intros; first | exact trivial | exact rfl | omega | exact u8_lo _ | exact u8_hi _ | exact u8_in64 _ | exact u8_in63 _ | (simp only [inR, IntKind.bits]; omega) | (simp [inR, IntKind.bits]; done) | (simp [inR, IntKind.bits] at * <;> omega) | (simp_all; done) | (with_reducible assumption) | skip)
      rw [show saE ⟨0, 0, [], [], sb i 0, [], []⟩ [UInt8.ofNat (IntKind.u8.wrap (97 + (i : Int))).toNat] = 0 from hE, show saM ⟨0, 0, [], [], sb i 0, [], []⟩ [UInt8.ofNat (IntKind.u8.wrap (97 + (i : Int))).toNat] = ⟨0, 0, [], [], sb (i + 1) 0, [], []⟩ from hL]
      refine G_run tOk eok_fmany 60 (fun _ => none) (fun bs => rfl) (fun bs => ?_) (fun bs => ?_)
      · (repeat' apply And.intro) <;> (intros; first | exact trivial | exact rfl | omega | exact u8_lo _ | exact u8_hi _ | exact u8_in64 _ | exact u8_in63 _ | (simp only [inR, IntKind.bits]; omega) | (simp [inR, IntKind.bits]; done) | (simp [inR, IntKind.bits] at * <;> omega) | (simp_all; done) | (with_reducible assumption) | skip)
      refine G_els rfl rfl (by simp; omega) ?_
      refine G_run tOk eok_fmany 4 (fun _ => none) (fun bs => rfl) (fun bs => ?_) (fun bs => ?_)
      · (repeat' apply And.intro) <;> (intros; first | exact trivial | exact rfl | omega | exact u8_lo _ | exact u8_hi _ | exact u8_in64 _ | exact u8_in63 _ | (simp only [inR, IntKind.bits]; omega) | (simp [inR, IntKind.bits]; done) | (simp [inR, IntKind.bits] at * <;> omega) | (simp_all; done) | (with_reducible assumption) | skip)
      rw [show saE ⟨0, 0, [], [], sb (i + 1) 0, [], []⟩ [UInt8.ofNat (IntKind.u8.wrap (97 + (i : Int))).toNat] = 5 from hE5]
      refine G_run tOk eok_fmany 60 (fun _ => some false) (fun bs => rfl) (fun bs => ?_) (fun bs => ?_)
      · (repeat' apply And.intro) <;> (intros; first | exact trivial | exact rfl | omega | exact u8_lo _ | exact u8_hi _ | exact u8_in64 _ | exact u8_in63 _ | (simp only [inR, IntKind.bits]; omega) | (simp [inR, IntKind.bits]; done) | (simp [inR, IntKind.bits] at * <;> omega) | (simp_all; done) | (with_reducible assumption) | skip)
      refine G_els rfl rfl rfl ?_
      refine G_run tOk eok_fmany 60 (fun _ => none) (fun bs => rfl) (fun bs => ?_) (fun bs => ?_)
      · (repeat' apply And.intro) <;> (intros; first | exact trivial | exact rfl | omega | exact u8_lo _ | exact u8_hi _ | exact u8_in64 _ | exact u8_in63 _ | (simp only [inR, IntKind.bits]; omega) | (simp [inR, IntKind.bits]; done) | (simp [inR, IntKind.bits] at * <;> omega) | (simp_all; done) | (with_reducible assumption) | skip)
      refine G_lp [0] (i + 1) ?ok2 ?wk2
      case ok2 => exact ⟨hk', by omega⟩
      case wk2 =>
        show Wk _ _ [(3, .c (.ptr 0 b 0)), (4, int .i64 k), (5, int .i64 ((i + 1 : Nat) : Int))] [.blk b 31 (sbC (min (i + 1) 8) 0)]
        rw [show min (i + 1) 8 = i + 1 by omega]
        (repeat' apply And.intro) <;> (first | exact rfl | exact trivial | omega | refine sigEq ?_ | skip)
  have hk' : i = k := by omega
  subst hk'
  refine G_run tOk eok_fmany 60 (fun _ => none) (fun bs => rfl) (fun bs => ?_) (fun bs => ?_)
  · (repeat' apply And.intro) <;> (intros; first | exact trivial | exact rfl | omega | exact u8_lo _ | exact u8_hi _ | exact u8_in64 _ | exact u8_in63 _ | (simp only [inR, IntKind.bits]; omega) | (simp [inR, IntKind.bits]; done) | (simp [inR, IntKind.bits] at * <;> omega) | (simp_all; done) | (with_reducible assumption) | skip)
  refine G_loop (fun j : Nat => [(3, .c (.ptr 0 b 0)), (4, int .i64 i), (10, int .i64 j)]) (fun j => [.blk b 31 (sbC (min i 8) j)]) (fun j => j ≤ min i 8) (fun j => 8 - j) rfl [0] 0 (Nat.zero_le _) ?wk3 (fun j hj => ?_)
  case wk3 => (repeat' apply And.intro) <;> (first | exact rfl | exact trivial | omega | refine sigEq ?_ | skip)
  have bj := sb_ok (m := min i 8) j (by omega)
  have bj1 := sb_ok (m := min i 8) (j + 1) (by omega)
  refine G_run tOk eok_fmany 60 (fun _ => none) (fun bs => rfl) (fun bs => ?_) (fun bs => ?_)
  · (repeat' apply And.intro) <;> (intros; first | exact trivial | exact rfl | omega | exact u8_lo _ | exact u8_hi _ | exact u8_in64 _ | exact u8_in63 _ | (simp only [inR, IntKind.bits]; omega) | (simp [inR, IntKind.bits]; done) | (simp [inR, IntKind.bits] at * <;> omega) | (simp_all; done) | (with_reducible assumption) | skip)
  refine G_if rfl rfl (fun hk1 => ?_) (fun hk1 => ?_)
  · have hj' : j < min i 8 := by omega
    obtain ⟨hE, hL, hE4⟩ := sm_drop (min i 8) (by omega) j hj'
    refine G_run tOk eok_fmany 6 (fun _ => none) (fun bs => rfl) (fun bs => ?_) (fun bs => ?_)
    · (repeat' apply And.intro) <;> (intros; first | exact trivial | exact rfl | omega | exact u8_lo _ | exact u8_hi _ | exact u8_in64 _ | exact u8_in63 _ | (simp only [inR, IntKind.bits]; omega) | (simp [inR, IntKind.bits]; done) | (simp [inR, IntKind.bits] at * <;> omega) | (simp_all; done) | (with_reducible assumption) | skip)
    rw [show sdE ⟨0, 0, [], [], sb (min i 8) j, [], []⟩ [UInt8.ofNat (IntKind.u8.wrap (97 + (j : Int))).toNat] = 0 from hE, show sdM ⟨0, 0, [], [], sb (min i 8) j, [], []⟩ [UInt8.ofNat (IntKind.u8.wrap (97 + (j : Int))).toNat] = ⟨0, 0, [], [], sb (min i 8) (j + 1), [], []⟩ from hL]
    refine G_run tOk eok_fmany 3 (fun _ => none) (fun bs => rfl) (fun bs => ?_) (fun bs => ?_)
    · (repeat' apply And.intro) <;> (intros; first | exact trivial | exact rfl | omega | exact u8_lo _ | exact u8_hi _ | exact u8_in64 _ | exact u8_in63 _ | (simp only [inR, IntKind.bits]; omega) | (simp [inR, IntKind.bits]; done) | (simp [inR, IntKind.bits] at * <;> omega) | (simp_all; done) | (with_reducible assumption) | skip)
    rw [show sdE ⟨0, 0, [], [], sb (min i 8) (j + 1), [], []⟩ [UInt8.ofNat (IntKind.u8.wrap (97 + (j : Int))).toNat] = 4 from hE4]
    refine G_run tOk eok_fmany 60 (fun _ => some false) (fun bs => rfl) (fun bs => ?_) (fun bs => ?_)
    · (repeat' apply And.intro) <;> (intros; first | exact trivial | exact rfl | omega | exact u8_lo _ | exact u8_hi _ | exact u8_in64 _ | exact u8_in63 _ | (simp only [inR, IntKind.bits]; omega) | (simp [inR, IntKind.bits]; done) | (simp [inR, IntKind.bits] at * <;> omega) | (simp_all; done) | (with_reducible assumption) | skip)
    refine G_els rfl rfl rfl ?_
    refine G_run tOk eok_fmany 60 (fun _ => none) (fun bs => rfl) (fun bs => ?_) (fun bs => ?_)
    · (repeat' apply And.intro) <;> (intros; first | exact trivial | exact rfl | omega | exact u8_lo _ | exact u8_hi _ | exact u8_in64 _ | exact u8_in63 _ | (simp only [inR, IntKind.bits]; omega) | (simp [inR, IntKind.bits]; done) | (simp [inR, IntKind.bits] at * <;> omega) | (simp_all; done) | (with_reducible assumption) | skip)
    refine G_lp [0] (j + 1) ?ok4 ?wk4
    case ok4 => exact ⟨hj', by omega⟩
    case wk4 => (repeat' apply And.intro) <;> (first | exact rfl | exact trivial | omega | refine sigEq ?_ | skip)
  · have hj' : j = min i 8 := by omega
    subst hj'
    have hl := sb_len (min i 8) (min i 8)
    have hl0 : (sb (min i 8) (min i 8)).length = 0 := by rw [hl]; omega
    refine G_run tOk eok_fmany 60 (fun _ => some true) (fun bs => rfl) (fun bs => ?_) (fun bs => ?_)
    · (repeat' apply And.intro) <;> (intros; first | exact trivial | exact rfl | omega | exact u8_lo _ | exact u8_hi _ | exact u8_in64 _ | exact u8_in63 _ | (simp only [inR, IntKind.bits]; omega) | (simp [inR, IntKind.bits]; done) | (simp [inR, IntKind.bits] at * <;> omega) | (simp_all; done) | (with_reducible assumption) | skip)
      all_goals first | (simp [hl0]; done) | skip
    refine G_ret tOk hM0 rfl rfl ⟨trivial, trivial⟩ ?_
    conv => whnf
    simp [hl0]
def fmany_s : FSpec
  | [.c (.pv (.val (.int .u8 n)))] => some ((0 ≤ n ∧ n ≤ 255), false, .x (.c (bv true)))
  | _ => none
theorem fmany_s_ok : SpecOk Try.prog 4 fmany_s := by
  intro args pre sh rv h hp; unfold fmany_s at h; split at h
  · cases h; have hn := hp; exact fmany_fn _ hn
  · cases h
def psi_fmany : FuncId → Option FSpec := psiCons 4 fmany_s psi_snames
theorem psi_fmany_ok : PsiFn Try.prog psi_fmany := psiCons_ok fmany_s_ok psi_snames_ok
end Go.Proofs.Ytgobmfkffhomaaa
