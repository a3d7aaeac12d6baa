import Derived.Test.YtnmomckmpknbkaaTabS
set_option linter.unusedSimpArgs false
set_option linter.unusedVariables false
namespace Go.Proofs.Ytnmomckmpknbkaa
open Go.Mt

def madeE (x : Int) : Entry := match decide (x % 3 = 0) with
  | true => ⟨2, 2 + x % 900, 4, 0, x⟩
  | false => ⟨1, 0, 0, 0, 0⟩
def madN (ns : List Int) : Nat → List (List Entry)
  | 0 => []
  | k + 1 => setT (madN ns k) (ns.getD k 0 % 300) (madeE (ns.getD k 0))
def madT (ns : List Int) : List (List Entry) := madN ns (min ns.length 60)
theorem nil_right {c : Int} (hc : 0 ≤ c ∧ c ≤ 6) : rightT [] 4096 c = true := by
  have e : (decide ((4096 : Int) < 0) || decide (4096 < (4096 : Int)) || decide (c < 0) || decide (6 < c)) = false := by simp; omega
  simp only [rightT, e]; rfl
theorem may_raw {s : Int} (x : Int) (h : 2 ≤ s ∧ s ≤ 65532) : mayX 2 ⟨2, s, 4, 0, x⟩ = true := by
  unfold mayX mayE
  rw [if_neg (by omega), if_neg (by simp), if_pos rfl]
  simp; omega
theorem may_one {c : Int} (h : 0 ≤ c ∧ c ≤ 6) : mayX c ⟨1, 0, 0, 0, 0⟩ = true := by
  unfold mayX mayE
  rw [if_neg (by omega), if_pos (.inr rfl)]; rfl
theorem madeE_may {x : Int} (h : 0 ≤ x) : mayX 2 (madeE x) = true := by
  unfold madeE
  split
  · exact may_raw x (by omega)
  · exact may_one (by decide)
theorem madN_right {ns : List Int} (h : ∀ i, 0 ≤ ns.getD i 0) : ∀ k, rightT (madN ns k) 4096 2 = true := by
  intro k
  induction k with
  | zero => exact nil_right (by decide)
  | succ k ih => exact right_set ih (madeE_may (h k)) _
theorem gets {ns : List Int} (hr : ∀ m ∈ ns, inR .u16 m) (i : Nat) : 0 ≤ ns.getD i 0 ∧ ns.getD i 0 ≤ 65535 := by
  by_cases hi : i < ns.length
  · exact hr (ns.getD i 0) (by simp [List.getD, List.getElem?_eq_getElem hi])
  · have : ns.getD i 0 = 0 := by simp [List.getD, List.getElem?_eq_none (by omega : ns.length ≤ i)]
    omega

def env_made : Env := ⟨T, psi_ftsets, pspNil, 46, [], none, true⟩
theorem eok_made : PsiOk Try.prog env_made := ⟨psi_ftsets_ok, pspNil_ok⟩
theorem made_fn (ns : List Int) (hn : ns.length ≤ 9223372036854775807) (hr : ∀ m ∈ ns, inR .u16 m) : Ctr Try.prog 18 true [lst (.ints .u16) ns] (.x (.g [.lst .tbl (madT ns)])) := by
  refine Ctr_intro (E := env_made) Try.func18 rfl (by decide) rfl rfl (fun M0 W hM0 => ?_)
  have hg := gets hr
  refine G_run tOk eok_made 60 (fun _ => none) (fun bs => rfl) (fun bs => ?_) (fun bs => ?_)
  · (repeat' apply And.intro) <;> (intros; first | exact trivial | exact rfl | omega | exact u8_lo _ | exact u8_hi _ | exact u8_in64 _ | exact u8_in63 _ | (simp only [inR, IntKind.bits]; omega) | (simp [inR, IntKind.bits]; done) | (simp [inR, IntKind.bits] at * <;> omega) | (simp_all; done) | skip)
  refine G_wkB2 (ns := [0, 1]) (fs := fun b c => [(0, lst (.ints .u16) ns), (2, .c (.ptr 0 b 0)), (3, .c (.ptr 1 c 0)), (4, int .i64 0)]) (hs := fun b c => [.blk b 24 [.pv (.nil .tbl)], .blk c 24 [.pv (.lst .tbl [])]]) ?b1 ?c1 rfl ?wk0 (fun b c => ?_)
  case wk0 => (repeat' apply And.intro) <;> (first | exact rfl | exact trivial | omega | refine sigEq ?_ | skip)
  refine G_loop (fun k : Nat => [(0, lst (.ints .u16) ns), (2, .c (.ptr 0 b 0)), (3, .c (.ptr 1 c 0)), (4, int .i64 k)]) (fun k => [.blk b 24 [.pv (.nil .tbl)], .blk c 24 [.pv (.lst .tbl (madN ns k))]]) (fun k => k ≤ min ns.length 60) (fun k => 60 - k) rfl [0, 1] 0 (Nat.zero_le _) ?wk (fun k hx => ?_)
  case wk => (repeat' apply And.intro) <;> (first | exact rfl | exact trivial | omega | refine sigEq ?_ | skip)
  have hR := madN_right (fun i => (hg i).1) k
  have hl2 := right_len hR
  have hl3 : ∀ i, (leaf (madN ns k) i).length ≤ 1000000000 := fun i => Nat.le_trans (right_leaf hR i) (by decide)
  refine G_run tOk eok_made 60 (fun _ => none) (fun bs => rfl) (fun bs => ?_) (fun bs => ?_)
  · (repeat' apply And.intro) <;> (intros; first | exact trivial | exact rfl | omega | exact u8_lo _ | exact u8_hi _ | exact u8_in64 _ | exact u8_in63 _ | (simp only [inR, IntKind.bits]; omega) | (simp [inR, IntKind.bits]; done) | (simp [inR, IntKind.bits] at * <;> omega) | (simp_all; done) | skip)
  refine G_cond rfl rfl (fun h => ?_) (fun h => ?_)
  · have h' : (k : Int) < ns.length ∧ (k : Int) < 60 := by simpa using h
    have g1 := hg k
    obtain ⟨x, hx1⟩ : ∃ x, ns.getD k 0 = x := ⟨_, rfl⟩
    have hx2 : ns.getD (Int.toNat (k : Int)) (LK.ints IntKind.u16).dft = x := hx1
    rw [hx1] at g1
    have hwr : IntKind.u32.wrap x = x := by
      simp only [IntKind.wrap, IntKind.bits, IntKind.signed]
      have : x % 4294967296 = x := by omega
      simp [this]
    have hN : madN ns (k + 1) = setT (madN ns k) (x % 300) (madeE x) := by simp only [madN, hx1]
    refine G_run tOk eok_made 60 (fun _ => none) (fun bs => rfl) (fun bs => ?_) (fun bs => ?_)
    · simp only [hx2]
      (repeat' apply And.intro) <;> (intros; first | exact trivial | exact rfl | omega | exact u8_lo _ | exact u8_hi _ | exact u8_in64 _ | exact u8_in63 _ | (simp only [inR, IntKind.bits]; omega) | (simp [inR, IntKind.bits]; done) | (simp [inR, IntKind.bits] at * <;> omega) | (simp_all; done) | skip)
    refine G_cond (b := decide (x % 3 = 0)) rfl (by rw [← hx2]; rfl) (fun h2 => ?_) (fun h2 => ?_)
    · refine G_run tOk eok_made 60 (fun _ => none) (fun bs => rfl) (fun bs => ?_) (fun bs => ?_)
      · (repeat' apply And.intro) <;> (intros; first | exact trivial | exact rfl | omega | exact u8_lo _ | exact u8_hi _ | exact u8_in64 _ | exact u8_in63 _ | (simp only [inR, IntKind.bits]; omega) | (simp [inR, IntKind.bits]; done) | (simp [inR, IntKind.bits] at * <;> omega) | (simp_all; done) | skip)
      refine G_nx 3 rfl ?_
      refine G_draw tOk eok_made rfl (fun _ => none) 12 [0, 0, 3, 7, 15, 31, 63, 0, 0, 384, 896, 1920, 4095, 8191] [] rfl (by decide +kernel) (fun bs => rfl) (fun bs => ?_) (fun bs => ?_)
      · simp only [hx2]
        (repeat' apply And.intro) <;> (intros; first | exact trivial | exact rfl | omega | exact u8_lo _ | exact u8_hi _ | exact u8_in64 _ | exact u8_in63 _ | (simp only [inR, IntKind.bits]; omega) | (simp [inR, IntKind.bits]; done) | (simp [inR, IntKind.bits] at * <;> omega) | (simp_all; done) | skip)
      refine G_run tOk eok_made 60 (fun _ => none) (fun bs => rfl) (fun bs => ?_) (fun bs => ?_)
      · simp only [hx2]
        (repeat' apply And.intro) <;> (intros; first | exact trivial | exact rfl | omega | exact u8_lo _ | exact u8_hi _ | exact u8_in64 _ | exact u8_in63 _ | (simp only [inR, IntKind.bits]; omega) | (simp [inR, IntKind.bits]; done) | (simp [inR, IntKind.bits] at * <;> omega) | (simp_all; done) | skip)
      refine G_nx 15 rfl ?_
      refine G_draw tOk eok_made rfl (fun _ => none) 8 [0, 0, 0, 6, 14, 30, 62, 0, 255, 511] [] rfl (by decide +kernel) (fun bs => rfl) (fun bs => ?_) (fun bs => ?_)
      · simp only [hx2]
        (repeat' apply And.intro) <;> (intros; first | exact trivial | exact rfl | omega | exact u8_lo _ | exact u8_hi _ | exact u8_in64 _ | exact u8_in63 _ | (simp only [inR, IntKind.bits]; omega) | (simp [inR, IntKind.bits]; done) | (simp [inR, IntKind.bits] at * <;> omega) | (simp_all; done) | skip)
      refine G_run tOk eok_made 60 (fun _ => none) (fun bs => rfl) (fun bs => ?_) (fun bs => ?_)
      · simp only [hx2]
        (repeat' apply And.intro) <;> (intros; first | exact trivial | exact rfl | omega | exact u8_lo _ | exact u8_hi _ | exact u8_in64 _ | exact u8_in63 _ | (simp only [inR, IntKind.bits]; omega) | (simp [inR, IntKind.bits]; done) | (simp [inR, IntKind.bits] at * <;> omega) | (simp_all; done) | skip)
      refine G_lp [0, 1] (k + 1) ?ok1 ?wk1
      case ok1 => exact ⟨by omega, by omega⟩
      case wk1 =>
        (repeat' apply And.intro) <;> (first | exact rfl | exact trivial | omega | refine sigEq ?_ | skip)
        all_goals (refine congrArg (PV.lst .tbl) ?_; rw [hN, show madeE x = ⟨2, 2 + x % 900, 4, 0, x⟩ by simp only [madeE, h2]]; simp only [hx2, hwr])
    · refine G_run tOk eok_made 60 (fun _ => none) (fun bs => rfl) (fun bs => ?_) (fun bs => ?_)
      · (repeat' apply And.intro) <;> (intros; first | exact trivial | exact rfl | omega | exact u8_lo _ | exact u8_hi _ | exact u8_in64 _ | exact u8_in63 _ | (simp only [inR, IntKind.bits]; omega) | (simp [inR, IntKind.bits]; done) | (simp [inR, IntKind.bits] at * <;> omega) | (simp_all; done) | skip)
      refine G_nx 3 rfl ?_
      refine G_draw tOk eok_made rfl (fun _ => none) 8 [0, 0, 0, 6, 14, 30, 62, 0, 255, 511] [] rfl (by decide +kernel) (fun bs => rfl) (fun bs => ?_) (fun bs => ?_)
      · simp only [hx2]
        (repeat' apply And.intro) <;> (intros; first | exact trivial | exact rfl | omega | exact u8_lo _ | exact u8_hi _ | exact u8_in64 _ | exact u8_in63 _ | (simp only [inR, IntKind.bits]; omega) | (simp [inR, IntKind.bits]; done) | (simp [inR, IntKind.bits] at * <;> omega) | (simp_all; done) | skip)
      refine G_run tOk eok_made 60 (fun _ => none) (fun bs => rfl) (fun bs => ?_) (fun bs => ?_)
      · simp only [hx2]
        (repeat' apply And.intro) <;> (intros; first | exact trivial | exact rfl | omega | exact u8_lo _ | exact u8_hi _ | exact u8_in64 _ | exact u8_in63 _ | (simp only [inR, IntKind.bits]; omega) | (simp [inR, IntKind.bits]; done) | (simp [inR, IntKind.bits] at * <;> omega) | (simp_all; done) | skip)
      refine G_lp [0, 1] (k + 1) ?ok2 ?wk2
      case ok2 => exact ⟨by omega, by omega⟩
      case wk2 =>
        (repeat' apply And.intro) <;> (first | exact rfl | exact trivial | omega | refine sigEq ?_ | skip)
        all_goals (refine congrArg (PV.lst .tbl) ?_; rw [hN, show madeE x = ⟨1, 0, 0, 0, 0⟩ by simp only [madeE, h2], ← hx1]; rfl)
  · have h' : ¬ ((k : Int) < ns.length ∧ (k : Int) < 60) := by simpa using h
    have hk' : k = min ns.length 60 := by omega
    subst hk'
    refine G_run tOk eok_made 60 (fun _ => none) (fun bs => rfl) (fun bs => ?_) (fun bs => ?_)
    · (repeat' apply And.intro) <;> (intros; first | exact trivial | exact rfl | omega | exact u8_lo _ | exact u8_hi _ | exact u8_in64 _ | exact u8_in63 _ | (simp only [inR, IntKind.bits]; omega) | (simp [inR, IntKind.bits]; done) | (simp [inR, IntKind.bits] at * <;> omega) | (simp_all; done) | skip)
    refine G_ret tOk hM0 rfl rfl ⟨rfl, trivial⟩ ?_
    exact ⟨rfl, trivial⟩
def made_s : FSpec
  | [.c (.pv (.lst (.ints .u16) ns))] => some ((ns.length ≤ 9223372036854775807) ∧ (∀ m ∈ ns, inR .u16 m), true, .x (.g [.lst .tbl (madT ns)]))
  | _ => none
theorem made_s_ok : SpecOk Try.prog 18 made_s := by
  intro args pre sh rv h hp; unfold made_s at h; split at h
  · cases h; obtain ⟨hn, hr⟩ := hp; exact made_fn _ hn hr
  · cases h
def psi_made : FuncId → Option FSpec := psiCons 18 made_s psi_ftsets
theorem psi_made_ok : PsiFn Try.prog psi_made := psiCons_ok made_s_ok psi_ftsets_ok
end Go.Proofs.Ytnmomckmpknbkaa
