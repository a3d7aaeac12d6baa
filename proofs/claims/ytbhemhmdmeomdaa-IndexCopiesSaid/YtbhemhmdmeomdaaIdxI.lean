import Derived.Test.YtbhemhmdmeomdaaIdxP
set_option linter.unusedSimpArgs false
set_option linter.unusedVariables false
namespace Go.Proofs.Ytbhemhmdmeomdaa
open Go.Mt

def env_forgets : Env := ⟨T, psi_awake, pspNil, pscNil, 85, [], none, true⟩
theorem eok_forgets : PsiOk Try.prog env_forgets := ⟨psi_awake_ok, pspNil_ok, pscNil_ok⟩
theorem forgets_fn (s : List UInt8) (g : Int) (hg : 0 ≤ g ∧ g ≤ 255) : Ctr Try.prog 5 false [lst .byt s, int .u8 g] (.x (.c (bv true))) := by
  refine Ctr_intro (E := env_forgets) Try.func5 rfl (by decide) rfl rfl (fun M0 W hM0 => ?_)
  refine G_run tOk eok_forgets 60 (fun _ => none) (fun bs => rfl) (fun bs => ?_) (fun bs => ?_)
  · (repeat' apply And.intro) <;> (intros; first | exact trivial | exact rfl | omega | exact u8_lo _ | exact u8_hi _ | exact u8_in64 _ | exact u8_in63 _ | (simp only [inR, IntKind.bits]; omega) | (simp [inR, IntKind.bits]; done) | (simp [inR, IntKind.bits] at * <;> omega) | (simp_all; done) | (with_reducible assumption) | skip)
  refine G_if rfl rfl (fun hlen => ?_) (fun hlen => ?_)
  · refine G_run tOk eok_forgets 60 (fun _ => none) (fun bs => rfl) (fun bs => ?_) (fun bs => ?_)
    · (repeat' apply And.intro) <;> (intros; first | exact trivial | exact rfl | omega | exact u8_lo _ | exact u8_hi _ | exact u8_in64 _ | exact u8_in63 _ | (simp only [inR, IntKind.bits]; omega) | (simp [inR, IntKind.bits]; done) | (simp [inR, IntKind.bits] at * <;> omega) | (simp_all; done) | (with_reducible assumption) | skip)
    exact G_ret tOk hM0 rfl rfl ⟨trivial, trivial⟩ rfl
  refine G_run tOk eok_forgets 60 (fun _ => none) (fun bs => rfl) (fun bs => ?_) (fun bs => ?_)
  · (repeat' apply And.intro) <;> (intros; first | exact trivial | exact rfl | omega | exact u8_lo _ | exact u8_hi _ | exact u8_in64 _ | exact u8_in63 _ | (simp only [inR, IntKind.bits]; omega) | (simp [inR, IntKind.bits]; done) | (simp [inR, IntKind.bits] at * <;> omega) | (simp_all; done) | (with_reducible assumption) | skip)
  refine G_nx 0 rfl ?_
  refine G_callH [] id hnew rfl trivial rfl rfl rfl rfl (by decide) rfl rfl (fun x => rfl) (fun x _ => ?_)
  obtain ⟨b, v⟩ := x
  dsimp only
  refine G_run tOk eok_forgets 60 (fun _ => none) (fun bs => rfl) (fun bs => ?_) (fun bs => ?_)
  · (repeat' apply And.intro) <;> (intros; first | exact trivial | exact rfl | omega | exact u8_lo _ | exact u8_hi _ | exact u8_in64 _ | exact u8_in63 _ | (simp only [inR, IntKind.bits]; omega) | (simp [inR, IntKind.bits]; done) | (simp [inR, IntKind.bits] at * <;> omega) | (simp_all; done) | (with_reducible assumption) | skip)
  refine G_els rfl rfl rfl ?_
  refine G_run tOk eok_forgets 60 (fun _ => none) (fun bs => rfl) (fun bs => ?_) (fun bs => ?_)
  · (repeat' apply And.intro) <;> (intros; first | exact trivial | exact rfl | omega | exact u8_lo _ | exact u8_hi _ | exact u8_in64 _ | exact u8_in63 _ | (simp only [inR, IntKind.bits]; omega) | (simp [inR, IntKind.bits]; done) | (simp [inR, IntKind.bits] at * <;> omega) | (simp_all; done) | (with_reducible assumption) | skip)
  refine G_loop (fun x : Nat × Value => [(0, lst .byt s), (1, int .u8 g), (5, .c (.ptr 0 b 0)), (6, bool (someN s g x.1)), (7, int .i64 x.1)]) (fun x => kH b x.2 0 (kns s x.1)) (fun x => x.1 ≤ s.length) (fun x => s.length - x.1) rfl [0, 1] (0, v) (Nat.zero_le _) ?wk (fun x hx => ?_)
  case wk => (repeat' apply And.intro) <;> (first | exact rfl | exact trivial | omega | refine sigEq ?_ | skip)
  obtain ⟨i, u⟩ := x
  simp only at hx ⊢
  refine G_run tOk eok_forgets 60 (fun _ => none) (fun bs => rfl) (fun bs => ?_) (fun bs => ?_)
  · (repeat' apply And.intro) <;> (intros; first | exact trivial | exact rfl | omega | exact u8_lo _ | exact u8_hi _ | exact u8_in64 _ | exact u8_in63 _ | (simp only [inR, IntKind.bits]; omega) | (simp [inR, IntKind.bits]; done) | (simp [inR, IntKind.bits] at * <;> omega) | (simp_all; done) | (with_reducible assumption) | skip)
  refine G_if rfl rfl (fun hk => ?_) (fun hk => ?_)
  · have hk' : i < s.length := by omega
    refine G_run tOk eok_forgets 60 (fun _ => none) (fun bs => rfl) (fun bs => ?_) (fun bs => ?_)
    · (repeat' apply And.intro) <;> (intros; first | exact trivial | exact rfl | omega | exact u8_lo _ | exact u8_hi _ | exact u8_in64 _ | exact u8_in63 _ | (simp only [inR, IntKind.bits]; omega) | (simp [inR, IntKind.bits]; done) | (simp [inR, IntKind.bits] at * <;> omega) | (simp_all; done) | (with_reducible assumption) | skip)
    refine G_freeze 2 [27] rfl ⟨rfl, trivial⟩ ?_
    refine G_nx 3 rfl ?_
    refine G_callH [0, 1] id (hadd2 b u 0 (kns s i) (ck i) 2 (((s.getD i 0).toNat : Int) % 9) 0 0 0 (by simp [ck]) (by rw [kns_len]; omega)) rfl trivial rfl rfl rfl rfl (by decide) rfl rfl (fun x => rfl) (fun u' _ => ?_)
    refine G_run tOk eok_forgets 60 (fun _ => none) (fun bs => rfl) (fun bs => ?_) (fun bs => ?_)
    · (repeat' apply And.intro) <;> (intros; first | exact trivial | exact rfl | omega | exact u8_lo _ | exact u8_hi _ | exact u8_in64 _ | exact u8_in63 _ | (simp only [inR, IntKind.bits]; omega) | (simp [inR, IntKind.bits]; done) | (simp [inR, IntKind.bits] at * <;> omega) | (simp_all; done) | (with_reducible assumption) | skip)
    refine G_lp [0, 1] (i + 1, u') ?ok ?wk1
    case ok => exact ⟨hk', by simp only; omega⟩
    case wk1 =>
      (repeat' apply And.intro) <;> (first | exact rfl | exact trivial | omega | refine sigEq ?_ | skip)
      all_goals first | exact kns_succ s (by omega) | skip
  have hk' : i = s.length := by omega
  subst hk'
  have hgl := gone_len s g s.length
  have hkl := kns_len s s.length
  refine G_run tOk eok_forgets 60 (fun _ => none) (fun bs => rfl) (fun bs => ?_) (fun bs => ?_)
  · (repeat' apply And.intro) <;> (intros; first | exact trivial | exact rfl | omega | exact u8_lo _ | exact u8_hi _ | exact u8_in64 _ | exact u8_in63 _ | (simp only [inR, IntKind.bits]; omega) | (simp [inR, IntKind.bits]; done) | (simp [inR, IntKind.bits] at * <;> omega) | (simp_all; done) | (with_reducible assumption) | skip)
  refine G_nx 3 rfl ?_
  refine G_callH [0, 1] id (hforg b u 0 (kns s s.length) 2 (g % 9) 0 0 0 (by rw [kns_len]; omega)) rfl trivial rfl rfl rfl rfl (by decide) rfl rfl (fun x => rfl) (fun u' _ => ?_)
  have hf1 : (!decide (decide ((withoutE ⟨2, g % 9, 0, 0, 0⟩ (kns s s.length)).length < (kns s s.length).length) = someN s g s.length)) = false := by
    rw [hkl]
    have := hgl.2
    unfold goneE at this
    rw [this]; simp
  refine G_run tOk eok_forgets 60 (fun _ => some false) (fun bs => rfl) (fun bs => ?_) (fun bs => ?_)
  · (repeat' apply And.intro) <;> first | exact trivial | exact hf1 | rfl | skip
  refine G_slot 56 (y := bool false) rfl (fun M v h => by rw [hf1] at h; exact h) ?_
  refine G_nx 5 rfl ?_
  refine G_callH [0, 1] id (hforg b u' 0 (withoutE ⟨2, g % 9, 0, 0, 0⟩ (kns s s.length)) 2 (g % 9) 0 0 0 (by have := hgl.1; unfold goneE at this; omega)) rfl ⟨_, rfl, rfl⟩ rfl rfl rfl rfl (by decide) rfl rfl (fun x => rfl) (fun u2 _ => ?_)
  refine G_run tOk eok_forgets 60 (fun _ => none) (fun bs => rfl) (fun bs => ?_) (fun bs => ?_)
  · (repeat' apply And.intro) <;> (intros; first | exact trivial | exact rfl | omega | exact u8_lo _ | exact u8_hi _ | exact u8_in64 _ | exact u8_in63 _ | (simp only [inR, IntKind.bits]; omega) | (simp [inR, IntKind.bits]; done) | (simp [inR, IntKind.bits] at * <;> omega) | (simp_all; done) | (with_reducible assumption) | skip)
  refine G_els rfl rfl (by rw [gone_twice]; simp) ?_
  rw [gone_twice]
  refine G_run tOk eok_forgets 60 (fun _ => none) (fun bs => rfl) (fun bs => ?_) (fun bs => ?_)
  · (repeat' apply And.intro) <;> (intros; first | exact trivial | exact rfl | omega | exact u8_lo _ | exact u8_hi _ | exact u8_in64 _ | exact u8_in63 _ | (simp only [inR, IntKind.bits]; omega) | (simp [inR, IntKind.bits]; done) | (simp [inR, IntKind.bits] at * <;> omega) | (simp_all; done) | (with_reducible assumption) | skip)
  refine G_loop (fun x : Nat × Value × Int => [(0, lst .byt s), (1, int .u8 g), (5, .c (.ptr 0 b 0)), (9, int .i64 x.1)]) (fun x => kH b x.2.1 x.2.2 (withoutE (goneE g) (kns s s.length))) (fun x => x.1 ≤ s.length) (fun x => s.length - x.1) rfl [0, 1] (0, u2, 0) (Nat.zero_le _) ?wk2 (fun x hx => ?_)
  case wk2 => (repeat' apply And.intro) <;> (first | exact rfl | exact trivial | omega | refine sigEq ?_ | skip)
  obtain ⟨i, u3, c⟩ := x
  simp only at hx ⊢
  refine G_run tOk eok_forgets 60 (fun _ => none) (fun bs => rfl) (fun bs => ?_) (fun bs => ?_)
  · (repeat' apply And.intro) <;> (intros; first | exact trivial | exact rfl | omega | exact u8_lo _ | exact u8_hi _ | exact u8_in64 _ | exact u8_in63 _ | (simp only [inR, IntKind.bits]; omega) | (simp [inR, IntKind.bits]; done) | (simp [inR, IntKind.bits] at * <;> omega) | (simp_all; done) | (with_reducible assumption) | skip)
  refine G_if rfl rfl (fun hk => ?_) (fun hk => ?_)
  · have hk' : i < s.length := by omega
    refine G_run tOk eok_forgets 60 (fun _ => none) (fun bs => rfl) (fun bs => ?_) (fun bs => ?_)
    · (repeat' apply And.intro) <;> (intros; first | exact trivial | exact rfl | omega | exact u8_lo _ | exact u8_hi _ | exact u8_in64 _ | exact u8_in63 _ | (simp only [inR, IntKind.bits]; omega) | (simp [inR, IntKind.bits]; done) | (simp [inR, IntKind.bits] at * <;> omega) | (simp_all; done) | (with_reducible assumption) | skip)
    refine G_freeze 2 [70] rfl ⟨rfl, trivial⟩ ?_
    refine G_nx 3 rfl ?_
    refine G_callH [0, 1] id (hfind b u3 c (withoutE (goneE g) (kns s s.length)) (ck i) (by simp [ck]) (by omega)) rfl trivial rfl rfl rfl rfl (by decide) rfl rfl (fun x => rfl) (fun x _ => ?_)
    obtain ⟨u4, c'⟩ := x
    dsimp only
    have hfd := gone_find s g (n := s.length) (i := i) (by omega) hk'
    rw [hfd]
    refine G_run tOk eok_forgets 60 (fun _ => none) (fun bs => rfl) (fun bs => ?_) (fun bs => ?_)
    · (repeat' apply And.intro) <;> (intros; first | exact trivial | exact rfl | omega | exact u8_lo _ | exact u8_hi _ | exact u8_in64 _ | exact u8_in63 _ | (simp only [inR, IntKind.bits]; omega) | (simp [inR, IntKind.bits]; done) | (simp [inR, IntKind.bits] at * <;> omega) | (simp_all; done) | (with_reducible assumption) | skip)
    refine G_els rfl rfl ?hb ?_
    case hb =>
      have h3 : ((s.getD i 0).toNat : Int) % 9 = ((s.getD (i : Int).toNat 0).toNat : Int) % 9 := rfl
      by_cases h : ((s.getD i 0).toNat : Int) % 9 = g % 9
      · simp [show LK.dft LK.byt = (0 : UInt8) from rfl] at h ⊢
        simp [h]
      · simp [show LK.dft LK.byt = (0 : UInt8) from rfl] at h ⊢
        simp [h]
    refine G_run tOk eok_forgets 60 (fun _ => none) (fun bs => rfl) (fun bs => ?_) (fun bs => ?_)
    · (repeat' apply And.intro) <;> (intros; first | exact trivial | exact rfl | omega | exact u8_lo _ | exact u8_hi _ | exact u8_in64 _ | exact u8_in63 _ | (simp only [inR, IntKind.bits]; omega) | (simp [inR, IntKind.bits]; done) | (simp [inR, IntKind.bits] at * <;> omega) | (simp_all; done) | (with_reducible assumption) | skip)
    refine G_lp [0, 1] (i + 1, u3, c') ?ok2 ?wk3
    case ok2 => exact ⟨hk', by simp only; omega⟩
    case wk3 => (repeat' apply And.intro) <;> (first | exact rfl | exact trivial | omega | refine sigEq ?_ | skip)
  refine G_run tOk eok_forgets 60 (fun _ => none) (fun bs => rfl) (fun bs => ?_) (fun bs => ?_)
  · (repeat' apply And.intro) <;> (intros; first | exact trivial | exact rfl | omega | exact u8_lo _ | exact u8_hi _ | exact u8_in64 _ | exact u8_in63 _ | (simp only [inR, IntKind.bits]; omega) | (simp [inR, IntKind.bits]; done) | (simp [inR, IntKind.bits] at * <;> omega) | (simp_all; done) | (with_reducible assumption) | skip)
  exact G_ret tOk hM0 rfl rfl ⟨trivial, trivial⟩ rfl
def forgets_s : FSpec
  | [.c (.pv (.lst .byt s)), .c (.pv (.val (.int .u8 g)))] => some ((0 ≤ g ∧ g ≤ 255), false, .x (.c (bv true)))
  | _ => none
theorem forgets_s_ok : SpecOk Try.prog 5 forgets_s := by
  intro args pre sh rv h hp; unfold forgets_s at h; split at h
  · cases h; have hg := hp; exact forgets_fn _ _ hg
  · cases h
def psi_forgets : FuncId → Option FSpec := psiCons 5 forgets_s psi_awake
theorem psi_forgets_ok : PsiFn Try.prog psi_forgets := psiCons_ok forgets_s_ok psi_awake_ok
end Go.Proofs.Ytbhemhmdmeomdaa
