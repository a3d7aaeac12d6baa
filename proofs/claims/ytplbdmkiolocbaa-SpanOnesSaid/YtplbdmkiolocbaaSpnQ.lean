import Derived.Test.YtplbdmkiolocbaaSpnP
set_option linter.unusedSimpArgs false
set_option linter.unusedVariables false
namespace Go.Proofs.Ytplbdmkiolocbaa
open Go.Mt

def env_made : Env := ⟨T, psi_fsets, pspNil, 38, [], none, true⟩
theorem eok_made : PsiOk Try.prog env_made := ⟨psi_fsets_ok, pspNil_ok⟩
theorem made_fn (ns : List Int) (hn : ns.length ≤ 9223372036854775807) (hr : ∀ m ∈ ns, inR .u16 m) : Ctr Try.prog 16 false [lst (.ints .u16) ns] (.o 39 .spn (madeL ns)) := by
  refine Ctr_intro (E := env_made) Try.func16 rfl (by decide) rfl rfl (fun M0 W hM0 => ?_)
  have hg : ∀ i, 0 ≤ ns.getD i 0 ∧ ns.getD i 0 ≤ 65535 := by
    intro i
    by_cases hi : i < ns.length
    · exact hr (ns.getD i 0) (by simp [List.getD, List.getElem?_eq_getElem hi])
    · have : ns.getD i 0 = 0 := by simp [List.getD, List.getElem?_eq_none (by omega : ns.length ≤ i)]
      omega
  refine G_run tOk eok_made 60 (fun _ => none) (fun bs => rfl) (fun bs => ?_) (fun bs => ?_)
  · (repeat' apply And.intro) <;> (intros; first | exact trivial | exact rfl | omega | exact u8_lo _ | exact u8_hi _ | exact u8_in64 _ | exact u8_in63 _ | (simp only [inR, IntKind.bits]; omega) | (simp [inR, IntKind.bits]; done) | (simp [inR, IntKind.bits] at * <;> omega) | (simp_all; done) | skip)
  refine G_own 3 39 rfl ?_
  refine G_loop (fun x : Nat × Value => [(0, lst (.ints .u16) ns), (3, .c (.own 0 x.2)), (4, int .i64 (2 * x.1))]) (fun x => [.own x.2 39 .spn (madeN ns x.1)]) (fun x => x.1 ≤ min (ns.length / 2) 30) (fun x => 30 - x.1) rfl [0] (0, ?v0) (Nat.zero_le _) ?wk (fun x hx => ?_)
  case wk => (repeat' apply And.intro) <;> (first | exact rfl | exact trivial | omega | refine sigEq ?_ | skip)
  obtain ⟨k, v⟩ := x
  dsimp only at hx
  have hlen := (madeN_in ns k).len
  refine G_run tOk eok_made 60 (fun _ => none) (fun bs => rfl) (fun bs => ?_) (fun bs => ?_)
  · (repeat' apply And.intro) <;> (intros; first | exact trivial | exact rfl | omega | exact u8_lo _ | exact u8_hi _ | exact u8_in64 _ | exact u8_in63 _ | (simp only [inR, IntKind.bits]; omega) | (simp [inR, IntKind.bits]; done) | (simp [inR, IntKind.bits] at * <;> omega) | (simp_all; done) | skip)
  refine G_cond rfl rfl (fun h => ?_) (fun h => ?_)
  · have h' : 2 * (k : Int) + 1 < ns.length ∧ 2 * (k : Int) < 60 := by simpa using h
    have g1 := hg (2 * k)
    have g2 := hg (2 * k + 1)
    have g1' : 0 ≤ ns.getD (Int.toNat (2 * (k : Int))) (LK.ints IntKind.u16).dft ∧ ns.getD (Int.toNat (2 * (k : Int))) (LK.ints IntKind.u16).dft ≤ 65535 := g1
    have g2' : 0 ≤ ns.getD (Int.toNat (2 * (k : Int) + 1)) (LK.ints IntKind.u16).dft ∧ ns.getD (Int.toNat (2 * (k : Int) + 1)) (LK.ints IntKind.u16).dft ≤ 65535 := g2
    refine G_run tOk eok_made 60 (fun _ => none) (fun bs => rfl) (fun bs => ?_) (fun bs => ?_)
    · (repeat' apply And.intro) <;> (intros; first | exact trivial | exact rfl | omega | exact u8_lo _ | exact u8_hi _ | exact u8_in64 _ | exact u8_in63 _ | (simp only [inR, IntKind.bits]; omega) | (simp [inR, IntKind.bits]; done) | (simp [inR, IntKind.bits] at * <;> omega) | (simp_all; done) | skip)
    refine G_lp [1] (k + 1, ?v1) ?ok1 ?wk1
    case ok1 => exact ⟨by simp only; omega, by simp only; omega⟩
    case wk1 => (repeat' apply And.intro) <;> (first | exact rfl | exact trivial | omega | refine sigEq ?_ | skip)
  · have h' : ¬ (2 * (k : Int) + 1 < ns.length ∧ 2 * (k : Int) < 60) := by simpa using h
    have hk' : k = min (ns.length / 2) 30 := by omega
    refine G_run tOk eok_made 60 (fun _ => none) (fun bs => rfl) (fun bs => ?_) (fun bs => ?_)
    · (repeat' apply And.intro) <;> (intros; first | exact trivial | exact rfl | omega | exact u8_lo _ | exact u8_hi _ | exact u8_in64 _ | exact u8_in63 _ | (simp only [inR, IntKind.bits]; omega) | (simp [inR, IntKind.bits]; done) | (simp [inR, IntKind.bits] at * <;> omega) | (simp_all; done) | skip)
    refine G_ret tOk hM0 rfl rfl ⟨trivial, trivial⟩ ⟨rfl, rfl, rfl, sigEq ?_⟩
    rw [hk']; rfl

def made_s : FSpec
  | [.c (.pv (.lst (.ints .u16) ns))] => some ((ns.length ≤ 9223372036854775807) ∧ (∀ m ∈ ns, inR .u16 m), false, .o 39 .spn (madeL ns))
  | _ => none
theorem made_s_ok : SpecOk Try.prog 16 made_s := by
  intro args pre sh rv h hp; unfold made_s at h; split at h
  · cases h; obtain ⟨hn, hr⟩ := hp; exact made_fn _ hn hr
  · cases h
def psi_made : FuncId → Option FSpec := psiCons 16 made_s psi_fsets
theorem psi_made_ok : PsiFn Try.prog psi_made := psiCons_ok made_s_ok psi_fsets_ok
def env_fturns : Env := ⟨T, psi_made, pspNil, 54, [], none, true⟩
theorem eok_fturns : PsiOk Try.prog env_fturns := ⟨psi_made_ok, pspNil_ok⟩
theorem fturns_fn (ns : List Int) (s0 : Int) (s1 : Int) (t0 : Int) (t1 : Int) (hn : ns.length ≤ 9223372036854775807) (hr : ∀ m ∈ ns, inR .u16 m) : Ctr Try.prog 5 false [lst (.ints .u16) ns, .g [.pv (.val (.int .i64 s0)), .pv (.val (.int .i64 s1))], .g [.pv (.val (.int .i64 t0)), .pv (.val (.int .i64 t1))]] (.x (.c (bv true))) := by
  refine Ctr_intro (E := env_fturns) Try.func5 rfl (by decide) rfl rfl (fun M0 W hM0 => ?_)
  have hM := madeL_in ns
  have h0 := hM.len
  have e1 := turn1 hM.1 ⟨s0, s1⟩
  have e2 := turn2 hM.1 ⟨s0, s1⟩
  have e3 := turn3 hM.1 ⟨s0, s1⟩ ⟨t0, t1⟩
  have l1 := addL_len (madeL ns) ⟨s0, s1⟩
  have l2 := subL_len (madeL ns) ⟨s0, s1⟩
  have l3 := addL_len (madeL ns) ⟨t0, t1⟩
  have l4 := addL_len (addL (madeL ns) ⟨s0, s1⟩) ⟨t0, t1⟩
  have l5 := addL_len (addL (madeL ns) ⟨t0, t1⟩) ⟨s0, s1⟩
  have l6 := subL_len (addL (madeL ns) ⟨s0, s1⟩) ⟨s0, s1⟩
  have l7 := addL_len (subL (madeL ns) ⟨s0, s1⟩) ⟨s0, s1⟩
  refine G_run tOk eok_fturns 60 (fun _ => none) (fun bs => rfl) (fun bs => ?_) (fun bs => ?_)
  · (repeat' apply And.intro) <;> (intros; first | exact trivial | exact rfl | omega | exact u8_lo _ | exact u8_hi _ | exact u8_in64 _ | exact u8_in63 _ | (simp only [inR, IntKind.bits]; omega) | (simp [inR, IntKind.bits]; done) | (simp [inR, IntKind.bits] at * <;> omega) | (simp_all; done) | skip)
  refine G_freeze 2 [7] rfl ⟨rfl, trivial⟩ ?_
  refine G_nx 3 rfl ?_
  refine G_draw tOk eok_fturns rfl (fun _ => none) 4 [0, 0, 3, 0, 15, 31] [] rfl (by decide +kernel) (fun bs => rfl) (fun bs => ?_) (fun bs => ?_)
  · (repeat' apply And.intro) <;> (intros; first | exact trivial | exact rfl | omega | exact u8_lo _ | exact u8_hi _ | exact u8_in64 _ | exact u8_in63 _ | (simp only [inR, IntKind.bits]; omega) | (simp [inR, IntKind.bits]; done) | (simp [inR, IntKind.bits] at * <;> omega) | (simp_all; done) | skip)
  refine G_run tOk eok_fturns 60 (fun _ => none) (fun bs => rfl) (fun bs => by (repeat' apply And.intro) <;> (intros; first | exact trivial | exact rfl | omega | exact u8_lo _ | exact u8_hi _ | exact u8_in64 _ | exact u8_in63 _ | (simp only [inR, IntKind.bits]; omega) | (simp [inR, IntKind.bits]; done) | (simp [inR, IntKind.bits] at * <;> omega) | (simp_all; done) | skip)) (fun bs => ?_)
  refine G_nx 8 rfl ?_
  refine G_draw tOk eok_fturns rfl (fun _ => none) 4 [0, 0, 3, 0, 15, 31] [] rfl (by decide +kernel) (fun bs => rfl) (fun bs => ?_) (fun bs => ?_)
  · (repeat' apply And.intro) <;> (intros; first | exact trivial | exact rfl | omega | exact u8_lo _ | exact u8_hi _ | exact u8_in64 _ | exact u8_in63 _ | (simp only [inR, IntKind.bits]; omega) | (simp [inR, IntKind.bits]; done) | (simp [inR, IntKind.bits] at * <;> omega) | (simp_all; done) | skip)
  refine G_run tOk eok_fturns 60 (fun _ => none) (fun bs => rfl) (fun bs => by (repeat' apply And.intro) <;> (intros; first | exact trivial | exact rfl | omega | exact u8_lo _ | exact u8_hi _ | exact u8_in64 _ | exact u8_in63 _ | (simp only [inR, IntKind.bits]; omega) | (simp [inR, IntKind.bits]; done) | (simp [inR, IntKind.bits] at * <;> omega) | (simp_all; done) | skip)) (fun bs => ?_)
  refine G_nx 13 rfl ?_
  refine G_draw tOk eok_fturns rfl (fun _ => none) 9 [0, 0, 3, 0, 15, 0, 0, 127, 0, 511, 1023, 2047] [] rfl (by decide +kernel) (fun bs => rfl) (fun bs => ?_) (fun bs => ?_)
  · (repeat' apply And.intro) <;> (intros; first | exact trivial | exact rfl | omega | exact u8_lo _ | exact u8_hi _ | exact u8_in64 _ | exact u8_in63 _ | (simp only [inR, IntKind.bits]; omega) | (simp [inR, IntKind.bits]; done) | (simp [inR, IntKind.bits] at * <;> omega) | (simp_all; done) | skip)
  refine G_run tOk eok_fturns 60 (fun _ => some true) (fun bs => rfl) (fun bs => ?_) (fun bs => ?_)
  · (repeat' apply And.intro) <;> (intros; first | exact trivial | exact rfl | omega | exact u8_lo _ | exact u8_hi _ | exact u8_in64 _ | exact u8_in63 _ | (simp only [inR, IntKind.bits]; omega) | (simp [inR, IntKind.bits, e1, e2, e3]; done) | (simp [inR, IntKind.bits, e1, e2, e3] at * <;> omega) | (simp_all; done) | skip)
  refine G_ret tOk hM0 rfl rfl ⟨trivial, trivial⟩ ?_
  conv => whnf
  simp [e1, e2, e3]
def fturns_s : FSpec
  | [.c (.pv (.lst (.ints .u16) ns)), .g [.pv (.val (.int .i64 s0)), .pv (.val (.int .i64 s1))], .g [.pv (.val (.int .i64 t0)), .pv (.val (.int .i64 t1))]] => some ((ns.length ≤ 9223372036854775807) ∧ (∀ m ∈ ns, inR .u16 m), false, .x (.c (bv true)))
  | _ => none
theorem fturns_s_ok : SpecOk Try.prog 5 fturns_s := by
  intro args pre sh rv h hp; unfold fturns_s at h; split at h
  · cases h; obtain ⟨hn, hr⟩ := hp; exact fturns_fn _ _ _ _ _ hn hr
  · cases h
def psi_fturns : FuncId → Option FSpec := psiCons 5 fturns_s psi_made
theorem psi_fturns_ok : PsiFn Try.prog psi_fturns := psiCons_ok fturns_s_ok psi_made_ok
end Go.Proofs.Ytplbdmkiolocbaa
