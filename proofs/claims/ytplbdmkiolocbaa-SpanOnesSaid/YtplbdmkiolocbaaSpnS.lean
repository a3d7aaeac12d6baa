import Derived.Test.YtplbdmkiolocbaaSpnR
set_option linter.unusedSimpArgs false
set_option linter.unusedVariables false
namespace Go.Proofs.Ytplbdmkiolocbaa
open Go.Mt

theorem G_wkB {P : Program} {E : Env} {B : Nat} {W : World} {M0 : Mem} {Q : Exit → Act → World → Prop} {k : List Itm} {st : St} {ns : List Nat} {fs : Nat → List (Nat × A)} {hs : Nat → List HB} (b : Nat) (h0 : hdI k = 0) (h : Wk st ns (fs b) (hs b)) (hk : ∀ b, G P E B W M0 Q k (mk (fs b) (hs b))) : G P E B W M0 Q k st :=
  G_wk h0 h (hk b)

def env_fnumbers : Env := ⟨T, psi_fpieces, pspNil, 110, [], none, true⟩
theorem eok_fnumbers : PsiOk Try.prog env_fnumbers := ⟨psi_fpieces_ok, pspNil_ok⟩
theorem fnumbers_fn (ns : List Int) (p : Int) (q : Int) (hn : ns.length ≤ 9223372036854775807) (hr : ∀ m ∈ ns, inR .u16 m) (hp : inR .u8 p) (hq : inR .u8 q) : Ctr Try.prog 7 false [lst (.ints .u16) ns, int .u8 p, int .u8 q] (.x (.c (bv true))) := by
  refine Ctr_intro (E := env_fnumbers) Try.func7 rfl (by decide) rfl rfl (fun M0 W hM0 => ?_)
  have hp' : 0 ≤ p ∧ p ≤ 255 := hp
  have hq' : 0 ≤ q ∧ q ≤ 255 := hq
  have hM := madeL_in ns
  have h0 := hM.len
  have hs : Sp ⟨p, p + 1 + q % 40⟩ := by unfold Sp; dsimp only; omega
  have hMA := (hM.mono (show 229 ≤ 320 by decide)).add hs (by dsimp only; omega)
  have hMB := (hM.mono (show 229 ≤ 320 by decide)).sub hs
  have hA := (addL_set hM.1 hs).2
  have hB := (subL_set hM.1 hs).2
  have l1 := hMA.len
  have l2 := hMB.len
  refine G_run tOk eok_fnumbers 60 (fun _ => none) (fun bs => rfl) (fun bs => ?_) (fun bs => ?_)
  · (repeat' apply And.intro) <;> (intros; first | exact trivial | exact rfl | omega | exact u8_lo _ | exact u8_hi _ | exact u8_in64 _ | exact u8_in63 _ | (simp only [inR, IntKind.bits]; omega) | (simp [inR, IntKind.bits]; done) | (simp [inR, IntKind.bits] at * <;> omega) | (simp_all; done) | skip)
  refine G_freeze 0 [7] rfl ⟨rfl, trivial⟩ ?_
  refine G_nx 2 rfl ?_
  refine G_draw tOk eok_fnumbers rfl (fun _ => none) 5 [0, 0, 3, 0, 0, 31, 63, 127] [] rfl (by decide +kernel) (fun bs => rfl) (fun bs => ?_) (fun bs => ?_)
  · (repeat' apply And.intro) <;> (intros; first | exact trivial | exact rfl | omega | exact u8_lo _ | exact u8_hi _ | exact u8_in64 _ | exact u8_in63 _ | (simp only [inR, IntKind.bits]; omega) | (simp [inR, IntKind.bits]; done) | (simp [inR, IntKind.bits] at * <;> omega) | (simp_all; done) | skip)
  refine G_run tOk eok_fnumbers 60 (fun _ => none) (fun bs => rfl) (fun bs => by (repeat' apply And.intro) <;> (intros; first | exact trivial | exact rfl | omega | exact u8_lo _ | exact u8_hi _ | exact u8_in64 _ | exact u8_in63 _ | (simp only [inR, IntKind.bits]; omega) | (simp [inR, IntKind.bits]; done) | (simp [inR, IntKind.bits] at * <;> omega) | (simp_all; done) | skip)) (fun bs => ?_)
  refine G_freeze 4 [9] rfl ⟨rfl, trivial⟩ ?_
  refine G_freeze 7 [10] rfl ⟨rfl, trivial⟩ ?_
  have cL := (hM.mono (show 229 ≤ 320 by decide)).cnt
  have cA := hMA.cnt
  have cB := hMB.cnt
  have rA : rightB (addL (madeL ns) ⟨p, p + 1 + q % 40⟩) = true := right_iff.2 hMA.1
  have rB : rightB (subL (madeL ns) ⟨p, p + 1 + q % 40⟩) = true := right_iff.2 hMB.1
  have wA : ∀ n, hasL (addL (madeL ns) ⟨p, p + 1 + q % 40⟩) n = (hasL (madeL ns) n || hasX n ⟨p, p + 1 + q % 40⟩) := fun n => by rw [hasL_of hMA.1, hasL_of hM.1, hA]
  have wB : ∀ n, hasL (subL (madeL ns) ⟨p, p + 1 + q % 40⟩) n = (hasL (madeL ns) n && !hasX n ⟨p, p + 1 + q % 40⟩) := fun n => by rw [hasL_of hMB.1, hasL_of hM.1, hB]
  have kA : countL (addL (madeL ns) ⟨p, p + 1 + q % 40⟩) = countL (madeL ns) + cN (fun n => hasX n ⟨p, p + 1 + q % 40⟩ && !hasL (madeL ns) n) 320 := by
    rw [cA, cL, ← cN_or]
    · exact cN_congr (fun n _ => by rw [hA, hasL_of hM.1]; cases inL (madeL ns) n <;> cases hasX (n : Int) ⟨p, p + 1 + q % 40⟩ <;> rfl)
    · intro n _ h
      rw [hasL_of hM.1] at h
      cases h1 : inL (madeL ns) n <;> simp [h1] at h
  have kB : countL (subL (madeL ns) ⟨p, p + 1 + q % 40⟩) = countL (madeL ns) - cN (fun n => hasX n ⟨p, p + 1 + q % 40⟩ && hasL (madeL ns) n) 320 := by
    have : countL (madeL ns) = countL (subL (madeL ns) ⟨p, p + 1 + q % 40⟩) + cN (fun n => hasX n ⟨p, p + 1 + q % 40⟩ && hasL (madeL ns) n) 320 := by
      rw [cB, cL, ← cN_or]
      · exact cN_congr (fun n _ => by rw [hB, hasL_of hM.1]; cases inL (madeL ns) n <;> cases hasX (n : Int) ⟨p, p + 1 + q % 40⟩ <;> rfl)
      · intro n _ h
        rw [hB, hasL_of hM.1] at h
        cases h1 : hasX (n : Int) ⟨p, p + 1 + q % 40⟩ <;> simp [h1] at h
    omega
  have bL := cN_le (fun n => inL (madeL ns) n) 320
  rw [← cL] at bL
  generalize madeL ns = L at *
  generalize addL L ⟨p, p + 1 + q % 40⟩ = A at *
  generalize subL L ⟨p, p + 1 + q % 40⟩ = D at *
  refine G_wkB (ns := [1]) (fs := fun b => [(7, lst .spn L), (8, .c (.ptr 0 b 0)), (9, lst .spn A), (10, lst .spn D), (11, int .i64 0), (12, int .i64 0), (13, int .i64 0)]) (hs := fun b => [.blk b 39 [.pv (i64 p), .pv (i64 (p + 1 + q % 40))]]) ?bq rfl ?wk0 (fun b => ?_)
  case wk0 => (repeat' apply And.intro) <;> (first | exact rfl | exact trivial | omega | refine sigEq ?_ | skip)
  refine G_loop (fun x : Nat => [(7, lst .spn L), (8, .c (.ptr 0 b 0)), (9, lst .spn A), (10, lst .spn D), (11, int .i64 (cN (fun n => hasX n ⟨p, p + 1 + q % 40⟩ && !hasL L n) x)), (12, int .i64 (cN (fun n => hasX n ⟨p, p + 1 + q % 40⟩ && hasL L n) x)), (13, int .i64 x)])
    (fun x => [.blk b 39 [.pv (i64 p), .pv (i64 (p + 1 + q % 40))]]) (fun x => x ≤ 320) (fun x => 320 - x) rfl [0] 0 (Nat.zero_le _) ?wk (fun x hx => ?_)
  case wk => (repeat' apply And.intro) <;> (first | exact rfl | exact trivial | omega | refine sigEq ?_ | skip)
  have bm := cN_le (fun n => hasX n ⟨p, p + 1 + q % 40⟩ && !hasL L n) x
  have bs_ := cN_le (fun n => hasX n ⟨p, p + 1 + q % 40⟩ && hasL L n) x
  refine G_run tOk eok_fnumbers 60 (fun _ => none) (fun bs => rfl) (fun bs => ?_) (fun bs => ?_)
  · (repeat' apply And.intro) <;> (intros; first | exact trivial | exact rfl | omega | exact u8_lo _ | exact u8_hi _ | exact u8_in64 _ | exact u8_in63 _ | (simp only [inR, IntKind.bits]; omega) | (simp [inR, IntKind.bits]; done) | (simp [inR, IntKind.bits] at * <;> omega) | (simp_all; done) | skip)
  refine G_if rfl rfl (fun hk => ?_) (fun hk => ?_)
  · have hk' : x < 320 := by omega
    refine G_run tOk eok_fnumbers 60 (fun j => match j with | 8 => some false | _ => none) (fun bs => rfl) (fun bs => ?_) (fun bs => ?_)
    · (repeat' apply And.intro) <;> (intros; first | exact trivial | exact rfl | omega | exact u8_lo _ | exact u8_hi _ | exact u8_in64 _ | exact u8_in63 _ | (simp only [inR, IntKind.bits]; omega) | (simp [inR, IntKind.bits, wA, wB, hasX]; done) | (simp [inR, IntKind.bits, wA, wB, hasX] at * <;> omega) | (simp_all; done) | skip)
    refine G_els rfl rfl ?els ?_
    case els => simp [wA, wB, hasX]
    refine G_run tOk eok_fnumbers 60 (fun _ => none) (fun bs => rfl) (fun bs => ?_) (fun bs => ?_)
    · (repeat' apply And.intro) <;> (intros; first | exact trivial | exact rfl | omega | exact u8_lo _ | exact u8_hi _ | exact u8_in64 _ | exact u8_in63 _ | (simp only [inR, IntKind.bits]; omega) | (simp [inR, IntKind.bits]; done) | (simp [inR, IntKind.bits] at * <;> omega) | (simp_all; done) | skip)
    refine G_cond (b := hasX x ⟨p, p + 1 + q % 40⟩ && !hasL L x) rfl rfl (fun h1 => ?_) (fun h1 => ?_)
    · refine G_run tOk eok_fnumbers 60 (fun _ => none) (fun bs => rfl) (fun bs => ?_) (fun bs => ?_)
      · (repeat' apply And.intro) <;> (intros; first | exact trivial | exact rfl | omega | exact u8_lo _ | exact u8_hi _ | exact u8_in64 _ | exact u8_in63 _ | (simp only [inR, IntKind.bits]; omega) | (simp [inR, IntKind.bits]; done) | (simp [inR, IntKind.bits] at * <;> omega) | (simp_all; done) | skip)
      refine G_cond (b := hasX x ⟨p, p + 1 + q % 40⟩ && hasL L x) rfl rfl (fun h2 => ?_) (fun h2 => ?_)
      · simp only [Bool.and_eq_true, Bool.not_eq_true'] at h1 h2
        rw [h2.2] at h1; cases h1.2
      · refine G_run tOk eok_fnumbers 60 (fun _ => none) (fun bs => rfl) (fun bs => ?_) (fun bs => ?_)
        · (repeat' apply And.intro) <;> (intros; first | exact trivial | exact rfl | omega | exact u8_lo _ | exact u8_hi _ | exact u8_in64 _ | exact u8_in63 _ | (simp only [inR, IntKind.bits]; omega) | (simp [inR, IntKind.bits]; done) | (simp [inR, IntKind.bits] at * <;> omega) | (simp_all; done) | skip)
        refine G_lp [0] (x + 1) ?ok1 ?wk1
        case ok1 => exact ⟨hk', by omega⟩
        case wk1 =>
          (repeat' apply And.intro) <;> (first | exact rfl | exact trivial | omega | refine sigEq ?_ | skip)
          all_goals (simp only [cN, h1, h2]; try omega)
    · refine G_run tOk eok_fnumbers 60 (fun _ => none) (fun bs => rfl) (fun bs => ?_) (fun bs => ?_)
      · (repeat' apply And.intro) <;> (intros; first | exact trivial | exact rfl | omega | exact u8_lo _ | exact u8_hi _ | exact u8_in64 _ | exact u8_in63 _ | (simp only [inR, IntKind.bits]; omega) | (simp [inR, IntKind.bits]; done) | (simp [inR, IntKind.bits] at * <;> omega) | (simp_all; done) | skip)
      refine G_cond (b := hasX x ⟨p, p + 1 + q % 40⟩ && hasL L x) rfl rfl (fun h2 => ?_) (fun h2 => ?_)
      · refine G_run tOk eok_fnumbers 60 (fun _ => none) (fun bs => rfl) (fun bs => ?_) (fun bs => ?_)
        · (repeat' apply And.intro) <;> (intros; first | exact trivial | exact rfl | omega | exact u8_lo _ | exact u8_hi _ | exact u8_in64 _ | exact u8_in63 _ | (simp only [inR, IntKind.bits]; omega) | (simp [inR, IntKind.bits]; done) | (simp [inR, IntKind.bits] at * <;> omega) | (simp_all; done) | skip)
        refine G_lp [0] (x + 1) ?ok2 ?wk2
        case ok2 => exact ⟨hk', by omega⟩
        case wk2 =>
          (repeat' apply And.intro) <;> (first | exact rfl | exact trivial | omega | refine sigEq ?_ | skip)
          all_goals (simp only [cN, h1, h2]; try omega)
      · refine G_run tOk eok_fnumbers 60 (fun _ => none) (fun bs => rfl) (fun bs => ?_) (fun bs => ?_)
        · (repeat' apply And.intro) <;> (intros; first | exact trivial | exact rfl | omega | exact u8_lo _ | exact u8_hi _ | exact u8_in64 _ | exact u8_in63 _ | (simp only [inR, IntKind.bits]; omega) | (simp [inR, IntKind.bits]; done) | (simp [inR, IntKind.bits] at * <;> omega) | (simp_all; done) | skip)
        refine G_lp [0] (x + 1) ?ok3 ?wk3
        case ok3 => exact ⟨hk', by omega⟩
        case wk3 =>
          (repeat' apply And.intro) <;> (first | exact rfl | exact trivial | omega | refine sigEq ?_ | skip)
          all_goals (simp only [cN, h1, h2]; try omega)
  · have hk' : x = 320 := by omega
    subst hk'
    refine G_run tOk eok_fnumbers 60 (fun _ => some true) (fun bs => rfl) (fun bs => ?_) (fun bs => ?_)
    · (repeat' apply And.intro) <;> (intros; first | exact trivial | exact rfl | omega | exact u8_lo _ | exact u8_hi _ | exact u8_in64 _ | exact u8_in63 _ | (simp only [inR, IntKind.bits]; omega) | (simp [inR, IntKind.bits, rA, rB, kA, kB]; done) | (simp [inR, IntKind.bits, rA, rB, kA, kB] at * <;> omega) | (simp_all; done) | skip)
    refine G_ret tOk hM0 rfl rfl ⟨trivial, trivial⟩ ?_
    conv => whnf
    simp [rA, rB, kA, kB]
def fnumbers_s : FSpec
  | [.c (.pv (.lst (.ints .u16) ns)), .c (.pv (.val (.int .u8 p))), .c (.pv (.val (.int .u8 q)))] => some ((ns.length ≤ 9223372036854775807) ∧ (∀ m ∈ ns, inR .u16 m) ∧ (inR .u8 p) ∧ (inR .u8 q), false, .x (.c (bv true)))
  | _ => none
theorem fnumbers_s_ok : SpecOk Try.prog 7 fnumbers_s := by
  intro args pre sh rv h hp; unfold fnumbers_s at h; split at h
  · cases h; obtain ⟨hn, hr, hp, hq⟩ := hp; exact fnumbers_fn _ _ _ hn hr hp hq
  · cases h
def psi_fnumbers : FuncId → Option FSpec := psiCons 7 fnumbers_s psi_fpieces
theorem psi_fnumbers_ok : PsiFn Try.prog psi_fnumbers := psiCons_ok fnumbers_s_ok psi_fpieces_ok
end Go.Proofs.Ytplbdmkiolocbaa
