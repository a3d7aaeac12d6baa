import Derived.Test.YtplbdmkiolocbaaSpnU
set_option linter.unusedSimpArgs false
set_option linter.unusedVariables false
namespace Go.Proofs.Ytplbdmkiolocbaa
open Go.Mt

theorem right_no {l : List Span} {x : Span} (hx : x ∈ l) (h : ¬ Sp x) : rightB l = false := by
  cases hr : rightB l with
  | false => rfl
  | true => exact absurd ((right_iff.1 hr).1 x hx) h
theorem set_mem {l : List Span} {i : Nat} (x : Span) (h : i < l.length) : x ∈ l.set i x := by
  rw [List.mem_iff_getElem]; exact ⟨i, by simpa using h, by simp⟩

def env_fwrong : Env := ⟨T, psi_fcounts, pspNil, 117, [], none, true⟩
theorem eok_fwrong : PsiOk Try.prog env_fwrong := ⟨psi_fcounts_ok, pspNil_ok⟩
theorem fwrong_fn (ns : List Int) (s0 : Int) (s1 : Int) (p : Int) (hn : ns.length ≤ 9223372036854775807) (hr : ∀ m ∈ ns, inR .u16 m) (hp : inR .u8 p) : Ctr Try.prog 9 false [lst (.ints .u16) ns, .g [.pv (.val (.int .i64 s0)), .pv (.val (.int .i64 s1))], int .u8 p] (.x (.c (bv true))) := by
  refine Ctr_intro (E := env_fwrong) Try.func9 rfl (by decide) rfl rfl (fun M0 W hM0 => ?_)
  have hp' : 0 ≤ p ∧ p ≤ 255 := hp
  have hX := madeL_in ns
  have hl := hX.len
  refine G_run tOk eok_fwrong 60 (fun _ => none) (fun bs => rfl) (fun bs => ?_) (fun bs => ?_)
  · (repeat' apply And.intro) <;> (intros; first | exact trivial | exact rfl | omega | exact u8_lo _ | exact u8_hi _ | exact u8_in64 _ | exact u8_in63 _ | (simp only [inR, IntKind.bits]; omega) | (simp [inR, IntKind.bits]; done) | (simp [inR, IntKind.bits] at * <;> omega) | (simp_all; done) | skip)
  refine G_freeze 1 [7] rfl ⟨rfl, trivial⟩ ?_
  generalize madeL ns = L at *
  refine G_run tOk eok_fwrong 60 (fun _ => none) (fun bs => rfl) (fun bs => ?_) (fun bs => ?_)
  · (repeat' apply And.intro) <;> (intros; first | exact trivial | exact rfl | omega | exact u8_lo _ | exact u8_hi _ | exact u8_in64 _ | exact u8_in63 _ | (simp only [inR, IntKind.bits]; omega) | (simp [inR, IntKind.bits]; done) | (simp [inR, IntKind.bits] at * <;> omega) | (simp_all; done) | skip)
  refine G_cond rfl rfl (fun h => ?_) (fun h => ?_)
  · refine G_run tOk eok_fwrong 60 (fun _ => none) (fun bs => rfl) (fun bs => ?_) (fun bs => ?_)
    · (repeat' apply And.intro) <;> (intros; first | exact trivial | exact rfl | omega | exact u8_lo _ | exact u8_hi _ | exact u8_in64 _ | exact u8_in63 _ | (simp only [inR, IntKind.bits]; omega) | (simp [inR, IntKind.bits]; done) | (simp [inR, IntKind.bits] at * <;> omega) | (simp_all; done) | skip)
    exact G_ret tOk hM0 rfl rfl ⟨trivial, trivial⟩ rfl
  have hl0 : 0 < L.length := by
    rcases Nat.eq_zero_or_pos L.length with e | e
    · rw [e] at h; exact absurd h (by decide)
    · exact e
  have hk0 : 0 ≤ p / 4 % (L.length : Int) := Int.emod_nonneg _ (by omega)
  have hk1 : p / 4 % (L.length : Int) < L.length := Int.emod_lt_of_pos _ (by omega)
  refine G_run tOk eok_fwrong 60 (fun _ => none) (fun bs => rfl) (fun bs => ?_) (fun bs => ?_)
  · (repeat' apply And.intro) <;> (intros; first | exact trivial | exact rfl | omega | exact u8_lo _ | exact u8_hi _ | exact u8_in64 _ | exact u8_in63 _ | (simp only [inR, IntKind.bits]; omega) | (simp [inR, IntKind.bits]; done) | (simp [inR, IntKind.bits] at * <;> omega) | (simp_all; done) | skip)
  obtain ⟨y, hq⟩ : ∃ y : Span, L.getD (Int.toNat ((L.length : Int) - 1)) LK.spn.dft = y := ⟨_, rfl⟩
  have hyL : L = L.take (L.length - 1) ++ [y] := by
    have e1 : Int.toNat ((L.length : Int) - 1) = L.length - 1 := by omega
    rw [← hq, e1]
    have h2 := List.take_succ_eq_append_getElem (l := L) (i := L.length - 1) (by omega)
    rw [show L.length - 1 + 1 = L.length by omega, List.take_length] at h2
    have e2 : L.getD (L.length - 1) LK.spn.dft = L[L.length - 1] := by simp [List.getD, List.getElem?_eq_getElem (show L.length - 1 < L.length by omega)]
    rw [e2]; exact h2
  have hyM : y ∈ L := by rw [hyL]; simp
  have hyT := hX.to y hyM
  have hyS : 0 ≤ y.fr ∧ y.fr < y.to ∧ y.to ≤ 1073741824 := hX.1.1 y hyM
  have rest : ∀ (bad : List Span) (b : Nat), rightB bad = false → bad.length ≤ 1000 → G Try.prog env_fwrong W.heap.size W M0 (bpost Try.prog Try.f9 (FnPost false M0 W (RV.x (RX.c (bv true)))))
      [Itm.code (lft (lft (rgt (rgt (rgt (rgt (rgt (rgt (fbody Try.f9))))))))),
      Itm.code (rgt (lft (rgt (rgt (rgt (rgt (rgt (rgt (fbody Try.f9))))))))),
      Itm.code (rgt (rgt (rgt (rgt (rgt (rgt (rgt (fbody Try.f9))))))))]
      (mk [(4, .c (.ptr 0 b 0)), (7, lst .spn L), (9, lst .spn bad)] [.blk b 39 [.pv (i64 s0), .pv (i64 s1)]]) := by
    intro bad b hb hlb
    have e0 : rightL bad = [] := by simp [rightL, hb]
    have e1 : countL bad = 0 := by simp [countL, e0, cntS]
    have e2 : ∀ n, hasL bad n = false := fun n => by simp [hasL, e0]
    have e3 : subL bad ⟨s0, s1⟩ = [] := by unfold subL; rw [e0]; split <;> rfl
    have e4 : addL bad ⟨s0, s1⟩ = addL [] ⟨s0, s1⟩ := by
      have : rightL ([] : List Span) = [] := rfl
      unfold addL; rw [e0, this]
    have e5 : addL L ⟨5, 5⟩ = L := addL_not hX.1 (by unfold Sp; decide)
    have e6 : subL L ⟨-3, 4⟩ = L := subL_not hX.1 (by unfold Sp; decide)
    have l1 := addL_len bad ⟨s0, s1⟩
    have l2 := addL_len [] ⟨s0, s1⟩
    refine G_nx 1 rfl ?_
    refine G_draw tOk eok_fwrong rfl (fun _ => some false) 27 [0, 1, 3, 7, 15, 31, 63, 127, 255, 255, 767, 1791, 3839, 8191, 16383, 32767, 65535, 65535, 262143, 524287, 1048575, 2097151, 4194303, 8388607, 8388607, 33554431, 8388607, 134217727, 268435455, 536870911, 1073741823] [] rfl (by decide +kernel) (fun bs => rfl) (fun bs => ?_) (fun bs => ?_)
    · (repeat' apply And.intro) <;> (intros; first | exact trivial | exact rfl | omega | exact u8_lo _ | exact u8_hi _ | exact u8_in64 _ | exact u8_in63 _ | (simp only [inR, IntKind.bits]; omega) | (simp [inR, IntKind.bits, e1, e2, e3, e4, hb]; done) | (simp [inR, IntKind.bits, e1, e2, e3, e4, hb] at * <;> omega) | (simp_all; done) | skip)
    refine G_run tOk eok_fwrong 60 (fun _ => some false) (fun bs => rfl) (fun bs => ?_) (fun bs => ?_)
    · (repeat' apply And.intro) <;> (intros; first | exact trivial | exact rfl | omega | exact u8_lo _ | exact u8_hi _ | exact u8_in64 _ | exact u8_in63 _ | (simp only [inR, IntKind.bits]; omega) | (simp [inR, IntKind.bits, e1, e2, e3, e4, hb]; done) | (simp [inR, IntKind.bits, e1, e2, e3, e4, hb] at * <;> omega) | (simp_all; done) | skip)
    refine G_els rfl rfl ?c1 ?_
    case c1 => simp [e1, e2, e3, e4, hb]
    refine G_run tOk eok_fwrong 60 (fun _ => some true) (fun bs => rfl) (fun bs => ?_) (fun bs => ?_)
    · (repeat' apply And.intro) <;> (intros; first | exact trivial | exact rfl | omega | exact u8_lo _ | exact u8_hi _ | exact u8_in64 _ | exact u8_in63 _ | (simp only [inR, IntKind.bits]; omega) | (simp [inR, IntKind.bits, e5, e6]; done) | (simp [inR, IntKind.bits, e5, e6] at * <;> omega) | (simp_all; done) | skip)
    refine G_ret tOk hM0 rfl rfl ⟨trivial, trivial⟩ ?_
    conv => whnf
    simp [e5, e6]
  have r1 : rightB (L.set (p / 4 % (L.length : Int)).toNat ⟨(L.getD (p / 4 % (L.length : Int)).toNat ⟨0, 0⟩).fr, (L.getD (p / 4 % (L.length : Int)).toNat ⟨0, 0⟩).fr⟩) = false := right_no (set_mem _ (by omega)) (by unfold Sp; dsimp only; omega)
  have r2 : rightB (L.set (p / 4 % (L.length : Int)).toNat ⟨-1, (L.getD (p / 4 % (L.length : Int)).toNat ⟨0, 0⟩).to⟩) = false := right_no (set_mem _ (by omega)) (by unfold Sp; dsimp only; omega)
  have r3 : rightB (L ++ [⟨y.to, y.to + 1⟩]) = false := by
    cases hr : rightB (L ++ [⟨y.to, y.to + 1⟩]) with
    | false => rfl
    | true =>
      have := (Rt.snoc.1 (right_iff.1 hr)).2.2 y hyM
      dsimp only at this; omega
  have r4 : rightB (L.set (Int.toNat ((L.length : Int) - 1)) ⟨y.fr, 1073741825⟩) = false := right_no (set_mem _ (by omega)) (by unfold Sp; dsimp only; omega)
  have r3' : rightB (L ++ [⟨(L.getD (Int.toNat ((L.length : Int) - 1)) LK.spn.dft).to, (L.getD (Int.toNat ((L.length : Int) - 1)) LK.spn.dft).to + 1⟩]) = false := by rw [hq]; exact r3
  have r4' : rightB (L.set (Int.toNat ((L.length : Int) - 1)) ⟨(L.getD (Int.toNat ((L.length : Int) - 1)) LK.spn.dft).fr, 1073741825⟩) = false := by rw [hq]; exact r4
  refine G_cond (b := decide (p % 4 = 0)) rfl rfl (fun h1 => ?_) (fun h1 => ?_)
  · refine G_run tOk eok_fwrong 60 (fun _ => none) (fun bs => rfl) (fun bs => ?_) (fun bs => ?_)
    · (repeat' apply And.intro) <;> (intros; first | exact trivial | exact rfl | omega | exact u8_lo _ | exact u8_hi _ | exact u8_in64 _ | exact u8_in63 _ | (simp only [inR, IntKind.bits]; omega) | (simp [inR, IntKind.bits]; done) | (simp [inR, IntKind.bits] at * <;> omega) | (simp_all; done) | skip)
    refine G_freeze 3 [9] rfl ⟨rfl, trivial⟩ ?_
    refine G_wkB (ns := [0]) (fs := fun b => [(4, .c (.ptr 0 b 0)), (7, lst .spn L), (9, lst .spn (L.set (p / 4 % (L.length : Int)).toNat ⟨(L.getD (p / 4 % (L.length : Int)).toNat ⟨0, 0⟩).fr, (L.getD (p / 4 % (L.length : Int)).toNat ⟨0, 0⟩).fr⟩))]) (hs := fun b => [.blk b 39 [.pv (i64 s0), .pv (i64 s1)]]) ?bq1 rfl ?wk1 (fun b => rest _ b r1 (by simp; omega))
    case wk1 => (repeat' apply And.intro) <;> (first | exact rfl | exact trivial | omega | refine sigEq ?_ | skip)
  refine G_run tOk eok_fwrong 60 (fun _ => none) (fun bs => rfl) (fun bs => ?_) (fun bs => ?_)
  · (repeat' apply And.intro) <;> (intros; first | exact trivial | exact rfl | omega | exact u8_lo _ | exact u8_hi _ | exact u8_in64 _ | exact u8_in63 _ | (simp only [inR, IntKind.bits]; omega) | (simp [inR, IntKind.bits]; done) | (simp [inR, IntKind.bits] at * <;> omega) | (simp_all; done) | skip)
  refine G_cond (b := decide (p % 4 = 1)) rfl rfl (fun h2 => ?_) (fun h2 => ?_)
  · refine G_run tOk eok_fwrong 60 (fun _ => none) (fun bs => rfl) (fun bs => ?_) (fun bs => ?_)
    · (repeat' apply And.intro) <;> (intros; first | exact trivial | exact rfl | omega | exact u8_lo _ | exact u8_hi _ | exact u8_in64 _ | exact u8_in63 _ | (simp only [inR, IntKind.bits]; omega) | (simp [inR, IntKind.bits]; done) | (simp [inR, IntKind.bits] at * <;> omega) | (simp_all; done) | skip)
    refine G_freeze 3 [9] rfl ⟨rfl, trivial⟩ ?_
    refine G_wkB (ns := [0]) (fs := fun b => [(4, .c (.ptr 0 b 0)), (7, lst .spn L), (9, lst .spn (L.set (p / 4 % (L.length : Int)).toNat ⟨-1, (L.getD (p / 4 % (L.length : Int)).toNat ⟨0, 0⟩).to⟩))]) (hs := fun b => [.blk b 39 [.pv (i64 s0), .pv (i64 s1)]]) ?bq2 rfl ?wk2 (fun b => rest _ b r2 (by simp; omega))
    case wk2 => (repeat' apply And.intro) <;> (first | exact rfl | exact trivial | omega | refine sigEq ?_ | skip)
  refine G_run tOk eok_fwrong 60 (fun _ => none) (fun bs => rfl) (fun bs => ?_) (fun bs => ?_)
  · (repeat' apply And.intro) <;> (intros; first | exact trivial | exact rfl | omega | exact u8_lo _ | exact u8_hi _ | exact u8_in64 _ | exact u8_in63 _ | (simp only [inR, IntKind.bits]; omega) | (simp [inR, IntKind.bits]; done) | (simp [inR, IntKind.bits] at * <;> omega) | (simp_all; done) | skip)
  refine G_cond (b := decide (p % 4 = 2)) rfl rfl (fun h3 => ?_) (fun h3 => ?_)
  · refine G_run tOk eok_fwrong 60 (fun _ => none) (fun bs => rfl) (fun bs => ?_) (fun bs => ?_)
    · (repeat' apply And.intro) <;> (intros; first | exact trivial | exact rfl | omega | exact u8_lo _ | exact u8_hi _ | exact u8_in64 _ | exact u8_in63 _ | (simp only [inR, IntKind.bits]; omega) | (simp [inR, IntKind.bits]; done) | (simp [inR, IntKind.bits] at * <;> omega) | (simp_all; done) | skip)
    refine G_nx 4 rfl ?_
    refine G_draw tOk eok_fwrong rfl (fun _ => none) 18 [0, 0, 0, 4, 12, 30, 62, 126, 0, 0, 512, 1536, 3840, 7936, 16128, 32512, 65534, 131070, 262143, 524287] [] rfl (by decide +kernel) (fun bs => rfl) (fun bs => ?_) (fun bs => ?_)
    · simp only [List.nil_append, hq]
      (repeat' apply And.intro) <;> (intros; first | exact trivial | exact rfl | omega | exact u8_lo _ | exact u8_hi _ | exact u8_in64 _ | exact u8_in63 _ | (simp only [inR, IntKind.bits]; omega) | (simp [inR, IntKind.bits]; done) | (simp [inR, IntKind.bits] at * <;> omega) | (simp_all; done) | skip)
    refine G_run tOk eok_fwrong 60 (fun _ => none) (fun bs => rfl) (fun bs => ?_) (fun bs => ?_)
    · simp only [List.nil_append, hq]
      (repeat' apply And.intro) <;> (intros; first | exact trivial | exact rfl | omega | exact u8_lo _ | exact u8_hi _ | exact u8_in64 _ | exact u8_in63 _ | (simp only [inR, IntKind.bits]; omega) | (simp [inR, IntKind.bits]; done) | (simp [inR, IntKind.bits] at * <;> omega) | (simp_all; done) | skip)
    refine G_freeze 22 [9] rfl ⟨rfl, trivial⟩ ?_
    refine G_wkB (ns := [0]) (fs := fun b => [(4, .c (.ptr 0 b 0)), (7, lst .spn L), (9, lst .spn (L ++ [⟨(L.getD (Int.toNat ((L.length : Int) - 1)) LK.spn.dft).to, (L.getD (Int.toNat ((L.length : Int) - 1)) LK.spn.dft).to + 1⟩]))]) (hs := fun b => [.blk b 39 [.pv (i64 s0), .pv (i64 s1)]]) ?bq3 rfl ?wk3 (fun b => rest _ b r3' (by simp; omega))
    case wk3 => (repeat' apply And.intro) <;> (first | exact rfl | exact trivial | omega | refine sigEq ?_ | skip)
  refine G_run tOk eok_fwrong 60 (fun _ => none) (fun bs => rfl) (fun bs => ?_) (fun bs => ?_)
  · (repeat' apply And.intro) <;> (intros; first | exact trivial | exact rfl | omega | exact u8_lo _ | exact u8_hi _ | exact u8_in64 _ | exact u8_in63 _ | (simp only [inR, IntKind.bits]; omega) | (simp [inR, IntKind.bits]; done) | (simp [inR, IntKind.bits] at * <;> omega) | (simp_all; done) | skip)
  refine G_freeze 3 [9] rfl ⟨rfl, trivial⟩ ?_
  refine G_wkB (ns := [0]) (fs := fun b => [(4, .c (.ptr 0 b 0)), (7, lst .spn L), (9, lst .spn (L.set (Int.toNat ((L.length : Int) - 1)) ⟨(L.getD (Int.toNat ((L.length : Int) - 1)) LK.spn.dft).fr, 1073741825⟩))]) (hs := fun b => [.blk b 39 [.pv (i64 s0), .pv (i64 s1)]]) ?bq4 rfl ?wk4 (fun b => rest _ b r4' (by simp; omega))
  case wk4 => (repeat' apply And.intro) <;> (first | exact rfl | exact trivial | omega | refine sigEq ?_ | skip)
def fwrong_s : FSpec
  | [.c (.pv (.lst (.ints .u16) ns)), .g [.pv (.val (.int .i64 s0)), .pv (.val (.int .i64 s1))], .c (.pv (.val (.int .u8 p)))] => some ((ns.length ≤ 9223372036854775807) ∧ (∀ m ∈ ns, inR .u16 m) ∧ (inR .u8 p), false, .x (.c (bv true)))
  | _ => none
theorem fwrong_s_ok : SpecOk Try.prog 9 fwrong_s := by
  intro args pre sh rv h hp; unfold fwrong_s at h; split at h
  · cases h; obtain ⟨hn, hr, hp⟩ := hp; exact fwrong_fn _ _ _ _ hn hr hp
  · cases h
def psi_fwrong : FuncId → Option FSpec := psiCons 9 fwrong_s psi_fcounts
theorem psi_fwrong_ok : PsiFn Try.prog psi_fwrong := psiCons_ok fwrong_s_ok psi_fcounts_ok
end Go.Proofs.Ytplbdmkiolocbaa
