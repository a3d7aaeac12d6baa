import Derived.Test.YtplbdmkiolocbaaSpnS
set_option linter.unusedSimpArgs false
set_option linter.unusedVariables false
namespace Go.Proofs.Ytplbdmkiolocbaa
open Go.Mt

def addF (x y : List Span) : Nat → List Span
  | 0 => x
  | k + 1 => addL (addF x y k) (y.getD k ⟨0, 0⟩)
def subF (x y : List Span) : Nat → List Span
  | 0 => x
  | k + 1 => subL (subF x y k) (y.getD k ⟨0, 0⟩)
theorem addF_in {M : Nat} {x y : List Span} (hx : RtM M x) (hy : RtM M y) : ∀ k, k ≤ y.length → RtM M (addF x y k) ∧ ∀ n, inL (addF x y k) n = (inL x n || inL (y.take k) n) := by
  intro k
  induction k with
  | zero => intro _; exact ⟨hx, fun n => by simp [addF, inL]⟩
  | succ k ih =>
    intro hk
    obtain ⟨i1, i2⟩ := ih (by omega)
    have hg : y[k]? = some (y.getD k ⟨0, 0⟩) := by simp [List.getD, List.getElem?_eq_getElem (show k < y.length by omega)]
    have hm := List.mem_of_getElem? hg
    have hs := hy.1.1 _ hm
    refine ⟨i1.add hs (hy.to _ hm), fun n => ?_⟩
    simp only [addF]
    rw [(addL_set i1.1 hs).2, i2, take_succ_of hg, inL_app, inL_one, Bool.or_assoc]
theorem subF_in {M : Nat} {x y : List Span} (hx : RtM M x) (hy : RtM M y) : ∀ k, k ≤ y.length → RtM M (subF x y k) ∧ ∀ n, inL (subF x y k) n = (inL x n && !inL (y.take k) n) := by
  intro k
  induction k with
  | zero => intro _; exact ⟨hx, fun n => by simp [subF, inL]⟩
  | succ k ih =>
    intro hk
    obtain ⟨i1, i2⟩ := ih (by omega)
    have hg : y[k]? = some (y.getD k ⟨0, 0⟩) := by simp [List.getD, List.getElem?_eq_getElem (show k < y.length by omega)]
    have hm := List.mem_of_getElem? hg
    have hs := hy.1.1 _ hm
    refine ⟨i1.sub hs, fun n => ?_⟩
    simp only [subF]
    rw [(subL_set i1.1 hs).2, i2, take_succ_of hg, inL_app, inL_one, Bool.not_or, Bool.and_assoc]
theorem cN_parts (f g : Nat → Bool) (M : Nat) : cN (fun n => f n || g n) M = cN f M + cN g M - cN (fun n => f n && g n) M ∧ cN (fun n => f n && !g n) M = cN f M - cN (fun n => f n && g n) M := by
  induction M with
  | zero => exact ⟨rfl, rfl⟩
  | succ k ih =>
    simp only [cN]
    cases f k <;> cases g k <;> simp only [Bool.or_true, Bool.or_false, Bool.and_true, Bool.and_false, Bool.not_true, Bool.not_false] <;> omega

def env_fcounts : Env := ⟨T, psi_fnumbers, pspNil, 80, [], none, true⟩
theorem eok_fcounts : PsiOk Try.prog env_fcounts := ⟨psi_fnumbers_ok, pspNil_ok⟩
theorem fcounts_fn (ns : List Int) (ms : List Int) (hn : ns.length ≤ 9223372036854775807) (hr : ∀ m ∈ ns, inR .u16 m) (hm : ms.length ≤ 9223372036854775807) (hs : ∀ m ∈ ms, inR .u16 m) : Ctr Try.prog 8 false [lst (.ints .u16) ns, lst (.ints .u16) ms] (.x (.c (bv true))) := by
  refine Ctr_intro (E := env_fcounts) Try.func8 rfl (by decide) rfl rfl (fun M0 W hM0 => ?_)
  have hX := madeL_in ns
  have hY := madeL_in ms
  refine G_run tOk eok_fcounts 60 (fun _ => none) (fun bs => rfl) (fun bs => ?_) (fun bs => ?_)
  · (repeat' apply And.intro) <;> (intros; first | exact trivial | exact rfl | omega | exact u8_lo _ | exact u8_hi _ | exact u8_in64 _ | exact u8_in63 _ | (simp only [inR, IntKind.bits]; omega) | (simp [inR, IntKind.bits]; done) | (simp [inR, IntKind.bits] at * <;> omega) | (simp_all; done) | skip)
  refine G_freeze 0 [5, 7, 8] rfl ⟨rfl, rfl, rfl, trivial⟩ ?_
  refine G_freeze 1 [6] rfl ⟨rfl, trivial⟩ ?_
  generalize madeL ns = X at *
  generalize madeL ms = Y at *
  have hl := hX.len
  have hl2 := hY.len
  refine G_loop (fun x : Nat => [(5, lst .spn X), (6, lst .spn Y), (7, lst .spn (addF X Y x)), (8, lst .spn (subF X Y x)), (9, int .i64 x)]) (fun x => [])
    (fun x => x ≤ Y.length) (fun x => Y.length - x) rfl [] 0 (Nat.zero_le _) ?wk (fun x hx => ?_)
  case wk => (repeat' apply And.intro) <;> (first | exact rfl | exact trivial | omega | refine sigEq ?_ | skip)
  have hA := addF_in hX hY x hx
  have hB := subF_in hX hY x hx
  have l1 := hA.1.len
  have l2 := hB.1.len
  refine G_run tOk eok_fcounts 60 (fun _ => none) (fun bs => rfl) (fun bs => ?_) (fun bs => ?_)
  · (repeat' apply And.intro) <;> (intros; first | exact trivial | exact rfl | omega | exact u8_lo _ | exact u8_hi _ | exact u8_in64 _ | exact u8_in63 _ | (simp only [inR, IntKind.bits]; omega) | (simp [inR, IntKind.bits]; done) | (simp [inR, IntKind.bits] at * <;> omega) | (simp_all; done) | skip)
  refine G_if rfl rfl (fun hk => ?_) (fun hk => ?_)
  · have hk' : x < Y.length := by omega
    refine G_run tOk eok_fcounts 60 (fun _ => none) (fun bs => rfl) (fun bs => ?_) (fun bs => ?_)
    · (repeat' apply And.intro) <;> (intros; first | exact trivial | exact rfl | omega | exact u8_lo _ | exact u8_hi _ | exact u8_in64 _ | exact u8_in63 _ | (simp only [inR, IntKind.bits]; omega) | (simp [inR, IntKind.bits]; done) | (simp [inR, IntKind.bits] at * <;> omega) | (simp_all; done) | skip)
    refine G_freeze 0 [7] rfl ⟨rfl, trivial⟩ ?_
    refine G_freeze 1 [8] rfl ⟨rfl, trivial⟩ ?_
    refine G_lp [] (x + 1) ?ok1 ?wk1
    case ok1 => exact ⟨hk', by omega⟩
    case wk1 => (repeat' apply And.intro) <;> (first | exact rfl | exact trivial | omega | refine sigEq ?_ | skip)
  have hk' : x = Y.length := by omega
  subst hk'
  refine G_run tOk eok_fcounts 60 (fun _ => none) (fun bs => rfl) (fun bs => ?_) (fun bs => ?_)
  · (repeat' apply And.intro) <;> (intros; first | exact trivial | exact rfl | omega | exact u8_lo _ | exact u8_hi _ | exact u8_in64 _ | exact u8_in63 _ | (simp only [inR, IntKind.bits]; omega) | (simp [inR, IntKind.bits]; done) | (simp [inR, IntKind.bits] at * <;> omega) | (simp_all; done) | skip)
  obtain ⟨hA1, hA2⟩ := hA
  obtain ⟨hB1, hB2⟩ := hB
  rw [List.take_length] at hA2 hB2
  generalize addF X Y Y.length = A at *
  generalize subF X Y Y.length = D at *
  refine G_loop (fun x : Nat => [(5, lst .spn X), (6, lst .spn Y), (7, lst .spn A), (8, lst .spn D), (10, int .i64 (cN (fun n => hasL X n && hasL Y n) x)), (11, int .i64 x)]) (fun x => [])
    (fun x => x ≤ 300) (fun x => 300 - x) rfl [] 0 (Nat.zero_le _) ?wk3 (fun x hx => ?_)
  case wk3 => (repeat' apply And.intro) <;> (first | exact rfl | exact trivial | omega | refine sigEq ?_ | skip)
  have bm := cN_le (fun n => hasL X n && hasL Y n) x
  refine G_run tOk eok_fcounts 60 (fun _ => none) (fun bs => rfl) (fun bs => ?_) (fun bs => ?_)
  · (repeat' apply And.intro) <;> (intros; first | exact trivial | exact rfl | omega | exact u8_lo _ | exact u8_hi _ | exact u8_in64 _ | exact u8_in63 _ | (simp only [inR, IntKind.bits]; omega) | (simp [inR, IntKind.bits]; done) | (simp [inR, IntKind.bits] at * <;> omega) | (simp_all; done) | skip)
  refine G_if rfl rfl (fun hk => ?_) (fun hk => ?_)
  · have hk' : x < 300 := by omega
    cases h1 : hasL X x with
    | true =>
      refine G_run tOk eok_fcounts 60 (fun _ => some true) (fun bs => rfl) (fun bs => ?_) (fun bs => ?_)
      · (repeat' apply And.intro) <;> (intros; first | exact trivial | exact rfl | omega | exact u8_lo _ | exact u8_hi _ | exact u8_in64 _ | exact u8_in63 _ | (simp only [inR, IntKind.bits]; omega) | (simp [inR, IntKind.bits, h1]; done) | (simp [inR, IntKind.bits, h1] at * <;> omega) | (simp_all; done) | skip)
      refine G_cond (b := hasL X x && hasL Y x) rfl rfl (fun h2 => ?_) (fun h2 => ?_)
      · refine G_run tOk eok_fcounts 60 (fun _ => none) (fun bs => rfl) (fun bs => ?_) (fun bs => ?_)
        · (repeat' apply And.intro) <;> (intros; first | exact trivial | exact rfl | omega | exact u8_lo _ | exact u8_hi _ | exact u8_in64 _ | exact u8_in63 _ | (simp only [inR, IntKind.bits]; omega) | (simp [inR, IntKind.bits]; done) | (simp [inR, IntKind.bits] at * <;> omega) | (simp_all; done) | skip)
        refine G_lp [] (x + 1) ?ok2 ?wk4
        case ok2 => exact ⟨hk', by omega⟩
        case wk4 =>
          (repeat' apply And.intro) <;> (first | exact rfl | exact trivial | omega | refine sigEq ?_ | skip)
          all_goals (simp only [cN, h2])
      · refine G_run tOk eok_fcounts 60 (fun _ => none) (fun bs => rfl) (fun bs => ?_) (fun bs => ?_)
        · (repeat' apply And.intro) <;> (intros; first | exact trivial | exact rfl | omega | exact u8_lo _ | exact u8_hi _ | exact u8_in64 _ | exact u8_in63 _ | (simp only [inR, IntKind.bits]; omega) | (simp [inR, IntKind.bits]; done) | (simp [inR, IntKind.bits] at * <;> omega) | (simp_all; done) | skip)
        refine G_lp [] (x + 1) ?ok3 ?wk5
        case ok3 => exact ⟨hk', by omega⟩
        case wk5 =>
          (repeat' apply And.intro) <;> (first | exact rfl | exact trivial | omega | refine sigEq ?_ | skip)
          all_goals (simp only [cN, h2]; omega)
    | false =>
      refine G_run tOk eok_fcounts 60 (fun _ => some false) (fun bs => rfl) (fun bs => ?_) (fun bs => ?_)
      · (repeat' apply And.intro) <;> (intros; first | exact trivial | exact rfl | omega | exact u8_lo _ | exact u8_hi _ | exact u8_in64 _ | exact u8_in63 _ | (simp only [inR, IntKind.bits]; omega) | (simp [inR, IntKind.bits, h1]; done) | (simp [inR, IntKind.bits, h1] at * <;> omega) | (simp_all; done) | skip)
      refine G_els rfl rfl rfl ?_
      refine G_run tOk eok_fcounts 60 (fun _ => none) (fun bs => rfl) (fun bs => ?_) (fun bs => ?_)
      · (repeat' apply And.intro) <;> (intros; first | exact trivial | exact rfl | omega | exact u8_lo _ | exact u8_hi _ | exact u8_in64 _ | exact u8_in63 _ | (simp only [inR, IntKind.bits]; omega) | (simp [inR, IntKind.bits]; done) | (simp [inR, IntKind.bits] at * <;> omega) | (simp_all; done) | skip)
      refine G_lp [] (x + 1) ?ok4 ?wk6
      case ok4 => exact ⟨hk', by omega⟩
      case wk6 =>
        (repeat' apply And.intro) <;> (first | exact rfl | exact trivial | omega | refine sigEq ?_ | skip)
        all_goals (simp only [cN, h1, Bool.false_and]; omega)
  · have hk' : x = 300 := by omega
    subst hk'
    have mX := hX.mono (show 229 ≤ 300 by decide)
    have mY := hY.mono (show 229 ≤ 300 by decide)
    have mA := hA1.mono (show 229 ≤ 300 by decide)
    have mD := hB1.mono (show 229 ≤ 300 by decide)
    have ps := cN_parts (fun n => hasL X n) (fun n => hasL Y n) 300
    have cX := mX.cnt
    have cY := mY.cnt
    have bX := cN_le (fun n => inL X n) 300
    have bY := cN_le (fun n => inL Y n) 300
    rw [← cX] at bX
    rw [← cY] at bY
    have e1 : cN (fun n => hasL X n) 300 = countL X := by rw [cX]; exact cN_congr (fun n _ => hasL_of hX.1 n)
    have e2 : cN (fun n => hasL Y n) 300 = countL Y := by rw [cY]; exact cN_congr (fun n _ => hasL_of hY.1 n)
    rw [e1, e2] at ps
    have kA : countL A = countL X + countL Y - cN (fun n => hasL X n && hasL Y n) 300 := by
      rw [← ps.1, mA.cnt]; exact cN_congr (fun n _ => by rw [hA2, hasL_of hX.1, hasL_of hY.1])
    have kB : countL D = countL X - cN (fun n => hasL X n && hasL Y n) 300 := by
      rw [← ps.2, mD.cnt]; exact cN_congr (fun n _ => by rw [hB2, hasL_of hX.1, hasL_of hY.1])
    have rA : rightB A = true := right_iff.2 hA1.1
    have rB : rightB D = true := right_iff.2 hB1.1
    refine G_run tOk eok_fcounts 60 (fun _ => some true) (fun bs => rfl) (fun bs => ?_) (fun bs => ?_)
    · (repeat' apply And.intro) <;> (intros; first | exact trivial | exact rfl | omega | exact u8_lo _ | exact u8_hi _ | exact u8_in64 _ | exact u8_in63 _ | (simp only [inR, IntKind.bits]; omega) | (simp [inR, IntKind.bits, rA, rB, kA, kB]; done) | (simp [inR, IntKind.bits, rA, rB, kA, kB] at * <;> omega) | (simp_all; done) | skip)
    refine G_ret tOk hM0 rfl rfl ⟨trivial, trivial⟩ ?_
    conv => whnf
    simp [rA, rB, kA, kB]
def fcounts_s : FSpec
  | [.c (.pv (.lst (.ints .u16) ns)), .c (.pv (.lst (.ints .u16) ms))] => some ((ns.length ≤ 9223372036854775807) ∧ (∀ m ∈ ns, inR .u16 m) ∧ (ms.length ≤ 9223372036854775807) ∧ (∀ m ∈ ms, inR .u16 m), false, .x (.c (bv true)))
  | _ => none
theorem fcounts_s_ok : SpecOk Try.prog 8 fcounts_s := by
  intro args pre sh rv h hp; unfold fcounts_s at h; split at h
  · cases h; obtain ⟨hn, hr, hm, hs⟩ := hp; exact fcounts_fn _ _ hn hr hm hs
  · cases h
def psi_fcounts : FuncId → Option FSpec := psiCons 8 fcounts_s psi_fnumbers
theorem psi_fcounts_ok : PsiFn Try.prog psi_fcounts := psiCons_ok fcounts_s_ok psi_fnumbers_ok
end Go.Proofs.Ytplbdmkiolocbaa
