import Derived.Test.YtbhemhmdmeomdaaIdxR
import Derived.Test.YtbhemhmdmeomdaaMtQ4
set_option linter.unusedSimpArgs false
set_option linter.unusedVariables false
namespace Go.Proofs.Ytbhemhmdmeomdaa
open Go.Mt

theorem take_eqE {a b : List Entry} {x : Nat} (h : a.take x = b.take x) (ha : x < a.length) (hb : x < b.length) (he : a.getD x LK.ent.dft = b.getD x LK.ent.dft) : a.take (x + 1) = b.take (x + 1) := by
  rw [take_succ_getD (d := LK.ent.dft) ha, take_succ_getD (d := LK.ent.dft) hb, h, he]
def env_esame : Env := ⟨T, psi_awake, pspNil, psc_del, 26, [], none, true⟩
theorem eok_esame : PsiOk Try.prog env_esame := ⟨psi_awake_ok, pspNil_ok, psc_del_ok⟩
theorem esame_fn (a : List Entry) (b : List Entry) (ha : a.length ≤ 1000000) (hb : b.length ≤ 1000000) : Ctr Try.prog 22 false [lst .ent a, lst .ent b] (.x (.c (bv (decide (a = b))))) := by
  refine Ctr_intro (E := env_esame) Try.func22 rfl (by decide) rfl rfl (fun M0 W hM0 => ?_)
  refine G_run tOk eok_esame 60 (fun _ => none) (fun bs => rfl) (fun bs => ?_) (fun bs => ?_)
  · (repeat' apply And.intro) <;> (intros; first | exact trivial | exact rfl | omega | exact u8_lo _ | exact u8_hi _ | exact u8_in64 _ | exact u8_in63 _ | (simp only [inR, IntKind.bits]; omega) | (simp [inR, IntKind.bits]; done) | (simp [inR, IntKind.bits] at * <;> omega) | (simp_all; done) | (with_reducible assumption) | skip)
  refine G_cond rfl rfl (fun h => ?_) (fun h => ?_)
  · refine G_run tOk eok_esame 60 (fun _ => none) (fun bs => rfl) (fun bs => ?_) (fun bs => ?_)
    · (repeat' apply And.intro) <;> (intros; first | exact trivial | exact rfl | omega | exact u8_lo _ | exact u8_hi _ | exact u8_in64 _ | exact u8_in63 _ | (simp only [inR, IntKind.bits]; omega) | (simp [inR, IntKind.bits]; done) | (simp [inR, IntKind.bits] at * <;> omega) | (simp_all; done) | (with_reducible assumption) | skip)
    have hd : decide (a = b) = false := by simp; intro e; subst e; simp at h
    exact G_ret tOk hM0 rfl rfl ⟨trivial, trivial⟩ hd.symm
  have hlm : a.length = b.length := by simp at h; omega
  refine G_run tOk eok_esame 60 (fun _ => none) (fun bs => rfl) (fun bs => ?_) (fun bs => ?_)
  · (repeat' apply And.intro) <;> (intros; first | exact trivial | exact rfl | omega | exact u8_lo _ | exact u8_hi _ | exact u8_in64 _ | exact u8_in63 _ | (simp only [inR, IntKind.bits]; omega) | (simp [inR, IntKind.bits]; done) | (simp [inR, IntKind.bits] at * <;> omega) | (simp_all; done) | (with_reducible assumption) | skip)
  refine G_loop (fun x : Nat => [(0, lst .ent a), (1, lst .ent b), (5, int .i64 x)]) (fun x => []) (fun x => x ≤ a.length ∧ a.take x = b.take x) (fun x => a.length - x) rfl [] 0 ⟨Nat.zero_le _, rfl⟩ ?wk (fun x hx => ?_)
  case wk => (repeat' apply And.intro) <;> (first | exact rfl | exact trivial | omega | refine sigEq ?_ | skip)
  obtain ⟨hx, hr⟩ := hx
  refine G_run tOk eok_esame 60 (fun _ => none) (fun bs => rfl) (fun bs => ?_) (fun bs => ?_)
  · (repeat' apply And.intro) <;> (intros; first | exact trivial | exact rfl | omega | exact u8_lo _ | exact u8_hi _ | exact u8_in64 _ | exact u8_in63 _ | (simp only [inR, IntKind.bits]; omega) | (simp [inR, IntKind.bits]; done) | (simp [inR, IntKind.bits] at * <;> omega) | (simp_all; done) | (with_reducible assumption) | skip)
  refine G_if rfl rfl (fun hk => ?_) (fun hk => ?_)
  · have hk' : x < a.length := by omega
    refine G_run tOk eok_esame 60 (fun _ => none) (fun bs => rfl) (fun bs => ?_) (fun bs => ?_)
    · (repeat' apply And.intro) <;> (intros; first | exact trivial | exact rfl | omega | exact u8_lo _ | exact u8_hi _ | exact u8_in64 _ | exact u8_in63 _ | (simp only [inR, IntKind.bits]; omega) | (simp [inR, IntKind.bits]; done) | (simp [inR, IntKind.bits] at * <;> omega) | (simp_all; done) | (with_reducible assumption) | skip)
    refine G_nx 0 rfl ?_
    refine G_draw tOk eok_esame rfl (fun _ => none) 8 [0, 0, 3, 7, 0, 0, 48, 112, 255] [] rfl (by decide +kernel) (fun bs => rfl) (fun bs => ?_) (fun bs => ?_)
    · (repeat' apply And.intro) <;> (intros; first | exact trivial | exact rfl | omega | exact u8_lo _ | exact u8_hi _ | exact u8_in64 _ | exact u8_in63 _ | (simp only [inR, IntKind.bits]; omega) | (simp [inR, IntKind.bits]; done) | (simp [inR, IntKind.bits] at * <;> omega) | (simp_all; done) | (with_reducible assumption) | skip)
    refine G_run tOk eok_esame 60 (fun _ => none) (fun bs => rfl) (fun bs => ?_) (fun bs => ?_)
    · (repeat' apply And.intro) <;> (intros; first | exact trivial | exact rfl | omega | exact u8_lo _ | exact u8_hi _ | exact u8_in64 _ | exact u8_in63 _ | (simp only [inR, IntKind.bits]; omega) | (simp [inR, IntKind.bits]; done) | (simp [inR, IntKind.bits] at * <;> omega) | (simp_all; done) | (with_reducible assumption) | skip)
    refine G_cond (b := !decide (a.getD x LK.ent.dft = b.getD x LK.ent.dft)) rfl ?hc (fun h => ?_) (fun h => ?_)
    case hc => rw [← ent_eq]; rfl
    · refine G_run tOk eok_esame 60 (fun _ => none) (fun bs => rfl) (fun bs => ?_) (fun bs => ?_)
      · (repeat' apply And.intro) <;> (intros; first | exact trivial | exact rfl | omega | exact u8_lo _ | exact u8_hi _ | exact u8_in64 _ | exact u8_in63 _ | (simp only [inR, IntKind.bits]; omega) | (simp [inR, IntKind.bits]; done) | (simp [inR, IntKind.bits] at * <;> omega) | (simp_all; done) | (with_reducible assumption) | skip)
      have hd : decide (a = b) = false := by
        simp only [decide_eq_false_iff_not]
        rintro rfl
        simp at h
      exact G_ret tOk hM0 rfl rfl ⟨trivial, trivial⟩ hd.symm
    · refine G_run tOk eok_esame 60 (fun _ => none) (fun bs => rfl) (fun bs => ?_) (fun bs => ?_)
      · (repeat' apply And.intro) <;> (intros; first | exact trivial | exact rfl | omega | exact u8_lo _ | exact u8_hi _ | exact u8_in64 _ | exact u8_in63 _ | (simp only [inR, IntKind.bits]; omega) | (simp [inR, IntKind.bits]; done) | (simp [inR, IntKind.bits] at * <;> omega) | (simp_all; done) | (with_reducible assumption) | skip)
      refine G_lp [] (x + 1) ?ok ?wk2
      case ok => exact ⟨⟨hk', take_eqE hr hk' (by omega) (by simpa using h)⟩, by omega⟩
      case wk2 => (repeat' apply And.intro) <;> (first | exact rfl | exact trivial | omega | refine sigEq ?_ | skip)
  · have hk' : x = a.length := by omega
    subst hk'
    refine G_run tOk eok_esame 60 (fun _ => none) (fun bs => rfl) (fun bs => ?_) (fun bs => ?_)
    · (repeat' apply And.intro) <;> (intros; first | exact trivial | exact rfl | omega | exact u8_lo _ | exact u8_hi _ | exact u8_in64 _ | exact u8_in63 _ | (simp only [inR, IntKind.bits]; omega) | (simp [inR, IntKind.bits]; done) | (simp [inR, IntKind.bits] at * <;> omega) | (simp_all; done) | (with_reducible assumption) | skip)
    have hd : decide (a = b) = true := by
      simp only [decide_eq_true_eq]
      rw [List.take_length, hlm, List.take_length] at hr; exact hr
    exact G_ret tOk hM0 rfl rfl ⟨trivial, trivial⟩ hd.symm

def esame_s : FSpec
  | [.c (.pv (.lst .ent a)), .c (.pv (.lst .ent b))] => some ((a.length ≤ 1000000) ∧ (b.length ≤ 1000000), false, .x (.c (bv (decide (a = b)))))
  | _ => none
theorem esame_s_ok : SpecOk Try.prog 22 esame_s := by
  intro args pre sh rv h hp; unfold esame_s at h; split at h
  · cases h; obtain ⟨ha, hb⟩ := hp; exact esame_fn _ _ ha hb
  · cases h
def psi_esame : FuncId → Option FSpec := psiCons 22 esame_s psi_awake
theorem psi_esame_ok : PsiFn Try.prog psi_esame := psiCons_ok esame_s_ok psi_awake_ok
def hvN (l : List Deed) : Nat → Bool
  | 0 => false
  | k + 1 => hvN l k || decide (200 < ((l.getD k LK.act.dft).b.length : Int))
theorem hvN_true {l : List Deed} {i j : Nat} (h : hvN l i = true) (hij : i ≤ j) : hvN l j = true := by
  induction j with
  | zero => have : i = 0 := by omega
            subst this; exact h
  | succ j ih =>
    by_cases hi : i = j + 1
    · subst hi; exact h
    · simp [hvN, ih (by omega)]
def hvB (l : List Deed) : Bool := hvN l (min l.length 150) || decide (150 < (l.length : Int))
theorem hvN_false {l : List Deed} : ∀ {k : Nat}, hvN l k = false → ∀ i, i < k → (l.getD i LK.act.dft).b.length ≤ 200 := by
  intro k
  induction k with
  | zero => intro _ i hi; omega
  | succ k ih =>
    intro h i hi
    simp only [hvN, Bool.or_eq_false_iff, decide_eq_false_iff_not] at h
    by_cases e : i = k
    · subst e; omega
    · exact ih h.1 i (by omega)
theorem hvB_false {l : List Deed} (h : hvB l = false) : l.length ≤ 150 ∧ ∀ i, i < l.length → (l.getD i LK.act.dft).b.length ≤ 200 := by
  simp only [hvB, Bool.or_eq_false_iff, decide_eq_false_iff_not] at h
  refine ⟨by omega, fun i hi => hvN_false h.1 i (by omega)⟩

def env_iheavy : Env := ⟨T, psi_esame, pspNil, psc_del, 24, [], none, true⟩
theorem eok_iheavy : PsiOk Try.prog env_iheavy := ⟨psi_esame_ok, pspNil_ok, psc_del_ok⟩
theorem iheavy_fn (l : List Deed) (hl : l.length ≤ 9223372036854775807) : Ctr Try.prog 13 false [lst .act l] (.x (.c (bv (hvB l)))) := by
  refine Ctr_intro (E := env_iheavy) Try.func13 rfl (by decide) rfl rfl (fun M0 W hM0 => ?_)
  refine G_run tOk eok_iheavy 60 (fun _ => none) (fun bs => rfl) (fun bs => ?_) (fun bs => ?_)
  · (repeat' apply And.intro) <;> (intros; first | exact trivial | exact rfl | omega | exact u8_lo _ | exact u8_hi _ | exact u8_in64 _ | exact u8_in63 _ | (simp only [inR, IntKind.bits]; omega) | (simp [inR, IntKind.bits]; done) | (simp [inR, IntKind.bits] at * <;> omega) | (simp_all; done) | (with_reducible assumption) | skip)
  refine G_loop (fun x : Nat => [(0, lst .act l), (3, int .i64 x)]) (fun x => []) (fun x => x ≤ min l.length 150 ∧ hvN l x = false) (fun x => 150 - x) rfl [] 0 ⟨Nat.zero_le _, rfl⟩ ?wk (fun x hx => ?_)
  case wk => (repeat' apply And.intro) <;> (first | exact rfl | exact trivial | omega | refine sigEq ?_ | skip)
  obtain ⟨hx, hr⟩ := hx
  refine G_run tOk eok_iheavy 60 (fun _ => none) (fun bs => rfl) (fun bs => ?_) (fun bs => ?_)
  · (repeat' apply And.intro) <;> (intros; first | exact trivial | exact rfl | omega | exact u8_lo _ | exact u8_hi _ | exact u8_in64 _ | exact u8_in63 _ | (simp only [inR, IntKind.bits]; omega) | (simp [inR, IntKind.bits]; done) | (simp [inR, IntKind.bits] at * <;> omega) | (simp_all; done) | (with_reducible assumption) | skip)
  refine G_cond (b := decide ((x : Int) < l.length) && decide ((x : Int) < 150)) rfl rfl (fun h => ?_) (fun h => ?_)
  · simp only [Bool.and_eq_true, decide_eq_true_eq] at h
    have hk' : x < l.length := by omega
    have fin : ∀ b, decide (200 < ((l.getD x LK.act.dft).b.length : Int)) = b → hvN l (x + 1) = b := fun b hb => by simp only [hvN, hr, hb]; simp
    refine G_run tOk eok_iheavy 60 (fun _ => none) (fun bs => rfl) (fun bs => ?_) (fun bs => ?_)
    · (repeat' apply And.intro) <;> (intros; first | exact trivial | exact rfl | omega | exact u8_lo _ | exact u8_hi _ | exact u8_in64 _ | exact u8_in63 _ | (simp only [inR, IntKind.bits]; omega) | (simp [inR, IntKind.bits]; done) | (simp [inR, IntKind.bits] at * <;> omega) | (simp_all; done) | (with_reducible assumption) | skip)
    refine G_cond (b := decide (200 < ((l.getD x LK.act.dft).b.length : Int))) rfl rfl (fun c1 => ?_) (fun c1 => ?_)
    · have hb := hvN_true (fin true c1) (show x + 1 ≤ min l.length 150 by omega)
      refine G_run tOk eok_iheavy 60 (fun _ => none) (fun bs => rfl) (fun bs => ?_) (fun bs => ?_)
      · (repeat' apply And.intro) <;> (intros; first | exact trivial | exact rfl | omega | exact u8_lo _ | exact u8_hi _ | exact u8_in64 _ | exact u8_in63 _ | (simp only [inR, IntKind.bits]; omega) | (simp [inR, IntKind.bits]; done) | (simp [inR, IntKind.bits] at * <;> omega) | (simp_all; done) | (with_reducible assumption) | skip)
      exact G_ret tOk hM0 rfl rfl ⟨trivial, trivial⟩ (show true = hvB l by simp only [hvB, hb]; rfl)
    · refine G_run tOk eok_iheavy 60 (fun _ => none) (fun bs => rfl) (fun bs => ?_) (fun bs => ?_)
      · (repeat' apply And.intro) <;> (intros; first | exact trivial | exact rfl | omega | exact u8_lo _ | exact u8_hi _ | exact u8_in64 _ | exact u8_in63 _ | (simp only [inR, IntKind.bits]; omega) | (simp [inR, IntKind.bits]; done) | (simp [inR, IntKind.bits] at * <;> omega) | (simp_all; done) | (with_reducible assumption) | skip)
      refine G_lp [] (x + 1) ?ok ?wk2
      case ok => exact ⟨⟨by omega, fin false c1⟩, by omega⟩
      case wk2 => (repeat' apply And.intro) <;> (first | exact rfl | exact trivial | omega | refine sigEq ?_ | skip)
  · have hk' : x = min l.length 150 := by
      simp only [Bool.and_eq_false_iff, decide_eq_false_iff_not] at h; omega
    have hb : hvB l = decide (150 < (l.length : Int)) := by unfold hvB; rw [← hk', hr]; rfl
    refine G_run tOk eok_iheavy 60 (fun _ => none) (fun bs => rfl) (fun bs => ?_) (fun bs => ?_)
    · (repeat' apply And.intro) <;> (intros; first | exact trivial | exact rfl | omega | exact u8_lo _ | exact u8_hi _ | exact u8_in64 _ | exact u8_in63 _ | (simp only [inR, IntKind.bits]; omega) | (simp [inR, IntKind.bits]; done) | (simp [inR, IntKind.bits] at * <;> omega) | (simp_all; done) | (with_reducible assumption) | skip)
    exact G_ret tOk hM0 rfl rfl ⟨trivial, trivial⟩ hb.symm

/-! ### the document's own index -/
def iheavy_s : FSpec
  | [.c (.pv (.lst .act l))] => some ((l.length ≤ 9223372036854775807), false, .x (.c (bv (hvB l))))
  | _ => none
theorem iheavy_s_ok : SpecOk Try.prog 13 iheavy_s := by
  intro args pre sh rv h hp; unfold iheavy_s at h; split at h
  · cases h; have hl := hp; exact iheavy_fn _ hl
  · cases h
def psi_iheavy : FuncId → Option FSpec := psiCons 13 iheavy_s psi_esame
theorem psi_iheavy_ok : PsiFn Try.prog psi_iheavy := psiCons_ok iheavy_s_ok psi_esame_ok
def rH (b : Nat) (v : Value) (l : List Known) : List HB := [.blk b 39 [.own 1 v], .own v 74 .knw l]
def env_rof : Env := ⟨T, psi_iheavy, pspNil, psc_del, 41, [], none, false⟩
theorem eok_rof : PsiOk Try.prog env_rof := ⟨psi_iheavy_ok, pspNil_ok, psc_del_ok⟩
theorem rof (b : Nat) (v : Value) (l : List Known) (bl : List UInt8) (hb : bl.length ≤ 1000000) (hl : l.length ≤ 1000) : CtrH Try.prog 23 [.c (.ptr 0 b 0), lst .byt bl] (rH b v l) (fun _ => True) (fun u : Value => .c (.own 2 u)) (fun u => rH b v l ++ [.own u 28 .ent (findN l (fg bl) l.length)]) := by
  refine CtrH_intro (E := env_rof) Try.func23 rfl (by decide) rfl rfl (fun M0 W hM0 => ?_)
  refine G_run tOk eok_rof 60 (fun _ => none) (fun bs => rfl) (fun bs => ?_) (fun bs => ?_)
  · (repeat' apply And.intro) <;> (intros; first | exact trivial | exact rfl | omega | exact u8_lo _ | exact u8_hi _ | exact u8_in64 _ | exact u8_in63 _ | (simp only [inR, IntKind.bits]; omega) | (simp [inR, IntKind.bits]; done) | (simp [inR, IntKind.bits] at * <;> omega) | (simp_all; done) | (with_reducible assumption) | skip)
  refine G_own 6 28 rfl ?_
  refine G_loop (fun x : Nat × Value => [(0, .c (.ptr 0 b 0)), (5, int .u64 (fg bl)), (6, .c (.own 2 x.2)), (7, int .i64 x.1)]) (fun x => rH b v l ++ [.own x.2 28 .ent (findN l (fg bl) x.1)]) (fun x => x.1 ≤ l.length) (fun x => l.length - x.1) rfl [0, 1, 2] (0, .slice none 0 0) (Nat.zero_le _) ?wk (fun x hx => ?_)
  case wk => (repeat' apply And.intro) <;> (first | exact rfl | exact trivial | omega | refine sigEq ?_ | skip)
  obtain ⟨i, u⟩ := x
  dsimp only at hx ⊢
  have hfl := findN_len l (fg bl) i
  refine G_run tOk eok_rof 60 (fun _ => none) (fun bs => rfl) (fun bs => ?_) (fun bs => ?_)
  · (repeat' apply And.intro) <;> (intros; first | exact trivial | exact rfl | omega | exact u8_lo _ | exact u8_hi _ | exact u8_in64 _ | exact u8_in63 _ | (simp only [inR, IntKind.bits]; omega) | (simp [inR, IntKind.bits]; done) | (simp [inR, IntKind.bits] at * <;> omega) | (simp_all; done) | (with_reducible assumption) | skip)
  refine G_if rfl rfl (fun hk => ?_) (fun hk => ?_)
  · have hk' : i < l.length := by omega
    refine G_run tOk eok_rof 60 (fun _ => none) (fun bs => rfl) (fun bs => ?_) (fun bs => ?_)
    · (repeat' apply And.intro) <;> (intros; first | exact trivial | exact rfl | omega | exact u8_lo _ | exact u8_hi _ | exact u8_in64 _ | exact u8_in63 _ | (simp only [inR, IntKind.bits]; omega) | (simp [inR, IntKind.bits]; done) | (simp [inR, IntKind.bits] at * <;> omega) | (simp_all; done) | (with_reducible assumption) | skip)
    refine G_cond (b := decide ((l.getD i LK.knw.dft).finger = fg bl)) rfl rfl (fun h => ?_) (fun h => ?_)
    · have hF : findN l (fg bl) (i + 1) = findN l (fg bl) i ++ [(l.getD i LK.knw.dft).e] := by simp only [findN, h]
      refine G_run tOk eok_rof 60 (fun _ => none) (fun bs => rfl) (fun bs => ?_) (fun bs => ?_)
      · (repeat' apply And.intro) <;> (intros; first | exact trivial | exact rfl | omega | exact u8_lo _ | exact u8_hi _ | exact u8_in64 _ | exact u8_in63 _ | (simp only [inR, IntKind.bits]; omega) | (simp [inR, IntKind.bits]; done) | (simp [inR, IntKind.bits] at * <;> omega) | (simp_all; done) | (with_reducible assumption) | skip)
      refine G_lp [0, 1, 4] (i + 1, ?u1) ?ok1 ?wk1
      case ok1 => exact ⟨hk', by simp only; omega⟩
      case wk1 =>
        (repeat' apply And.intro) <;> (first | exact rfl | exact trivial | omega | refine sigEq ?_ | skip)
        all_goals first | exact hF.symm | skip
    · have hF : findN l (fg bl) (i + 1) = findN l (fg bl) i := by simp only [findN, h]
      refine G_run tOk eok_rof 60 (fun _ => none) (fun bs => rfl) (fun bs => ?_) (fun bs => ?_)
      · (repeat' apply And.intro) <;> (intros; first | exact trivial | exact rfl | omega | exact u8_lo _ | exact u8_hi _ | exact u8_in64 _ | exact u8_in63 _ | (simp only [inR, IntKind.bits]; omega) | (simp [inR, IntKind.bits]; done) | (simp [inR, IntKind.bits] at * <;> omega) | (simp_all; done) | (with_reducible assumption) | skip)
      refine G_lp [0, 1, 2] (i + 1, u) ?ok2 ?wk2
      case ok2 => exact ⟨hk', by simp only; omega⟩
      case wk2 =>
        (repeat' apply And.intro) <;> (first | exact rfl | exact trivial | omega | refine sigEq ?_ | skip)
        all_goals first | exact hF.symm | skip
  · have hk' : i = l.length := by omega
    subst hk'
    refine G_run tOk eok_rof 60 (fun _ => none) (fun bs => rfl) (fun bs => ?_) (fun bs => ?_)
    · (repeat' apply And.intro) <;> (intros; first | exact trivial | exact rfl | omega | exact u8_lo _ | exact u8_hi _ | exact u8_in64 _ | exact u8_in63 _ | (simp only [inR, IntKind.bits]; omega) | (simp [inR, IntKind.bits]; done) | (simp [inR, IntKind.bits] at * <;> omega) | (simp_all; done) | (with_reducible assumption) | skip)
    refine G_retH rfl tOk rfl rfl ⟨trivial, trivial⟩ u trivial [0, 1, 2] id rfl (by decide) rfl

def env_rforg : Env := ⟨T, psi_iheavy, pspNil, psc_del, 50, [], none, false⟩
theorem eok_rforg : PsiOk Try.prog env_rforg := ⟨psi_iheavy_ok, pspNil_ok, psc_del_ok⟩
theorem rforg (b : Nat) (v : Value) (l : List Known) (e0 e1 e2 e3 e4 : Int) (hl : l.length ≤ 1000) : CtrH Try.prog 24 [.c (.ptr 0 b 0), .g [.pv (i64 e0), .pv (i64 e1), .pv (i64 e2), .pv (i64 e3), .pv (.val (.int .u32 e4))]] (rH b v l) (fun _ => True) (fun _ : Value => bool (decide ((withoutE ⟨e0, e1, e2, e3, e4⟩ l).length < l.length))) (fun u => rH b u (withoutE ⟨e0, e1, e2, e3, e4⟩ l)) := by
  refine CtrH_intro (E := env_rforg) Try.func24 rfl (by decide) rfl rfl (fun M0 W hM0 => ?_)
  generalize hE : (⟨e0, e1, e2, e3, e4⟩ : Entry) = e
  refine G_run tOk eok_rforg 60 (fun _ => none) (fun bs => rfl) (fun bs => ?_) (fun bs => ?_)
  · (repeat' apply And.intro) <;> (intros; first | exact trivial | exact rfl | omega | exact u8_lo _ | exact u8_hi _ | exact u8_in64 _ | exact u8_in63 _ | (simp only [inR, IntKind.bits]; omega) | (simp [inR, IntKind.bits]; done) | (simp [inR, IntKind.bits] at * <;> omega) | (simp_all; done) | (with_reducible assumption) | skip)
  refine G_own 5 74 rfl ?_
  refine G_wkB (ns := [0, 1, 2, 3]) (fs := fun eb => [(0, .c (.ptr 0 b 0)), (3, .c (.ptr 2 eb 0)), (5, .c (.own 3 (.slice none 0 0))), (6, int .i64 0)]) (hs := fun eb => rH b v l ++ [.blk eb 28 ((LK.enc .ent e).map C.pv), .own (.slice none 0 0) 74 .knw []]) ?b1 rfl ?wk0 (fun eb => ?_)
  case wk0 =>
    (repeat' apply And.intro) <;> (first | exact rfl | exact trivial | omega | refine sigEq ?_ | skip)
    all_goals (subst hE; rfl)
  refine G_loop (fun x : Nat × Value => [(0, .c (.ptr 0 b 0)), (3, .c (.ptr 2 eb 0)), (5, .c (.own 3 x.2)), (6, int .i64 x.1)]) (fun x => rH b v l ++ [.blk eb 28 ((LK.enc .ent e).map C.pv), .own x.2 74 .knw (withoutE e (l.take x.1))]) (fun x => x.1 ≤ l.length) (fun x => l.length - x.1) rfl [0, 1, 2, 3] (0, .slice none 0 0) (Nat.zero_le _) ?wk (fun x hx => ?_)
  case wk => (repeat' apply And.intro) <;> (first | exact rfl | exact trivial | omega | refine sigEq ?_ | skip)
  obtain ⟨i, u⟩ := x
  dsimp only at hx ⊢
  have hfl : (withoutE e (l.take i)).length ≤ 1000 := Nat.le_trans (List.length_filter_le _ _) (by rw [List.length_take]; omega)
  refine G_run tOk eok_rforg 60 (fun _ => none) (fun bs => rfl) (fun bs => ?_) (fun bs => ?_)
  · (repeat' apply And.intro) <;> (intros; first | exact trivial | exact rfl | omega | exact u8_lo _ | exact u8_hi _ | exact u8_in64 _ | exact u8_in63 _ | (simp only [inR, IntKind.bits]; omega) | (simp [inR, IntKind.bits]; done) | (simp [inR, IntKind.bits] at * <;> omega) | (simp_all; done) | (with_reducible assumption) | skip)
  refine G_if rfl rfl (fun hk => ?_) (fun hk => ?_)
  · have hk' : i < l.length := by omega
    have hs := withoutE_snoc (e := e) hk'
    refine G_run tOk eok_rforg 60 (fun _ => none) (fun bs => rfl) (fun bs => ?_) (fun bs => ?_)
    · (repeat' apply And.intro) <;> (intros; first | exact trivial | exact rfl | omega | exact u8_lo _ | exact u8_hi _ | exact u8_in64 _ | exact u8_in63 _ | (simp only [inR, IntKind.bits]; omega) | (simp [inR, IntKind.bits]; done) | (simp [inR, IntKind.bits] at * <;> omega) | (simp_all; done) | (with_reducible assumption) | skip)
    refine G_nx 4 rfl ?_
    refine G_draw tOk eok_rforg rfl (fun _ => none) 9 [0, 1, 3, 7, 0, 31, 63, 127, 0, 511] [] rfl (by decide +kernel) (fun bs => rfl) (fun bs => ?_) (fun bs => ?_)
    · (repeat' apply And.intro) <;> (intros; first | exact trivial | exact rfl | omega | exact u8_lo _ | exact u8_hi _ | exact u8_in64 _ | exact u8_in63 _ | (simp only [inR, IntKind.bits]; omega) | (simp [inR, IntKind.bits]; done) | (simp [inR, IntKind.bits] at * <;> omega) | (simp_all; done) | (with_reducible assumption) | skip)
    refine G_run tOk eok_rforg 60 (fun _ => none) (fun bs => rfl) (fun bs => ?_) (fun bs => ?_)
    · (repeat' apply And.intro) <;> (intros; first | exact trivial | exact rfl | omega | exact u8_lo _ | exact u8_hi _ | exact u8_in64 _ | exact u8_in63 _ | (simp only [inR, IntKind.bits]; omega) | (simp [inR, IntKind.bits]; done) | (simp [inR, IntKind.bits] at * <;> omega) | (simp_all; done) | (with_reducible assumption) | skip)
    refine G_cond (b := !isE e (l.getD i LK.knw.dft)) rfl ?hc (fun h => ?_) (fun h => ?_)
    case hc => simp only [isE]; rw [← ent_eq]; rfl
    · have hp : isE e (l.getD i LK.knw.dft) = false := by simpa using h
      rw [hp, if_neg (by simp)] at hs
      refine G_run tOk eok_rforg 60 (fun _ => none) (fun bs => rfl) (fun bs => ?_) (fun bs => ?_)
      · (repeat' apply And.intro) <;> (intros; first | exact trivial | exact rfl | omega | exact u8_lo _ | exact u8_hi _ | exact u8_in64 _ | exact u8_in63 _ | (simp only [inR, IntKind.bits]; omega) | (simp [inR, IntKind.bits]; done) | (simp [inR, IntKind.bits] at * <;> omega) | (simp_all; done) | (with_reducible assumption) | skip)
      refine G_lp [0, 1, 2, 14] (i + 1, ?u1) ?ok1 ?wk1
      case ok1 => exact ⟨hk', by simp only; omega⟩
      case wk1 =>
        (repeat' apply And.intro) <;> (first | exact rfl | exact trivial | omega | refine sigEq ?_ | skip)
        all_goals first | exact hs.symm | skip
    · have hp : isE e (l.getD i LK.knw.dft) = true := by simpa using h
      rw [hp, if_pos rfl, List.append_nil] at hs
      refine G_run tOk eok_rforg 60 (fun _ => none) (fun bs => rfl) (fun bs => ?_) (fun bs => ?_)
      · (repeat' apply And.intro) <;> (intros; first | exact trivial | exact rfl | omega | exact u8_lo _ | exact u8_hi _ | exact u8_in64 _ | exact u8_in63 _ | (simp only [inR, IntKind.bits]; omega) | (simp [inR, IntKind.bits]; done) | (simp [inR, IntKind.bits] at * <;> omega) | (simp_all; done) | (with_reducible assumption) | skip)
      refine G_lp [0, 1, 2, 3] (i + 1, u) ?ok2 ?wk2
      case ok2 => exact ⟨hk', by simp only; omega⟩
      case wk2 =>
        (repeat' apply And.intro) <;> (first | exact rfl | exact trivial | omega | refine sigEq ?_ | skip)
        all_goals first | exact hs.symm | skip
  · have hk' : i = l.length := by omega
    subst hk'
    rw [List.take_length]
    refine G_run tOk eok_rforg 60 (fun _ => none) (fun bs => rfl) (fun bs => ?_) (fun bs => ?_)
    · (repeat' apply And.intro) <;> (intros; first | exact trivial | exact rfl | omega | exact u8_lo _ | exact u8_hi _ | exact u8_in64 _ | exact u8_in63 _ | (simp only [inR, IntKind.bits]; omega) | (simp [inR, IntKind.bits]; done) | (simp [inR, IntKind.bits] at * <;> omega) | (simp_all; done) | (with_reducible assumption) | skip)
    refine G_retH rfl tOk rfl rfl ⟨trivial, trivial⟩ u trivial [0, 3] (fun n => match n with | 0 => 0 | _ => 1) ?_ (by decide) rfl
    simp only [oneA, renA, renC]
    congr 4
    simp
end Go.Proofs.Ytbhemhmdmeomdaa
