import Derived.Test.YtnmomckmpknbkaaTabC
set_option linter.unusedSimpArgs false
set_option linter.unusedVariables false
namespace Go.Proofs.Ytnmomckmpknbkaa
open Go.Mt

def env_clone : Env := ⟨T, psi_rat, pspNil, 8, [], none, true⟩
theorem eok_clone : PsiOk Try.prog env_clone := ⟨psi_rat_ok, pspNil_ok⟩
theorem clone_fn (l : List Entry) (hl : l.length ≤ 1000000000) : Ctr Try.prog 48 true [lst .ent l] (.x (.c (.lst .ent l))) := by
  refine Ctr_intro (E := env_clone) Try.func48 rfl (by decide) rfl rfl (fun M0 W hM0 => ?_)
  refine G_run tOk eok_clone 60 (fun _ => none) (fun bs => rfl) (fun bs => ?_) (fun bs => ?_)
  · (repeat' apply And.intro) <;> (intros; first | exact trivial | exact rfl | omega | exact u8_lo _ | exact u8_hi _ | exact u8_in64 _ | exact u8_in63 _ | (simp only [inR, IntKind.bits]; omega) | (simp [inR, IntKind.bits]; done) | (simp [inR, IntKind.bits] at * <;> omega) | (simp_all; done) | skip)
  refine G_cond rfl rfl (fun h => ?_) (fun h => ?_)
  · have := nilB_nil h
    subst this
    refine G_run tOk eok_clone 60 (fun _ => none) (fun bs => rfl) (fun bs => ?_) (fun bs => ?_)
    · (repeat' apply And.intro) <;> (intros; first | exact trivial | exact rfl | omega | exact u8_lo _ | exact u8_hi _ | exact u8_in64 _ | exact u8_in63 _ | (simp only [inR, IntKind.bits]; omega) | (simp [inR, IntKind.bits]; done) | (simp [inR, IntKind.bits] at * <;> omega) | (simp_all; done) | skip)
    refine G_ret tOk hM0 rfl rfl ⟨trivial, trivial⟩ ?_
    exact ⟨rfl, rfl⟩
  · refine G_run tOk eok_clone 60 (fun _ => none) (fun bs => rfl) (fun bs => ?_) (fun bs => ?_)
    · (repeat' apply And.intro) <;> (intros; first | exact trivial | exact rfl | omega | exact u8_lo _ | exact u8_hi _ | exact u8_in64 _ | exact u8_in63 _ | (simp only [inR, IntKind.bits]; omega) | (simp [inR, IntKind.bits]; done) | (simp [inR, IntKind.bits] at * <;> omega) | (simp_all; done) | skip)
    refine G_freeze 1 [2] rfl ⟨rfl, trivial⟩ ?_
    exact G_ret tOk hM0 rfl rfl ⟨trivial, trivial⟩ rfl

def clone_s : FSpec
  | [.c (.pv (.lst .ent l))] => some ((l.length ≤ 1000000000), true, .x (.c (.lst .ent l)))
  | _ => none
theorem clone_s_ok : SpecOk Try.prog 48 clone_s := by
  intro args pre sh rv h hp; unfold clone_s at h; split at h
  · cases h; have hl := hp; exact clone_fn _ hl
  · cases h
def psi_clone : FuncId → Option FSpec := psiCons 48 clone_s psi_rat
theorem psi_clone_ok : PsiFn Try.prog psi_clone := psiCons_ok clone_s_ok psi_rat_ok
def env_copied : Env := ⟨T, psi_clone, pspNil, 22, [], none, true⟩
theorem eok_copied : PsiOk Try.prog env_copied := ⟨psi_clone_ok, pspNil_ok⟩
theorem copied_fn (t0 : List (List Entry)) (hl : t0.length ≤ 1000000000) (hf : ∀ i, (leaf t0 i).length ≤ 1000000000) : Ctr Try.prog 33 true [.g [.pv (.lst .tbl t0)]] (.x (.g [.lst .tbl t0])) := by
  refine Ctr_intro (E := env_copied) Try.func33 rfl (by decide) rfl rfl (fun M0 W hM0 => ?_)
  refine G_run tOk eok_copied 60 (fun _ => none) (fun bs => rfl) (fun bs => ?_) (fun bs => ?_)
  · (repeat' apply And.intro) <;> (intros; first | exact trivial | exact rfl | omega | exact u8_lo _ | exact u8_hi _ | exact u8_in64 _ | exact u8_in63 _ | (simp only [inR, IntKind.bits]; omega) | (simp [inR, IntKind.bits]; done) | (simp [inR, IntKind.bits] at * <;> omega) | (simp_all; done) | skip)
  refine G_ownB 2 0 58 rfl rfl ?_
  refine G_wkB3 (ns := [0, 1, 2, 3]) (fs := fun b c d => [(2, .c (.ptr 1 c 0)), (3, .c (.ptr 2 d 0)), (7, lst .tbl t0), (8, int .i64 t0.length), (9, int .i64 0)]) (hs := fun b c d => [.blk b 24 [.pv (.lst .tbl t0)], .blk c 24 [.pv (.nil .tbl)], .blk d 24 [.own 3 (.slice none 0 0)], .own (.slice none 0 0) 58 .tbl []]) ?b1 ?c1 ?d1 rfl ?wk0 (fun b c d => ?_)
  case wk0 => (repeat' apply And.intro) <;> (first | exact rfl | exact trivial | omega | refine sigEq ?_ | skip)
  refine G_loop (fun x : Nat × Value => [(2, .c (.ptr 1 c 0)), (3, .c (.ptr 2 d 0)), (7, lst .tbl t0), (8, int .i64 t0.length), (9, int .i64 x.1)]) (fun x => [.blk b 24 [.pv (.lst .tbl t0)], .blk c 24 [.pv (.nil .tbl)], .blk d 24 [.own 3 x.2], .own x.2 58 .tbl (t0.take x.1)]) (fun x => x.1 ≤ t0.length) (fun x => t0.length - x.1) rfl [0, 1, 2, 3] (0, .slice none 0 0) (Nat.zero_le _) ?wk (fun x hx => ?_)
  case wk => (repeat' apply And.intro) <;> (first | exact rfl | exact trivial | omega | refine sigEq ?_ | skip)
  obtain ⟨i, v⟩ := x
  dsimp only at hx ⊢
  refine G_run tOk eok_copied 60 (fun _ => none) (fun bs => rfl) (fun bs => ?_) (fun bs => ?_)
  · (repeat' apply And.intro) <;> (intros; first | exact trivial | exact rfl | omega | exact u8_lo _ | exact u8_hi _ | exact u8_in64 _ | exact u8_in63 _ | (simp only [inR, IntKind.bits]; omega) | (simp [inR, IntKind.bits]; done) | (simp [inR, IntKind.bits] at * <;> omega) | (simp_all; done) | skip)
  refine G_if rfl rfl (fun hk => ?_) (fun hk => ?_)
  · have hk' : i < t0.length := by omega
    have hfx := hf i
    have hlx : t0.getD (Int.toNat (i : Int)) LK.tbl.dft = leaf t0 i := rfl
    refine G_run tOk eok_copied 60 (fun _ => none) (fun bs => rfl) (fun bs => ?_) (fun bs => ?_)
    · (repeat' apply And.intro) <;> (intros; first | exact trivial | exact rfl | omega | exact u8_lo _ | exact u8_hi _ | exact u8_in64 _ | exact u8_in63 _ | (simp only [inR, IntKind.bits]; omega) | (simp [inR, IntKind.bits]; done) | (simp [inR, IntKind.bits] at * <;> omega) | (simp_all; done) | skip)
    refine G_nx 4 rfl ?_
    refine G_draw tOk eok_copied rfl (fun _ => none) 5 [0, 1, 0, 4, 12, 31, 63, 127] [] rfl (by decide +kernel) (fun bs => rfl) (fun bs => ?_) (fun bs => ?_)
    · simp only [hlx]
      (repeat' apply And.intro) <;> (intros; first | exact trivial | exact rfl | omega | exact u8_lo _ | exact u8_hi _ | exact u8_in64 _ | exact u8_in63 _ | (simp only [inR, IntKind.bits]; omega) | (simp [inR, IntKind.bits]; done) | (simp [inR, IntKind.bits] at * <;> omega) | (simp_all; done) | skip)
    refine G_run tOk eok_copied 60 (fun _ => none) (fun bs => rfl) (fun bs => ?_) (fun bs => ?_)
    · simp only [hlx]
      (repeat' apply And.intro) <;> (intros; first | exact trivial | exact rfl | omega | exact u8_lo _ | exact u8_hi _ | exact u8_in64 _ | exact u8_in63 _ | (simp only [inR, IntKind.bits]; omega) | (simp [inR, IntKind.bits]; done) | (simp [inR, IntKind.bits] at * <;> omega) | (simp_all; done) | skip)
    refine G_lp [0, 1, 2, 9] (i + 1, ?v1) ?ok1 ?wk1
    case ok1 => exact ⟨hk', by simp only; omega⟩
    case wk1 =>
      (repeat' apply And.intro) <;> (first | exact rfl | exact trivial | omega | refine sigEq ?_ | skip)
      all_goals (rw [List.take_add_one]; simp [List.getElem?_eq_getElem hk', hlx, leaf, List.getD])
  · have hk' : i = t0.length := by omega
    subst hk'
    refine G_freezeC 2 0 3 rfl rfl rfl ?_
    refine G_run tOk eok_copied 60 (fun _ => none) (fun bs => rfl) (fun bs => ?_) (fun bs => ?_)
    · (repeat' apply And.intro) <;> (intros; first | exact trivial | exact rfl | omega | exact u8_lo _ | exact u8_hi _ | exact u8_in64 _ | exact u8_in63 _ | (simp only [inR, IntKind.bits]; omega) | (simp [inR, IntKind.bits]; done) | (simp [inR, IntKind.bits] at * <;> omega) | (simp_all; done) | skip)
    refine G_ret tOk hM0 rfl rfl ⟨rfl, trivial⟩ ?_
    exact ⟨congrArg (PV.lst .tbl) List.take_length, trivial⟩

def copied_s : FSpec
  | [.g [.pv (.lst .tbl t0)]] => some ((t0.length ≤ 1000000000) ∧ (∀ i, (leaf t0 i).length ≤ 1000000000), true, .x (.g [.lst .tbl t0]))
  | _ => none
theorem copied_s_ok : SpecOk Try.prog 33 copied_s := by
  intro args pre sh rv h hp; unfold copied_s at h; split at h
  · cases h; obtain ⟨hl, hf⟩ := hp; exact copied_fn _ hl hf
  · cases h
def psi_copied : FuncId → Option FSpec := psiCons 33 copied_s psi_clone
theorem psi_copied_ok : PsiFn Try.prog psi_copied := psiCons_ok copied_s_ok psi_clone_ok
def env_notnone : Env := ⟨T, psi_copied, pspNil, 6, [], none, true⟩
theorem eok_notnone : PsiOk Try.prog env_notnone := ⟨psi_copied_ok, pspNil_ok⟩
theorem notnone_fn (e0 : Int) (e1 : Int) (e2 : Int) (e3 : Int) (e4 : Int)  : Ctr Try.prog 36 false [.g [.pv (.val (.int .i64 e0)), .pv (.val (.int .i64 e1)), .pv (.val (.int .i64 e2)), .pv (.val (.int .i64 e3)), .pv (.val (.int .u32 e4))]] (.x (.c (bv (!noneE e0 e1 e2 e3 e4)))) := by
  refine Ctr_intro (E := env_notnone) Try.func36 rfl (by decide) rfl rfl (fun M0 W hM0 => ?_)
  refine G_run tOk eok_notnone 60 (fun _ => none) (fun bs => rfl) (fun bs => ?_) (fun bs => ?_)
  · (repeat' apply And.intro) <;> (intros; first | exact trivial | exact rfl | omega | exact u8_lo _ | exact u8_hi _ | exact u8_in64 _ | exact u8_in63 _ | (simp only [inR, IntKind.bits]; omega) | (simp [inR, IntKind.bits]; done) | (simp [inR, IntKind.bits] at * <;> omega) | (simp_all; done) | skip)
  exact G_ret tOk hM0 rfl rfl ⟨trivial, trivial⟩ rfl

def notnone_s : FSpec
  | [.g [.pv (.val (.int .i64 e0)), .pv (.val (.int .i64 e1)), .pv (.val (.int .i64 e2)), .pv (.val (.int .i64 e3)), .pv (.val (.int .u32 e4))]] => some (True, false, .x (.c (bv (!noneE e0 e1 e2 e3 e4))))
  | _ => none
theorem notnone_s_ok : SpecOk Try.prog 36 notnone_s := by
  intro args pre sh rv h hp; unfold notnone_s at h; split at h
  · cases h; exact notnone_fn _ _ _ _ _ 
  · cases h
def psi_notnone : FuncId → Option FSpec := psiCons 36 notnone_s psi_copied
theorem psi_notnone_ok : PsiFn Try.prog psi_notnone := psiCons_ok notnone_s_ok psi_copied_ok
def idxN (l : List Entry) : Nat → Int
  | 0 => -1
  | k + 1 => if 0 ≤ idxN l k then idxN l k else match noneX (l.getD k entZ) with | true => -1 | false => k
theorem idxN_some (l : List Entry) : ∀ k, decide (0 ≤ idxN l k) = someN l k := by
  intro k
  induction k with
  | zero => rfl
  | succ k ih =>
    simp only [someN, ← ih, idxN]
    split
    · rename_i h; simp [h]
    · rename_i h
      cases noneX (l.getD k entZ) <;> simp [h]
theorem idxN_stay {l : List Entry} {k j : Nat} (h : 0 ≤ idxN l k) (hj : k ≤ j) : idxN l j = idxN l k := by
  induction j with
  | zero => have : k = 0 := by omega
            rw [this]
  | succ j ih =>
    by_cases e : k = j + 1
    · rw [e]
    · have := ih (by omega)
      simp only [idxN]; rw [if_pos (by rw [this]; exact h), this]
theorem idxN_no {l : List Entry} {k : Nat} (h : someN l k = false) : idxN l k = -1 := by
  cases k with
  | zero => rfl
  | succ k =>
    have h2 := idxN_some l (k + 1)
    rw [h] at h2
    have h3 : ¬ 0 ≤ idxN l (k + 1) := of_decide_eq_false h2
    simp only [idxN] at h3 ⊢
    split
    · rename_i h4; rw [if_pos h4] at h3; exact absurd h4 h3
    · rename_i h4
      rw [if_neg h4] at h3
      cases hn : noneX (l.getD k entZ) with
      | true => rfl
      | false => rw [hn] at h3; simp only at h3; omega

def env_idx : Env := ⟨T, psi_notnone, pspNil, 19, [], none, true⟩
theorem eok_idx : PsiOk Try.prog env_idx := ⟨psi_notnone_ok, pspNil_ok⟩
theorem idx_fn (l : List Entry) (hl : l.length ≤ 1000000000) : Ctr Try.prog 49 false [lst .ent l, .c (.clo 36 [])] (.x (.c (i64 (idxN l l.length)))) := by
  refine Ctr_intro (E := env_idx) Try.func49 rfl (by decide) rfl rfl (fun M0 W hM0 => ?_)
  refine G_run tOk eok_idx 60 (fun _ => none) (fun bs => rfl) (fun bs => ?_) (fun bs => ?_)
  · (repeat' apply And.intro) <;> (intros; first | exact trivial | exact rfl | omega | exact u8_lo _ | exact u8_hi _ | exact u8_in64 _ | exact u8_in63 _ | (simp only [inR, IntKind.bits]; omega) | (simp [inR, IntKind.bits]; done) | (simp [inR, IntKind.bits] at * <;> omega) | (simp_all; done) | skip)
  refine G_loop (fun x : Nat => [(0, lst .ent l), (1, .c (.clo 36 [])), (7, int .i64 l.length), (8, int .i64 x)]) (fun x => []) (fun x => x ≤ l.length ∧ someN l x = false) (fun x => l.length - x) rfl [] 0 ⟨Nat.zero_le _, rfl⟩ ?wk (fun x hx => ?_)
  case wk => (repeat' apply And.intro) <;> (first | exact rfl | exact trivial | omega | refine sigEq ?_ | skip)
  obtain ⟨hx, hs⟩ := hx
  refine G_run tOk eok_idx 60 (fun _ => none) (fun bs => rfl) (fun bs => ?_) (fun bs => ?_)
  · (repeat' apply And.intro) <;> (intros; first | exact trivial | exact rfl | omega | exact u8_lo _ | exact u8_hi _ | exact u8_in64 _ | exact u8_in63 _ | (simp only [inR, IntKind.bits]; omega) | (simp [inR, IntKind.bits]; done) | (simp [inR, IntKind.bits] at * <;> omega) | (simp_all; done) | skip)
  refine G_if rfl rfl (fun hk => ?_) (fun hk => ?_)
  · have hk' : x < l.length := by omega
    refine G_run tOk eok_idx 60 (fun _ => none) (fun bs => rfl) (fun bs => ?_) (fun bs => ?_)
    · (repeat' apply And.intro) <;> (intros; first | exact trivial | exact rfl | omega | exact u8_lo _ | exact u8_hi _ | exact u8_in64 _ | exact u8_in63 _ | (simp only [inR, IntKind.bits]; omega) | (simp [inR, IntKind.bits]; done) | (simp [inR, IntKind.bits] at * <;> omega) | (simp_all; done) | skip)
    refine G_cond (b := !noneX (l.getD x entZ)) rfl rfl (fun h => ?_) (fun h => ?_)
    · refine G_run tOk eok_idx 60 (fun _ => none) (fun bs => rfl) (fun bs => ?_) (fun bs => ?_)
      · (repeat' apply And.intro) <;> (intros; first | exact trivial | exact rfl | omega | exact u8_lo _ | exact u8_hi _ | exact u8_in64 _ | exact u8_in63 _ | (simp only [inR, IntKind.bits]; omega) | (simp [inR, IntKind.bits]; done) | (simp [inR, IntKind.bits] at * <;> omega) | (simp_all; done) | skip)
      refine G_ret tOk hM0 rfl rfl ⟨trivial, trivial⟩ ?_
      have h1 : idxN l (x + 1) = x := by
        simp only [idxN]
        rw [if_neg (by rw [idxN_no hs]; decide)]
        have : noneX (l.getD x entZ) = false := by simpa using h
        rw [this]
      have h2 := idxN_stay (l := l) (k := x + 1) (j := l.length) (by rw [h1]; omega) hk'
      exact ⟨rfl, (h2.trans h1).symm⟩
    · refine G_run tOk eok_idx 60 (fun _ => none) (fun bs => rfl) (fun bs => ?_) (fun bs => ?_)
      · (repeat' apply And.intro) <;> (intros; first | exact trivial | exact rfl | omega | exact u8_lo _ | exact u8_hi _ | exact u8_in64 _ | exact u8_in63 _ | (simp only [inR, IntKind.bits]; omega) | (simp [inR, IntKind.bits]; done) | (simp [inR, IntKind.bits] at * <;> omega) | (simp_all; done) | skip)
      refine G_lp [] (x + 1) ?ok ?wk2
      case ok => exact ⟨⟨hk', by simp only [someN, hs, h]; rfl⟩, by omega⟩
      case wk2 => (repeat' apply And.intro) <;> (first | exact rfl | exact trivial | omega | refine sigEq ?_ | skip)
  · have hk' : x = l.length := by omega
    subst hk'
    refine G_run tOk eok_idx 60 (fun _ => none) (fun bs => rfl) (fun bs => ?_) (fun bs => ?_)
    · (repeat' apply And.intro) <;> (intros; first | exact trivial | exact rfl | omega | exact u8_lo _ | exact u8_hi _ | exact u8_in64 _ | exact u8_in63 _ | (simp only [inR, IntKind.bits]; omega) | (simp [inR, IntKind.bits]; done) | (simp [inR, IntKind.bits] at * <;> omega) | (simp_all; done) | skip)
    exact G_ret tOk hM0 rfl rfl ⟨trivial, trivial⟩ ⟨rfl, (idxN_no hs).symm⟩

def idx_s : FSpec
  | [.c (.pv (.lst .ent l)), .c (.clo 36 [])] => some ((l.length ≤ 1000000000), false, .x (.c (i64 (idxN l l.length))))
  | _ => none
theorem idx_s_ok : SpecOk Try.prog 49 idx_s := by
  intro args pre sh rv h hp; unfold idx_s at h; split at h
  · cases h; have hl := hp; exact idx_fn _ hl
  · cases h
def psi_idx : FuncId → Option FSpec := psiCons 49 idx_s psi_notnone
theorem psi_idx_ok : PsiFn Try.prog psi_idx := psiCons_ok idx_s_ok psi_notnone_ok
def env_contains : Env := ⟨T, psi_idx, pspNil, 9, [], none, true⟩
theorem eok_contains : PsiOk Try.prog env_contains := ⟨psi_idx_ok, pspNil_ok⟩
theorem contains_fn (l : List Entry) (hl : l.length ≤ 1000000000) : Ctr Try.prog 35 false [lst .ent l, .c (.clo 36 [])] (.x (.c (bv (someN l l.length)))) := by
  refine Ctr_intro (E := env_contains) Try.func35 rfl (by decide) rfl rfl (fun M0 W hM0 => ?_)
  refine G_run tOk eok_contains 60 (fun _ => none) (fun bs => rfl) (fun bs => ?_) (fun bs => ?_)
  · (repeat' apply And.intro) <;> (intros; first | exact trivial | exact rfl | omega | exact u8_lo _ | exact u8_hi _ | exact u8_in64 _ | exact u8_in63 _ | (simp only [inR, IntKind.bits]; omega) | (simp [inR, IntKind.bits]; done) | (simp [inR, IntKind.bits] at * <;> omega) | (simp_all; done) | skip)
  exact G_ret tOk hM0 rfl rfl ⟨trivial, trivial⟩ (idxN_some l l.length)

def contains_s : FSpec
  | [.c (.pv (.lst .ent l)), .c (.clo 36 [])] => some ((l.length ≤ 1000000000), false, .x (.c (bv (someN l l.length))))
  | _ => none
theorem contains_s_ok : SpecOk Try.prog 35 contains_s := by
  intro args pre sh rv h hp; unfold contains_s at h; split at h
  · cases h; have hl := hp; exact contains_fn _ hl
  · cases h
def psi_contains : FuncId → Option FSpec := psiCons 35 contains_s psi_idx
theorem psi_contains_ok : PsiFn Try.prog psi_contains := psiCons_ok contains_s_ok psi_idx_ok
def anyN (t : List (List Entry)) (e : Entry) : Nat → Bool
  | 0 => false
  | k + 1 => anyN t e k || (mayX k e && rightT t 4096 k)

def env_anyr : Env := ⟨T, psi_contains, pspNil, 18, [], none, true⟩
theorem eok_anyr : PsiOk Try.prog env_anyr := ⟨psi_contains_ok, pspNil_ok⟩
theorem anyr_fn (t0 : List (List Entry)) (e0 : Int) (e1 : Int) (e2 : Int) (e3 : Int) (e4 : Int) (hl : t0.length ≤ 1000000000) (hf : ∀ i, (leaf t0 i).length ≤ 1000000000) : Ctr Try.prog 34 false [.g [.pv (.lst .tbl t0)], .g [.pv (.val (.int .i64 e0)), .pv (.val (.int .i64 e1)), .pv (.val (.int .i64 e2)), .pv (.val (.int .i64 e3)), .pv (.val (.int .u32 e4))]] (.x (.c (bv (anyN t0 ⟨e0, e1, e2, e3, e4⟩ 7)))) := by
  refine Ctr_intro (E := env_anyr) Try.func34 rfl (by decide) rfl rfl (fun M0 W hM0 => ?_)
  refine G_run tOk eok_anyr 60 (fun _ => none) (fun bs => rfl) (fun bs => ?_) (fun bs => ?_)
  · (repeat' apply And.intro) <;> (intros; first | exact trivial | exact rfl | omega | exact u8_lo _ | exact u8_hi _ | exact u8_in64 _ | exact u8_in63 _ | (simp only [inR, IntKind.bits]; omega) | (simp [inR, IntKind.bits]; done) | (simp [inR, IntKind.bits] at * <;> omega) | (simp_all; done) | skip)
  refine G_wkB2 (ns := [0, 1]) (fs := fun b c => [(2, .c (.ptr 0 b 0)), (3, .c (.ptr 1 c 0)), (6, int .i64 0)]) (hs := fun b c => [.blk b 24 [.pv (.lst .tbl t0)], .blk c 30 [.pv (i64 e0), .pv (i64 e1), .pv (i64 e2), .pv (i64 e3), .pv (.val (.int .u32 e4))]]) ?b1 ?c1 rfl ?wk0 (fun b c => ?_)
  case wk0 => (repeat' apply And.intro) <;> (first | exact rfl | exact trivial | omega | refine sigEq ?_ | skip)
  refine G_loop (fun x : Nat => [(2, .c (.ptr 0 b 0)), (3, .c (.ptr 1 c 0)), (6, int .i64 x)]) (fun x => [.blk b 24 [.pv (.lst .tbl t0)], .blk c 30 [.pv (i64 e0), .pv (i64 e1), .pv (i64 e2), .pv (i64 e3), .pv (.val (.int .u32 e4))]]) (fun x => x ≤ 7 ∧ anyN t0 ⟨e0, e1, e2, e3, e4⟩ x = false) (fun x => 7 - x) rfl [0, 1] 0 ⟨Nat.zero_le _, rfl⟩ ?wk (fun x hx => ?_)
  case wk => (repeat' apply And.intro) <;> (first | exact rfl | exact trivial | omega | refine sigEq ?_ | skip)
  obtain ⟨hx, hs⟩ := hx
  refine G_run tOk eok_anyr 60 (fun _ => none) (fun bs => rfl) (fun bs => ?_) (fun bs => ?_)
  · (repeat' apply And.intro) <;> (intros; first | exact trivial | exact rfl | omega | exact u8_lo _ | exact u8_hi _ | exact u8_in64 _ | exact u8_in63 _ | (simp only [inR, IntKind.bits]; omega) | (simp [inR, IntKind.bits]; done) | (simp [inR, IntKind.bits] at * <;> omega) | (simp_all; done) | skip)
  refine G_if rfl rfl (fun hk => ?_) (fun hk => ?_)
  · have hk' : x < 7 := by omega
    have hT : anyN t0 ⟨e0, e1, e2, e3, e4⟩ (x + 1) = true → anyN t0 ⟨e0, e1, e2, e3, e4⟩ 7 = true := by
      intro h
      have hx7 : x = 0 ∨ x = 1 ∨ x = 2 ∨ x = 3 ∨ x = 4 ∨ x = 5 ∨ x = 6 := by omega
      simp only [anyN, Bool.or_eq_true] at h ⊢
      rcases hx7 with rfl | rfl | rfl | rfl | rfl | rfl | rfl <;> simp only [anyN, Bool.or_eq_true] at h ⊢ <;> (revert h; generalize (_ ∨ _ : Prop) = q; intro h; first | exact h | exact .inl h | exact .inl (.inl h) | exact .inl (.inl (.inl h)) | exact .inl (.inl (.inl (.inl h))) | exact .inl (.inl (.inl (.inl (.inl h)))) | exact .inl (.inl (.inl (.inl (.inl (.inl h))))))
    have hmd : mayE e0 e1 e2 e3 e4 x = mayX x ⟨e0, e1, e2, e3, e4⟩ := rfl
    cases hm : mayX x ⟨e0, e1, e2, e3, e4⟩ with
    | true =>
      refine G_run tOk eok_anyr 60 (fun _ => some true) (fun bs => rfl) (fun bs => ?_) (fun bs => ?_)
      · (repeat' apply And.intro) <;> (intros; first | exact trivial | exact rfl | omega | exact u8_lo _ | exact u8_hi _ | exact u8_in64 _ | exact u8_in63 _ | (simp only [inR, IntKind.bits]; omega) | (simp [inR, IntKind.bits, hmd, hm]; done) | (simp [inR, IntKind.bits, hmd, hm] at * <;> omega) | (simp_all; done) | skip)
      refine G_cond (b := mayX x ⟨e0, e1, e2, e3, e4⟩ && rightT t0 4096 x) rfl rfl (fun h => ?_) (fun h => ?_)
      · refine G_run tOk eok_anyr 60 (fun _ => none) (fun bs => rfl) (fun bs => ?_) (fun bs => ?_)
        · (repeat' apply And.intro) <;> (intros; first | exact trivial | exact rfl | omega | exact u8_lo _ | exact u8_hi _ | exact u8_in64 _ | exact u8_in63 _ | (simp only [inR, IntKind.bits]; omega) | (simp [inR, IntKind.bits]; done) | (simp [inR, IntKind.bits] at * <;> omega) | (simp_all; done) | skip)
        refine G_ret tOk hM0 rfl rfl ⟨trivial, trivial⟩ ?_
        refine (hT ?_).symm
        simp only [anyN, hs, h]; rfl
      · refine G_run tOk eok_anyr 60 (fun _ => none) (fun bs => rfl) (fun bs => ?_) (fun bs => ?_)
        · (repeat' apply And.intro) <;> (intros; first | exact trivial | exact rfl | omega | exact u8_lo _ | exact u8_hi _ | exact u8_in64 _ | exact u8_in63 _ | (simp only [inR, IntKind.bits]; omega) | (simp [inR, IntKind.bits]; done) | (simp [inR, IntKind.bits] at * <;> omega) | (simp_all; done) | skip)
        refine G_lp [0, 1] (x + 1) ?ok ?wk2
        case ok => exact ⟨⟨hk', by simp only [anyN, hs, h]; rfl⟩, by omega⟩
        case wk2 => (repeat' apply And.intro) <;> (first | exact rfl | exact trivial | omega | refine sigEq ?_ | skip)
    | false =>
      refine G_run tOk eok_anyr 60 (fun _ => some false) (fun bs => rfl) (fun bs => ?_) (fun bs => ?_)
      · (repeat' apply And.intro) <;> (intros; first | exact trivial | exact rfl | omega | exact u8_lo _ | exact u8_hi _ | exact u8_in64 _ | exact u8_in63 _ | (simp only [inR, IntKind.bits]; omega) | (simp [inR, IntKind.bits, hmd, hm]; done) | (simp [inR, IntKind.bits, hmd, hm] at * <;> omega) | (simp_all; done) | skip)
      refine G_els rfl rfl ?c2 ?_
      case c2 => simp [hmd, hm]
      refine G_run tOk eok_anyr 60 (fun _ => none) (fun bs => rfl) (fun bs => ?_) (fun bs => ?_)
      · (repeat' apply And.intro) <;> (intros; first | exact trivial | exact rfl | omega | exact u8_lo _ | exact u8_hi _ | exact u8_in64 _ | exact u8_in63 _ | (simp only [inR, IntKind.bits]; omega) | (simp [inR, IntKind.bits]; done) | (simp [inR, IntKind.bits] at * <;> omega) | (simp_all; done) | skip)
      refine G_lp [0, 1] (x + 1) ?ok3 ?wk3
      case ok3 => exact ⟨⟨hk', by simp only [anyN, hs, hm]; rfl⟩, by omega⟩
      case wk3 => (repeat' apply And.intro) <;> (first | exact rfl | exact trivial | omega | refine sigEq ?_ | skip)
  · have hk' : x = 7 := by omega
    subst hk'
    refine G_run tOk eok_anyr 60 (fun _ => none) (fun bs => rfl) (fun bs => ?_) (fun bs => ?_)
    · (repeat' apply And.intro) <;> (intros; first | exact trivial | exact rfl | omega | exact u8_lo _ | exact u8_hi _ | exact u8_in64 _ | exact u8_in63 _ | (simp only [inR, IntKind.bits]; omega) | (simp [inR, IntKind.bits]; done) | (simp [inR, IntKind.bits] at * <;> omega) | (simp_all; done) | skip)
    exact G_ret tOk hM0 rfl rfl ⟨trivial, trivial⟩ hs.symm
def anyr_s : FSpec
  | [.g [.pv (.lst .tbl t0)], .g [.pv (.val (.int .i64 e0)), .pv (.val (.int .i64 e1)), .pv (.val (.int .i64 e2)), .pv (.val (.int .i64 e3)), .pv (.val (.int .u32 e4))]] => some ((t0.length ≤ 1000000000) ∧ (∀ i, (leaf t0 i).length ≤ 1000000000), false, .x (.c (bv (anyN t0 ⟨e0, e1, e2, e3, e4⟩ 7))))
  | _ => none
theorem anyr_s_ok : SpecOk Try.prog 34 anyr_s := by
  intro args pre sh rv h hp; unfold anyr_s at h; split at h
  · cases h; obtain ⟨hl, hf⟩ := hp; exact anyr_fn _ _ _ _ _ _ hl hf
  · cases h
def psi_anyr : FuncId → Option FSpec := psiCons 34 anyr_s psi_contains
theorem psi_anyr_ok : PsiFn Try.prog psi_anyr := psiCons_ok anyr_s_ok psi_contains_ok
end Go.Proofs.Ytnmomckmpknbkaa
