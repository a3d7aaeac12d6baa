import Derived.Test.YtgobmfkffhomaaaShtZ
import Derived.Test.YtgobmfkffhomaaaMtQ4
set_option linter.unusedSimpArgs false
set_option linter.unusedVariables false
set_option maxRecDepth 10000
set_option maxHeartbeats 3200000
namespace Go.Proofs.Ytgobmfkffhomaaa
open Go.Mt
def T2 : Tb := tbSw 24 .tbh T
theorem tOk2 : TbOk Try.prog T2 := tbSw_ok tOk (fun e k0 s b z h => by cases h; rfl)

def env_clone2 : Env := ⟨T2, Tt.psi_trright2, pspNil, psc_del, 8, [], none, true⟩
theorem eok_clone2 : PsiOk Try.prog env_clone2 := ⟨Tt.psi_trright2_ok, pspNil_ok, psc_del_ok⟩
theorem clone2_fn (l : List Entry) (hl : l.length ≤ 1000000000) : Ctr Try.prog 69 false [lst .ent l] (.o 62 .ent l) := by
  refine Ctr_intro (E := env_clone2) Try.func69 rfl (by decide) rfl rfl (fun M0 W hM0 => ?_)
  refine G_run tOk2 eok_clone2 60 (fun _ => none) (fun bs => rfl) (fun bs => ?_) (fun bs => ?_)
  · (repeat' apply And.intro) <;> (intros; first | exact trivial | exact rfl | omega | exact u8_lo _ | exact u8_hi _ | exact u8_in64 _ | exact u8_in63 _ | (simp only [inR, IntKind.bits]; omega) | (simp [inR, IntKind.bits]; done) | (simp [inR, IntKind.bits] at * <;> omega) | (simp_all; done) | (with_reducible assumption) | skip)
  refine G_cond rfl rfl (fun h => ?_) (fun h => ?_)
  · have := nilB_nil h
    subst this
    refine G_run tOk2 eok_clone2 60 (fun _ => none) (fun bs => rfl) (fun bs => ?_) (fun bs => ?_)
    · (repeat' apply And.intro) <;> (intros; first | exact trivial | exact rfl | omega | exact u8_lo _ | exact u8_hi _ | exact u8_in64 _ | exact u8_in63 _ | (simp only [inR, IntKind.bits]; omega) | (simp [inR, IntKind.bits]; done) | (simp [inR, IntKind.bits] at * <;> omega) | (simp_all; done) | (with_reducible assumption) | skip)
    exact G_ret tOk2 hM0 rfl rfl ⟨trivial, trivial⟩ rfl
  · refine G_run tOk2 eok_clone2 60 (fun _ => none) (fun bs => rfl) (fun bs => ?_) (fun bs => ?_)
    · (repeat' apply And.intro) <;> (intros; first | exact trivial | exact rfl | omega | exact u8_lo _ | exact u8_hi _ | exact u8_in64 _ | exact u8_in63 _ | (simp only [inR, IntKind.bits]; omega) | (simp [inR, IntKind.bits]; done) | (simp [inR, IntKind.bits] at * <;> omega) | (simp_all; done) | (with_reducible assumption) | skip)
    exact G_ret tOk2 hM0 rfl rfl ⟨trivial, trivial⟩ ⟨rfl, rfl, rfl, sigEq (List.nil_append l)⟩

/-- The leaves that names know. -/
def clone2_s : FSpec
  | [.c (.pv (.lst .ent l))] => some ((l.length ≤ 1000000000), false, .o 62 .ent l)
  | _ => none
theorem clone2_s_ok : SpecOk Try.prog 69 clone2_s := by
  intro args pre sh rv h hp; unfold clone2_s at h; split at h
  · cases h; have hl := hp; exact clone2_fn _ hl
  · cases h
def psi_clone2 : FuncId → Option FSpec := psiCons 69 clone2_s Tt.psi_trright2
theorem psi_clone2_ok : PsiFn Try.prog psi_clone2 := psiCons_ok clone2_s_ok Tt.psi_trright2_ok
def leafT (c : Nat → List Entry) (Lh : List TE) (i : Nat) : Option HB := match Lh[i]? with
  | some (.v u) => some (.own u 62 .ent (c i))
  | _ => none
theorem leafT_own {c : Nat → List Entry} {Lh : List TE} : OwnF (leafT c Lh) := by
  intro i y h ρ
  unfold leafT at h
  split at h
  · cases h; rfl
  · cases h
def AllV (Lh : List TE) : Prop := ∀ i, i < Lh.length → ∃ u, Lh[i]? = some (.v u)
theorem leafT_app {c : Nat → List Entry} {Lh : List TE} (u : Value) (j : Nat) : leafT c (Lh ++ [.v u]) j = if j = Lh.length then some (.own u 62 .ent (c j)) else leafT c Lh j := by
  unfold leafT
  by_cases h : j = Lh.length
  · subst h; simp
  · rw [if_neg h]
    by_cases h2 : j < Lh.length
    · rw [List.getElem?_append_left h2]
    · rw [List.getElem?_eq_none (by simp; omega), List.getElem?_eq_none (by omega)]
theorem AllV.app {Lh : List TE} (h : AllV Lh) (u : Value) : AllV (Lh ++ [.v u]) := by
  intro i hi
  by_cases h2 : i < Lh.length
  · rw [List.getElem?_append_left h2]; exact h i h2
  · have : i = Lh.length := by simp at hi; omega
    subst this; exact ⟨u, by simp⟩

def env_copiedF : Env := ⟨T2, psi_clone2, pspNil, psc_del, 22, [], none, false⟩
theorem eok_copiedF : PsiOk Try.prog env_copiedF := ⟨psi_clone2_ok, pspNil_ok, psc_del_ok⟩
theorem copiedF (t : List (List Entry)) (hl : t.length ≤ 1000000000) (hf : ∀ i, (Tt.leaf t i).length ≤ 1000000000) : CtrF Try.prog 62 [.g [.pv (.lst .tbl t)]] [] (fun x : Value × List TE => x.2.length = t.length ∧ AllV x.2) (fun x => .g [.own 0 x.1]) (fun x => [.own x.1 59 .tbh x.2]) (fun x => leafT (Tt.leaf t) x.2) := by
  refine CtrF_intro (E := env_copiedF) Try.func62 rfl (by decide) rfl rfl (fun M0 W hM0 => ?_)
  refine G_run tOk2 eok_copiedF 60 (fun _ => none) (fun bs => rfl) (fun bs => ?_) (fun bs => ?_)
  · (repeat' apply And.intro) <;> (intros; first | exact trivial | exact rfl | omega | exact u8_lo _ | exact u8_hi _ | exact u8_in64 _ | exact u8_in63 _ | (simp only [inR, IntKind.bits]; omega) | (simp [inR, IntKind.bits]; done) | (simp [inR, IntKind.bits] at * <;> omega) | (simp_all; done) | (with_reducible assumption) | skip)
  refine G_ownB 2 0 59 rfl rfl ?_
  refine G_tblH 3 rfl ?_
  refine G_wkB3 (ns := [0, 1, 2, 3]) (fs := fun b c d => [(2, .c (.ptr 1 c 0)), (3, .c (.ptr 2 d 0)), (7, lst .tbl t), (8, int .i64 t.length), (9, int .i64 0)]) (hs := fun b c d => [.blk b 26 [.pv (.lst .tbl t)], .blk c 26 [.pv (.nil .tbl)], .blk d 26 [.own 3 (.slice none 0 0)], .own (.slice none 0 0) 59 .tbh []]) ?b1 ?c1 ?d1 rfl ?wk0 (fun b c d => ?_)
  case wk0 => (repeat' apply And.intro) <;> (first | exact rfl | exact trivial | omega | refine sigEq ?_ | skip)
  refine G_loopF (fun x : Nat × Value × List TE => [(2, .c (.ptr 1 c 0)), (3, .c (.ptr 2 d 0)), (7, lst .tbl t), (8, int .i64 t.length), (9, int .i64 x.1)]) (fun x => [.blk b 26 [.pv (.lst .tbl t)], .blk c 26 [.pv (.nil .tbl)], .blk d 26 [.own 3 x.2.1], .own x.2.1 59 .tbh x.2.2]) (fun x => leafT (Tt.leaf t) x.2.2) (fun x => x.1 ≤ t.length ∧ x.2.2.length = x.1 ∧ AllV x.2.2) (fun x => t.length - x.1) rfl [0, 1, 2, 3] (fun i => i + 40) (0, .slice none 0 0, []) ⟨Nat.zero_le _, rfl, fun i hi => by simp at hi⟩ ⟨?wk, fun j y h => ?fam0, fun j y h => rfl, fun j j' y z _ _ e => ?inj0⟩ (fun x hx => ?_)
  case wk => (repeat' apply And.intro) <;> (first | exact rfl | exact trivial | omega | refine sigEq ?_ | skip)
  case fam0 => simp [leafT] at h
  case inj0 => omega
  obtain ⟨i, v, Lh⟩ := x
  obtain ⟨hx, hLl, hA⟩ := hx
  dsimp only at hx hLl hA ⊢
  refine G_run tOk2 eok_copiedF 60 (fun _ => none) (fun bs => rfl) (fun bs => ?_) (fun bs => ?_)
  · (repeat' apply And.intro) <;> (intros; first | exact trivial | exact rfl | omega | exact u8_lo _ | exact u8_hi _ | exact u8_in64 _ | exact u8_in63 _ | (simp only [inR, IntKind.bits]; omega) | (simp [inR, IntKind.bits]; done) | (simp [inR, IntKind.bits] at * <;> omega) | (simp_all; done) | (with_reducible assumption) | skip)
  refine G_if rfl rfl (fun hk => ?_) (fun hk => ?_)
  · have hk' : i < t.length := by omega
    have hfx := hf i
    have hlx : t.getD (Int.toNat (i : Int)) LK.tbl.dft = Tt.leaf t i := rfl
    refine G_run tOk2 eok_copiedF 60 (fun _ => none) (fun bs => rfl) (fun bs => ?_) (fun bs => ?_)
    · (repeat' apply And.intro) <;> (intros; first | exact trivial | exact rfl | omega | exact u8_lo _ | exact u8_hi _ | exact u8_in64 _ | exact u8_in63 _ | (simp only [inR, IntKind.bits]; omega) | (simp [inR, IntKind.bits]; done) | (simp [inR, IntKind.bits] at * <;> omega) | (simp_all; done) | (with_reducible assumption) | skip)
    refine G_any rfl rfl _ rfl 8 rfl ?_
    refine GA_fld 0 tOk2 rfl rfl rfl rfl rfl rfl rfl (by decide +kernel) rfl (by decide +kernel) rfl rfl ?_
    refine GA_moveW 2 rfl rfl rfl rfl (by decide +kernel) rfl (by decide +kernel) trivial rfl ?_
    refine GA_two 1 3 rfl ?_ ?_
    · refine GO_op tOk2 eok_copiedF (fun _ => none) rfl rfl rfl (fun u => rfl) (fun u => ?_) (fun w1 => ?_)
      · (repeat' apply And.intro) <;> (intros; first | exact trivial | exact rfl | omega | exact u8_lo _ | exact u8_hi _ | exact u8_in64 _ | exact u8_in63 _ | (simp only [inR, IntKind.bits]; omega) | (simp [inR, IntKind.bits]; done) | (simp [inR, IntKind.bits] at * <;> omega) | (simp_all; done) | (with_reducible assumption) | skip)
      refine GA_one 3 tOk2 eok_copiedF (fun _ => none) rfl rfl rfl rfl (fun u => rfl) (fun u => ?_) (fun w3 => ?_)
      · (repeat' apply And.intro) <;> (intros; first | exact trivial | exact rfl | omega | exact u8_lo _ | exact u8_hi _ | exact u8_in64 _ | exact u8_in63 _ | (simp only [inR, IntKind.bits]; omega) | (simp [inR, IntKind.bits]; done) | (simp [inR, IntKind.bits] at * <;> omega) | (simp_all; done) | (with_reducible assumption) | skip)
      refine GA_one 4 tOk2 eok_copiedF (fun _ => none) rfl rfl rfl rfl (fun u => rfl) (fun u => ?_) (fun w4 => ?_)
      · (repeat' apply And.intro) <;> (intros; first | exact trivial | exact rfl | omega | exact u8_lo _ | exact u8_hi _ | exact u8_in64 _ | exact u8_in63 _ | (simp only [inR, IntKind.bits]; omega) | (simp [inR, IntKind.bits]; done) | (simp [inR, IntKind.bits] at * <;> omega) | (simp_all; done) | (with_reducible assumption) | skip)
      refine GA_one 5 tOk2 eok_copiedF (fun _ => none) rfl rfl rfl rfl (fun u => rfl) (fun u => ?_) (fun w5 => ?_)
      · (repeat' apply And.intro) <;> (intros; first | exact trivial | exact rfl | omega | exact u8_lo _ | exact u8_hi _ | exact u8_in64 _ | exact u8_in63 _ | (simp only [inR, IntKind.bits]; omega) | (simp [inR, IntKind.bits]; done) | (simp [inR, IntKind.bits] at * <;> omega) | (simp_all; done) | (with_reducible assumption) | skip)
      refine GA_one 6 tOk2 eok_copiedF (fun _ => none) rfl rfl rfl rfl (fun u => rfl) (fun u => ?_) (fun w6 => ?_)
      · (repeat' apply And.intro) <;> (intros; first | exact trivial | exact rfl | omega | exact u8_lo _ | exact u8_hi _ | exact u8_in64 _ | exact u8_in63 _ | (simp only [inR, IntKind.bits]; omega) | (simp [inR, IntKind.bits]; done) | (simp [inR, IntKind.bits] at * <;> omega) | (simp_all; done) | (with_reducible assumption) | skip)
      refine GA_one 7 tOk2 eok_copiedF (fun _ => none) rfl rfl rfl rfl (fun u => rfl) (fun u => ?_) (fun w7 => ?_)
      · (repeat' apply And.intro) <;> (intros; first | exact trivial | exact rfl | omega | exact u8_lo _ | exact u8_hi _ | exact u8_in64 _ | exact u8_in63 _ | (simp only [inR, IntKind.bits]; omega) | (simp [inR, IntKind.bits]; done) | (simp [inR, IntKind.bits] at * <;> omega) | (simp_all; done) | (with_reducible assumption) | skip)
      refine GA_done rfl ?_
      refine G_run tOk2 eok_copiedF 60 (fun _ => none) (fun bs => rfl) (fun bs => ?_) (fun bs => ?_)
      · (repeat' apply And.intro) <;> (intros; first | exact trivial | exact rfl | omega | exact u8_lo _ | exact u8_hi _ | exact u8_in64 _ | exact u8_in63 _ | (simp only [inR, IntKind.bits]; omega) | (simp [inR, IntKind.bits]; done) | (simp [inR, IntKind.bits] at * <;> omega) | (simp_all; done) | (with_reducible assumption) | skip)
      refine G_lpF [0, 1, 2, 6] (fun j => if j = Lh.length then 4 else j + 40) (i + 1, ?v1, Lh ++ [.v w3]) ⟨⟨hk', by simp [hLl], hA.app w3⟩, by simp only; omega⟩ ⟨?wk1, fun j y h => ?fam1, fun j y h => ?dis1, fun j j' y z h1 h2 e => ?inj1⟩
      case wk1 => (repeat' apply And.intro) <;> (first | exact rfl | exact trivial | omega | refine sigEq ?_ | skip)
      case dis1 =>
        by_cases e : j = Lh.length
        · simp only [if_pos e]; rfl
        · simp only [if_neg e]; rfl
      case inj1 =>
        by_cases e1 : j = Lh.length <;> by_cases e2 : j' = Lh.length <;> simp only [e1, e2, if_true, if_false] at e ⊢ <;> omega
      case fam1 =>
        have h' := (leafT_app w3 j).symm.trans h
        by_cases e : j = Lh.length
        · rw [if_pos e] at h' ⊢
          rw [e, hLl] at h'
          exact h'
        · rw [if_neg e] at h' ⊢
          exact h'
    · refine GO_op tOk2 eok_copiedF (fun _ => none) rfl rfl rfl (fun u => rfl) (fun u => ?_) (fun w3 => ?_)
      · (repeat' apply And.intro) <;> (intros; first | exact trivial | exact rfl | omega | exact u8_lo _ | exact u8_hi _ | exact u8_in64 _ | exact u8_in63 _ | (simp only [inR, IntKind.bits]; omega) | (simp [inR, IntKind.bits]; done) | (simp [inR, IntKind.bits] at * <;> omega) | (simp_all; done) | (with_reducible assumption) | skip)
      refine GA_two 1 4 rfl ?_ ?_
      · refine GO_op tOk2 eok_copiedF (fun _ => none) rfl rfl rfl (fun u => rfl) (fun u => ?_) (fun w1 => ?_)
        · (repeat' apply And.intro) <;> (intros; first | exact trivial | exact rfl | omega | exact u8_lo _ | exact u8_hi _ | exact u8_in64 _ | exact u8_in63 _ | (simp only [inR, IntKind.bits]; omega) | (simp [inR, IntKind.bits]; done) | (simp [inR, IntKind.bits] at * <;> omega) | (simp_all; done) | (with_reducible assumption) | skip)
        refine GA_one 4 tOk2 eok_copiedF (fun _ => none) rfl rfl rfl rfl (fun u => rfl) (fun u => ?_) (fun w4 => ?_)
        · (repeat' apply And.intro) <;> (intros; first | exact trivial | exact rfl | omega | exact u8_lo _ | exact u8_hi _ | exact u8_in64 _ | exact u8_in63 _ | (simp only [inR, IntKind.bits]; omega) | (simp [inR, IntKind.bits]; done) | (simp [inR, IntKind.bits] at * <;> omega) | (simp_all; done) | (with_reducible assumption) | skip)
        refine GA_one 5 tOk2 eok_copiedF (fun _ => none) rfl rfl rfl rfl (fun u => rfl) (fun u => ?_) (fun w5 => ?_)
        · (repeat' apply And.intro) <;> (intros; first | exact trivial | exact rfl | omega | exact u8_lo _ | exact u8_hi _ | exact u8_in64 _ | exact u8_in63 _ | (simp only [inR, IntKind.bits]; omega) | (simp [inR, IntKind.bits]; done) | (simp [inR, IntKind.bits] at * <;> omega) | (simp_all; done) | (with_reducible assumption) | skip)
        refine GA_one 6 tOk2 eok_copiedF (fun _ => none) rfl rfl rfl rfl (fun u => rfl) (fun u => ?_) (fun w6 => ?_)
        · (repeat' apply And.intro) <;> (intros; first | exact trivial | exact rfl | omega | exact u8_lo _ | exact u8_hi _ | exact u8_in64 _ | exact u8_in63 _ | (simp only [inR, IntKind.bits]; omega) | (simp [inR, IntKind.bits]; done) | (simp [inR, IntKind.bits] at * <;> omega) | (simp_all; done) | (with_reducible assumption) | skip)
        refine GA_one 7 tOk2 eok_copiedF (fun _ => none) rfl rfl rfl rfl (fun u => rfl) (fun u => ?_) (fun w7 => ?_)
        · (repeat' apply And.intro) <;> (intros; first | exact trivial | exact rfl | omega | exact u8_lo _ | exact u8_hi _ | exact u8_in64 _ | exact u8_in63 _ | (simp only [inR, IntKind.bits]; omega) | (simp [inR, IntKind.bits]; done) | (simp [inR, IntKind.bits] at * <;> omega) | (simp_all; done) | (with_reducible assumption) | skip)
        refine GA_done rfl ?_
        refine G_run tOk2 eok_copiedF 60 (fun _ => none) (fun bs => rfl) (fun bs => ?_) (fun bs => ?_)
        · (repeat' apply And.intro) <;> (intros; first | exact trivial | exact rfl | omega | exact u8_lo _ | exact u8_hi _ | exact u8_in64 _ | exact u8_in63 _ | (simp only [inR, IntKind.bits]; omega) | (simp [inR, IntKind.bits]; done) | (simp [inR, IntKind.bits] at * <;> omega) | (simp_all; done) | (with_reducible assumption) | skip)
        refine G_lpF [0, 1, 2, 6] (fun j => if j = Lh.length then 4 else j + 40) (i + 1, ?v2, Lh ++ [.v w3]) ⟨⟨hk', by simp [hLl], hA.app w3⟩, by simp only; omega⟩ ⟨?wk2, fun j y h => ?fam2, fun j y h => ?dis2, fun j j' y z h1 h2 e => ?inj2⟩
        case wk2 => (repeat' apply And.intro) <;> (first | exact rfl | exact trivial | omega | refine sigEq ?_ | skip)
        case dis2 =>
          by_cases e : j = Lh.length
          · simp only [if_pos e]; rfl
          · simp only [if_neg e]; rfl
        case inj2 =>
          by_cases e1 : j = Lh.length <;> by_cases e2 : j' = Lh.length <;> simp only [e1, e2, if_true, if_false] at e ⊢ <;> omega
        case fam2 =>
          have h' := (leafT_app w3 j).symm.trans h
          by_cases e : j = Lh.length
          · rw [if_pos e] at h' ⊢
            rw [e, hLl] at h'
            exact h'
          · rw [if_neg e] at h' ⊢
            exact h'
      · refine GO_op tOk2 eok_copiedF (fun _ => none) rfl rfl rfl (fun u => rfl) (fun u => ?_) (fun w4 => ?_)
        · (repeat' apply And.intro) <;> (intros; first | exact trivial | exact rfl | omega | exact u8_lo _ | exact u8_hi _ | exact u8_in64 _ | exact u8_in63 _ | (simp only [inR, IntKind.bits]; omega) | (simp [inR, IntKind.bits]; done) | (simp [inR, IntKind.bits] at * <;> omega) | (simp_all; done) | (with_reducible assumption) | skip)
        refine GA_one 1 tOk2 eok_copiedF (fun _ => none) rfl rfl rfl rfl (fun u => rfl) (fun u => ?_) (fun w1 => ?_)
        · (repeat' apply And.intro) <;> (intros; first | exact trivial | exact rfl | omega | exact u8_lo _ | exact u8_hi _ | exact u8_in64 _ | exact u8_in63 _ | (simp only [inR, IntKind.bits]; omega) | (simp [inR, IntKind.bits]; done) | (simp [inR, IntKind.bits] at * <;> omega) | (simp_all; done) | (with_reducible assumption) | skip)
        refine GA_one 5 tOk2 eok_copiedF (fun _ => none) rfl rfl rfl rfl (fun u => rfl) (fun u => ?_) (fun w5 => ?_)
        · (repeat' apply And.intro) <;> (intros; first | exact trivial | exact rfl | omega | exact u8_lo _ | exact u8_hi _ | exact u8_in64 _ | exact u8_in63 _ | (simp only [inR, IntKind.bits]; omega) | (simp [inR, IntKind.bits]; done) | (simp [inR, IntKind.bits] at * <;> omega) | (simp_all; done) | (with_reducible assumption) | skip)
        refine GA_one 6 tOk2 eok_copiedF (fun _ => none) rfl rfl rfl rfl (fun u => rfl) (fun u => ?_) (fun w6 => ?_)
        · (repeat' apply And.intro) <;> (intros; first | exact trivial | exact rfl | omega | exact u8_lo _ | exact u8_hi _ | exact u8_in64 _ | exact u8_in63 _ | (simp only [inR, IntKind.bits]; omega) | (simp [inR, IntKind.bits]; done) | (simp [inR, IntKind.bits] at * <;> omega) | (simp_all; done) | (with_reducible assumption) | skip)
        refine GA_one 7 tOk2 eok_copiedF (fun _ => none) rfl rfl rfl rfl (fun u => rfl) (fun u => ?_) (fun w7 => ?_)
        · (repeat' apply And.intro) <;> (intros; first | exact trivial | exact rfl | omega | exact u8_lo _ | exact u8_hi _ | exact u8_in64 _ | exact u8_in63 _ | (simp only [inR, IntKind.bits]; omega) | (simp [inR, IntKind.bits]; done) | (simp [inR, IntKind.bits] at * <;> omega) | (simp_all; done) | (with_reducible assumption) | skip)
        refine GA_done rfl ?_
        refine G_run tOk2 eok_copiedF 60 (fun _ => none) (fun bs => rfl) (fun bs => ?_) (fun bs => ?_)
        · (repeat' apply And.intro) <;> (intros; first | exact trivial | exact rfl | omega | exact u8_lo _ | exact u8_hi _ | exact u8_in64 _ | exact u8_in63 _ | (simp only [inR, IntKind.bits]; omega) | (simp [inR, IntKind.bits]; done) | (simp [inR, IntKind.bits] at * <;> omega) | (simp_all; done) | (with_reducible assumption) | skip)
        refine G_lpF [0, 1, 2, 6] (fun j => if j = Lh.length then 4 else j + 40) (i + 1, ?v3, Lh ++ [.v w3]) ⟨⟨hk', by simp [hLl], hA.app w3⟩, by simp only; omega⟩ ⟨?wk3, fun j y h => ?fam3, fun j y h => ?dis3, fun j j' y z h1 h2 e => ?inj3⟩
        case wk3 => (repeat' apply And.intro) <;> (first | exact rfl | exact trivial | omega | refine sigEq ?_ | skip)
        case dis3 =>
          by_cases e : j = Lh.length
          · simp only [if_pos e]; rfl
          · simp only [if_neg e]; rfl
        case inj3 =>
          by_cases e1 : j = Lh.length <;> by_cases e2 : j' = Lh.length <;> simp only [e1, e2, if_true, if_false] at e ⊢ <;> omega
        case fam3 =>
          have h' := (leafT_app w3 j).symm.trans h
          by_cases e : j = Lh.length
          · rw [if_pos e] at h' ⊢
            rw [e, hLl] at h'
            exact h'
          · rw [if_neg e] at h' ⊢
            exact h'
  · have hk' : i = t.length := by omega
    subst hk'
    refine G_run tOk2 eok_copiedF 60 (fun _ => none) (fun bs => rfl) (fun bs => ?_) (fun bs => ?_)
    · (repeat' apply And.intro) <;> (intros; first | exact trivial | exact rfl | omega | exact u8_lo _ | exact u8_hi _ | exact u8_in64 _ | exact u8_in63 _ | (simp only [inR, IntKind.bits]; omega) | (simp [inR, IntKind.bits]; done) | (simp [inR, IntKind.bits] at * <;> omega) | (simp_all; done) | (with_reducible assumption) | skip)
    refine G_retF rfl tOk2 rfl rfl ⟨rfl, trivial⟩ (v, Lh) ⟨hLl, hA⟩ [3] (fun i => i + 40) (fun _ => 0) rfl (by decide) rfl (fun j y h => ⟨y, h, (leafT_own _ _ h _).symm⟩) (fun j y h => rfl) (fun j j' y z h1 h2 e => ?inj9)
    case inj9 => omega
end Go.Proofs.Ytgobmfkffhomaaa
