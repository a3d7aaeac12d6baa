import Derived.Test.YtnmomckmpknbkaaTabD
import Derived.Test.YtnmomckmpknbkaaMtQ4
set_option linter.unusedSimpArgs false
set_option linter.unusedVariables false
namespace Go.Proofs.Ytnmomckmpknbkaa
open Go.Mt
/-- The types, a table's leaves known one by one. -/
def Th.T : Tb := tbl (tyl.set 22 (some ⟨.slc 58 .tbh, 1, 24, [.pv (.nil .tbh)]⟩))
theorem Th.tOk : TbOk Try.prog Th.T := tbl_ok (by kernel_rfl)
namespace Th

def env_clone : Env := ⟨T, psi_anyr, pspNil, 8, [], none, true⟩
theorem eok_clone : PsiOk Try.prog env_clone := ⟨psi_anyr_ok, pspNil_ok⟩
theorem clone_fn (l : List Entry) (hl : l.length ≤ 1000000000) : Ctr Try.prog 48 false [lst .ent l] (.o 30 .ent l) := by
  refine Ctr_intro (E := env_clone) Try.func48 rfl (by decide) rfl rfl (fun M0 W hM0 => ?_)
  refine G_run tOk eok_clone 60 (fun _ => none) (fun bs => rfl) (fun bs => ?_) (fun bs => ?_)
  · (repeat' apply And.intro) <;> (intros; first | exact trivial | exact rfl | omega | exact u8_lo _ | exact u8_hi _ | exact u8_in64 _ | exact u8_in63 _ | (simp only [inR, IntKind.bits]; omega) | (simp [inR, IntKind.bits]; done) | (simp [inR, IntKind.bits] at * <;> omega) | (simp_all; done) | skip)
  refine G_cond rfl rfl (fun h => ?_) (fun h => ?_)
  · have := nilB_nil h
    subst this
    refine G_run tOk eok_clone 60 (fun _ => none) (fun bs => rfl) (fun bs => ?_) (fun bs => ?_)
    · (repeat' apply And.intro) <;> (intros; first | exact trivial | exact rfl | omega | exact u8_lo _ | exact u8_hi _ | exact u8_in64 _ | exact u8_in63 _ | (simp only [inR, IntKind.bits]; omega) | (simp [inR, IntKind.bits]; done) | (simp [inR, IntKind.bits] at * <;> omega) | (simp_all; done) | skip)
    exact G_ret tOk hM0 rfl rfl ⟨trivial, trivial⟩ rfl
  · refine G_run tOk eok_clone 60 (fun _ => none) (fun bs => rfl) (fun bs => ?_) (fun bs => ?_)
    · (repeat' apply And.intro) <;> (intros; first | exact trivial | exact rfl | omega | exact u8_lo _ | exact u8_hi _ | exact u8_in64 _ | exact u8_in63 _ | (simp only [inR, IntKind.bits]; omega) | (simp [inR, IntKind.bits]; done) | (simp [inR, IntKind.bits] at * <;> omega) | (simp_all; done) | skip)
    exact G_ret tOk hM0 rfl rfl ⟨trivial, trivial⟩ ⟨rfl, rfl, rfl, sigEq rfl⟩

/-- The leaves up to the i-th, the q-th by its name. -/
def clone_s : FSpec
  | [.c (.pv (.lst .ent l))] => some ((l.length ≤ 1000000000), false, .o 30 .ent l)
  | _ => none
theorem clone_s_ok : SpecOk Try.prog 48 clone_s := by
  intro args pre sh rv h hp; unfold clone_s at h; split at h
  · cases h; have hl := hp; exact clone_fn _ hl
  · cases h
def psi_clone : FuncId → Option FSpec := psiCons 48 clone_s psi_anyr
theorem psi_clone_ok : PsiFn Try.prog psi_clone := psiCons_ok clone_s_ok psi_anyr_ok
def LL (t : List (List Entry)) (q : Nat) (v : Value) (i : Nat) : List TE := ((t.take i).map .l).set q (.v v)
theorem LL_next {t : List (List Entry)} {q i : Nat} (v : Value) (hi : i < t.length) (hq : i ≠ q) : LL t q v (i + 1) = LL t q v i ++ [.l (leaf t i)] := by
  have e : t.take (i + 1) = t.take i ++ [leaf t i] := by
    rw [List.take_add_one, List.getElem?_eq_getElem hi]; simp [leaf, List.getD, List.getElem?_eq_getElem hi]
  unfold LL
  rw [e, List.map_append]
  have hlen : ((t.take i).map TE.l).length = i := by simp; omega
  rw [List.set_append]
  split
  · rfl
  · rename_i h
    rw [hlen] at h ⊢
    have h2 : q - i ≠ 0 := by omega
    rw [List.set_eq_of_length_le (l := List.map TE.l [leaf t i]) (by simp; omega), List.set_eq_of_length_le (by rw [hlen]; omega)]
    rfl
theorem LL_at {t : List (List Entry)} {q : Nat} (v v' : Value) (hq : q < t.length) : LL t q v (q + 1) = LL t q v' q ++ [.v v] := by
  have e : t.take (q + 1) = t.take q ++ [leaf t q] := by
    rw [List.take_add_one, List.getElem?_eq_getElem hq]; simp [leaf, List.getD, List.getElem?_eq_getElem hq]
  unfold LL
  rw [e, List.map_append]
  have hlen : ((t.take q).map TE.l).length = q := by simp; omega
  rw [List.set_append, hlen, if_neg (by omega), List.set_eq_of_length_le (i := q) (by rw [hlen]; exact Nat.le_refl _)]
  simp
theorem LL_len (t : List (List Entry)) (q : Nat) (v : Value) (i : Nat) (h : i ≤ t.length) : (LL t q v i).length = i := by simp [LL]; omega

def env_cop : Env := ⟨T, psi_clone, pspNil, 22, [], none, true⟩
theorem eok_cop : PsiOk Try.prog env_cop := ⟨psi_clone_ok, pspNil_ok⟩
theorem copiedD (t0 : List (List Entry)) (q : Nat) (hl : t0.length ≤ 1000000000) (hf : ∀ i, (leaf t0 i).length ≤ 1000000000) :
    CtrD Try.prog 33 [.g [.pv (.lst .tbl t0)]] 58 (fun v => LL t0 q v t0.length) 30 (leaf t0 q) := by
  refine CtrD_intro (E := env_cop) Try.func33 rfl (by decide) rfl rfl (fun M0 W hM0 => ?_)
  refine G_run tOk eok_cop 60 (fun _ => none) (fun bs => rfl) (fun bs => ?_) (fun bs => ?_)
  · (repeat' apply And.intro) <;> (intros; first | exact trivial | exact rfl | omega | exact u8_lo _ | exact u8_hi _ | exact u8_in64 _ | exact u8_in63 _ | (simp only [inR, IntKind.bits]; omega) | (simp [inR, IntKind.bits]; done) | (simp [inR, IntKind.bits] at * <;> omega) | (simp_all; done) | skip)
  refine G_ownB 2 0 58 rfl rfl ?_
  refine G_tblH 3 rfl ?_
  refine G_newnil 30 .ent ?_
  refine G_wkB3 (ns := [0, 1, 2, 3, 4]) (fs := fun b c d => [(2, .c (.ptr 1 c 0)), (3, .c (.ptr 2 d 0)), (7, lst .tbl t0), (8, int .i64 t0.length), (9, int .i64 0)]) (hs := fun b c d => [.blk b 24 [.pv (.lst .tbl t0)], .blk c 24 [.pv (.nil .tbl)], .blk d 24 [.own 3 (.slice none 0 0)], .own (.slice none 0 0) 58 .tbh [], .own (.slice none 0 0) 30 .ent []]) ?b1 ?c1 ?d1 rfl ?wk0 (fun b c d => ?_)
  case wk0 => (repeat' apply And.intro) <;> (first | exact rfl | exact trivial | omega | refine sigEq ?_ | skip)
  refine G_loop (fun x : Nat × Value × Value => [(2, .c (.ptr 1 c 0)), (3, .c (.ptr 2 d 0)), (7, lst .tbl t0), (8, int .i64 t0.length), (9, int .i64 x.1)]) (fun x => [.blk b 24 [.pv (.lst .tbl t0)], .blk c 24 [.pv (.nil .tbl)], .blk d 24 [.own 3 x.2.1], .own x.2.1 58 .tbh (LL t0 q x.2.2 x.1), .own x.2.2 30 .ent (if q < x.1 then leaf t0 q else [])]) (fun x => x.1 ≤ t0.length) (fun x => t0.length - x.1) rfl [0, 1, 2, 3, 4] (0, .slice none 0 0, .slice none 0 0) (Nat.zero_le _) ?wk (fun x hx => ?_)
  case wk => (repeat' apply And.intro) <;> (first | exact rfl | exact trivial | omega | refine sigEq ?_ | skip)
  obtain ⟨i, V, v⟩ := x
  dsimp only at hx ⊢
  refine G_run tOk eok_cop 60 (fun _ => none) (fun bs => rfl) (fun bs => ?_) (fun bs => ?_)
  · (repeat' apply And.intro) <;> (intros; first | exact trivial | exact rfl | omega | exact u8_lo _ | exact u8_hi _ | exact u8_in64 _ | exact u8_in63 _ | (simp only [inR, IntKind.bits]; omega) | (simp [inR, IntKind.bits]; done) | (simp [inR, IntKind.bits] at * <;> omega) | (simp_all; done) | skip)
  refine G_if rfl rfl (fun hk => ?_) (fun hk => ?_)
  · have hk' : i < t0.length := by omega
    have hfx := hf i
    have hlx : t0.getD (Int.toNat (i : Int)) LK.tbl.dft = leaf t0 i := rfl
    have hLL := LL_len t0 q v i hx
    refine G_run tOk eok_cop 60 (fun _ => none) (fun bs => rfl) (fun bs => ?_) (fun bs => ?_)
    · (repeat' apply And.intro) <;> (intros; first | exact trivial | exact rfl | omega | exact u8_lo _ | exact u8_hi _ | exact u8_in64 _ | exact u8_in63 _ | (simp only [inR, IntKind.bits]; omega) | (simp [inR, IntKind.bits]; done) | (simp [inR, IntKind.bits] at * <;> omega) | (simp_all; done) | skip)
    refine G_nx 5 rfl ?_
    refine G_draw tOk eok_cop rfl (fun _ => none) 5 [0, 1, 0, 4, 12, 31, 63, 127] [] rfl (by decide +kernel) (fun bs => rfl) (fun bs => ?_) (fun bs => ?_)
    · simp only [hlx]
      (repeat' apply And.intro) <;> (intros; first | exact trivial | exact rfl | omega | exact u8_lo _ | exact u8_hi _ | exact u8_in64 _ | exact u8_in63 _ | (simp only [inR, IntKind.bits]; omega) | (simp [inR, IntKind.bits]; done) | (simp [inR, IntKind.bits] at * <;> omega) | (simp_all; done) | skip)
    refine G_run tOk eok_cop 60 (fun _ => none) (fun bs => rfl) (fun bs => ?_) (fun bs => ?_)
    · simp only [hlx, hLL]
      (repeat' apply And.intro) <;> (intros; first | exact trivial | exact rfl | omega | exact u8_lo _ | exact u8_hi _ | exact u8_in64 _ | exact u8_in63 _ | (simp only [inR, IntKind.bits]; omega) | (simp [inR, IntKind.bits]; done) | (simp [inR, IntKind.bits] at * <;> omega) | (simp_all; done) | skip)
    have hget : ∀ x : TE, (LL t0 q v i ++ [x])[i]? = some x := fun x => by
      rw [List.getElem?_append_right (by omega), hLL]; simp
    have hset : ∀ x y : TE, (LL t0 q v i ++ [x]).set i y = LL t0 q v i ++ [y] := fun x y => by
      rw [List.set_append, hLL, if_neg (by omega)]; simp
    by_cases hq : i = q
    · subst hq
      refine G_lp [0, 1, 2, 10, 8] (i + 1, ?v1, ?v2) ?ok1 ?wk1
      case wk1 =>
        (repeat' apply And.intro) <;> (first | exact rfl | exact trivial | omega | refine sigEq ?_ | skip)
        all_goals first
          | exact (LL_at _ v hk').symm
          | exact (if_pos (Nat.lt_succ_self i)).symm
          | skip
      case ok1 => exact ⟨hk', by simp only; omega⟩
    · refine G_tbhF 10 8 i rfl (hget _) rfl ?_
      refine G_lp [0, 1, 2, 10, 4] (i + 1, ?v3, v) ?ok2 ?wk2
      case wk2 =>
        (repeat' apply And.intro) <;> (first | exact rfl | exact trivial | omega | refine sigEq ?_ | skip)
        all_goals first
          | exact (hset _ _).trans (LL_next v hk' hq).symm
          | (have e : (q < i + 1) = (q < i) := by (apply propext; omega)
             simp only [e])
          | skip
      case ok2 => exact ⟨hk', by simp only; omega⟩
  · have hk' : i = t0.length := by omega
    subst hk'
    refine G_run tOk eok_cop 60 (fun _ => none) (fun bs => rfl) (fun bs => ?_) (fun bs => ?_)
    · (repeat' apply And.intro) <;> (intros; first | exact trivial | exact rfl | omega | exact u8_lo _ | exact u8_hi _ | exact u8_in64 _ | exact u8_in63 _ | (simp only [inR, IntKind.bits]; omega) | (simp [inR, IntKind.bits]; done) | (simp [inR, IntKind.bits] at * <;> omega) | (simp_all; done) | skip)
    refine G_retD tOk hM0 rfl 3 4 (v := v) rfl ⟨rfl, trivial⟩ rfl ?_
    have : (if q < t0.length then leaf t0 q else []) = leaf t0 q := by
      split
      · rfl
      · rename_i h; exact (leaf_app (by omega)).symm
    exact congrArg (fun l => some (HB.own v 30 .ent l)) this
end Th
end Go.Proofs.Ytnmomckmpknbkaa
