import Derived.Test.YtnmomckmpknbkaaTabT
set_option linter.unusedSimpArgs false
set_option linter.unusedVariables false
namespace Go.Proofs.Ytnmomckmpknbkaa
open Go.Mt
theorem Th_fits_ok : PsiFn Try.prog psi_fits := psi_fits_ok
namespace Th
def env_rcop : Env := ⟨T, psi_fits, pspNil, 25, [], none, true⟩
theorem eok_rcop : PsiOk Try.prog env_rcop := ⟨psi_fits_ok, pspNil_ok⟩
theorem rcopyD (t0 : List (List Entry)) (q : Nat) (hl : t0.length ≤ 1000000000) (hf : ∀ i, (leaf t0 i).length ≤ 1000000000) :
    CtrD Try.prog 21 [.g [.pv (.lst .tbl t0)]] 58 (fun v => LL t0 q v t0.length) 30 (leaf t0 q) := by
  refine CtrD_intro (E := env_rcop) Try.func21 rfl (by decide) rfl rfl (fun M0 W hM0 => ?_)
  refine G_run tOk eok_rcop 60 (fun _ => none) (fun bs => rfl) (fun bs => ?_) (fun bs => ?_)
  · (repeat' apply And.intro) <;> (intros; first | exact trivial | exact rfl | omega | exact u8_lo _ | exact u8_hi _ | exact u8_in64 _ | exact u8_in63 _ | (simp only [inR, IntKind.bits]; omega) | (simp [inR, IntKind.bits]; done) | (simp [inR, IntKind.bits] at * <;> omega) | (simp_all; done) | skip)
  refine G_ownB 2 0 58 rfl rfl ?_
  refine G_tblH 3 rfl ?_
  refine G_newnil 30 .ent ?_
  refine G_wkB3 (ns := [0, 1, 2, 3, 4]) (fs := fun b c d => [(1, .c (.ptr 0 b 0)), (2, .c (.ptr 1 c 0)), (3, .c (.ptr 2 d 0)), (4, int .i64 0)]) (hs := fun b c d => [.blk b 24 [.pv (.lst .tbl t0)], .blk c 24 [.pv (.nil .tbl)], .blk d 24 [.own 3 (.slice none 0 0)], .own (.slice none 0 0) 58 .tbh [], .own (.slice none 0 0) 30 .ent []]) ?b1 ?c1 ?d1 rfl ?wk0 (fun b c d => ?_)
  case wk0 => (repeat' apply And.intro) <;> (first | exact rfl | exact trivial | omega | refine sigEq ?_ | skip)
  refine G_loop (fun x : Nat × Value × Value => [(1, .c (.ptr 0 b 0)), (2, .c (.ptr 1 c 0)), (3, .c (.ptr 2 d 0)), (4, int .i64 x.1)]) (fun x => [.blk b 24 [.pv (.lst .tbl t0)], .blk c 24 [.pv (.nil .tbl)], .blk d 24 [.own 3 x.2.1], .own x.2.1 58 .tbh (LL t0 q x.2.2 x.1), .own x.2.2 30 .ent (if q < x.1 then leaf t0 q else [])]) (fun x => x.1 ≤ t0.length) (fun x => t0.length - x.1) rfl [0, 1, 2, 3, 4] (0, .slice none 0 0, .slice none 0 0) (Nat.zero_le _) ?wk (fun x hx => ?_)
  case wk => (repeat' apply And.intro) <;> (first | exact rfl | exact trivial | omega | refine sigEq ?_ | skip)
  obtain ⟨i, V, v⟩ := x
  dsimp only at hx ⊢
  refine G_run tOk eok_rcop 60 (fun _ => none) (fun bs => rfl) (fun bs => ?_) (fun bs => ?_)
  · (repeat' apply And.intro) <;> (intros; first | exact trivial | exact rfl | omega | exact u8_lo _ | exact u8_hi _ | exact u8_in64 _ | exact u8_in63 _ | (simp only [inR, IntKind.bits]; omega) | (simp [inR, IntKind.bits]; done) | (simp [inR, IntKind.bits] at * <;> omega) | (simp_all; done) | skip)
  refine G_if rfl rfl (fun hk => ?_) (fun hk => ?_)
  · have hk' : i < t0.length := by omega
    have hfx := hf i
    have hlx : t0.getD (Int.toNat (i : Int)) LK.tbl.dft = leaf t0 i := rfl
    have hLL := LL_len t0 q v i hx
    refine G_run tOk eok_rcop 60 (fun _ => none) (fun bs => rfl) (fun bs => ?_) (fun bs => ?_)
    · (repeat' apply And.intro) <;> (intros; first | exact trivial | exact rfl | omega | exact u8_lo _ | exact u8_hi _ | exact u8_in64 _ | exact u8_in63 _ | (simp only [inR, IntKind.bits]; omega) | (simp [inR, IntKind.bits]; done) | (simp [inR, IntKind.bits] at * <;> omega) | (simp_all; done) | skip)
    refine G_nx 5 rfl ?_
    refine G_draw tOk eok_rcop rfl (fun _ => none) 10 [0, 1, 0, 0, 8, 0, 56, 120, 252, 508, 1023, 2047, 4095] [(8, 7)] rfl (by decide +kernel) (fun bs => rfl) (fun bs => ?_) (fun bs => ?_)
    · simp only [hlx]
      (repeat' apply And.intro) <;> (intros; first | exact trivial | exact rfl | omega | exact u8_lo _ | exact u8_hi _ | exact u8_in64 _ | exact u8_in63 _ | (simp only [inR, IntKind.bits]; omega) | (simp [inR, IntKind.bits]; done) | (simp [inR, IntKind.bits] at * <;> omega) | (simp_all; done) | skip)
    refine G_run tOk eok_rcop 60 (fun _ => none) (fun bs => rfl) (fun bs => ?_) (fun bs => ?_)
    · simp only [hlx, hLL]
      (repeat' apply And.intro) <;> (intros; first | exact trivial | exact rfl | omega | exact u8_lo _ | exact u8_hi _ | exact u8_in64 _ | exact u8_in63 _ | (simp only [inR, IntKind.bits]; omega) | (simp [inR, IntKind.bits]; done) | (simp [inR, IntKind.bits] at * <;> omega) | (simp_all; done) | skip)
    have hget : ∀ x : TE, (LL t0 q v i ++ [x])[i]? = some x := fun x => by
      rw [List.getElem?_append_right (by omega), hLL]; simp
    have hset : ∀ x y : TE, (LL t0 q v i ++ [x]).set i y = LL t0 q v i ++ [y] := fun x y => by
      rw [List.set_append, hLL, if_neg (by omega)]; simp
    by_cases hq : i = q
    · subst hq
      refine G_lp [0, 1, 2, 15, 13] (i + 1, ?v1, ?v2) ?ok1 ?wk1
      case wk1 =>
        (repeat' apply And.intro) <;> (first | exact rfl | exact trivial | omega | refine sigEq ?_ | skip)
        all_goals first
          | exact (LL_at _ v hk').symm
          | exact (if_pos (Nat.lt_succ_self i)).symm
          | skip
      case ok1 => exact ⟨hk', by simp only; omega⟩
    · refine G_tbhF 15 13 i rfl (hget _) rfl ?_
      refine G_lp [0, 1, 2, 15, 4] (i + 1, ?v3, v) ?ok2 ?wk2
      case wk2 =>
        (repeat' apply And.intro) <;> (first | exact rfl | exact trivial | omega | refine sigEq ?_ | skip)
        all_goals first
          | exact (hset _ _).trans (LL_next v hk' hq).symm
          | (have e : (q < i + 1) = (q < i) := by (apply propext; omega)
             simp only [e])
          | skip
      case ok2 => exact ⟨hk', by simp only; omega⟩
  · have hk' : i = t0.length := by omega
    subst hk'
    refine G_run tOk eok_rcop 60 (fun _ => none) (fun bs => rfl) (fun bs => ?_) (fun bs => ?_)
    · (repeat' apply And.intro) <;> (intros; first | exact trivial | exact rfl | omega | exact u8_lo _ | exact u8_hi _ | exact u8_in64 _ | exact u8_in63 _ | (simp only [inR, IntKind.bits]; omega) | (simp [inR, IntKind.bits]; done) | (simp [inR, IntKind.bits] at * <;> omega) | (simp_all; done) | skip)
    refine G_retD tOk hM0 rfl 3 4 (v := v) rfl ⟨rfl, trivial⟩ rfl ?_
    have : (if q < t0.length then leaf t0 q else []) = leaf t0 q := by
      split
      · rfl
      · rename_i h; exact (leaf_app (by omega)).symm
    exact congrArg (fun l => some (HB.own v 30 .ent l)) this
end Th
end Go.Proofs.Ytnmomckmpknbkaa
