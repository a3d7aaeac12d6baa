import Derived.Test.YtnmomckmpknbkaaTabV
set_option linter.unusedSimpArgs false
set_option linter.unusedVariables false
namespace Go.Proofs.Ytnmomckmpknbkaa
open Go.Mt
namespace Th
def psi_rh : FuncId → Option FSpec := psiCons 21 hid_s psi_fits
theorem psi_rh_ok : PsiFn Try.prog psi_rh := psiCons_ok hid_ok psi_fits_ok

def env_rset : Env := ⟨T, psi_rh, pspNil, 110, [], none, true⟩
theorem eok_rset : PsiOk Try.prog env_rset := ⟨psi_rh_ok, pspNil_ok⟩
theorem rset_fn (t0 : List (List Entry)) (i : Int) (e0 : Int) (e1 : Int) (e2 : Int) (e3 : Int) (e4 : Int) (hl : t0.length ≤ 1000000000) (hf : ∀ i, (leaf t0 i).length ≤ 1000000000) : Ctr Try.prog 23 true [.g [.pv (.lst .tbl t0)], int .i64 i, .g [.pv (.val (.int .i64 e0)), .pv (.val (.int .i64 e1)), .pv (.val (.int .i64 e2)), .pv (.val (.int .i64 e3)), .pv (.val (.int .u32 e4))]] (.x (.g [.lst .tbl (setT t0 i ⟨e0, e1, e2, e3, e4⟩)])) := by
  refine Ctr_intro (E := env_rset) Try.func23 rfl (by decide) rfl rfl (fun M0 W hM0 => ?_)
  refine G_run tOk eok_rset 60 (fun _ => none) (fun bs => rfl) (fun bs => ?_) (fun bs => ?_)
  · (repeat' apply And.intro) <;> (intros; first | exact trivial | exact rfl | omega | exact u8_lo _ | exact u8_hi _ | exact u8_in64 _ | exact u8_in63 _ | (simp only [inR, IntKind.bits]; omega) | (simp [inR, IntKind.bits]; done) | (simp [inR, IntKind.bits] at * <;> omega) | (simp_all; done) | skip)
  refine G_callD (rcopyD t0 (i / 8).toNat hl hf) rfl rfl rfl rfl rfl ⟨trivial, trivial⟩ (fun u => rfl) (fun V v => ?_)
  by_cases h0 : i < 0 ∨ 4096 ≤ i
  · refine G_run tOk eok_rset 60 (fun j => match j with | 6 => some true | _ => none) (fun bs => rfl) (fun bs => ?_) (fun bs => ?_)
    · (repeat' apply And.intro) <;> (intros; first | exact trivial | exact rfl | omega | exact u8_lo _ | exact u8_hi _ | exact u8_in64 _ | exact u8_in63 _ | (simp only [inR, IntKind.bits]; omega) | (simp [inR, IntKind.bits, h0]; done) | (simp [inR, IntKind.bits, h0] at * <;> omega) | (simp_all; done) | skip)
    refine G_thn rfl rfl ?c1 ?_
    case c1 => simp [h0]
    refine G_plain 3 4 rfl rfl ?_
    refine G_freezeC 5 0 3 rfl rfl rfl ?_
    refine G_run tOk eok_rset 60 (fun _ => none) (fun bs => rfl) (fun bs => ?_) (fun bs => ?_)
    · (repeat' apply And.intro) <;> (intros; first | exact trivial | exact rfl | omega | exact u8_lo _ | exact u8_hi _ | exact u8_in64 _ | exact u8_in63 _ | (simp only [inR, IntKind.bits]; omega) | (simp [inR, IntKind.bits]; done) | (simp [inR, IntKind.bits] at * <;> omega) | (simp_all; done) | skip)
    refine G_ret tOk hM0 rfl rfl ⟨rfl, trivial⟩ ?_
    have : setT t0 i ⟨e0, e1, e2, e3, e4⟩ = t0 := by unfold setT; rw [if_pos (by omega)]
    rw [this]
    exact ⟨rfl, trivial⟩
  have h0a : ¬ i < 0 := fun h => h0 (.inl h)
  have h0b : ¬ 4096 ≤ i := fun h => h0 (.inr h)
  refine G_run tOk eok_rset 60 (fun j => match j with | 6 => some false | _ => none) (fun bs => rfl) (fun bs => ?_) (fun bs => ?_)
  · (repeat' apply And.intro) <;> (intros; first | exact trivial | exact rfl | omega | exact u8_lo _ | exact u8_hi _ | exact u8_in64 _ | exact u8_in63 _ | (simp only [inR, IntKind.bits]; omega) | (simp [inR, IntKind.bits, h0a, h0b, hf]; done) | (simp [inR, IntKind.bits, h0a, h0b, hf] at * <;> omega) | (simp_all; done) | skip)
  cases hany : anyN t0 ⟨e0, e1, e2, e3, e4⟩ 7 with
  | false =>
    refine G_thn rfl rfl ?c2 ?_
    case c2 => simp [hany]
    refine G_plain 3 4 rfl rfl ?_
    refine G_freezeC 5 0 3 rfl rfl rfl ?_
    refine G_run tOk eok_rset 60 (fun _ => none) (fun bs => rfl) (fun bs => ?_) (fun bs => ?_)
    · (repeat' apply And.intro) <;> (intros; first | exact trivial | exact rfl | omega | exact u8_lo _ | exact u8_hi _ | exact u8_in64 _ | exact u8_in63 _ | (simp only [inR, IntKind.bits]; omega) | (simp [inR, IntKind.bits]; done) | (simp [inR, IntKind.bits] at * <;> omega) | (simp_all; done) | skip)
    refine G_ret tOk hM0 rfl rfl ⟨rfl, trivial⟩ ?_
    have : setT t0 i ⟨e0, e1, e2, e3, e4⟩ = t0 := by unfold setT; rw [if_pos (.inr (.inr hany))]
    rw [this]
    exact ⟨rfl, trivial⟩
  | true =>
    refine G_els rfl rfl ?c3 ?_
    case c3 => simp [h0a, h0b, hany]
    have hS : setT t0 i ⟨e0, e1, e2, e3, e4⟩ = setL t0 (i / 8).toNat (i % 8).toNat ⟨e0, e1, e2, e3, e4⟩ := by
      unfold setT; rw [if_neg (by rw [hany]; simp; omega)]
    rw [hS]
    obtain ⟨cc, hmy, hcc⟩ := any_both hany
    have hrow := right_row hcc (i / 8).toNat
    have hset0 : (e0 = 0 ∧ (t0.length : Int) ≤ i / 8) → setL t0 (i / 8).toNat (i % 8).toNat ⟨e0, e1, e2, e3, e4⟩ = t0 := fun h => set_none hcc hmy h.1 (by omega)
    have hmay : ∀ j, mayX cc ((setN (leaf t0 (i / 8).toNat) (i % 8).toNat ⟨e0, e1, e2, e3, e4⟩).getD j entZ) = true := setN_may (right_c hcc) (leaf_may hcc _) hmy _
    have hsome : ∀ k, someK (setN (leaf t0 (i / 8).toNat) (i % 8).toNat ⟨e0, e1, e2, e3, e4⟩) k = someN (setN (leaf t0 (i / 8).toNat) (i % 8).toNat ⟨e0, e1, e2, e3, e4⟩) k := someK_eq (fun j => may_none (hmay j))
    have hl2 := setN_len hrow (i % 8).toNat ⟨e0, e1, e2, e3, e4⟩
    clear hcc hS hany hmay hmy
    have hlen0 := LL_len t0 (i / 8).toNat v t0.length (Nat.le_refl _)
    refine G_run tOk eok_rset 60 (fun _ => none) (fun bs => rfl) (fun bs => ?_) (fun bs => ?_)
    · simp only [hlen0]
      (repeat' apply And.intro) <;> (intros; first | exact trivial | exact rfl | omega | exact u8_lo _ | exact u8_hi _ | exact u8_in64 _ | exact u8_in63 _ | (simp only [inR, IntKind.bits]; omega) | (simp [inR, IntKind.bits]; done) | (simp [inR, IntKind.bits] at * <;> omega) | (simp_all; done) | skip)
    refine G_cond (b := decide (e0 = 0) && decide (((LL t0 (i / 8).toNat v t0.length).length : Int) ≤ i / 8)) rfl rfl (fun h => ?_) (fun h => ?_)
    · rw [hlen0] at h
      simp only [Bool.and_eq_true, decide_eq_true_eq] at h
      rw [hset0 h]
      refine G_plain 3 4 rfl rfl ?_
      refine G_freezeC 5 0 3 rfl rfl rfl ?_
      refine G_run tOk eok_rset 60 (fun _ => none) (fun bs => rfl) (fun bs => ?_) (fun bs => ?_)
      · (repeat' apply And.intro) <;> (intros; first | exact trivial | exact rfl | omega | exact u8_lo _ | exact u8_hi _ | exact u8_in64 _ | exact u8_in63 _ | (simp only [inR, IntKind.bits]; omega) | (simp [inR, IntKind.bits]; done) | (simp [inR, IntKind.bits] at * <;> omega) | (simp_all; done) | skip)
      refine G_ret tOk hM0 rfl rfl ⟨rfl, trivial⟩ ?_
      exact ⟨rfl, trivial⟩
    clear h hset0 hlen0
    generalize hqq : (i / 8).toNat = q at *
    have hq : (q : Int) = i / 8 := by omega
    have hq5 : q < 512 := by omega
    refine G_run tOk eok_rset 60 (fun _ => none) (fun bs => rfl) (fun bs => ?_) (fun bs => ?_)
    · (repeat' apply And.intro) <;> (intros; first | exact trivial | exact rfl | omega | exact u8_lo _ | exact u8_hi _ | exact u8_in64 _ | exact u8_in63 _ | (simp only [inR, IntKind.bits]; omega) | (simp [inR, IntKind.bits]; done) | (simp [inR, IntKind.bits] at * <;> omega) | (simp_all; done) | skip)
    refine G_wkB3 (ns := [1, 2, 3, 4, 5]) (fs := fun b c d => [(1, int .i64 i), (5, .c (.ptr 0 b 0)), (6, .c (.ptr 1 c 0)), (7, .c (.ptr 4 d 0))]) (hs := fun b c d => [.blk b 30 [.pv (i64 e0), .pv (i64 e1), .pv (i64 e2), .pv (i64 e3), .pv (.val (.int .u32 e4))], .blk c 24 [.pv (.nil .tbl)], .own V 58 .tbh (LL t0 q v t0.length), .own v 30 .ent (leaf t0 q), .blk d 24 [.own 2 V]]) ?b1 ?c1 ?d1 rfl ?wk0 (fun b c d => ?_)
    case wk0 => (repeat' apply And.intro) <;> (first | exact rfl | exact trivial | omega | refine sigEq ?_ | skip)
    have hlL := hl
    refine G_loop (fun x : Nat × Value => [(1, int .i64 i), (5, .c (.ptr 0 b 0)), (6, .c (.ptr 1 c 0)), (7, .c (.ptr 4 d 0))]) (fun x => [.blk b 30 [.pv (i64 e0), .pv (i64 e1), .pv (i64 e2), .pv (i64 e3), .pv (.val (.int .u32 e4))], .blk c 24 [.pv (.nil .tbl)], .own x.2 58 .tbh (LE t0 q v x.1), .own v 30 .ent (leaf t0 q), .blk d 24 [.own 2 x.2]])
      (fun x => x.1 ≤ q + 1 - t0.length) (fun x => q + 1 - t0.length - x.1) rfl [0, 1, 2, 3, 4] (0, V) (Nat.zero_le _) ?wk (fun x hx => ?_)
    case wk =>
      (repeat' apply And.intro) <;> (first | exact rfl | exact trivial | omega | refine sigEq ?_ | skip)
      all_goals simp [LE]
    obtain ⟨n, V⟩ := x
    dsimp only at hx ⊢
    have hlen := LE_len t0 q v n
    refine G_run tOk eok_rset 60 (fun _ => none) (fun bs => rfl) (fun bs => ?_) (fun bs => ?_)
    · (repeat' apply And.intro) <;> (intros; first | exact trivial | exact rfl | omega | exact u8_lo _ | exact u8_hi _ | exact u8_in64 _ | exact u8_in63 _ | (simp only [inR, IntKind.bits]; omega) | (simp [inR, IntKind.bits]; done) | (simp [inR, IntKind.bits] at * <;> omega) | (simp_all; done) | skip)
    refine G_if (p := ((LE t0 q v n).length : Int) ≤ i / 8) rfl rfl (fun hk => ?_) (fun hk => ?_)
    · have hk' : t0.length + n ≤ q := by omega
      refine G_run tOk eok_rset 60 (fun _ => none) (fun bs => rfl) (fun bs => ?_) (fun bs => ?_)
      · simp only [hlen]
        (repeat' apply And.intro) <;> (intros; first | exact trivial | exact rfl | omega | exact u8_lo _ | exact u8_hi _ | exact u8_in64 _ | exact u8_in63 _ | (simp only [inR, IntKind.bits]; omega) | (simp [inR, IntKind.bits]; done) | (simp [inR, IntKind.bits] at * <;> omega) | (simp_all; done) | skip)
      refine G_lp [0, 1, 6, 3, 4] (n + 1, ?v1) ?ok1 ?wk1
      case wk1 =>
        (repeat' apply And.intro) <;> (first | exact rfl | exact trivial | omega | refine sigEq ?_ | skip)
        all_goals (rw [LE_next])
      case ok1 => exact ⟨by simp only; omega, by simp only; omega⟩
    have hk' : q < t0.length + n := by omega
    refine G_run tOk eok_rset 4 (fun _ => none) (fun bs => rfl) (fun bs => ?_) (fun bs => ?_)
    · simp only [hlen]
      (repeat' apply And.intro) <;> (intros; first | exact trivial | exact rfl | omega | exact u8_lo _ | exact u8_hi _ | exact u8_in64 _ | exact u8_in63 _ | (simp only [inR, IntKind.bits]; omega) | (simp [inR, IntKind.bits]; done) | (simp [inR, IntKind.bits] at * <;> omega) | (simp_all; done) | skip)
    obtain ⟨r, hr⟩ : ∃ r, (i % 8).toNat = r := ⟨_, rfl⟩
    have hr8 : r < 8 := by omega
    have hnn : n = q + 1 - t0.length := by omega
    have hset : setL t0 q r ⟨e0, e1, e2, e3, e4⟩ = trimT ((t0 ++ List.replicate n []).set q (setS (setN (leaf t0 q) r ⟨e0, e1, e2, e3, e4⟩))) := by rw [hnn]; rfl
    have hlenR : ∀ x, ((t0 ++ List.replicate n []).set q x).length ≤ 1000000600 := fun x => by simp; omega
    have hR0 : ∀ x, ((LE t0 q v n).set q (.l x)) = ((t0 ++ List.replicate n []).set q x).map .l := fun x => LE_set t0 q v n x
    have hown : ∀ u : Value, ((LE t0 q v n).set q (.v u))[q]? = some (.v u) := fun u => by rw [List.getElem?_set]; simp [hlen]; omega
    have hset2 : ∀ (u : Value) (x : List Entry), ((LE t0 q v n).set q (.v u)).set q (.l x) = ((t0 ++ List.replicate n []).set q x).map .l := fun u x => by rw [List.set_set]; exact hR0 x
    have hqz : Int.toNat (i / 8) = q := hqq
    have fin : ∀ (R : List (List Entry)), trimT R = setL t0 q r ⟨e0, e1, e2, e3, e4⟩ → R.length ≤ 1000000600 → G Try.prog env_rset W.heap.size W M0 (bpost Try.prog Try.f23 (FnPost true M0 W (.x (.g [.lst .tbl (setL t0 q (i % 8).toNat ⟨e0, e1, e2, e3, e4⟩)]))))
        [Itm.code (bod (lft (rgt (rgt (rgt (rgt (rgt (rgt (rgt (rgt (rgt (rgt (rgt (rgt (fbody Try.f23))))))))))))))), Itm.blk 4, Itm.code (rgt (rgt (rgt (rgt (rgt (rgt (rgt (rgt (rgt (rgt (rgt (rgt (rgt (fbody Try.f23))))))))))))))]
        (mk [(6, .c (.ptr 0 c 0)), (7, .c (.ptr 1 d 0))] [.blk c 24 [.pv (.nil .tbl)], .blk d 24 [.pv (.lst .tbl R)]]) := by
      intro R hR hlR
      rw [hr, ← hR]
      refine G_loop (fun n : Nat => [(6, .c (.ptr 0 c 0)), (7, .c (.ptr 1 d 0))]) (fun n => [.blk c 24 [.pv (.nil .tbl)], .blk d 24 [.pv (.lst .tbl (R.take n))]]) (fun n => n ≤ R.length ∧ trimN R R.length = trimN R n) (fun n => n) rfl [0, 1] R.length ⟨Nat.le_refl _, rfl⟩ ?wkf (fun n hx => ?_)
      case wkf =>
        (repeat' apply And.intro) <;> (first | exact rfl | exact trivial | omega | refine sigEq ?_ | skip)
        all_goals (rw [List.take_length]; exact rfl)
      obtain ⟨hn1, hn2⟩ := hx
      have hln : (R.take n).length = n := by simp; omega
      have hle : 0 < n → (R.take n).getD (Int.toNat (((R.take n).length : Int) - 1)) LK.tbl.dft = leaf R (n - 1) := by
        intro hn
        rw [hln, show Int.toNat ((n : Int) - 1) = n - 1 by omega]
        simp only [leaf, List.getD, List.getElem?_take]
        rw [if_pos (by omega)]; rfl
      refine G_run tOk eok_rset 60 (fun _ => none) (fun bs => rfl) (fun bs => ?_) (fun bs => ?_)
      · simp only [hln]
        (repeat' apply And.intro) <;> (intros; first | exact trivial | exact rfl | omega | exact u8_lo _ | exact u8_hi _ | exact u8_in64 _ | exact u8_in63 _ | (simp only [inR, IntKind.bits]; omega) | (simp [inR, IntKind.bits]; done) | (simp [inR, IntKind.bits] at * <;> omega) | (simp_all; done) | skip)
      refine G_cond (b := decide (0 < ((R.take n).length : Int)) && decide ((((R.take n).getD (Int.toNat (((R.take n).length : Int) - 1)) LK.tbl.dft).length : Int) = 0)) rfl rfl (fun h => ?_) (fun h => ?_)
      · simp only [Bool.and_eq_true, decide_eq_true_eq] at h
        have hn : 0 < n := by omega
        rw [hle hn] at h
        refine G_run tOk eok_rset 60 (fun _ => none) (fun bs => rfl) (fun bs => ?_) (fun bs => ?_)
        · simp only [hln]
          (repeat' apply And.intro) <;> (intros; first | exact trivial | exact rfl | omega | exact u8_lo _ | exact u8_hi _ | exact u8_in64 _ | exact u8_in63 _ | (simp only [inR, IntKind.bits]; omega) | (simp [inR, IntKind.bits]; done) | (simp [inR, IntKind.bits] at * <;> omega) | (simp_all; done) | skip)
        obtain ⟨j, rfl⟩ : ∃ j, n = j + 1 := ⟨n - 1, by omega⟩
        refine G_lp [0, 1] j ?okf ?wkf2
        case okf =>
          refine ⟨⟨by omega, ?_⟩, by omega⟩
          rw [hn2]
          have : decide ((leaf R j).length = 0) = true := by
            have h3 : ((leaf R j).length : Int) = 0 := h.2
            simp only [decide_eq_true_eq]; omega
          simp only [trimN, this]
        case wkf2 =>
          (repeat' apply And.intro) <;> (first | exact rfl | exact trivial | omega | refine sigEq ?_ | skip)
          all_goals
            refine congrArg (PV.lst .tbl) ?_
            rw [hln, show Int.toNat (((j + 1 : Nat) : Int) - 1) = j by omega, List.take_take, Nat.min_eq_left (Nat.le_succ j)]
            rfl
      · have hd : trimN R n = n := by
          cases n with
          | zero => rfl
          | succ j =>
            rw [hle (by omega)] at h
            have h2 : decide ((leaf R j).length = 0) = false := by
              rw [Bool.eq_false_iff] at h ⊢
              intro hh; apply h
              simp only [decide_eq_true_eq] at hh
              have h3 : (((leaf R (j + 1 - 1)).length : Nat) : Int) = 0 := by
                show (((leaf R j).length : Nat) : Int) = 0
                omega
              simp only [Bool.and_eq_true, decide_eq_true_eq]
              exact ⟨by omega, h3⟩
            simp only [trimN, h2]
        refine G_run tOk eok_rset 60 (fun _ => none) (fun bs => rfl) (fun bs => ?_) (fun bs => ?_)
        · (repeat' apply And.intro) <;> (intros; first | exact trivial | exact rfl | omega | exact u8_lo _ | exact u8_hi _ | exact u8_in64 _ | exact u8_in63 _ | (simp only [inR, IntKind.bits]; omega) | (simp [inR, IntKind.bits]; done) | (simp [inR, IntKind.bits] at * <;> omega) | (simp_all; done) | skip)
        refine G_ret tOk hM0 rfl rfl ⟨rfl, trivial⟩ ?_
        refine ⟨?_, trivial⟩
        show PV.lst .tbl (R.take n) = PV.lst .tbl (trimT R)
        unfold trimT; rw [hn2, hd]
    have mid : ∀ (VO VL : Value) (LT : List TE) (l2 : List Entry), LT.length = t0.length + n → (∀ x, LT.set q (.l x) = ((t0 ++ List.replicate n []).set q x).map .l) → l2 = setN (leaf t0 q) (i % 8).toNat ⟨e0, e1, e2, e3, e4⟩ → G Try.prog env_rset W.heap.size W M0 (bpost Try.prog Try.f23 (FnPost true M0 W (.x (.g [.lst .tbl (setL t0 q (i % 8).toNat ⟨e0, e1, e2, e3, e4⟩)]))))
        [Itm.code (bod (rgt (lft (rgt (rgt (rgt (rgt (rgt (rgt (rgt (rgt (rgt (fbody Try.f23))))))))))))), Itm.blk 2, Itm.code (rgt (rgt (rgt (rgt (rgt (rgt (rgt (rgt (rgt (rgt (fbody Try.f23)))))))))))]
        (mk [(1, int .i64 i), (6, .c (.ptr 0 c 0)), (7, .c (.ptr 3 d 0)), (8, .c (.own 2 VL)), (9, bool false), (10, int .i64 0)] [.blk c 24 [.pv (.nil .tbl)], .own VO 58 .tbh LT, .own VL 30 .ent l2, .blk d 24 [.own 1 VO]]) := by
      intro VO VL LT l2 hLT hLS hl2e
      rw [← hl2e] at hsome hl2
      have hset3 : ∀ x : List Entry, (LT.set q (.v VL)).set q (.l x) = ((t0 ++ List.replicate n []).set q x).map .l := fun x => by rw [List.set_set]; exact hLS x
      have hown3 : (LT.set q (.v VL))[q]? = some (.v VL) := by rw [List.getElem?_set]; simp [hLT]; omega
      refine G_loop (fun k : Nat => [(1, int .i64 i), (6, .c (.ptr 0 c 0)), (7, .c (.ptr 3 d 0)), (8, .c (.own 2 VL)), (9, bool (someK l2 k)), (10, int .i64 k)]) (fun k => [.blk c 24 [.pv (.nil .tbl)], .own VO 58 .tbh LT, .own VL 30 .ent l2, .blk d 24 [.own 1 VO]]) (fun k => k ≤ 8) (fun k => 8 - k) rfl [0, 1, 2, 3] 0 (Nat.zero_le _) ?wkm (fun k hk2 => ?_)
      case wkm => (repeat' apply And.intro) <;> (first | exact rfl | exact trivial | omega | refine sigEq ?_ | skip)
      refine G_run tOk eok_rset 60 (fun _ => none) (fun bs => rfl) (fun bs => ?_) (fun bs => ?_)
      · (repeat' apply And.intro) <;> (intros; first | exact trivial | exact rfl | omega | exact u8_lo _ | exact u8_hi _ | exact u8_in64 _ | exact u8_in63 _ | (simp only [inR, IntKind.bits]; omega) | (simp [inR, IntKind.bits]; done) | (simp [inR, IntKind.bits] at * <;> omega) | (simp_all; done) | skip)
      refine G_if rfl rfl (fun hk3 => ?_) (fun hk3 => ?_)
      · have hk3' : k < 8 := by omega
        cases hs : someK l2 k with
        | true =>
          refine G_run tOk eok_rset 60 (fun j => match j with | 1 => some true | _ => none) (fun bs => rfl) (fun bs => ?_) (fun bs => ?_)
          · simp only [hs]
            (repeat' apply And.intro) <;> (intros; first | exact trivial | exact rfl | omega | exact u8_lo _ | exact u8_hi _ | exact u8_in64 _ | exact u8_in63 _ | (simp only [inR, IntKind.bits]; omega) | (simp [inR, IntKind.bits]; done) | (simp [inR, IntKind.bits] at * <;> omega) | (simp_all; done) | skip)
          refine G_lp [0, 1, 2, 3] (k + 1) ?okm1 ?wkm1
          case okm1 => exact ⟨hk3', by omega⟩
          case wkm1 =>
            (repeat' apply And.intro) <;> (first | exact rfl | exact trivial | omega | refine sigEq ?_ | skip)
            all_goals (simp only [someK, hs]; rfl)
        | false =>
          refine G_run tOk eok_rset 60 (fun j => match j with | 1 => some false | _ => none) (fun bs => rfl) (fun bs => ?_) (fun bs => ?_)
          · simp only [hs]
            (repeat' apply And.intro) <;> (intros; first | exact trivial | exact rfl | omega | exact u8_lo _ | exact u8_hi _ | exact u8_in64 _ | exact u8_in63 _ | (simp only [inR, IntKind.bits]; omega) | (simp [inR, IntKind.bits]; done) | (simp [inR, IntKind.bits] at * <;> omega) | (simp_all; done) | skip)
          refine G_lp [0, 1, 2, 3] (k + 1) ?okm2 ?wkm2
          case okm2 => exact ⟨hk3', by omega⟩
          case wkm2 =>
            (repeat' apply And.intro) <;> (first | exact rfl | exact trivial | omega | refine sigEq ?_ | skip)
            all_goals (simp only [someK, hs]; rfl)
      · have hk3' : k = 8 := by omega
        subst hk3'
        have hs8 : someN l2 l2.length = someK l2 8 := by rw [hl2, hsome]
        refine G_run tOk eok_rset 60 (fun _ => none) (fun bs => rfl) (fun bs => ?_) (fun bs => ?_)
        · (repeat' apply And.intro) <;> (intros; first | exact trivial | exact rfl | omega | exact u8_lo _ | exact u8_hi _ | exact u8_in64 _ | exact u8_in63 _ | (simp only [inR, IntKind.bits]; omega) | (simp [inR, IntKind.bits]; done) | (simp [inR, IntKind.bits] at * <;> omega) | (simp_all; done) | skip)
        refine G_cond (b := !someK l2 8) rfl rfl (fun hs => ?_) (fun hs => ?_)
        · refine G_run tOk eok_rset 60 (fun _ => none) (fun bs => rfl) (fun bs => ?_) (fun bs => ?_)
          · simp only [hLT]
            (repeat' apply And.intro) <;> (intros; first | exact trivial | exact rfl | omega | exact u8_lo _ | exact u8_hi _ | exact u8_in64 _ | exact u8_in63 _ | (simp only [inR, IntKind.bits]; omega) | (simp [inR, IntKind.bits]; done) | (simp [inR, IntKind.bits] at * <;> omega) | (simp_all; done) | skip)
          have hS2 : setS (setN (leaf t0 q) r ⟨e0, e1, e2, e3, e4⟩) = [] := by
            rw [← hr, ← hl2e]
            have : someN l2 l2.length = false := by rw [hs8]; simpa using hs
            simp only [setS, this]
          refine G_tbhT 1 ((t0 ++ List.replicate n []).set q []) rfl (by rw [hqz]; exact hLS []) ?_
          refine G_freezeC 3 0 1 rfl rfl rfl ?_
          refine G_wk (ns := [0, 3]) (h := ?wkma) rfl (fin ((t0 ++ List.replicate n []).set q []) (by rw [hset, hS2]) (hlenR _))
          case wkma => (repeat' apply And.intro) <;> (first | exact rfl | exact trivial | omega | refine sigEq ?_ | skip)
        · refine G_run tOk eok_rset 60 (fun _ => none) (fun bs => rfl) (fun bs => ?_) (fun bs => ?_)
          · simp only [hLT]
            (repeat' apply And.intro) <;> (intros; first | exact trivial | exact rfl | omega | exact u8_lo _ | exact u8_hi _ | exact u8_in64 _ | exact u8_in63 _ | (simp only [inR, IntKind.bits]; omega) | (simp [inR, IntKind.bits]; done) | (simp [inR, IntKind.bits] at * <;> omega) | (simp_all; done) | skip)
          have hS2 : setS (setN (leaf t0 q) r ⟨e0, e1, e2, e3, e4⟩) = l2 := by
            rw [← hr, ← hl2e]
            have : someN l2 l2.length = true := by rw [hs8]; simpa using hs
            simp only [setS, this]
          refine G_tbhF 1 2 (Int.toNat (i / 8)) rfl (by rw [hqz]; exact hown3) rfl ?_
          refine G_tbhT 1 ((t0 ++ List.replicate n []).set q l2) rfl (by rw [hqz]; exact hset3 _) ?_
          refine G_freezeC 3 0 1 rfl rfl rfl ?_
          refine G_wk (ns := [0, 3]) (h := ?wkmb) rfl (fin ((t0 ++ List.replicate n []).set q l2) (by rw [hset, hS2]) (hlenR _))
          case wkmb => (repeat' apply And.intro) <;> (first | exact rfl | exact trivial | omega | refine sigEq ?_ | skip)
    by_cases hc : q < t0.length
    · have hn0 : n = 0 := by omega
      have hel : (LE t0 q v n).getD (Int.toNat (i / 8)) LK.tbh.dft = .v v := by rw [hqq]; simp [List.getD, LE_own v hc]
      refine G_link 8 3 rfl (congrArg TE.pv hel) rfl ?_
      rcases hrow with h8 | h8
      · refine G_run tOk eok_rset 60 (fun _ => none) (fun bs => rfl) (fun bs => ?_) (fun bs => ?_)
        · (repeat' apply And.intro) <;> (intros; first | exact trivial | exact rfl | omega | exact u8_lo _ | exact u8_hi _ | exact u8_in64 _ | exact u8_in63 _ | (simp only [inR, IntKind.bits]; omega) | (simp [inR, IntKind.bits]; done) | (simp [inR, IntKind.bits] at * <;> omega) | (simp_all; done) | skip)
        refine G_thn rfl rfl (by simp [h8]) ?_
        refine G_run tOk eok_rset 60 (fun _ => none) (fun bs => rfl) (fun bs => ?_) (fun bs => ?_)
        · simp only [hr]
          (repeat' apply And.intro) <;> (intros; first | exact trivial | exact rfl | omega | exact u8_lo _ | exact u8_hi _ | exact u8_in64 _ | exact u8_in63 _ | (simp only [inR, IntKind.bits]; omega) | (simp [inR, IntKind.bits]; done) | (simp [inR, IntKind.bits] at * <;> omega) | (simp_all; done) | skip)
        have hS1 : ((List.replicate (Int.toNat 8) LK.ent.dft).set (i % 8).toNat ⟨e0, e1, e2, e3, e4⟩) = setN (leaf t0 q) (i % 8).toNat ⟨e0, e1, e2, e3, e4⟩ := by unfold setN; rw [if_pos h8]; rfl
        refine G_wk (ns := [1, 2, 5, 4]) (h := ?wkp) rfl (mid V ?vp (LE t0 q v n) ((List.replicate (Int.toNat 8) LK.ent.dft).set (i % 8).toNat ⟨e0, e1, e2, e3, e4⟩) hlen hR0 hS1)
        case wkp => (repeat' apply And.intro) <;> (first | exact rfl | exact trivial | omega | refine sigEq ?_ | skip)
      · refine G_run tOk eok_rset 60 (fun _ => none) (fun bs => rfl) (fun bs => ?_) (fun bs => ?_)
        · (repeat' apply And.intro) <;> (intros; first | exact trivial | exact rfl | omega | exact u8_lo _ | exact u8_hi _ | exact u8_in64 _ | exact u8_in63 _ | (simp only [inR, IntKind.bits]; omega) | (simp [inR, IntKind.bits]; done) | (simp [inR, IntKind.bits] at * <;> omega) | (simp_all; done) | skip)
        refine G_els rfl rfl (by simp [h8]) ?_
        refine G_run tOk eok_rset 60 (fun _ => none) (fun bs => rfl) (fun bs => ?_) (fun bs => ?_)
        · simp only [hr]
          (repeat' apply And.intro) <;> (intros; first | exact trivial | exact rfl | omega | exact u8_lo _ | exact u8_hi _ | exact u8_in64 _ | exact u8_in63 _ | (simp only [inR, IntKind.bits]; omega) | (simp [inR, IntKind.bits]; done) | (simp [inR, IntKind.bits] at * <;> omega) | (simp_all; done) | skip)
        have hS1 : (leaf t0 q).set (i % 8).toNat ⟨e0, e1, e2, e3, e4⟩ = setN (leaf t0 q) (i % 8).toNat ⟨e0, e1, e2, e3, e4⟩ := by unfold setN; rw [if_neg (by omega)]
        refine G_wk (ns := [1, 2, 3, 4]) (h := ?wkq) rfl (mid V v (LE t0 q v n) ((leaf t0 q).set (i % 8).toNat ⟨e0, e1, e2, e3, e4⟩) hlen hR0 hS1)
        case wkq => (repeat' apply And.intro) <;> (first | exact rfl | exact trivial | omega | refine sigEq ?_ | skip)
    · have h8 : (leaf t0 q).length = 0 := by rw [leaf_app (by omega)]; rfl
      have hel : (LE t0 q v n).getD (Int.toNat (i / 8)) LK.tbh.dft = .l [] := by rw [hqq]; simp [List.getD, LE_nil v (show t0.length ≤ q by omega) hk']
      refine G_slot 8 (y := .c (.pv (.lst .ent []))) rfl (fun M u h => (show RA M (.c (.pv (TE.pv (.l [])))) u by rw [← hel]; exact h)) ?_
      refine G_run tOk eok_rset 60 (fun _ => none) (fun bs => rfl) (fun bs => ?_) (fun bs => ?_)
      · (repeat' apply And.intro) <;> (intros; first | exact trivial | exact rfl | omega | exact u8_lo _ | exact u8_hi _ | exact u8_in64 _ | exact u8_in63 _ | (simp only [inR, IntKind.bits]; omega) | (simp [inR, IntKind.bits]; done) | (simp [inR, IntKind.bits] at * <;> omega) | (simp_all; done) | skip)
      refine G_thn rfl rfl (by simp) ?_
      refine G_run tOk eok_rset 60 (fun _ => none) (fun bs => rfl) (fun bs => ?_) (fun bs => ?_)
      · simp only [hr]
        (repeat' apply And.intro) <;> (intros; first | exact trivial | exact rfl | omega | exact u8_lo _ | exact u8_hi _ | exact u8_in64 _ | exact u8_in63 _ | (simp only [inR, IntKind.bits]; omega) | (simp [inR, IntKind.bits]; done) | (simp [inR, IntKind.bits] at * <;> omega) | (simp_all; done) | skip)
      have hS1 : ((List.replicate (Int.toNat 8) LK.ent.dft).set (i % 8).toNat ⟨e0, e1, e2, e3, e4⟩) = setN (leaf t0 q) (i % 8).toNat ⟨e0, e1, e2, e3, e4⟩ := by unfold setN; rw [if_pos h8]; rfl
      refine G_wk (ns := [1, 2, 5, 4]) (h := ?wkr) rfl (mid V ?vr (LE t0 q v n) ((List.replicate (Int.toNat 8) LK.ent.dft).set (i % 8).toNat ⟨e0, e1, e2, e3, e4⟩) hlen hR0 hS1)
      case wkr => (repeat' apply And.intro) <;> (first | exact rfl | exact trivial | omega | refine sigEq ?_ | skip)
def rset_s : FSpec
  | [.g [.pv (.lst .tbl t0)], .c (.pv (.val (.int .i64 i))), .g [.pv (.val (.int .i64 e0)), .pv (.val (.int .i64 e1)), .pv (.val (.int .i64 e2)), .pv (.val (.int .i64 e3)), .pv (.val (.int .u32 e4))]] => some ((t0.length ≤ 1000000000) ∧ (∀ i, (leaf t0 i).length ≤ 1000000000), true, .x (.g [.lst .tbl (setT t0 i ⟨e0, e1, e2, e3, e4⟩)]))
  | _ => none
theorem rset_s_ok : SpecOk Try.prog 23 rset_s := by
  intro args pre sh rv h hp; unfold rset_s at h; split at h
  · cases h; obtain ⟨hl, hf⟩ := hp; exact rset_fn _ _ _ _ _ _ _ hl hf
  · cases h
def psi_rset : FuncId → Option FSpec := psiCons 23 rset_s psi_rh
theorem psi_rset_ok : PsiFn Try.prog psi_rset := psiCons_ok rset_s_ok psi_rh_ok
end Th
end Go.Proofs.Ytnmomckmpknbkaa
