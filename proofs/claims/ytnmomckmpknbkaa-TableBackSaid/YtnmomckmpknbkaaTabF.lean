import Derived.Test.YtnmomckmpknbkaaTabE
set_option linter.unusedSimpArgs false
set_option linter.unusedVariables false
namespace Go.Proofs.Ytnmomckmpknbkaa
open Go.Mt
def trimN (l : List (List Entry)) : Nat → Nat
  | 0 => 0
  | k + 1 => match decide ((leaf l k).length = 0) with
    | true => trimN l k
    | false => k + 1
def trimT (l : List (List Entry)) : List (List Entry) := l.take (trimN l l.length)
def setN (l : List Entry) (r : Nat) (e : Entry) : List Entry := (if l.length = 0 then List.replicate 8 entZ else l).set r e
def setS (l : List Entry) : List Entry := match someN l l.length with
  | true => l
  | false => []
def setL (t : List (List Entry)) (q r : Nat) (e : Entry) : List (List Entry) :=
  trimT ((t ++ List.replicate (q + 1 - t.length) []).set q (setS (setN (leaf t q) r e)))
def setT (t : List (List Entry)) (i : Int) (e : Entry) : List (List Entry) :=
  if i < 0 ∨ 4096 ≤ i ∨ anyN t e 7 = false then t else setL t (i / 8).toNat (i % 8).toNat e
theorem any_right {t : List (List Entry)} {e : Entry} : ∀ {k : Nat}, anyN t e k = true → ∃ c : Int, rightT t 4096 c = true := by
  intro k
  induction k with
  | zero => intro h; cases h
  | succ k ih =>
    intro h
    simp only [anyN, Bool.or_eq_true, Bool.and_eq_true] at h
    rcases h with h | h
    · exact ih h
    · exact ⟨k, h.2⟩
theorem right_row {t : List (List Entry)} {n c : Int} (h : rightT t n c = true) (i : Nat) : (leaf t i).length = 0 ∨ (leaf t i).length = 8 := by
  by_cases hi : i < t.length
  · simp only [rightT, Bool.and_eq_true] at h
    have hrow : okRow t n c i = true := by
      cases ho : okRow t n c i with
      | true => rfl
      | false =>
        have : rightN t n c t.length = false := rightN_false (i := i + 1) (by simp [rightN, ho]) hi
        rw [this] at h; cases h.2
    simp only [okRow, Bool.or_eq_true, Bool.and_eq_true, decide_eq_true_eq, rowB] at hrow
    rcases hrow with h | h
    · exact .inl h.1
    · exact .inr h.1
  · rw [leaf_app (by omega)]; exact .inl rfl
namespace Th
def hid_s : FSpec := fun _ => none
theorem hid_ok {K : Nat} : SpecOk Try.prog K hid_s := by intro args pre sh rv h; cases h
def psi_h : FuncId → Option FSpec := psiCons 33 hid_s psi_clone
theorem psi_h_ok : PsiFn Try.prog psi_h := psiCons_ok hid_ok psi_clone_ok

section
variable {P : Program} {E : Env} {B : Nat} {W : World} {M0 : Mem} {Q : Exit → Act → World → Prop} {k : List Itm} {st : St}
/-- The table as it was, plain. -/
theorem G_plain (n m : Nat) {t : List (List Entry)} {q : Nat} {V v : Value} {ty ty' : TypeId} (hn : st.H n = some (.own V ty .tbh (LL t q v t.length))) (hm : st.H m = some (.own v ty' .ent (leaf t q)))
    (hk : G P E B W M0 Q k ⟨st.f, updH (updH st.H m none) n (some (.own V ty .tbl t)), st.nx⟩) : G P E B W M0 Q k st := by
  have hnm : n ≠ m := fun e => by
    subst e; rw [hn] at hm
    simp only [Option.some.injEq, HB.own.injEq] at hm
    cases hm.2.2.1
  have e0 : LL t q v t.length = (t.map .l).set q (.v v) := by unfold LL; rw [List.take_length]
  have key : ∀ L : List TE, L = t.map .l → G P E B W M0 Q k ⟨st.f, updH (updH st.H m none) n (some (.own V ty .tbh L)), st.nx⟩ := by
    intro L hL
    refine G_tbhT n t (updH_same _ _ _) hL ?_
    have : updH (updH (updH st.H m none) n (some (HB.own V ty .tbh L))) n (some (.own V ty .tbl t)) = updH (updH st.H m none) n (some (.own V ty .tbl t)) := by
      funext x
      by_cases e : x = n
      · subst e; rw [updH_same, updH_same]
      · rw [updH_ne _ _ e, updH_ne _ _ e, updH_ne _ _ e]
    exact this ▸ hk
  by_cases hq : q < t.length
  · refine G_tbhF n m q hn ?_ hm (key _ ?_)
    · rw [e0, List.getElem?_set]; simp [hq]
    · rw [e0, List.set_set]
      apply List.ext_getElem?
      intro x
      rw [List.getElem?_set]
      split
      · rename_i hx; subst hx; simp [hq, leaf, List.getD]
      · rfl
  · refine G_drop m ?_
    have h2 : LL t q v t.length = t.map .l := by rw [e0, List.set_eq_of_length_le (by simp; omega)]
    have hn' : updH st.H m none n = some (.own V ty .tbh (t.map .l)) := by rw [updH_ne _ _ hnm, hn, h2]
    have := key (t.map .l) rfl
    have e3 : updH (updH st.H m none) n (some (HB.own V ty LK.tbh (t.map .l))) = updH st.H m none := by
      funext x
      by_cases e : x = n
      · subst e; rw [updH_same, hn']
      · rw [updH_ne _ _ e]
    rw [e3] at this; exact this
end

/-- .. and so many empty leaves behind. -/
def LE (t : List (List Entry)) (q : Nat) (v : Value) (k : Nat) : List TE := LL t q v t.length ++ List.replicate k (.l [])
theorem LE_len (t : List (List Entry)) (q : Nat) (v : Value) (k : Nat) : (LE t q v k).length = t.length + k := by
  simp [LE, LL_len t q v t.length (Nat.le_refl _)]
theorem LE_next (t : List (List Entry)) (q : Nat) (v : Value) (k : Nat) : LE t q v (k + 1) = LE t q v k ++ [.l []] := by
  simp [LE, List.replicate_succ', List.append_assoc]
theorem LE_own {t : List (List Entry)} {q : Nat} (v : Value) {k : Nat} (h : q < t.length) : (LE t q v k)[q]? = some (.v v) := by
  unfold LE LL
  rw [List.getElem?_append_left (by simp; omega), List.take_length, List.getElem?_set]; simp [h]
theorem LE_nil {t : List (List Entry)} {q : Nat} (v : Value) {k : Nat} (h : t.length ≤ q) (h2 : q < t.length + k) : (LE t q v k)[q]? = some (.l []) := by
  unfold LE
  rw [List.getElem?_append_right (by simp [LL]; omega), List.getElem?_replicate]
  simp [LL]; omega
theorem LE_set (t : List (List Entry)) (q : Nat) (v : Value) (k : Nat) (x : List Entry) : (LE t q v k).set q (.l x) = ((t ++ List.replicate k []).set q x).map .l := by
  have e : LE t q v k = ((t ++ List.replicate k []).map TE.l).set q (.v v) ∨ LE t q v k = (t ++ List.replicate k []).map TE.l := by
    unfold LE LL
    rw [List.take_length]
    by_cases h : q < t.length
    · left; rw [List.map_append, List.set_append, if_pos (by simpa using h)]; simp
    · right; rw [List.set_eq_of_length_le (by simp; omega)]; simp
  rw [List.map_set]
  rcases e with e | e <;> rw [e]
  rw [List.set_set]

def env_tset : Env := ⟨T, psi_h, pspNil, 84, [], none, true⟩
theorem eok_tset : PsiOk Try.prog env_tset := ⟨psi_h_ok, pspNil_ok⟩
theorem tset_fn (t0 : List (List Entry)) (i : Int) (e0 : Int) (e1 : Int) (e2 : Int) (e3 : Int) (e4 : Int) (hl : t0.length ≤ 1000000000) (hf : ∀ i, (leaf t0 i).length ≤ 1000000000) : Ctr Try.prog 19 true [.g [.pv (.lst .tbl t0)], int .i64 i, .g [.pv (.val (.int .i64 e0)), .pv (.val (.int .i64 e1)), .pv (.val (.int .i64 e2)), .pv (.val (.int .i64 e3)), .pv (.val (.int .u32 e4))]] (.x (.g [.lst .tbl (setT t0 i ⟨e0, e1, e2, e3, e4⟩)])) := by
  refine Ctr_intro (E := env_tset) Try.func19 rfl (by decide) rfl rfl (fun M0 W hM0 => ?_)
  refine G_run tOk eok_tset 60 (fun _ => none) (fun bs => rfl) (fun bs => ?_) (fun bs => ?_)
  · (repeat' apply And.intro) <;> (intros; first | exact trivial | exact rfl | omega | exact u8_lo _ | exact u8_hi _ | exact u8_in64 _ | exact u8_in63 _ | (simp only [inR, IntKind.bits]; omega) | (simp [inR, IntKind.bits]; done) | (simp [inR, IntKind.bits] at * <;> omega) | (simp_all; done) | skip)
  refine G_callD (copiedD t0 (i / 8).toNat hl hf) rfl rfl rfl rfl rfl ⟨trivial, trivial⟩ (fun u => rfl) (fun V v => ?_)
  by_cases h0 : i < 0 ∨ 4096 ≤ i
  · refine G_run tOk eok_tset 60 (fun j => match j with | 6 => some true | _ => none) (fun bs => rfl) (fun bs => ?_) (fun bs => ?_)
    · (repeat' apply And.intro) <;> (intros; first | exact trivial | exact rfl | omega | exact u8_lo _ | exact u8_hi _ | exact u8_in64 _ | exact u8_in63 _ | (simp only [inR, IntKind.bits]; omega) | (simp [inR, IntKind.bits, h0]; done) | (simp [inR, IntKind.bits, h0] at * <;> omega) | (simp_all; done) | skip)
    refine G_thn rfl rfl ?c1 ?_
    case c1 => simp [h0]
    refine G_plain 3 4 rfl rfl ?_
    refine G_freezeC 5 0 3 rfl rfl rfl ?_
    refine G_run tOk eok_tset 60 (fun _ => none) (fun bs => rfl) (fun bs => ?_) (fun bs => ?_)
    · (repeat' apply And.intro) <;> (intros; first | exact trivial | exact rfl | omega | exact u8_lo _ | exact u8_hi _ | exact u8_in64 _ | exact u8_in63 _ | (simp only [inR, IntKind.bits]; omega) | (simp [inR, IntKind.bits]; done) | (simp [inR, IntKind.bits] at * <;> omega) | (simp_all; done) | skip)
    refine G_ret tOk hM0 rfl rfl ⟨rfl, trivial⟩ ?_
    have : setT t0 i ⟨e0, e1, e2, e3, e4⟩ = t0 := by unfold setT; rw [if_pos (by omega)]
    rw [this]
    exact ⟨rfl, trivial⟩
  have h0a : ¬ i < 0 := fun h => h0 (.inl h)
  have h0b : ¬ 4096 ≤ i := fun h => h0 (.inr h)
  refine G_run tOk eok_tset 60 (fun j => match j with | 6 => some false | _ => none) (fun bs => rfl) (fun bs => ?_) (fun bs => ?_)
  · (repeat' apply And.intro) <;> (intros; first | exact trivial | exact rfl | omega | exact u8_lo _ | exact u8_hi _ | exact u8_in64 _ | exact u8_in63 _ | (simp only [inR, IntKind.bits]; omega) | (simp [inR, IntKind.bits, h0a, h0b, hf]; done) | (simp [inR, IntKind.bits, h0a, h0b, hf] at * <;> omega) | (simp_all; done) | skip)
  cases hany : anyN t0 ⟨e0, e1, e2, e3, e4⟩ 7 with
  | false =>
    refine G_thn rfl rfl ?c2 ?_
    case c2 => simp [hany]
    refine G_plain 3 4 rfl rfl ?_
    refine G_freezeC 5 0 3 rfl rfl rfl ?_
    refine G_run tOk eok_tset 60 (fun _ => none) (fun bs => rfl) (fun bs => ?_) (fun bs => ?_)
    · (repeat' apply And.intro) <;> (intros; first | exact trivial | exact rfl | omega | exact u8_lo _ | exact u8_hi _ | exact u8_in64 _ | exact u8_in63 _ | (simp only [inR, IntKind.bits]; omega) | (simp [inR, IntKind.bits]; done) | (simp [inR, IntKind.bits] at * <;> omega) | (simp_all; done) | skip)
    refine G_ret tOk hM0 rfl rfl ⟨rfl, trivial⟩ ?_
    have : setT t0 i ⟨e0, e1, e2, e3, e4⟩ = t0 := by unfold setT; rw [if_pos (.inr (.inr hany))]
    rw [this]
    exact ⟨rfl, trivial⟩
  | true =>
    refine G_els rfl rfl ?c3 ?_
    case c3 => simp [h0a, h0b, hany]
    have hS : setT t0 i ⟨e0, e1, e2, e3, e4⟩ = setL t0 (i / 8).toNat (i % 8).toNat ⟨e0, e1, e2, e3, e4⟩ := by
      unfold setT; rw [if_neg (by rw [hany]; simp; omega)]
    rw [hS]
    obtain ⟨cc, hcc⟩ := any_right hany
    have hrow := right_row hcc (i / 8).toNat
    clear hcc hS hany
    generalize hqq : (i / 8).toNat = q at *
    have hq : (q : Int) = i / 8 := by omega
    have hq5 : q < 512 := by omega
    refine G_run tOk eok_tset 60 (fun _ => none) (fun bs => rfl) (fun bs => ?_) (fun bs => ?_)
    · (repeat' apply And.intro) <;> (intros; first | exact trivial | exact rfl | omega | exact u8_lo _ | exact u8_hi _ | exact u8_in64 _ | exact u8_in63 _ | (simp only [inR, IntKind.bits]; omega) | (simp [inR, IntKind.bits]; done) | (simp [inR, IntKind.bits] at * <;> omega) | (simp_all; done) | skip)
    refine G_wkB3 (ns := [1, 2, 3, 4, 5]) (fs := fun b c d => [(1, int .i64 i), (5, .c (.ptr 0 b 0)), (6, .c (.ptr 1 c 0)), (7, .c (.ptr 4 d 0))]) (hs := fun b c d => [.blk b 30 [.pv (i64 e0), .pv (i64 e1), .pv (i64 e2), .pv (i64 e3), .pv (.val (.int .u32 e4))], .blk c 24 [.pv (.nil .tbl)], .own V 58 .tbh (LL t0 q v t0.length), .own v 30 .ent (leaf t0 q), .blk d 24 [.own 2 V]]) ?b1 ?c1 ?d1 rfl ?wk0 (fun b c d => ?_)
    case wk0 => (repeat' apply And.intro) <;> (first | exact rfl | exact trivial | omega | refine sigEq ?_ | skip)
    have hlL := hl
    refine G_loop (fun x : Nat × Value => [(1, int .i64 i), (5, .c (.ptr 0 b 0)), (6, .c (.ptr 1 c 0)), (7, .c (.ptr 4 d 0))]) (fun x => [.blk b 30 [.pv (i64 e0), .pv (i64 e1), .pv (i64 e2), .pv (i64 e3), .pv (.val (.int .u32 e4))], .blk c 24 [.pv (.nil .tbl)], .own x.2 58 .tbh (LE t0 q v x.1), .own v 30 .ent (leaf t0 q), .blk d 24 [.own 2 x.2]])
      (fun x => x.1 ≤ q + 1 - t0.length) (fun x => q + 1 - t0.length - x.1) rfl [0, 1, 2, 3, 4] (0, V) (Nat.zero_le _) ?wk (fun x hx => ?_)
    case wk =>
      (repeat' apply And.intro) <;> (first | exact rfl | exact trivial | omega | refine sigEq ?_ | skip)
      all_goals simp [LE]
    obtain ⟨n, V⟩ := x
    dsimp only at hx ⊢
    have hlen := LE_len t0 q v n
    refine G_run tOk eok_tset 60 (fun _ => none) (fun bs => rfl) (fun bs => ?_) (fun bs => ?_)
    · (repeat' apply And.intro) <;> (intros; first | exact trivial | exact rfl | omega | exact u8_lo _ | exact u8_hi _ | exact u8_in64 _ | exact u8_in63 _ | (simp only [inR, IntKind.bits]; omega) | (simp [inR, IntKind.bits]; done) | (simp [inR, IntKind.bits] at * <;> omega) | (simp_all; done) | skip)
    refine G_if (p := ((LE t0 q v n).length : Int) ≤ i / 8) rfl rfl (fun hk => ?_) (fun hk => ?_)
    · have hk' : t0.length + n ≤ q := by omega
      refine G_run tOk eok_tset 60 (fun _ => none) (fun bs => rfl) (fun bs => ?_) (fun bs => ?_)
      · simp only [hlen]
        (repeat' apply And.intro) <;> (intros; first | exact trivial | exact rfl | omega | exact u8_lo _ | exact u8_hi _ | exact u8_in64 _ | exact u8_in63 _ | (simp only [inR, IntKind.bits]; omega) | (simp [inR, IntKind.bits]; done) | (simp [inR, IntKind.bits] at * <;> omega) | (simp_all; done) | skip)
      refine G_lp [0, 1, 6, 3, 4] (n + 1, ?v1) ?ok1 ?wk1
      case wk1 =>
        (repeat' apply And.intro) <;> (first | exact rfl | exact trivial | omega | refine sigEq ?_ | skip)
        all_goals (rw [LE_next])
      case ok1 => exact ⟨by simp only; omega, by simp only; omega⟩
    have hk' : q < t0.length + n := by omega
    refine G_run tOk eok_tset 4 (fun _ => none) (fun bs => rfl) (fun bs => ?_) (fun bs => ?_)
    · simp only [hlen]
      (repeat' apply And.intro) <;> (intros; first | exact trivial | exact rfl | omega | exact u8_lo _ | exact u8_hi _ | exact u8_in64 _ | exact u8_in63 _ | (simp only [inR, IntKind.bits]; omega) | (simp [inR, IntKind.bits]; done) | (simp [inR, IntKind.bits] at * <;> omega) | (simp_all; done) | skip)
    obtain ⟨r, hr⟩ : ∃ r, (i % 8).toNat = r := ⟨_, rfl⟩
    have hr8 : r < 8 := by omega
    have fin : ∀ (R : List (List Entry)), trimT R = setL t0 q r ⟨e0, e1, e2, e3, e4⟩ → R.length ≤ 1000000600 → G Try.prog env_tset W.heap.size W M0 (bpost Try.prog Try.f19 (FnPost true M0 W (.x (.g [.lst .tbl (setL t0 q (i % 8).toNat ⟨e0, e1, e2, e3, e4⟩)]))))
        [Itm.code (bod (rgt (lft (rgt (rgt (rgt (rgt (rgt (rgt (rgt (rgt (rgt (fbody Try.f19))))))))))))), Itm.blk 2, Itm.code (rgt (rgt (rgt (rgt (rgt (rgt (rgt (rgt (rgt (rgt (fbody Try.f19)))))))))))]
        (mk [(6, .c (.ptr 0 c 0)), (7, .c (.ptr 1 d 0)), (9, int .i64 R.length)] [.blk c 24 [.pv (.nil .tbl)], .blk d 24 [.pv (.lst .tbl R)]]) := by
      intro R hR hlR
      rw [hr, ← hR]
      refine G_loop (fun n : Nat => [(6, .c (.ptr 0 c 0)), (7, .c (.ptr 1 d 0)), (9, int .i64 n)]) (fun n => [.blk c 24 [.pv (.nil .tbl)], .blk d 24 [.pv (.lst .tbl (R.take n))]]) (fun n => n ≤ R.length ∧ trimN R R.length = trimN R n) (fun n => n) rfl [0, 1] R.length ⟨Nat.le_refl _, rfl⟩ ?wkf (fun n hx => ?_)
      case wkf =>
        (repeat' apply And.intro) <;> (first | exact rfl | exact trivial | omega | refine sigEq ?_ | skip)
        all_goals (rw [List.take_length]; exact rfl)
      obtain ⟨hn1, hn2⟩ := hx
      have hln : (R.take n).length = n := by simp; omega
      have hle : 0 < n → (R.take n).getD (Int.toNat ((n : Int) - 1)) LK.tbl.dft = leaf R (n - 1) := by
        intro hn
        rw [show Int.toNat ((n : Int) - 1) = n - 1 by omega]
        simp only [leaf, List.getD, List.getElem?_take]
        rw [if_pos (by omega)]; rfl
      refine G_run tOk eok_tset 60 (fun _ => none) (fun bs => rfl) (fun bs => ?_) (fun bs => ?_)
      · simp only [hln]
        (repeat' apply And.intro) <;> (intros; first | exact trivial | exact rfl | omega | exact u8_lo _ | exact u8_hi _ | exact u8_in64 _ | exact u8_in63 _ | (simp only [inR, IntKind.bits]; omega) | (simp [inR, IntKind.bits]; done) | (simp [inR, IntKind.bits] at * <;> omega) | (simp_all; done) | skip)
      refine G_cond (b := decide (0 < (n : Int)) && decide ((((R.take n).getD (Int.toNat ((n : Int) - 1)) LK.tbl.dft).length : Int) = 0)) rfl rfl (fun h => ?_) (fun h => ?_)
      · simp only [Bool.and_eq_true, decide_eq_true_eq] at h
        have hn : 0 < n := by omega
        rw [hle hn] at h
        refine G_run tOk eok_tset 60 (fun _ => none) (fun bs => rfl) (fun bs => ?_) (fun bs => ?_)
        · simp only [hln]
          (repeat' apply And.intro) <;> (intros; first | exact trivial | exact rfl | omega | exact u8_lo _ | exact u8_hi _ | exact u8_in64 _ | exact u8_in63 _ | (simp only [inR, IntKind.bits]; omega) | (simp [inR, IntKind.bits]; done) | (simp [inR, IntKind.bits] at * <;> omega) | (simp_all; done) | skip)
        obtain ⟨j, rfl⟩ : ∃ j, n = j + 1 := ⟨n - 1, by omega⟩
        refine G_lp [0, 1] j ?okf ?wkf2
        case okf =>
          refine ⟨⟨by omega, ?_⟩, by omega⟩
          rw [hn2]
          have : decide ((leaf R j).length = 0) = true := by
            have h3 : ((leaf R j).length : Int) = 0 := h.2
            simp only [decide_eq_true_eq]; omega
          simp only [trimN, this]
        case wkf2 =>
          (repeat' apply And.intro) <;> (first | exact rfl | exact trivial | omega | refine sigEq ?_ | skip)
          all_goals
            refine congrArg (PV.lst .tbl) ?_
            rw [show Int.toNat (((j + 1 : Nat) : Int) - 1) = j by omega, List.take_take, Nat.min_eq_left (Nat.le_succ j)]
            rfl
      · have hd : trimN R n = n := by
          cases n with
          | zero => rfl
          | succ j =>
            rw [hle (by omega)] at h
            have h2 : decide ((leaf R j).length = 0) = false := by
              rw [Bool.eq_false_iff] at h ⊢
              intro hh; apply h
              simp only [decide_eq_true_eq] at hh
              have h3 : (((leaf R (j + 1 - 1)).length : Nat) : Int) = 0 := by
                show (((leaf R j).length : Nat) : Int) = 0
                omega
              simp only [Bool.and_eq_true, decide_eq_true_eq]
              exact ⟨by omega, h3⟩
            simp only [trimN, h2]
        refine G_run tOk eok_tset 60 (fun _ => none) (fun bs => rfl) (fun bs => ?_) (fun bs => ?_)
        · (repeat' apply And.intro) <;> (intros; first | exact trivial | exact rfl | omega | exact u8_lo _ | exact u8_hi _ | exact u8_in64 _ | exact u8_in63 _ | (simp only [inR, IntKind.bits]; omega) | (simp [inR, IntKind.bits]; done) | (simp [inR, IntKind.bits] at * <;> omega) | (simp_all; done) | skip)
        refine G_ret tOk hM0 rfl rfl ⟨rfl, trivial⟩ ?_
        refine ⟨?_, trivial⟩
        show PV.lst .tbl (R.take n) = PV.lst .tbl (trimT R)
        unfold trimT; rw [hn2, hd]
    have hnn : n = q + 1 - t0.length := by omega
    have hset : setL t0 q r ⟨e0, e1, e2, e3, e4⟩ = trimT ((t0 ++ List.replicate n []).set q (setS (setN (leaf t0 q) r ⟨e0, e1, e2, e3, e4⟩))) := by rw [hnn]; rfl
    have hlenR : ∀ x, ((t0 ++ List.replicate n []).set q x).length ≤ 1000000600 := fun x => by simp; omega
    have hR0 : ∀ x, ((LE t0 q v n).set q (.l x)) = ((t0 ++ List.replicate n []).set q x).map .l := fun x => LE_set t0 q v n x
    have hown : ∀ u : Value, ((LE t0 q v n).set q (.v u))[q]? = some (.v u) := fun u => by rw [List.getElem?_set]; simp [hlen]; omega
    have hset2 : ∀ (u : Value) (x : List Entry), ((LE t0 q v n).set q (.v u)).set q (.l x) = ((t0 ++ List.replicate n []).set q x).map .l := fun u x => by rw [List.set_set]; exact hR0 x
    have hqz : Int.toNat (i / 8) = q := hqq
    by_cases hc : q < t0.length
    · have hn0 : n = 0 := by omega
      have hel : (LE t0 q v n).getD (Int.toNat (i / 8)) LK.tbh.dft = .v v := by rw [hqq]; simp [List.getD, LE_own v hc]
      refine G_link 8 3 rfl (congrArg TE.pv hel) rfl ?_
      rcases hrow with h8 | h8
      · refine G_run tOk eok_tset 60 (fun _ => none) (fun bs => rfl) (fun bs => ?_) (fun bs => ?_)
        · (repeat' apply And.intro) <;> (intros; first | exact trivial | exact rfl | omega | exact u8_lo _ | exact u8_hi _ | exact u8_in64 _ | exact u8_in63 _ | (simp only [inR, IntKind.bits]; omega) | (simp [inR, IntKind.bits]; done) | (simp [inR, IntKind.bits] at * <;> omega) | (simp_all; done) | skip)
        refine G_thn rfl rfl (by simp [h8]) ?_
        refine G_run tOk eok_tset 60 (fun _ => none) (fun bs => rfl) (fun bs => ?_) (fun bs => ?_)
        · simp only [hr]
          (repeat' apply And.intro) <;> (intros; first | exact trivial | exact rfl | omega | exact u8_lo _ | exact u8_hi _ | exact u8_in64 _ | exact u8_in63 _ | (simp only [inR, IntKind.bits]; omega) | (simp [inR, IntKind.bits]; done) | (simp [inR, IntKind.bits] at * <;> omega) | (simp_all; done) | skip)
        have hS1 : setN (leaf t0 q) r ⟨e0, e1, e2, e3, e4⟩ = ((List.replicate (Int.toNat 8) LK.ent.dft).set (i % 8).toNat ⟨e0, e1, e2, e3, e4⟩) := by unfold setN; rw [if_pos h8, hr]; rfl
        refine G_cond rfl rfl (fun hs => ?_) (fun hs => ?_)
        · refine G_run tOk eok_tset 60 (fun _ => none) (fun bs => rfl) (fun bs => ?_) (fun bs => ?_)
          · simp only [hlen]
            (repeat' apply And.intro) <;> (intros; first | exact trivial | exact rfl | omega | exact u8_lo _ | exact u8_hi _ | exact u8_in64 _ | exact u8_in63 _ | (simp only [inR, IntKind.bits]; omega) | (simp [inR, IntKind.bits]; done) | (simp [inR, IntKind.bits] at * <;> omega) | (simp_all; done) | skip)
          have hS2 : setS (setN (leaf t0 q) r ⟨e0, e1, e2, e3, e4⟩) = [] := by
            rw [hS1]
            have : someN ((List.replicate (Int.toNat 8) LK.ent.dft).set (i % 8).toNat ⟨e0, e1, e2, e3, e4⟩) ((List.replicate (Int.toNat 8) LK.ent.dft).set (i % 8).toNat ⟨e0, e1, e2, e3, e4⟩).length = false := by simpa using hs
            simp only [setS, this]
          refine G_tbhT 2 ((t0 ++ List.replicate n []).set q []) rfl (by rw [hqz]; exact hR0 []) ?_
          refine G_freezeC 4 0 2 rfl rfl rfl ?_
          refine G_wk (ns := [1, 4]) (h := ?wkpa) rfl (fin ((t0 ++ List.replicate n []).set q []) (by rw [hset, hS2]) (hlenR _))
          case wkpa =>
            (repeat' apply And.intro) <;> (first | exact rfl | exact trivial | omega | refine sigEq ?_ | skip)
            all_goals (simp [hlen])
        · refine G_run tOk eok_tset 60 (fun _ => none) (fun bs => rfl) (fun bs => ?_) (fun bs => ?_)
          · simp only [hlen]
            (repeat' apply And.intro) <;> (intros; first | exact trivial | exact rfl | omega | exact u8_lo _ | exact u8_hi _ | exact u8_in64 _ | exact u8_in63 _ | (simp only [inR, IntKind.bits]; omega) | (simp [inR, IntKind.bits]; done) | (simp [inR, IntKind.bits] at * <;> omega) | (simp_all; done) | skip)
          have hS2 : setS (setN (leaf t0 q) r ⟨e0, e1, e2, e3, e4⟩) = ((List.replicate (Int.toNat 8) LK.ent.dft).set (i % 8).toNat ⟨e0, e1, e2, e3, e4⟩) := by
            rw [hS1]
            have : someN ((List.replicate (Int.toNat 8) LK.ent.dft).set (i % 8).toNat ⟨e0, e1, e2, e3, e4⟩) ((List.replicate (Int.toNat 8) LK.ent.dft).set (i % 8).toNat ⟨e0, e1, e2, e3, e4⟩).length = true := by simpa using hs
            simp only [setS, this]
          refine G_tbhF 2 5 (Int.toNat (i / 8)) rfl (by rw [hqz]; exact hown _) rfl ?_
          refine G_tbhT 2 ((t0 ++ List.replicate n []).set q ((List.replicate (Int.toNat 8) LK.ent.dft).set (i % 8).toNat ⟨e0, e1, e2, e3, e4⟩)) rfl (by rw [hqz]; exact hset2 _ _) ?_
          refine G_freezeC 4 0 2 rfl rfl rfl ?_
          refine G_wk (ns := [1, 4]) (h := ?wkpb) rfl (fin ((t0 ++ List.replicate n []).set q ((List.replicate (Int.toNat 8) LK.ent.dft).set (i % 8).toNat ⟨e0, e1, e2, e3, e4⟩)) (by rw [hset, hS2]) (hlenR _))
          case wkpb =>
            (repeat' apply And.intro) <;> (first | exact rfl | exact trivial | omega | refine sigEq ?_ | skip)
            all_goals (simp [hlen])
      · refine G_run tOk eok_tset 60 (fun _ => none) (fun bs => rfl) (fun bs => ?_) (fun bs => ?_)
        · (repeat' apply And.intro) <;> (intros; first | exact trivial | exact rfl | omega | exact u8_lo _ | exact u8_hi _ | exact u8_in64 _ | exact u8_in63 _ | (simp only [inR, IntKind.bits]; omega) | (simp [inR, IntKind.bits]; done) | (simp [inR, IntKind.bits] at * <;> omega) | (simp_all; done) | skip)
        refine G_els rfl rfl (by simp [h8]) ?_
        refine G_run tOk eok_tset 60 (fun _ => none) (fun bs => rfl) (fun bs => ?_) (fun bs => ?_)
        · simp only [hr]
          (repeat' apply And.intro) <;> (intros; first | exact trivial | exact rfl | omega | exact u8_lo _ | exact u8_hi _ | exact u8_in64 _ | exact u8_in63 _ | (simp only [inR, IntKind.bits]; omega) | (simp [inR, IntKind.bits]; done) | (simp [inR, IntKind.bits] at * <;> omega) | (simp_all; done) | skip)
        have hS1 : setN (leaf t0 q) r ⟨e0, e1, e2, e3, e4⟩ = (leaf t0 q).set r ⟨e0, e1, e2, e3, e4⟩ := by unfold setN; rw [if_neg (by omega)]
        have hr' : (leaf t0 q).set (i % 8).toNat ⟨e0, e1, e2, e3, e4⟩ = (leaf t0 q).set r ⟨e0, e1, e2, e3, e4⟩ := by rw [hr]
        refine G_cond rfl rfl (fun hs => ?_) (fun hs => ?_)
        · refine G_run tOk eok_tset 60 (fun _ => none) (fun bs => rfl) (fun bs => ?_) (fun bs => ?_)
          · simp only [hlen]
            (repeat' apply And.intro) <;> (intros; first | exact trivial | exact rfl | omega | exact u8_lo _ | exact u8_hi _ | exact u8_in64 _ | exact u8_in63 _ | (simp only [inR, IntKind.bits]; omega) | (simp [inR, IntKind.bits]; done) | (simp [inR, IntKind.bits] at * <;> omega) | (simp_all; done) | skip)
          have hS2 : setS (setN (leaf t0 q) r ⟨e0, e1, e2, e3, e4⟩) = [] := by
            rw [hS1, ← hr']
            have : someN ((leaf t0 q).set (i % 8).toNat ⟨e0, e1, e2, e3, e4⟩) ((leaf t0 q).set (i % 8).toNat ⟨e0, e1, e2, e3, e4⟩).length = false := by simpa using hs
            simp only [setS, this]
          refine G_tbhT 2 ((t0 ++ List.replicate n []).set q []) rfl (by rw [hqz]; exact hR0 []) ?_
          refine G_freezeC 4 0 2 rfl rfl rfl ?_
          refine G_wk (ns := [1, 4]) (h := ?wkx) rfl (fin ((t0 ++ List.replicate n []).set q []) (by rw [hset, hS2]) (hlenR _))
          case wkx =>
            (repeat' apply And.intro) <;> (first | exact rfl | exact trivial | omega | refine sigEq ?_ | skip)
            all_goals (simp [hlen])
        · refine G_run tOk eok_tset 60 (fun _ => none) (fun bs => rfl) (fun bs => ?_) (fun bs => ?_)
          · simp only [hlen]
            (repeat' apply And.intro) <;> (intros; first | exact trivial | exact rfl | omega | exact u8_lo _ | exact u8_hi _ | exact u8_in64 _ | exact u8_in63 _ | (simp only [inR, IntKind.bits]; omega) | (simp [inR, IntKind.bits]; done) | (simp [inR, IntKind.bits] at * <;> omega) | (simp_all; done) | skip)
          have hS2 : setS (setN (leaf t0 q) r ⟨e0, e1, e2, e3, e4⟩) = (leaf t0 q).set (i % 8).toNat ⟨e0, e1, e2, e3, e4⟩ := by
            rw [hS1, ← hr']
            have : someN ((leaf t0 q).set (i % 8).toNat ⟨e0, e1, e2, e3, e4⟩) ((leaf t0 q).set (i % 8).toNat ⟨e0, e1, e2, e3, e4⟩).length = true := by simpa using hs
            simp only [setS, this]
          refine G_tbhF 2 3 (Int.toNat (i / 8)) rfl (by rw [hqz]; exact hown v) rfl ?_
          refine G_tbhT 2 ((t0 ++ List.replicate n []).set q ((leaf t0 q).set (i % 8).toNat ⟨e0, e1, e2, e3, e4⟩)) rfl (by rw [hqz]; exact hset2 v _) ?_
          refine G_freezeC 4 0 2 rfl rfl rfl ?_
          refine G_wk (ns := [1, 4]) (h := ?wky) rfl (fin ((t0 ++ List.replicate n []).set q ((leaf t0 q).set (i % 8).toNat ⟨e0, e1, e2, e3, e4⟩)) (by rw [hset, hS2]) (hlenR _))
          case wky =>
            (repeat' apply And.intro) <;> (first | exact rfl | exact trivial | omega | refine sigEq ?_ | skip)
            all_goals (simp [hlen])
    · have h8 : (leaf t0 q).length = 0 := by rw [leaf_app (by omega)]; rfl
      have hel : (LE t0 q v n).getD (Int.toNat (i / 8)) LK.tbh.dft = .l [] := by rw [hqq]; simp [List.getD, LE_nil v (show t0.length ≤ q by omega) hk']
      refine G_slot 8 (y := .c (.pv (.lst .ent []))) rfl (fun M u h => (show RA M (.c (.pv (TE.pv (.l [])))) u by rw [← hel]; exact h)) ?_
      refine G_run tOk eok_tset 60 (fun _ => none) (fun bs => rfl) (fun bs => ?_) (fun bs => ?_)
      · (repeat' apply And.intro) <;> (intros; first | exact trivial | exact rfl | omega | exact u8_lo _ | exact u8_hi _ | exact u8_in64 _ | exact u8_in63 _ | (simp only [inR, IntKind.bits]; omega) | (simp [inR, IntKind.bits]; done) | (simp [inR, IntKind.bits] at * <;> omega) | (simp_all; done) | skip)
      refine G_thn rfl rfl (by simp) ?_
      refine G_run tOk eok_tset 60 (fun _ => none) (fun bs => rfl) (fun bs => ?_) (fun bs => ?_)
      · simp only [hr]
        (repeat' apply And.intro) <;> (intros; first | exact trivial | exact rfl | omega | exact u8_lo _ | exact u8_hi _ | exact u8_in64 _ | exact u8_in63 _ | (simp only [inR, IntKind.bits]; omega) | (simp [inR, IntKind.bits]; done) | (simp [inR, IntKind.bits] at * <;> omega) | (simp_all; done) | skip)
      have hS1 : setN (leaf t0 q) r ⟨e0, e1, e2, e3, e4⟩ = ((List.replicate (Int.toNat 8) LK.ent.dft).set (i % 8).toNat ⟨e0, e1, e2, e3, e4⟩) := by unfold setN; rw [if_pos h8, hr]; rfl
      refine G_cond rfl rfl (fun hs => ?_) (fun hs => ?_)
      · refine G_run tOk eok_tset 60 (fun _ => none) (fun bs => rfl) (fun bs => ?_) (fun bs => ?_)
        · simp only [hlen]
          (repeat' apply And.intro) <;> (intros; first | exact trivial | exact rfl | omega | exact u8_lo _ | exact u8_hi _ | exact u8_in64 _ | exact u8_in63 _ | (simp only [inR, IntKind.bits]; omega) | (simp [inR, IntKind.bits]; done) | (simp [inR, IntKind.bits] at * <;> omega) | (simp_all; done) | skip)
        have hS2 : setS (setN (leaf t0 q) r ⟨e0, e1, e2, e3, e4⟩) = [] := by
          rw [hS1]
          have : someN ((List.replicate (Int.toNat 8) LK.ent.dft).set (i % 8).toNat ⟨e0, e1, e2, e3, e4⟩) ((List.replicate (Int.toNat 8) LK.ent.dft).set (i % 8).toNat ⟨e0, e1, e2, e3, e4⟩).length = false := by simpa using hs
          simp only [setS, this]
        refine G_tbhT 2 ((t0 ++ List.replicate n []).set q []) rfl (by rw [hqz]; exact hR0 []) ?_
        refine G_freezeC 4 0 2 rfl rfl rfl ?_
        refine G_wk (ns := [1, 4]) (h := ?wkqa) rfl (fin ((t0 ++ List.replicate n []).set q []) (by rw [hset, hS2]) (hlenR _))
        case wkqa =>
          (repeat' apply And.intro) <;> (first | exact rfl | exact trivial | omega | refine sigEq ?_ | skip)
          all_goals (simp [hlen])
      · refine G_run tOk eok_tset 60 (fun _ => none) (fun bs => rfl) (fun bs => ?_) (fun bs => ?_)
        · simp only [hlen]
          (repeat' apply And.intro) <;> (intros; first | exact trivial | exact rfl | omega | exact u8_lo _ | exact u8_hi _ | exact u8_in64 _ | exact u8_in63 _ | (simp only [inR, IntKind.bits]; omega) | (simp [inR, IntKind.bits]; done) | (simp [inR, IntKind.bits] at * <;> omega) | (simp_all; done) | skip)
        have hS2 : setS (setN (leaf t0 q) r ⟨e0, e1, e2, e3, e4⟩) = ((List.replicate (Int.toNat 8) LK.ent.dft).set (i % 8).toNat ⟨e0, e1, e2, e3, e4⟩) := by
          rw [hS1]
          have : someN ((List.replicate (Int.toNat 8) LK.ent.dft).set (i % 8).toNat ⟨e0, e1, e2, e3, e4⟩) ((List.replicate (Int.toNat 8) LK.ent.dft).set (i % 8).toNat ⟨e0, e1, e2, e3, e4⟩).length = true := by simpa using hs
          simp only [setS, this]
        refine G_tbhF 2 5 (Int.toNat (i / 8)) rfl (by rw [hqz]; exact hown _) rfl ?_
        refine G_tbhT 2 ((t0 ++ List.replicate n []).set q ((List.replicate (Int.toNat 8) LK.ent.dft).set (i % 8).toNat ⟨e0, e1, e2, e3, e4⟩)) rfl (by rw [hqz]; exact hset2 _ _) ?_
        refine G_freezeC 4 0 2 rfl rfl rfl ?_
        refine G_wk (ns := [1, 4]) (h := ?wkqb) rfl (fin ((t0 ++ List.replicate n []).set q ((List.replicate (Int.toNat 8) LK.ent.dft).set (i % 8).toNat ⟨e0, e1, e2, e3, e4⟩)) (by rw [hset, hS2]) (hlenR _))
        case wkqb =>
          (repeat' apply And.intro) <;> (first | exact rfl | exact trivial | omega | refine sigEq ?_ | skip)
          all_goals (simp [hlen])
def tset_s : FSpec
  | [.g [.pv (.lst .tbl t0)], .c (.pv (.val (.int .i64 i))), .g [.pv (.val (.int .i64 e0)), .pv (.val (.int .i64 e1)), .pv (.val (.int .i64 e2)), .pv (.val (.int .i64 e3)), .pv (.val (.int .u32 e4))]] => some ((t0.length ≤ 1000000000) ∧ (∀ i, (leaf t0 i).length ≤ 1000000000), true, .x (.g [.lst .tbl (setT t0 i ⟨e0, e1, e2, e3, e4⟩)]))
  | _ => none
theorem tset_s_ok : SpecOk Try.prog 19 tset_s := by
  intro args pre sh rv h hp; unfold tset_s at h; split at h
  · cases h; obtain ⟨hl, hf⟩ := hp; exact tset_fn _ _ _ _ _ _ _ hl hf
  · cases h
def psi_tset : FuncId → Option FSpec := psiCons 19 tset_s psi_h
theorem psi_tset_ok : PsiFn Try.prog psi_tset := psiCons_ok tset_s_ok psi_h_ok
end Th
end Go.Proofs.Ytnmomckmpknbkaa
