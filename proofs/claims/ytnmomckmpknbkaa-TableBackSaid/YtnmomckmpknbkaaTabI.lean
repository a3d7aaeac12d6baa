import Derived.Test.YtnmomckmpknbkaaTabH
set_option linter.unusedSimpArgs false
set_option linter.unusedVariables false
namespace Go.Proofs.Ytnmomckmpknbkaa
open Go.Mt

def sl (b : List UInt8) (k : Int) : List UInt8 := (b.take (k + 16).toNat).drop k.toNat
def rdL (b : List UInt8) (c k : Int) : Nat → Option (List Entry)
  | 0 => some []
  | j + 1 => match rdL b c k j with
    | none => none
    | some l => match decide (gE (sl b (k + 16 * j)) c = 0) with
      | true => some (l ++ [gX (sl b (k + 16 * j)) c])
      | false => none
def rdT (b : List UInt8) (c s : Int) : Nat → Option (List (List Entry))
  | 0 => some []
  | i + 1 => match rdT b c s i with
    | none => none
    | some t => match decide (getE b (s + 130 * i) 2 = 0 ∧ (t.length : Int) ≤ getV b (s + 130 * i) 2 false ∧ getV b (s + 130 * i) 2 false < 512) with
      | true => match rdL b c (s + 130 * i + 2) 8 with
        | none => none
        | some l => some (t ++ List.replicate ((getV b (s + 130 * i) 2 false).toNat - t.length) [] ++ [l])
      | false => none
def rdA (b : List UInt8) (at_ n c : Int) : Option (List (List Entry)) := match decide (getE b at_ 2 = 0) with
  | true => match rdT b c (at_ + 2) (getV b at_ 2 false).toNat with
    | none => none
    | some t => match rightT t n c with
      | true => some t
      | false => none
  | false => none
def rT (o : Option (List (List Entry))) : List (List Entry) := match o with | some t => t | none => []
def rK (k : Int) (o : Option (List (List Entry))) : Int := match o with | some _ => k | none => 0
def rF (o : Option (List (List Entry))) : Int := match o with | some _ => 0 | none => 3
theorem rdL_none {b : List UInt8} {c k : Int} {j m : Nat} (h : rdL b c k j = none) (hm : j ≤ m) : rdL b c k m = none := by
  induction m with
  | zero => have : j = 0 := by omega
            subst this; exact h
  | succ m ih =>
    by_cases e : j = m + 1
    · subst e; exact h
    · simp only [rdL, ih (by omega)]
theorem rdL_len {b : List UInt8} {c k : Int} : ∀ {j : Nat} {l : List Entry}, rdL b c k j = some l → l.length = j := by
  intro j
  induction j with
  | zero => intro l h; simp only [rdL, Option.some.injEq] at h; subst h; rfl
  | succ j ih =>
    intro l h
    cases ho : rdL b c k j with
    | none => simp only [rdL, ho] at h; cases h
    | some l0 =>
      have := ih ho
      cases hd : decide (gE (sl b (k + 16 * j)) c = 0) with
      | true => simp only [rdL, ho, hd, Option.some.injEq] at h; subst h; simp [this]
      | false => simp only [rdL, ho, hd] at h; cases h
theorem sl_len {b : List UInt8} {k : Int} (hk : 0 ≤ k) (h : (sl b k).length = 16) : k + 16 ≤ b.length := by
  unfold sl at h; rw [List.length_drop, List.length_take] at h; omega
theorem gE_len {b : List UInt8} {c : Int} (h : gE b c = 0) : b.length = 16 := by
  unfold gE at h
  split at h
  · rename_i h1; exact h1.1
  · cases h
theorem rdL_room {b : List UInt8} {c k : Int} (hk : 0 ≤ k) {j : Nat} {l : List Entry} (h : rdL b c k (j + 1) = some l) : k + 16 * (j + 1) ≤ b.length := by
  cases ho : rdL b c k j with
  | none => simp only [rdL, ho] at h; cases h
  | some l0 =>
    cases hd : decide (gE (sl b (k + 16 * j)) c = 0) with
    | true => have := sl_len (by omega) (gE_len (of_decide_eq_true hd)); omega
    | false => simp only [rdL, ho, hd] at h; cases h
theorem rdT_none {b : List UInt8} {c s : Int} {j m : Nat} (h : rdT b c s j = none) (hm : j ≤ m) : rdT b c s m = none := by
  induction m with
  | zero => have : j = 0 := by omega
            subst this; exact h
  | succ m ih =>
    by_cases e : j = m + 1
    · subst e; exact h
    · simp only [rdT, ih (by omega)]
/-- One leaf more. -/
theorem rdT_some {b : List UInt8} {c s : Int} {i : Nat} {u : List (List Entry)} (h : rdT b c s (i + 1) = some u) : ∃ t l, rdT b c s i = some t ∧ getE b (s + 130 * i) 2 = 0 ∧ (t.length : Int) ≤ getV b (s + 130 * i) 2 false ∧ getV b (s + 130 * i) 2 false < 512 ∧ rdL b c (s + 130 * i + 2) 8 = some l ∧ u = t ++ List.replicate ((getV b (s + 130 * i) 2 false).toNat - t.length) [] ++ [l] := by
  cases ho : rdT b c s i with
  | none => simp only [rdT, ho] at h; cases h
  | some t =>
    cases hd : decide (getE b (s + 130 * i) 2 = 0 ∧ (t.length : Int) ≤ getV b (s + 130 * i) 2 false ∧ getV b (s + 130 * i) 2 false < 512) with
    | false => simp only [rdT, ho, hd] at h; cases h
    | true =>
      cases hl : rdL b c (s + 130 * i + 2) 8 with
      | none => simp only [rdT, ho, hd, hl] at h; cases h
      | some l =>
        simp only [rdT, ho, hd, hl, Option.some.injEq] at h
        obtain ⟨q1, q2, q3⟩ := of_decide_eq_true hd
        exact ⟨t, l, rfl, q1, q2, q3, rfl, h.symm⟩
theorem rdT_next {b : List UInt8} {c s : Int} {i : Nat} {t : List (List Entry)} {l : List Entry} (ho : rdT b c s i = some t) (h1 : getE b (s + 130 * i) 2 = 0) (h2 : (t.length : Int) ≤ getV b (s + 130 * i) 2 false) (h3 : getV b (s + 130 * i) 2 false < 512) (hl : rdL b c (s + 130 * i + 2) 8 = some l) : rdT b c s (i + 1) = some (t ++ List.replicate ((getV b (s + 130 * i) 2 false).toNat - t.length) [] ++ [l]) := by
  have hd : decide (getE b (s + 130 * i) 2 = 0 ∧ (t.length : Int) ≤ getV b (s + 130 * i) 2 false ∧ getV b (s + 130 * i) 2 false < 512) = true := decide_eq_true ⟨h1, h2, h3⟩
  simp only [rdT, ho, hd, hl]
theorem rdT_stop {b : List UInt8} {c s : Int} {i : Nat} {t : List (List Entry)} (ho : rdT b c s i = some t) (h : ¬ (getE b (s + 130 * i) 2 = 0 ∧ (t.length : Int) ≤ getV b (s + 130 * i) 2 false ∧ getV b (s + 130 * i) 2 false < 512) ∨ rdL b c (s + 130 * i + 2) 8 = none) : rdT b c s (i + 1) = none := by
  cases hd : decide (getE b (s + 130 * i) 2 = 0 ∧ (t.length : Int) ≤ getV b (s + 130 * i) 2 false ∧ getV b (s + 130 * i) 2 false < 512) with
  | false => simp only [rdT, ho, hd]
  | true =>
    rcases h with h | h
    · exact (h (of_decide_eq_true hd)).elim
    · simp only [rdT, ho, hd, h]
theorem rdT_len {b : List UInt8} {c s : Int} : ∀ {i : Nat} {u : List (List Entry)}, rdT b c s i = some u → u.length ≤ 512 ∧ ∀ j, (leaf u j).length ≤ 8 := by
  intro i
  induction i with
  | zero => intro u h; simp only [rdT, Option.some.injEq] at h; subst h; exact ⟨by simp, fun j => by simp [leaf]⟩
  | succ i ih =>
    intro u h
    obtain ⟨t, l, h1, h2, h3, h4, h5, h6⟩ := rdT_some h
    obtain ⟨i1, i2⟩ := ih h1
    have hl := rdL_len h5
    subst h6
    refine ⟨by simp only [List.length_append, List.length_replicate, List.length_singleton]; omega, fun j => ?_⟩
    unfold leaf List.getD
    rw [List.append_assoc, List.getElem?_append]
    split
    · have := i2 j; unfold leaf List.getD at this; exact this
    · rw [List.getElem?_append]
      split
      · rename_i h7; rw [List.getElem?_replicate]; split <;> simp
      · simp only [List.getElem?_cons, List.length_replicate]
        split
        · simp [hl]
        · simp
theorem rdA_stop {b : List UInt8} {at_ n c : Int} (h : getE b at_ 2 ≠ 0 ∨ c < 0 ∨ 6 < c ∨ rdT b c (at_ + 2) (getV b at_ 2 false).toNat = none) : rdA b at_ n c = none := by
  unfold rdA
  cases hd : decide (getE b at_ 2 = 0) with
  | false => rfl
  | true =>
    cases ho : rdT b c (at_ + 2) (getV b at_ 2 false).toNat with
    | none => rfl
    | some t =>
      cases hr : rightT t n c with
      | false => simp only [hr]
      | true =>
        have := right_c hr
        rcases h with h | h | h | h
        · exact (h (of_decide_eq_true hd)).elim
        · omega
        · omega
        · rw [ho] at h; cases h
theorem rdA_some {b : List UInt8} {at_ n c : Int} {t : List (List Entry)} (h1 : getE b at_ 2 = 0) (h2 : rdT b c (at_ + 2) (getV b at_ 2 false).toNat = some t) : rdA b at_ n c = if rightT t n c = true then some t else none := by
  unfold rdA
  rw [decide_eq_true h1, h2]
  cases hr : rightT t n c <;> simp [hr]
theorem getE_there {b : List UInt8} {k : Int} (h : getE b k 2 = 0) : 0 ≤ k ∧ k + 2 ≤ b.length := by
  unfold getE at h
  rw [if_neg (by omega)] at h
  split at h
  · rename_i h1; unfold thereB at h1; have := of_decide_eq_true h1; omega
  · cases h
theorem getE_of {b : List UInt8} {k : Int} (h0 : 0 ≤ k) (h : k + 2 ≤ b.length) : getE b k 2 = 0 := by
  unfold getE
  rw [if_neg (by omega), if_pos]
  unfold thereB; exact decide_eq_true ⟨h0, by omega, by omega⟩
theorem getE_two (b : List UInt8) (k : Int) : getE b k 2 = 0 ∨ getE b k 2 = 6 := by
  unfold getE
  rw [if_neg (by omega)]
  split
  · exact .inl rfl
  · exact .inr rfl
theorem u64_succ {i : Nat} (h : i < 1000000000) : IntKind.u64.wrap ((i : Int) + 1) = ((i + 1 : Nat) : Int) := by
  simp only [IntKind.wrap, IntKind.bits, IntKind.signed]
  have e : ((i : Int) + 1) % 18446744073709551616 = (i : Int) + 1 := by omega
  simp [e]

def env_tread : Env := ⟨T, psi_forder, pspNil, 110, [], none, true⟩
theorem eok_tread : PsiOk Try.prog env_tread := ⟨psi_forder_ok, pspNil_ok⟩
theorem tread_fn (l : List UInt8) (at_ : Int) (n : Int) (c : Int) (hl : l.length ≤ 1000000) (hat : inR .i64 at_) : Ctr Try.prog 28 true [lst .byt l, int .i64 at_, int .i64 n, int .i64 c] (.t [.g [.lst .tbl (rT (rdA l at_ n c))], .c (i64 (rK (at_ + 2 + 130 * getV l at_ 2 false) (rdA l at_ n c))), .c (i64 (rF (rdA l at_ n c)))]) := by
  refine Ctr_intro (E := env_tread) Try.func28 rfl (by decide) rfl rfl (fun M0 W hM0 => ?_)
  refine G_run tOk eok_tread 60 (fun _ => none) (fun bs => rfl) (fun bs => ?_) (fun bs => ?_)
  · (repeat' apply And.intro) <;> (intros; first | exact trivial | exact rfl | omega | exact u8_lo _ | exact u8_hi _ | exact u8_in64 _ | exact u8_in63 _ | (simp only [inR, IntKind.bits]; omega) | (simp [inR, IntKind.bits]; done) | (simp [inR, IntKind.bits] at * <;> omega) | (simp_all; done) | skip)
  refine G_cond rfl rfl (fun h => ?_) (fun h => ?_)
  · have hX : rdA l at_ n c = none := rdA_stop (.inl (by simpa using h))
    rw [hX]
    refine G_run tOk eok_tread 60 (fun _ => none) (fun bs => rfl) (fun bs => ?_) (fun bs => ?_)
    · (repeat' apply And.intro) <;> (intros; first | exact trivial | exact rfl | omega | exact u8_lo _ | exact u8_hi _ | exact u8_in64 _ | exact u8_in63 _ | (simp only [inR, IntKind.bits]; omega) | (simp [inR, IntKind.bits]; done) | (simp [inR, IntKind.bits] at * <;> omega) | (simp_all; done) | skip)
    exact G_ret tOk hM0 rfl rfl ⟨rfl, trivial, trivial, trivial⟩ ⟨⟨⟨rfl, rfl⟩, trivial⟩, ⟨rfl, rfl⟩, ⟨rfl, rfl⟩, trivial⟩
  have he : getE l at_ 2 = 0 := by simpa using h
  obtain ⟨ha1, ha2⟩ := getE_there he
  have hv := getV2_lt' l at_
  have hA := fun t => rdA_some (n := n) (c := c) (t := t) he
  have hS := fun h => rdA_stop (b := l) (at_ := at_) (n := n) (c := c) (.inr (.inr (.inr h)))
  generalize rdA l at_ n c = o at *
  obtain ⟨cnt, hc⟩ : ∃ cnt : Nat, getV l at_ 2 false = cnt := ⟨(getV l at_ 2 false).toNat, by omega⟩
  rw [hc] at hv hA hS ⊢
  rw [Int.toNat_natCast] at hA hS
  refine G_run tOk eok_tread 60 (fun _ => none) (fun bs => rfl) (fun bs => ?_) (fun bs => ?_)
  · (repeat' apply And.intro) <;> (intros; first | exact trivial | exact rfl | omega | exact u8_lo _ | exact u8_hi _ | exact u8_in64 _ | exact u8_in63 _ | (simp only [inR, IntKind.bits]; omega) | (simp [inR, IntKind.bits, hc]; done) | (simp [inR, IntKind.bits, hc] at * <;> omega) | (simp_all; done) | skip)
  refine G_ownB 1 0 58 rfl rfl ?_
  have hbad : ∀ (k : Nat), k ≤ cnt → rdT l c (at_ + 2) k = none → o = none := fun k hk h => hS (rdT_none h hk)
  refine G_wkB2 (ns := [0, 1, 2]) (fs := fun b d => [(0, lst .byt l), (1, int .i64 (at_ + 2)), (2, int .i64 n), (3, int .i64 c), (8, .c (.ptr 0 b 0)), (13, .c (.ptr 1 d 0)), (30, int .u64 cnt), (31, int .u64 0)]) (hs := fun b d => [.blk b 24 [.pv (.nil .tbl)], .blk d 24 [.own 2 (.slice none 0 0)], .own (.slice none 0 0) 58 .tbl []]) ?b1 ?c1 rfl ?wk0 (fun b d => ?_)
  case wk0 => (repeat' apply And.intro) <;> (first | exact rfl | exact trivial | omega | refine sigEq ?_ | skip)
  refine G_loop (fun x : Nat × Value × List (List Entry) => [(0, lst .byt l), (1, int .i64 (at_ + 2 + 130 * x.1)), (2, int .i64 n), (3, int .i64 c), (8, .c (.ptr 0 b 0)), (13, .c (.ptr 1 d 0)), (30, int .u64 cnt), (31, int .u64 x.1)]) (fun x => [.blk b 24 [.pv (.nil .tbl)], .blk d 24 [.own 2 x.2.1], .own x.2.1 58 .tbl x.2.2]) (fun x => x.1 ≤ cnt ∧ rdT l c (at_ + 2) x.1 = some x.2.2 ∧ at_ + 2 + 130 * x.1 ≤ l.length) (fun x => cnt - x.1) rfl [0, 1, 2] (0, .slice none 0 0, []) ⟨Nat.zero_le _, rfl, by simp only; omega⟩ ?wk (fun x hx => ?_)
  case wk =>
    (repeat' apply And.intro) <;> (first | exact rfl | exact trivial | omega | refine sigEq ?_ | skip)
    all_goals (simp; done)
  obtain ⟨i, v, t⟩ := x
  obtain ⟨hx1, hx2, hx3⟩ := hx
  dsimp only at hx1 hx2 hx3 ⊢
  obtain ⟨ht1, ht2⟩ := rdT_len hx2
  refine G_run tOk eok_tread 60 (fun _ => none) (fun bs => rfl) (fun bs => ?_) (fun bs => ?_)
  · (repeat' apply And.intro) <;> (intros; first | exact trivial | exact rfl | omega | exact u8_lo _ | exact u8_hi _ | exact u8_in64 _ | exact u8_in63 _ | (simp only [inR, IntKind.bits]; omega) | (simp [inR, IntKind.bits]; done) | (simp [inR, IntKind.bits] at * <;> omega) | (simp_all; done) | skip)
  refine G_if rfl rfl (fun hk => ?_) (fun hk => ?_)
  · have hi : i < cnt := by omega
    have hb1 := hbad (i + 1) (by omega)
    have hv2 := getV2_lt' l (at_ + 2 + 130 * i)
    obtain ⟨p, hp⟩ : ∃ p : Nat, getV l (at_ + 2 + 130 * i) 2 false = p := ⟨(getV l (at_ + 2 + 130 * i) 2 false).toNat, by omega⟩
    rw [hp] at hv2
    refine G_run tOk eok_tread 60 (fun _ => none) (fun bs => rfl) (fun bs => ?_) (fun bs => ?_)
    · (repeat' apply And.intro) <;> (intros; first | exact trivial | exact rfl | omega | exact u8_lo _ | exact u8_hi _ | exact u8_in64 _ | exact u8_in63 _ | (simp only [inR, IntKind.bits]; omega) | (simp [inR, IntKind.bits, hp]; done) | (simp [inR, IntKind.bits, hp] at * <;> omega) | (simp_all; done) | skip)
    refine G_cond rfl rfl (fun h => ?_) (fun h => ?_)
    · have hX := hb1 (rdT_stop hx2 (.inl (fun ⟨q1, q2, q3⟩ => by simp [q1] at h; omega)))
      subst hX
      refine G_run tOk eok_tread 60 (fun _ => none) (fun bs => rfl) (fun bs => ?_) (fun bs => ?_)
      · (repeat' apply And.intro) <;> (intros; first | exact trivial | exact rfl | omega | exact u8_lo _ | exact u8_hi _ | exact u8_in64 _ | exact u8_in63 _ | (simp only [inR, IntKind.bits]; omega) | (simp [inR, IntKind.bits]; done) | (simp [inR, IntKind.bits] at * <;> omega) | (simp_all; done) | skip)
      exact G_ret tOk hM0 rfl rfl ⟨rfl, trivial, trivial, trivial⟩ ⟨⟨⟨rfl, rfl⟩, trivial⟩, ⟨rfl, rfl⟩, ⟨rfl, rfl⟩, trivial⟩
    · simp at h
      obtain ⟨⟨h1, h2⟩, h3⟩ := h
      rw [hp] at h2 h3
      obtain ⟨g1, g2⟩ := getE_there h1
      have hst := fun (h : rdL l c (at_ + 2 + 130 * i + 2) 8 = none) => hb1 (rdT_stop hx2 (.inr h))
      have hnx := fun (le : List Entry) (h : rdL l c (at_ + 2 + 130 * i + 2) 8 = some le) => rdT_next hx2 h1 (by rw [hp]; exact h2) (by rw [hp]; exact h3) h
      rw [hp, Int.toNat_natCast] at hnx
      obtain ⟨K, hK⟩ : ∃ K, at_ + 2 + 130 * (i : Int) + 2 = K := ⟨_, rfl⟩
      rw [hK] at hst hnx
      refine G_run tOk eok_tread 60 (fun _ => none) (fun bs => rfl) (fun bs => ?_) (fun bs => ?_)
      · (repeat' apply And.intro) <;> (intros; first | exact trivial | exact rfl | omega | exact u8_lo _ | exact u8_hi _ | exact u8_in64 _ | exact u8_in63 _ | (simp only [inR, IntKind.bits]; omega) | (simp [inR, IntKind.bits]; done) | (simp [inR, IntKind.bits] at * <;> omega) | (simp_all; done) | skip)
      refine G_loop (fun y : Nat × Value => [(0, lst .byt l), (1, int .i64 K), (2, int .i64 n), (3, int .i64 c), (8, .c (.ptr 0 b 0)), (13, .c (.ptr 1 d 0)), (14, int .u64 p), (30, int .u64 cnt), (31, int .u64 i)]) (fun y => [.blk b 24 [.pv (.nil .tbl)], .blk d 24 [.own 2 y.2], .own y.2 58 .tbl (t ++ List.replicate y.1 [])]) (fun y => y.1 ≤ p - t.length) (fun y => p - t.length - y.1) rfl [0, 1, 2] (0, v) (Nat.zero_le _) ?wk2 (fun y hy => ?_)
      case wk2 =>
        (repeat' apply And.intro) <;> (first | exact rfl | exact trivial | omega | refine sigEq ?_ | skip)
        all_goals first | exact hK | exact hp | (simp; done) | skip
      obtain ⟨m, v⟩ := y
      dsimp only at hy ⊢
      have hlm : (t ++ List.replicate m ([] : List Entry)).length = t.length + m := by simp
      refine G_run tOk eok_tread 60 (fun _ => none) (fun bs => rfl) (fun bs => ?_) (fun bs => ?_)
      · (repeat' apply And.intro) <;> (intros; first | exact trivial | exact rfl | omega | exact u8_lo _ | exact u8_hi _ | exact u8_in64 _ | exact u8_in63 _ | (simp only [inR, IntKind.bits]; omega) | (simp [inR, IntKind.bits]; done) | (simp [inR, IntKind.bits] at * <;> omega) | (simp_all; done) | skip)
      refine G_if (p := ((t ++ List.replicate m ([] : List Entry)).length : Int) < p) rfl rfl (fun hk2 => ?_) (fun hk2 => ?_)
      · rw [hlm] at hk2
        refine G_run tOk eok_tread 60 (fun _ => none) (fun bs => rfl) (fun bs => ?_) (fun bs => ?_)
        · simp only [hlm]
          (repeat' apply And.intro) <;> (intros; first | exact trivial | exact rfl | omega | exact u8_lo _ | exact u8_hi _ | exact u8_in64 _ | exact u8_in63 _ | (simp only [inR, IntKind.bits]; omega) | (simp [inR, IntKind.bits]; done) | (simp [inR, IntKind.bits] at * <;> omega) | (simp_all; done) | skip)
        refine G_lp [0, 1, 4] (m + 1, ?v2) ?ok2 ?wk3
        case ok2 => exact ⟨by simp only; omega, by simp only; omega⟩
        case wk3 =>
          (repeat' apply And.intro) <;> (first | exact rfl | exact trivial | omega | refine sigEq ?_ | skip)
          all_goals (rw [List.replicate_succ', List.append_assoc])
      · rw [hlm] at hk2
        have hm : m = p - t.length := by omega
        subst hm
        refine G_run tOk eok_tread 60 (fun _ => none) (fun bs => rfl) (fun bs => ?_) (fun bs => ?_)
        · (repeat' apply And.intro) <;> (intros; first | exact trivial | exact rfl | omega | exact u8_lo _ | exact u8_hi _ | exact u8_in64 _ | exact u8_in63 _ | (simp only [inR, IntKind.bits]; omega) | (simp [inR, IntKind.bits]; done) | (simp [inR, IntKind.bits] at * <;> omega) | (simp_all; done) | skip)
        refine G_own 16 30 rfl ?_
        generalize hT : t ++ List.replicate (p - t.length) ([] : List Entry) = T at *
        refine G_loop (fun z : Nat × Value × List Entry => [(0, lst .byt l), (1, int .i64 (K + 16 * z.1)), (2, int .i64 n), (3, int .i64 c), (8, .c (.ptr 0 b 0)), (13, .c (.ptr 1 d 0)), (16, .c (.own 3 z.2.1)), (30, int .u64 cnt), (31, int .u64 i), (67, int .i64 z.1)]) (fun z => [.blk b 24 [.pv (.nil .tbl)], .blk d 24 [.own 2 v], .own v 58 .tbl T, .own z.2.1 30 .ent z.2.2]) (fun z => z.1 ≤ 8 ∧ rdL l c K z.1 = some z.2.2 ∧ K + 16 * z.1 ≤ l.length) (fun z => 8 - z.1) rfl [0, 1, 2, 3] (0, .slice none 0 0, []) ⟨Nat.zero_le _, rfl, by simp only; omega⟩ ?wk4 (fun z hz => ?_)
        case wk4 =>
          (repeat' apply And.intro) <;> (first | exact rfl | exact trivial | omega | refine sigEq ?_ | skip)
          all_goals first | (simp; done) | skip
        obtain ⟨j, u, le⟩ := z
        obtain ⟨hz1, hz2, hz3⟩ := hz
        dsimp only at hz1 hz2 hz3 ⊢
        have hlj := rdL_len hz2
        refine G_run tOk eok_tread 60 (fun _ => none) (fun bs => rfl) (fun bs => ?_) (fun bs => ?_)
        · (repeat' apply And.intro) <;> (intros; first | exact trivial | exact rfl | omega | exact u8_lo _ | exact u8_hi _ | exact u8_in64 _ | exact u8_in63 _ | (simp only [inR, IntKind.bits]; omega) | (simp [inR, IntKind.bits]; done) | (simp [inR, IntKind.bits] at * <;> omega) | (simp_all; done) | skip)
        refine G_if rfl rfl (fun hk3 => ?_) (fun hk3 => ?_)
        · have hj : j < 8 := by omega
          have hbadj := fun (h : rdL l c K (j + 1) = none) => hst (rdL_none h (by omega : j + 1 ≤ 8))
          refine G_run tOk eok_tread 60 (fun _ => none) (fun bs => rfl) (fun bs => ?_) (fun bs => ?_)
          · (repeat' apply And.intro) <;> (intros; first | exact trivial | exact rfl | omega | exact u8_lo _ | exact u8_hi _ | exact u8_in64 _ | exact u8_in63 _ | (simp only [inR, IntKind.bits]; omega) | (simp [inR, IntKind.bits]; done) | (simp [inR, IntKind.bits] at * <;> omega) | (simp_all; done) | skip)
          refine G_if rfl rfl (fun h4 => ?_) (fun h4 => ?_)
          · have hX := hbadj (by
              cases hr : rdL l c K (j + 1) with
              | none => rfl
              | some w => have := rdL_room (by omega) hr; omega)
            subst hX
            refine G_run tOk eok_tread 60 (fun _ => none) (fun bs => rfl) (fun bs => ?_) (fun bs => ?_)
            · (repeat' apply And.intro) <;> (intros; first | exact trivial | exact rfl | omega | exact u8_lo _ | exact u8_hi _ | exact u8_in64 _ | exact u8_in63 _ | (simp only [inR, IntKind.bits]; omega) | (simp [inR, IntKind.bits]; done) | (simp [inR, IntKind.bits] at * <;> omega) | (simp_all; done) | skip)
            exact G_ret tOk hM0 rfl rfl ⟨rfl, trivial, trivial, trivial⟩ ⟨⟨⟨rfl, rfl⟩, trivial⟩, ⟨rfl, rfl⟩, ⟨rfl, rfl⟩, trivial⟩
          · refine G_run tOk eok_tread 60 (fun _ => none) (fun bs => rfl) (fun bs => ?_) (fun bs => ?_)
            · (repeat' apply And.intro) <;> (intros; first | exact trivial | exact rfl | omega | exact u8_lo _ | exact u8_hi _ | exact u8_in64 _ | exact u8_in63 _ | (simp only [inR, IntKind.bits]; omega) | (simp [inR, IntKind.bits]; done) | (simp [inR, IntKind.bits] at * <;> omega) | (simp_all; done) | skip)
            refine G_cond (b := !decide (gE (sl l (K + 16 * j)) c = 0)) rfl rfl (fun h5 => ?_) (fun h5 => ?_)
            · have h5 : ¬ gE (sl l (K + 16 * j)) c = 0 := by simpa using h5
              have hX := hbadj (by simp only [rdL, hz2, decide_eq_false h5])
              subst hX
              refine G_run tOk eok_tread 60 (fun _ => none) (fun bs => rfl) (fun bs => ?_) (fun bs => ?_)
              · (repeat' apply And.intro) <;> (intros; first | exact trivial | exact rfl | omega | exact u8_lo _ | exact u8_hi _ | exact u8_in64 _ | exact u8_in63 _ | (simp only [inR, IntKind.bits]; omega) | (simp [inR, IntKind.bits]; done) | (simp [inR, IntKind.bits] at * <;> omega) | (simp_all; done) | skip)
              exact G_ret tOk hM0 rfl rfl ⟨rfl, trivial, trivial, trivial⟩ ⟨⟨⟨rfl, rfl⟩, trivial⟩, ⟨rfl, rfl⟩, ⟨rfl, rfl⟩, trivial⟩
            · have h5 : gE (sl l (K + 16 * j)) c = 0 := by simpa using h5
              have hz4 : rdL l c K (j + 1) = some (le ++ [gX (sl l (K + 16 * j)) c]) := by simp only [rdL, hz2, decide_eq_true h5]
              have hz5 := rdL_room (by omega) hz4
              refine G_run tOk eok_tread 60 (fun _ => none) (fun bs => rfl) (fun bs => ?_) (fun bs => ?_)
              · (repeat' apply And.intro) <;> (intros; first | exact trivial | exact rfl | omega | exact u8_lo _ | exact u8_hi _ | exact u8_in64 _ | exact u8_in63 _ | (simp only [inR, IntKind.bits]; omega) | (simp [inR, IntKind.bits, hlj]; done) | (simp [inR, IntKind.bits, hlj] at * <;> omega) | (simp_all; done) | skip)
              refine G_lp [0, 1, 2, 6] (j + 1, ?v3, le ++ [gX (sl l (K + 16 * j)) c]) ?ok5 ?wk5
              case ok5 => exact ⟨⟨by simp only; omega, hz4, by simp only; omega⟩, by simp only; omega⟩
              case wk5 =>
                (repeat' apply And.intro) <;> (first | exact rfl | exact trivial | omega | refine sigEq ?_ | skip)
                all_goals first | (simp; omega) | rfl | skip
        · have hj : j = 8 := by omega
          subst hj
          have hN := hnx le hz2
          refine G_run tOk eok_tread 60 (fun _ => none) (fun bs => rfl) (fun bs => ?_) (fun bs => ?_)
          · (repeat' apply And.intro) <;> (intros; first | exact trivial | exact rfl | omega | exact u8_lo _ | exact u8_hi _ | exact u8_in64 _ | exact u8_in63 _ | (simp only [inR, IntKind.bits]; omega) | (simp [inR, IntKind.bits]; done) | (simp [inR, IntKind.bits] at * <;> omega) | (simp_all; done) | skip)
          refine G_freeze 3 [16, 97] rfl ⟨rfl, rfl, trivial⟩ ?_
          have hlT : T.length = p := by rw [hlm]; omega
          refine G_run tOk eok_tread 60 (fun _ => none) (fun bs => rfl) (fun bs => ?_) (fun bs => ?_)
          · (repeat' apply And.intro) <;> (intros; first | exact trivial | exact rfl | omega | exact u8_lo _ | exact u8_hi _ | exact u8_in64 _ | exact u8_in63 _ | (simp only [inR, IntKind.bits]; omega) | (simp [inR, IntKind.bits, hlT]; done) | (simp [inR, IntKind.bits, hlT] at * <;> omega) | (simp_all; done) | skip)
          refine G_lp [0, 1, 5] (i + 1, ?v4, T ++ [le]) ?ok6 ?wk6
          case ok6 => exact ⟨⟨by simp only; omega, hN, by simp only; omega⟩, by simp only; omega⟩
          case wk6 =>
            (repeat' apply And.intro) <;> (first | exact rfl | exact trivial | omega | refine sigEq ?_ | skip)
            all_goals first | (simp; omega) | exact u64_succ (by omega) | rfl | skip
  · have hi : i = cnt := by omega
    subst hi
    have hO := hA t hx2
    have hlf : ∀ i, (leaf t i).length ≤ 1000000000 := fun i => Nat.le_trans (ht2 i) (by decide)
    refine G_freezeC 1 0 2 rfl rfl rfl ?_
    refine G_run tOk eok_tread 60 (fun _ => none) (fun bs => rfl) (fun bs => ?_) (fun bs => ?_)
    · (repeat' apply And.intro) <;> (intros; first | exact trivial | exact rfl | omega | exact u8_lo _ | exact u8_hi _ | exact u8_in64 _ | exact u8_in63 _ | (simp only [inR, IntKind.bits]; omega) | (simp [inR, IntKind.bits, hlf]; done) | (simp [inR, IntKind.bits, hlf] at * <;> omega) | (simp_all; done) | skip)
    refine G_cond (b := !rightT t n c) rfl rfl (fun h6 => ?_) (fun h6 => ?_)
    · rw [if_neg (by simpa using h6)] at hO
      subst hO
      refine G_run tOk eok_tread 60 (fun _ => none) (fun bs => rfl) (fun bs => ?_) (fun bs => ?_)
      · (repeat' apply And.intro) <;> (intros; first | exact trivial | exact rfl | omega | exact u8_lo _ | exact u8_hi _ | exact u8_in64 _ | exact u8_in63 _ | (simp only [inR, IntKind.bits]; omega) | (simp [inR, IntKind.bits]; done) | (simp [inR, IntKind.bits] at * <;> omega) | (simp_all; done) | skip)
      exact G_ret tOk hM0 rfl rfl ⟨rfl, trivial, trivial, trivial⟩ ⟨⟨⟨rfl, rfl⟩, trivial⟩, ⟨rfl, rfl⟩, ⟨rfl, rfl⟩, trivial⟩
    · rw [if_pos (by simpa using h6)] at hO
      subst hO
      refine G_run tOk eok_tread 60 (fun _ => none) (fun bs => rfl) (fun bs => ?_) (fun bs => ?_)
      · (repeat' apply And.intro) <;> (intros; first | exact trivial | exact rfl | omega | exact u8_lo _ | exact u8_hi _ | exact u8_in64 _ | exact u8_in63 _ | (simp only [inR, IntKind.bits]; omega) | (simp [inR, IntKind.bits]; done) | (simp [inR, IntKind.bits] at * <;> omega) | (simp_all; done) | skip)
      exact G_ret tOk hM0 rfl rfl ⟨rfl, trivial, trivial, trivial⟩ ⟨⟨rfl, trivial⟩, ⟨rfl, rfl⟩, ⟨rfl, rfl⟩, trivial⟩
def tread_s : FSpec
  | [.c (.pv (.lst .byt l)), .c (.pv (.val (.int .i64 at_))), .c (.pv (.val (.int .i64 n))), .c (.pv (.val (.int .i64 c)))] => some ((l.length ≤ 1000000) ∧ (inR .i64 at_), true, .t [.g [.lst .tbl (rT (rdA l at_ n c))], .c (i64 (rK (at_ + 2 + 130 * getV l at_ 2 false) (rdA l at_ n c))), .c (i64 (rF (rdA l at_ n c)))])
  | _ => none
theorem tread_s_ok : SpecOk Try.prog 28 tread_s := by
  intro args pre sh rv h hp; unfold tread_s at h; split at h
  · cases h; obtain ⟨hl, hat⟩ := hp; exact tread_fn _ _ _ _ hl hat
  · cases h
def psi_tread : FuncId → Option FSpec := psiCons 28 tread_s psi_forder
theorem psi_tread_ok : PsiFn Try.prog psi_tread := psiCons_ok tread_s_ok psi_forder_ok
end Go.Proofs.Ytnmomckmpknbkaa
