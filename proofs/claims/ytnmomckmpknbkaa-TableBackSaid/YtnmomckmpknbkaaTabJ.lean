import Derived.Test.YtnmomckmpknbkaaTabI
set_option linter.unusedSimpArgs false
set_option linter.unusedVariables false
namespace Go.Proofs.Ytnmomckmpknbkaa
open Go.Mt

def env_rread : Env := ⟨T, psi_tread, pspNil, 114, [], none, true⟩
theorem eok_rread : PsiOk Try.prog env_rread := ⟨psi_tread_ok, pspNil_ok⟩
theorem rread_fn (l : List UInt8) (at_ : Int) (n : Int) (c : Int) (hl : l.length ≤ 1000000) (hat : inR .i64 at_) : Ctr Try.prog 29 true [lst .byt l, int .i64 at_, int .i64 n, int .i64 c] (.t [.g [.lst .tbl (rT (rdA l at_ n c))], .c (i64 (rK (at_ + 2 + 130 * getV l at_ 2 false) (rdA l at_ n c))), .c (i64 (rF (rdA l at_ n c)))]) := by
  refine Ctr_intro (E := env_rread) Try.func29 rfl (by decide) rfl rfl (fun M0 W hM0 => ?_)
  refine G_run tOk eok_rread 60 (fun _ => none) (fun bs => rfl) (fun bs => ?_) (fun bs => ?_)
  · (repeat' apply And.intro) <;> (intros; first | exact trivial | exact rfl | omega | exact u8_lo _ | exact u8_hi _ | exact u8_in64 _ | exact u8_in63 _ | (simp only [inR, IntKind.bits]; omega) | (simp [inR, IntKind.bits]; done) | (simp [inR, IntKind.bits] at * <;> omega) | (simp_all; done) | skip)
  refine G_cond rfl rfl (fun h => ?_) (fun h => ?_)
  · have hX : rdA l at_ n c = none := rdA_stop (by
      simp at h
      rcases h with (h | h) | h
      · exact .inl h
      · exact .inr (.inl h)
      · exact .inr (.inr (.inl h)))
    rw [hX]
    refine G_run tOk eok_rread 60 (fun _ => none) (fun bs => rfl) (fun bs => ?_) (fun bs => ?_)
    · (repeat' apply And.intro) <;> (intros; first | exact trivial | exact rfl | omega | exact u8_lo _ | exact u8_hi _ | exact u8_in64 _ | exact u8_in63 _ | (simp only [inR, IntKind.bits]; omega) | (simp [inR, IntKind.bits]; done) | (simp [inR, IntKind.bits] at * <;> omega) | (simp_all; done) | skip)
    exact G_ret tOk hM0 rfl rfl ⟨rfl, trivial, trivial, trivial⟩ ⟨⟨⟨rfl, rfl⟩, trivial⟩, ⟨rfl, rfl⟩, ⟨rfl, rfl⟩, trivial⟩
  have he : getE l at_ 2 = 0 := by simp at h; exact h.1.1
  obtain ⟨ha1, ha2⟩ := getE_there he
  have hv := getV2_lt' l at_
  have hA := fun t => rdA_some (n := n) (c := c) (t := t) he
  have hS := fun h => rdA_stop (b := l) (at_ := at_) (n := n) (c := c) (.inr (.inr (.inr h)))
  generalize rdA l at_ n c = o at *
  obtain ⟨cnt, hc⟩ : ∃ cnt : Nat, getV l at_ 2 false = cnt := ⟨(getV l at_ 2 false).toNat, by omega⟩
  rw [hc] at hv hA hS ⊢
  rw [Int.toNat_natCast] at hA hS
  refine G_run tOk eok_rread 60 (fun _ => none) (fun bs => rfl) (fun bs => ?_) (fun bs => ?_)
  · (repeat' apply And.intro) <;> (intros; first | exact trivial | exact rfl | omega | exact u8_lo _ | exact u8_hi _ | exact u8_in64 _ | exact u8_in63 _ | (simp only [inR, IntKind.bits]; omega) | (simp [inR, IntKind.bits, hc]; done) | (simp [inR, IntKind.bits, hc] at * <;> omega) | (simp_all; done) | skip)
  refine G_ownB 1 0 58 rfl rfl ?_
  have hbad : ∀ (k : Nat), k ≤ cnt → rdT l c (at_ + 2) k = none → o = none := fun k hk h => hS (rdT_none h hk)
  refine G_wkB2 (ns := [0, 1, 2]) (fs := fun b d => [(0, lst .byt l), (2, int .i64 n), (3, int .i64 c), (8, .c (.ptr 0 b 0)), (11, int .u64 cnt), (13, int .i64 (at_ + 2)), (14, .c (.ptr 1 d 0)), (15, int .i64 (-1)), (16, int .i64 0)]) (hs := fun b d => [.blk b 24 [.pv (.nil .tbl)], .blk d 24 [.own 2 (.slice none 0 0)], .own (.slice none 0 0) 58 .tbl []]) ?b1 ?c1 rfl ?wk0 (fun b d => ?_)
  case wk0 => (repeat' apply And.intro) <;> (first | exact rfl | exact trivial | omega | refine sigEq ?_ | skip)
  refine G_loop (fun x : Nat × Value × List (List Entry) => [(0, lst .byt l), (2, int .i64 n), (3, int .i64 c), (8, .c (.ptr 0 b 0)), (11, int .u64 cnt), (13, int .i64 (at_ + 2 + 130 * x.1)), (14, .c (.ptr 1 d 0)), (15, int .i64 (x.2.2.length - 1)), (16, int .i64 x.1)]) (fun x => [.blk b 24 [.pv (.nil .tbl)], .blk d 24 [.own 2 x.2.1], .own x.2.1 58 .tbl x.2.2]) (fun x => x.1 ≤ cnt ∧ rdT l c (at_ + 2) x.1 = some x.2.2 ∧ at_ + 2 + 130 * x.1 ≤ l.length) (fun x => cnt - x.1) rfl [0, 1, 2] (0, .slice none 0 0, []) ⟨Nat.zero_le _, rfl, by simp only; omega⟩ ?wk (fun x hx => ?_)
  case wk =>
    (repeat' apply And.intro) <;> (first | exact rfl | exact trivial | omega | refine sigEq ?_ | skip)
    all_goals first | (simp; done) | skip
  obtain ⟨i, v, t⟩ := x
  obtain ⟨hx1, hx2, hx3⟩ := hx
  dsimp only at hx1 hx2 hx3 ⊢
  obtain ⟨ht1, ht2⟩ := rdT_len hx2
  refine G_run tOk eok_rread 60 (fun _ => none) (fun bs => rfl) (fun bs => ?_) (fun bs => ?_)
  · (repeat' apply And.intro) <;> (intros; first | exact trivial | exact rfl | omega | exact u8_lo _ | exact u8_hi _ | exact u8_in64 _ | exact u8_in63 _ | (simp only [inR, IntKind.bits]; omega) | (simp [inR, IntKind.bits]; done) | (simp [inR, IntKind.bits] at * <;> omega) | (simp_all; done) | skip)
  refine G_if rfl rfl (fun hk => ?_) (fun hk => ?_)
  · have hi : i < cnt := by omega
    have hb1 := hbad (i + 1) (by omega)
    have hv2 := getV2_lt' l (at_ + 2 + 130 * i)
    obtain ⟨p, hp⟩ : ∃ p : Nat, getV l (at_ + 2 + 130 * i) 2 false = p := ⟨(getV l (at_ + 2 + 130 * i) 2 false).toNat, by omega⟩
    rw [hp] at hv2
    refine G_run tOk eok_rread 60 (fun _ => none) (fun bs => rfl) (fun bs => ?_) (fun bs => ?_)
    · (repeat' apply And.intro) <;> (intros; first | exact trivial | exact rfl | omega | exact u8_lo _ | exact u8_hi _ | exact u8_in64 _ | exact u8_in63 _ | (simp only [inR, IntKind.bits]; omega) | (simp [inR, IntKind.bits]; done) | (simp [inR, IntKind.bits] at * <;> omega) | (simp_all; done) | skip)
    refine G_if rfl rfl (fun h => ?_) (fun h => ?_)
    · have hX := hb1 (by
        cases hr : rdT l c (at_ + 2) (i + 1) with
        | none => rfl
        | some w =>
          obtain ⟨_, _, _, _, _, _, h5, _⟩ := rdT_some hr
          have := rdL_room (by omega) h5; omega)
      subst hX
      refine G_run tOk eok_rread 60 (fun _ => none) (fun bs => rfl) (fun bs => ?_) (fun bs => ?_)
      · (repeat' apply And.intro) <;> (intros; first | exact trivial | exact rfl | omega | exact u8_lo _ | exact u8_hi _ | exact u8_in64 _ | exact u8_in63 _ | (simp only [inR, IntKind.bits]; omega) | (simp [inR, IntKind.bits]; done) | (simp [inR, IntKind.bits] at * <;> omega) | (simp_all; done) | skip)
      exact G_ret tOk hM0 rfl rfl ⟨rfl, trivial, trivial, trivial⟩ ⟨⟨⟨rfl, rfl⟩, trivial⟩, ⟨rfl, rfl⟩, ⟨rfl, rfl⟩, trivial⟩
    have hroom : at_ + 2 + 130 * i + 130 ≤ l.length := by omega
    have h1 : getE l (at_ + 2 + 130 * i) 2 = 0 := getE_of (by omega) (by omega)
    refine G_run tOk eok_rread 60 (fun _ => none) (fun bs => rfl) (fun bs => ?_) (fun bs => ?_)
    · (repeat' apply And.intro) <;> (intros; first | exact trivial | exact rfl | omega | exact u8_lo _ | exact u8_hi _ | exact u8_in64 _ | exact u8_in63 _ | (simp only [inR, IntKind.bits]; omega) | (simp [inR, IntKind.bits, hp]; done) | (simp [inR, IntKind.bits, hp] at * <;> omega) | (simp_all; done) | skip)
    refine G_cond rfl rfl (fun h => ?_) (fun h => ?_)
    · have hX := hb1 (rdT_stop hx2 (.inl (fun ⟨q1, q2, q3⟩ => by simp at h; omega)))
      subst hX
      refine G_run tOk eok_rread 60 (fun _ => none) (fun bs => rfl) (fun bs => ?_) (fun bs => ?_)
      · (repeat' apply And.intro) <;> (intros; first | exact trivial | exact rfl | omega | exact u8_lo _ | exact u8_hi _ | exact u8_in64 _ | exact u8_in63 _ | (simp only [inR, IntKind.bits]; omega) | (simp [inR, IntKind.bits]; done) | (simp [inR, IntKind.bits] at * <;> omega) | (simp_all; done) | skip)
      exact G_ret tOk hM0 rfl rfl ⟨rfl, trivial, trivial, trivial⟩ ⟨⟨⟨rfl, rfl⟩, trivial⟩, ⟨rfl, rfl⟩, ⟨rfl, rfl⟩, trivial⟩
    · simp at h
      obtain ⟨h2, h3⟩ := h
      rw [hp] at h2 h3
      have h2 : (t.length : Int) ≤ p := by omega
      have hst := fun (h : rdL l c (at_ + 2 + 130 * i + 2) 8 = none) => hb1 (rdT_stop hx2 (.inr h))
      have hnx := fun (le : List Entry) (h : rdL l c (at_ + 2 + 130 * i + 2) 8 = some le) => rdT_next hx2 h1 (by rw [hp]; exact h2) (by rw [hp]; exact h3) h
      rw [hp, Int.toNat_natCast] at hnx
      obtain ⟨K, hK⟩ : ∃ K, at_ + 2 + 130 * (i : Int) + 2 = K := ⟨_, rfl⟩
      rw [hK] at hst hnx
      refine G_run tOk eok_rread 60 (fun _ => none) (fun bs => rfl) (fun bs => ?_) (fun bs => ?_)
      · (repeat' apply And.intro) <;> (intros; first | exact trivial | exact rfl | omega | exact u8_lo _ | exact u8_hi _ | exact u8_in64 _ | exact u8_in63 _ | (simp only [inR, IntKind.bits]; omega) | (simp [inR, IntKind.bits]; done) | (simp [inR, IntKind.bits] at * <;> omega) | (simp_all; done) | skip)
      refine G_loop (fun y : Nat × Value => [(0, lst .byt l), (2, int .i64 n), (3, int .i64 c), (8, .c (.ptr 0 b 0)), (11, int .u64 cnt), (13, int .i64 K), (14, .c (.ptr 1 d 0)), (15, int .i64 p), (16, int .i64 i), (17, int .i64 p)]) (fun y => [.blk b 24 [.pv (.nil .tbl)], .blk d 24 [.own 2 y.2], .own y.2 58 .tbl (t ++ List.replicate y.1 [])]) (fun y => y.1 ≤ p - t.length) (fun y => p - t.length - y.1) rfl [0, 1, 2] (0, v) (Nat.zero_le _) ?wk2 (fun y hy => ?_)
      case wk2 =>
        (repeat' apply And.intro) <;> (first | exact rfl | exact trivial | omega | refine sigEq ?_ | skip)
        all_goals first | exact hK | exact hp | (simp; done) | skip
      obtain ⟨m, v⟩ := y
      dsimp only at hy ⊢
      have hlm : (t ++ List.replicate m ([] : List Entry)).length = t.length + m := by simp
      refine G_run tOk eok_rread 60 (fun _ => none) (fun bs => rfl) (fun bs => ?_) (fun bs => ?_)
      · (repeat' apply And.intro) <;> (intros; first | exact trivial | exact rfl | omega | exact u8_lo _ | exact u8_hi _ | exact u8_in64 _ | exact u8_in63 _ | (simp only [inR, IntKind.bits]; omega) | (simp [inR, IntKind.bits]; done) | (simp [inR, IntKind.bits] at * <;> omega) | (simp_all; done) | skip)
      refine G_if (p := ((t ++ List.replicate m ([] : List Entry)).length : Int) < p) rfl rfl (fun hk2 => ?_) (fun hk2 => ?_)
      · rw [hlm] at hk2
        refine G_run tOk eok_rread 60 (fun _ => none) (fun bs => rfl) (fun bs => ?_) (fun bs => ?_)
        · simp only [hlm]
          (repeat' apply And.intro) <;> (intros; first | exact trivial | exact rfl | omega | exact u8_lo _ | exact u8_hi _ | exact u8_in64 _ | exact u8_in63 _ | (simp only [inR, IntKind.bits]; omega) | (simp [inR, IntKind.bits]; done) | (simp [inR, IntKind.bits] at * <;> omega) | (simp_all; done) | skip)
        refine G_lp [0, 1, 4] (m + 1, ?v2) ?ok2 ?wk3
        case ok2 => exact ⟨by simp only; omega, by simp only; omega⟩
        case wk3 =>
          (repeat' apply And.intro) <;> (first | exact rfl | exact trivial | omega | refine sigEq ?_ | skip)
          all_goals (rw [List.replicate_succ', List.append_assoc])
      · rw [hlm] at hk2
        have hm : m = p - t.length := by omega
        subst hm
        refine G_run tOk eok_rread 60 (fun _ => none) (fun bs => rfl) (fun bs => ?_) (fun bs => ?_)
        · (repeat' apply And.intro) <;> (intros; first | exact trivial | exact rfl | omega | exact u8_lo _ | exact u8_hi _ | exact u8_in64 _ | exact u8_in63 _ | (simp only [inR, IntKind.bits]; omega) | (simp [inR, IntKind.bits]; done) | (simp [inR, IntKind.bits] at * <;> omega) | (simp_all; done) | skip)
        refine G_own 18 30 rfl ?_
        generalize hT : t ++ List.replicate (p - t.length) ([] : List Entry) = T at *
        refine G_loop (fun z : Nat × Value × List Entry => [(0, lst .byt l), (2, int .i64 n), (3, int .i64 c), (8, .c (.ptr 0 b 0)), (11, int .u64 cnt), (13, int .i64 (K + 16 * z.1)), (14, .c (.ptr 1 d 0)), (15, int .i64 p), (16, int .i64 i), (18, .c (.own 3 z.2.1)), (19, int .i64 z.1)]) (fun z => [.blk b 24 [.pv (.nil .tbl)], .blk d 24 [.own 2 v], .own v 58 .tbl T, .own z.2.1 30 .ent z.2.2]) (fun z => z.1 ≤ 8 ∧ rdL l c K z.1 = some z.2.2) (fun z => 8 - z.1) rfl [0, 1, 2, 3] (0, .slice none 0 0, []) ⟨Nat.zero_le _, rfl⟩ ?wk4 (fun z hz => ?_)
        case wk4 =>
          (repeat' apply And.intro) <;> (first | exact rfl | exact trivial | omega | refine sigEq ?_ | skip)
          all_goals first | (simp; done) | skip
        obtain ⟨j, u, le⟩ := z
        obtain ⟨hz1, hz2⟩ := hz
        dsimp only at hz1 hz2 ⊢
        have hlj := rdL_len hz2
        refine G_run tOk eok_rread 60 (fun _ => none) (fun bs => rfl) (fun bs => ?_) (fun bs => ?_)
        · (repeat' apply And.intro) <;> (intros; first | exact trivial | exact rfl | omega | exact u8_lo _ | exact u8_hi _ | exact u8_in64 _ | exact u8_in63 _ | (simp only [inR, IntKind.bits]; omega) | (simp [inR, IntKind.bits]; done) | (simp [inR, IntKind.bits] at * <;> omega) | (simp_all; done) | skip)
        refine G_if rfl rfl (fun hk3 => ?_) (fun hk3 => ?_)
        · have hj : j < 8 := by omega
          have hbadj := fun (h : rdL l c K (j + 1) = none) => hst (rdL_none h (by omega : j + 1 ≤ 8))
          refine G_run tOk eok_rread 60 (fun _ => none) (fun bs => rfl) (fun bs => ?_) (fun bs => ?_)
          · (repeat' apply And.intro) <;> (intros; first | exact trivial | exact rfl | omega | exact u8_lo _ | exact u8_hi _ | exact u8_in64 _ | exact u8_in63 _ | (simp only [inR, IntKind.bits]; omega) | (simp [inR, IntKind.bits]; done) | (simp [inR, IntKind.bits] at * <;> omega) | (simp_all; done) | skip)
          refine G_cond (b := !decide (gE (sl l (K + 16 * j)) c = 0)) rfl rfl (fun h5 => ?_) (fun h5 => ?_)
          · have h5 : ¬ gE (sl l (K + 16 * j)) c = 0 := by simpa using h5
            have hX := hbadj (by simp only [rdL, hz2, decide_eq_false h5])
            subst hX
            refine G_run tOk eok_rread 60 (fun _ => none) (fun bs => rfl) (fun bs => ?_) (fun bs => ?_)
            · (repeat' apply And.intro) <;> (intros; first | exact trivial | exact rfl | omega | exact u8_lo _ | exact u8_hi _ | exact u8_in64 _ | exact u8_in63 _ | (simp only [inR, IntKind.bits]; omega) | (simp [inR, IntKind.bits]; done) | (simp [inR, IntKind.bits] at * <;> omega) | (simp_all; done) | skip)
            exact G_ret tOk hM0 rfl rfl ⟨rfl, trivial, trivial, trivial⟩ ⟨⟨⟨rfl, rfl⟩, trivial⟩, ⟨rfl, rfl⟩, ⟨rfl, rfl⟩, trivial⟩
          · have h5 : gE (sl l (K + 16 * j)) c = 0 := by simpa using h5
            have hz4 : rdL l c K (j + 1) = some (le ++ [gX (sl l (K + 16 * j)) c]) := by simp only [rdL, hz2, decide_eq_true h5]
            refine G_run tOk eok_rread 60 (fun _ => none) (fun bs => rfl) (fun bs => ?_) (fun bs => ?_)
            · (repeat' apply And.intro) <;> (intros; first | exact trivial | exact rfl | omega | exact u8_lo _ | exact u8_hi _ | exact u8_in64 _ | exact u8_in63 _ | (simp only [inR, IntKind.bits]; omega) | (simp [inR, IntKind.bits, hlj]; done) | (simp [inR, IntKind.bits, hlj] at * <;> omega) | (simp_all; done) | skip)
            refine G_lp [0, 1, 2, 6] (j + 1, ?v3, le ++ [gX (sl l (K + 16 * j)) c]) ?ok5 ?wk5
            case ok5 => exact ⟨⟨by simp only; omega, hz4⟩, by simp only; omega⟩
            case wk5 =>
              (repeat' apply And.intro) <;> (first | exact rfl | exact trivial | omega | refine sigEq ?_ | skip)
              all_goals first | (simp; omega) | rfl | skip
        · have hj : j = 8 := by omega
          subst hj
          have hN := hnx le hz2
          refine G_run tOk eok_rread 60 (fun _ => none) (fun bs => rfl) (fun bs => ?_) (fun bs => ?_)
          · (repeat' apply And.intro) <;> (intros; first | exact trivial | exact rfl | omega | exact u8_lo _ | exact u8_hi _ | exact u8_in64 _ | exact u8_in63 _ | (simp only [inR, IntKind.bits]; omega) | (simp [inR, IntKind.bits]; done) | (simp [inR, IntKind.bits] at * <;> omega) | (simp_all; done) | skip)
          refine G_freeze 3 [18, 102] rfl ⟨rfl, rfl, trivial⟩ ?_
          have hlT : T.length = p := by rw [hlm]; omega
          refine G_run tOk eok_rread 60 (fun _ => none) (fun bs => rfl) (fun bs => ?_) (fun bs => ?_)
          · (repeat' apply And.intro) <;> (intros; first | exact trivial | exact rfl | omega | exact u8_lo _ | exact u8_hi _ | exact u8_in64 _ | exact u8_in63 _ | (simp only [inR, IntKind.bits]; omega) | (simp [inR, IntKind.bits, hlT]; done) | (simp [inR, IntKind.bits, hlT] at * <;> omega) | (simp_all; done) | skip)
          refine G_lp [0, 1, 5] (i + 1, ?v4, T ++ [le]) ?ok6 ?wk6
          case ok6 => exact ⟨⟨by simp only; omega, hN, by simp only; omega⟩, by simp only; omega⟩
          case wk6 =>
            (repeat' apply And.intro) <;> (first | exact rfl | exact trivial | omega | refine sigEq ?_ | skip)
            all_goals first | (simp; omega) | rfl | skip
  · have hi : i = cnt := by omega
    subst hi
    have hO := hA t hx2
    have hlf : ∀ i, (leaf t i).length ≤ 1000000000 := fun i => Nat.le_trans (ht2 i) (by decide)
    refine G_freezeC 1 0 2 rfl rfl rfl ?_
    refine G_run tOk eok_rread 60 (fun _ => none) (fun bs => rfl) (fun bs => ?_) (fun bs => ?_)
    · (repeat' apply And.intro) <;> (intros; first | exact trivial | exact rfl | omega | exact u8_lo _ | exact u8_hi _ | exact u8_in64 _ | exact u8_in63 _ | (simp only [inR, IntKind.bits]; omega) | (simp [inR, IntKind.bits, hlf]; done) | (simp [inR, IntKind.bits, hlf] at * <;> omega) | (simp_all; done) | skip)
    refine G_cond (b := !rightT t n c) rfl rfl (fun h6 => ?_) (fun h6 => ?_)
    · rw [if_neg (by simpa using h6)] at hO
      subst hO
      refine G_run tOk eok_rread 60 (fun _ => none) (fun bs => rfl) (fun bs => ?_) (fun bs => ?_)
      · (repeat' apply And.intro) <;> (intros; first | exact trivial | exact rfl | omega | exact u8_lo _ | exact u8_hi _ | exact u8_in64 _ | exact u8_in63 _ | (simp only [inR, IntKind.bits]; omega) | (simp [inR, IntKind.bits]; done) | (simp [inR, IntKind.bits] at * <;> omega) | (simp_all; done) | skip)
      exact G_ret tOk hM0 rfl rfl ⟨rfl, trivial, trivial, trivial⟩ ⟨⟨⟨rfl, rfl⟩, trivial⟩, ⟨rfl, rfl⟩, ⟨rfl, rfl⟩, trivial⟩
    · rw [if_pos (by simpa using h6)] at hO
      subst hO
      refine G_run tOk eok_rread 60 (fun _ => none) (fun bs => rfl) (fun bs => ?_) (fun bs => ?_)
      · (repeat' apply And.intro) <;> (intros; first | exact trivial | exact rfl | omega | exact u8_lo _ | exact u8_hi _ | exact u8_in64 _ | exact u8_in63 _ | (simp only [inR, IntKind.bits]; omega) | (simp [inR, IntKind.bits]; done) | (simp [inR, IntKind.bits] at * <;> omega) | (simp_all; done) | skip)
      exact G_ret tOk hM0 rfl rfl ⟨rfl, trivial, trivial, trivial⟩ ⟨⟨rfl, trivial⟩, ⟨rfl, rfl⟩, ⟨rfl, rfl⟩, trivial⟩

def rread_s : FSpec
  | [.c (.pv (.lst .byt l)), .c (.pv (.val (.int .i64 at_))), .c (.pv (.val (.int .i64 n))), .c (.pv (.val (.int .i64 c)))] => some ((l.length ≤ 1000000) ∧ (inR .i64 at_), true, .t [.g [.lst .tbl (rT (rdA l at_ n c))], .c (i64 (rK (at_ + 2 + 130 * getV l at_ 2 false) (rdA l at_ n c))), .c (i64 (rF (rdA l at_ n c)))])
  | _ => none
theorem rread_s_ok : SpecOk Try.prog 29 rread_s := by
  intro args pre sh rv h hp; unfold rread_s at h; split at h
  · cases h; obtain ⟨hl, hat⟩ := hp; exact rread_fn _ _ _ _ hl hat
  · cases h
def psi_rread : FuncId → Option FSpec := psiCons 29 rread_s psi_tread
theorem psi_rread_ok : PsiFn Try.prog psi_rread := psiCons_ok rread_s_ok psi_tread_ok
def env_freads : Env := ⟨T, psi_rread, pspNil, 54, [], none, true⟩
theorem eok_freads : PsiOk Try.prog env_freads := ⟨psi_rread_ok, pspNil_ok⟩
theorem freads_fn (l : List UInt8) (at_ : Int) (n : Int) (c : Int) (hl : l.length ≤ 9223372036854775807) (hat : inR .i64 at_) : Ctr Try.prog 10 false [lst .byt l, int .i64 at_, int .i64 n, int .i64 c] (.x (.c (bv true))) := by
  refine Ctr_intro (E := env_freads) Try.func10 rfl (by decide) rfl rfl (fun M0 W hM0 => ?_)
  refine G_run tOk eok_freads 60 (fun _ => none) (fun bs => rfl) (fun bs => ?_) (fun bs => ?_)
  · (repeat' apply And.intro) <;> (intros; first | exact trivial | exact rfl | omega | exact u8_lo _ | exact u8_hi _ | exact u8_in64 _ | exact u8_in63 _ | (simp only [inR, IntKind.bits]; omega) | (simp [inR, IntKind.bits]; done) | (simp [inR, IntKind.bits] at * <;> omega) | (simp_all; done) | skip)
  refine G_if rfl rfl (fun h => ?_) (fun h => ?_)
  · refine G_run tOk eok_freads 60 (fun _ => none) (fun bs => rfl) (fun bs => ?_) (fun bs => ?_)
    · (repeat' apply And.intro) <;> (intros; first | exact trivial | exact rfl | omega | exact u8_lo _ | exact u8_hi _ | exact u8_in64 _ | exact u8_in63 _ | (simp only [inR, IntKind.bits]; omega) | (simp [inR, IntKind.bits]; done) | (simp [inR, IntKind.bits] at * <;> omega) | (simp_all; done) | skip)
    exact G_ret tOk hM0 rfl rfl ⟨trivial, trivial⟩ rfl
  have hl2 : l.length ≤ 9000 := by omega
  have hT : (rT (rdA l at_ n c)).length ≤ 512 ∧ ∀ i, (leaf (rT (rdA l at_ n c)) i).length ≤ 1000000000 := by
    cases ho : rdA l at_ n c with
    | none => exact ⟨by simp [rT], fun i => by simp [rT, leaf]⟩
    | some t =>
      have : ∃ k, rdT l c (at_ + 2) k = some t := by
        unfold rdA at ho
        cases hd : decide (getE l at_ 2 = 0) with
        | false => rw [hd] at ho; cases ho
        | true =>
          cases hr : rdT l c (at_ + 2) (getV l at_ 2 false).toNat with
          | none => simp only [hd, hr] at ho; cases ho
          | some u =>
            cases hq : rightT u n c with
            | false => simp only [hd, hr, hq] at ho; cases ho
            | true => simp only [hd, hr, hq, Option.some.injEq] at ho; subst ho; exact ⟨_, hr⟩
      obtain ⟨k, hk⟩ := this
      obtain ⟨q1, q2⟩ := rdT_len hk
      exact ⟨q1, fun i => Nat.le_trans (q2 i) (by decide)⟩
  obtain ⟨t1, t2⟩ := hT
  refine G_run tOk eok_freads 60 (fun _ => some true) (fun bs => rfl) (fun bs => ?_) (fun bs => ?_)
  · (repeat' apply And.intro) <;> (intros; first | exact trivial | exact rfl | omega | exact t2 _ | exact hat.1 | exact hat.2 | (simp; done) | (simp [inR]; omega) | skip)
  refine G_ret tOk hM0 rfl rfl ⟨trivial, trivial⟩ ?_
  conv => whnf
  simp
def freads_s : FSpec
  | [.c (.pv (.lst .byt l)), .c (.pv (.val (.int .i64 at_))), .c (.pv (.val (.int .i64 n))), .c (.pv (.val (.int .i64 c)))] => some ((l.length ≤ 9223372036854775807) ∧ (inR .i64 at_), false, .x (.c (bv true)))
  | _ => none
theorem freads_s_ok : SpecOk Try.prog 10 freads_s := by
  intro args pre sh rv h hp; unfold freads_s at h; split at h
  · cases h; obtain ⟨hl, hat⟩ := hp; exact freads_fn _ _ _ _ hl hat
  · cases h
def psi_freads : FuncId → Option FSpec := psiCons 10 freads_s psi_rread
theorem psi_freads_ok : PsiFn Try.prog psi_freads := psiCons_ok freads_s_ok psi_rread_ok
end Go.Proofs.Ytnmomckmpknbkaa
