import Derived.Test.YtbhemhmdmeomdaaIdxW
set_option linter.unusedSimpArgs false
set_option linter.unusedVariables false
set_option maxRecDepth 10000
namespace Go.Proofs.Ytbhemhmdmeomdaa
open Go.Mt

def env_icopies : Env := ⟨T, psi_kclone, pspNil, psc_del, 96, [], none, true⟩
theorem eok_icopies : PsiOk Try.prog env_icopies := ⟨psi_kclone_ok, pspNil_ok, psc_del_ok⟩
theorem icopies_fn (l : List Deed) (m : List Deed) (hl : l.length ≤ 9223372036854775807) (hm : m.length ≤ 9223372036854775807) : Ctr Try.prog 6 false [lst .act l, lst .act m] (.x (.c (bv true))) := by
  refine Ctr_intro (E := env_icopies) Try.func6 rfl (by decide) rfl rfl (fun M0 W hM0 => ?_)
  cases hv1 : hvB l with
  | true =>
    refine G_run tOk eok_icopies 60 (fun _ => some true) (fun bs => rfl) (fun bs => ?_) (fun bs => ?_)
    · (repeat' apply And.intro) <;> (intros; first | exact trivial | exact rfl | omega | exact u8_lo _ | exact u8_hi _ | exact u8_in64 _ | exact u8_in63 _ | (simp only [inR, IntKind.bits]; omega) | (simp [inR, IntKind.bits]; done) | (simp [inR, IntKind.bits] at * <;> omega) | (simp_all; done) | (with_reducible assumption) | skip)
    refine G_thn rfl rfl (by simp [hv1]) ?_
    refine G_run tOk eok_icopies 60 (fun _ => none) (fun bs => rfl) (fun bs => ?_) (fun bs => ?_)
    · (repeat' apply And.intro) <;> (intros; first | exact trivial | exact rfl | omega | exact u8_lo _ | exact u8_hi _ | exact u8_in64 _ | exact u8_in63 _ | (simp only [inR, IntKind.bits]; omega) | (simp [inR, IntKind.bits]; done) | (simp [inR, IntKind.bits] at * <;> omega) | (simp_all; done) | (with_reducible assumption) | skip)
    exact G_ret tOk hM0 rfl rfl ⟨trivial, trivial⟩ rfl
  | false =>
  refine G_run tOk eok_icopies 60 (fun _ => some false) (fun bs => rfl) (fun bs => ?_) (fun bs => ?_)
  · (repeat' apply And.intro) <;> (intros; first | exact trivial | exact rfl | omega | exact u8_lo _ | exact u8_hi _ | exact u8_in64 _ | exact u8_in63 _ | (simp only [inR, IntKind.bits]; omega) | (simp [inR, IntKind.bits]; done) | (simp [inR, IntKind.bits] at * <;> omega) | (simp_all; done) | (with_reducible assumption) | skip)
  refine G_cond (b := hvB l || hvB m) rfl rfl (fun hv => ?_) (fun hv => ?_)
  · refine G_run tOk eok_icopies 60 (fun _ => none) (fun bs => rfl) (fun bs => ?_) (fun bs => ?_)
    · (repeat' apply And.intro) <;> (intros; first | exact trivial | exact rfl | omega | exact u8_lo _ | exact u8_hi _ | exact u8_in64 _ | exact u8_in63 _ | (simp only [inR, IntKind.bits]; omega) | (simp [inR, IntKind.bits]; done) | (simp [inR, IntKind.bits] at * <;> omega) | (simp_all; done) | (with_reducible assumption) | skip)
    exact G_ret tOk hM0 rfl rfl ⟨trivial, trivial⟩ rfl
  obtain ⟨hl150, hl200⟩ := hvB_false hv1
  obtain ⟨hm150, hm200⟩ := hvB_false (by simpa [hv1] using hv)
  refine G_run tOk eok_icopies 60 (fun _ => none) (fun bs => rfl) (fun bs => ?_) (fun bs => ?_)
  · (repeat' apply And.intro) <;> (intros; first | exact trivial | exact rfl | omega | exact u8_lo _ | exact u8_hi _ | exact u8_in64 _ | exact u8_in63 _ | (simp only [inR, IntKind.bits]; omega) | (simp [inR, IntKind.bits]; done) | (simp [inR, IntKind.bits] at * <;> omega) | (simp_all; done) | (with_reducible assumption) | skip)
  refine G_nx 0 rfl ?_
  refine G_callH [] id hnew rfl trivial rfl rfl rfl rfl (by decide) rfl rfl (fun x => rfl) (fun x _ => ?_)
  obtain ⟨b, v⟩ := x
  dsimp only
  refine G_run tOk eok_icopies 60 (fun _ => none) (fun bs => rfl) (fun bs => ?_) (fun bs => ?_)
  · (repeat' apply And.intro) <;> (intros; first | exact trivial | exact rfl | omega | exact u8_lo _ | exact u8_hi _ | exact u8_in64 _ | exact u8_in63 _ | (simp only [inR, IntKind.bits]; omega) | (simp [inR, IntKind.bits]; done) | (simp [inR, IntKind.bits] at * <;> omega) | (simp_all; done) | (with_reducible assumption) | skip)
  refine G_els rfl rfl rfl ?_
  refine G_run tOk eok_icopies 60 (fun _ => none) (fun bs => rfl) (fun bs => ?_) (fun bs => ?_)
  · (repeat' apply And.intro) <;> (intros; first | exact trivial | exact rfl | omega | exact u8_lo _ | exact u8_hi _ | exact u8_in64 _ | exact u8_in63 _ | (simp only [inR, IntKind.bits]; omega) | (simp [inR, IntKind.bits]; done) | (simp [inR, IntKind.bits] at * <;> omega) | (simp_all; done) | (with_reducible assumption) | skip)
  refine G_ownB 2 0 74 rfl rfl ?_
  refine G_wkB (ns := [0, 1, 2, 3]) (fs := fun b2 => [(0, lst .act l), (1, lst .act m), (5, .c (.ptr 0 b 0)), (6, .c (.ptr 2 b2 0)), (7, int .i64 0)]) (hs := fun b2 => xrH b v 0 b2 (.slice none 0 0) []) ?b1 rfl ?wk0 (fun b2 => ?_)
  case wk0 => (repeat' apply And.intro) <;> (first | exact rfl | exact trivial | omega | refine sigEq ?_ | skip)
  refine G_loop (fun x : Nat × Value × Int × Value => [(0, lst .act l), (1, lst .act m), (5, .c (.ptr 0 b 0)), (6, .c (.ptr 2 b2 0)), (7, int .i64 x.1)]) (fun x => xrH b x.2.1 x.2.2.1 b2 x.2.2.2 (deedsF [] l x.1)) (fun x => x.1 ≤ l.length) (fun x => l.length - x.1) rfl [0, 1, 2, 3] (0, v, 0, .slice none 0 0) (Nat.zero_le _) ?wk (fun x hx => ?_)
  case wk => (repeat' apply And.intro) <;> (first | exact rfl | exact trivial | omega | refine sigEq ?_ | skip)
  obtain ⟨i, u, c, u2⟩ := x
  simp only at hx ⊢
  have hdl := deedsF_len (l0 := []) (by simp) l i
  refine G_run tOk eok_icopies 60 (fun _ => none) (fun bs => rfl) (fun bs => ?_) (fun bs => ?_)
  · (repeat' apply And.intro) <;> (intros; first | exact trivial | exact rfl | omega | exact u8_lo _ | exact u8_hi _ | exact u8_in64 _ | exact u8_in63 _ | (simp only [inR, IntKind.bits]; omega) | (simp [inR, IntKind.bits]; done) | (simp [inR, IntKind.bits] at * <;> omega) | (simp_all; done) | (with_reducible assumption) | skip)
  refine G_if rfl rfl (fun hk => ?_) (fun hk => ?_)
  · have hk' : i < l.length := by omega
    refine G_run tOk eok_icopies 60 (fun _ => none) (fun bs => rfl) (fun bs => ?_) (fun bs => ?_)
    · (repeat' apply And.intro) <;> (intros; first | exact trivial | exact rfl | omega | exact u8_lo _ | exact u8_hi _ | exact u8_in64 _ | exact u8_in63 _ | (simp only [inR, IntKind.bits]; omega) | (simp [inR, IntKind.bits]; done) | (simp [inR, IntKind.bits] at * <;> omega) | (simp_all; done) | (with_reducible assumption) | skip)
    refine G_nx 4 rfl ?_
    have hb := hl200 i hk'
    refine G_callH [0, 1, 2, 3] id (iact b u c b2 u2 (deedsF [] l i) (l.getD i LK.act.dft).act (l.getD i LK.act.dft).b (l.getD i LK.act.dft).e.kind (l.getD i LK.act.dft).e.start (l.getD i LK.act.dft).e.count (l.getD i LK.act.dft).e.size (l.getD i LK.act.dft).e.sum (by omega) hdl) rfl trivial rfl rfl rfl rfl (by decide) rfl rfl (fun x => rfl) (fun x _ => ?_)
    obtain ⟨u', c', u2'⟩ := x
    dsimp only
    have hdl' := deedsF_len (l0 := []) (by simp) l (i + 1)
    refine G_run tOk eok_icopies 60 (fun _ => none) (fun bs => rfl) (fun bs => ?_) (fun bs => ?_)
    · (repeat' apply And.intro) <;> (intros; first | exact trivial | exact rfl | omega | exact u8_lo _ | exact u8_hi _ | exact u8_in64 _ | exact u8_in63 _ | (simp only [inR, IntKind.bits]; omega) | (simp [inR, IntKind.bits]; done) | (simp [inR, IntKind.bits] at * <;> omega) | (simp_all; done) | (with_reducible assumption) | skip)
    refine G_els rfl rfl rfl ?_
    refine G_run tOk eok_icopies 60 (fun _ => none) (fun bs => rfl) (fun bs => ?_) (fun bs => ?_)
    · (repeat' apply And.intro) <;> (intros; first | exact trivial | exact rfl | omega | exact u8_lo _ | exact u8_hi _ | exact u8_in64 _ | exact u8_in63 _ | (simp only [inR, IntKind.bits]; omega) | (simp [inR, IntKind.bits]; done) | (simp [inR, IntKind.bits] at * <;> omega) | (simp_all; done) | (with_reducible assumption) | skip)
    refine G_nx 8 rfl ?_
    refine G_callH [0, 1] id (hfind b u' c' (deedsF [] l (i + 1)) (l.getD i LK.act.dft).b (by omega) (by omega)) rfl trivial rfl rfl rfl rfl (by decide) rfl rfl (fun x => rfl) (fun x _ => ?_)
    obtain ⟨fu, fc⟩ := x
    dsimp only
    refine G_run tOk eok_icopies 60 (fun _ => none) (fun bs => rfl) (fun bs => ?_) (fun bs => ?_)
    · (repeat' apply And.intro) <;> (intros; first | exact trivial | exact rfl | omega | exact u8_lo _ | exact u8_hi _ | exact u8_in64 _ | exact u8_in63 _ | (simp only [inR, IntKind.bits]; omega) | (simp [inR, IntKind.bits]; done) | (simp [inR, IntKind.bits] at * <;> omega) | (simp_all; done) | (with_reducible assumption) | skip)
    have hfl := findN_len (deedsF [] l (i + 1)) (fg (l.getD i LK.act.dft).b) (deedsF [] l (i + 1)).length
    generalize findN (deedsF [] l (i + 1)) (fg (l.getD i LK.act.dft).b) (deedsF [] l (i + 1)).length = F at hfl ⊢
    refine G_loop (fun x : Nat × List Entry => [(0, lst .act l), (1, lst .act m), (5, .c (.ptr 0 b 0)), (6, .c (.ptr 2 b2 0)), (7, int .i64 i), (8, .c (.own 4 fu)), (9, int .i64 x.1)]) (fun x => xrH b u' fc b2 u2' (deedsF [] l (i + 1)) ++ [.own fu 28 .ent x.2]) (fun x => x.1 ≤ F.length ∧ x.2.length = F.length) (fun x => F.length - x.1) rfl [0, 1, 2, 3, 8] (0, F) ⟨Nat.zero_le _, rfl⟩ ?wk2 (fun x hx => ?_)
    case wk2 => (repeat' apply And.intro) <;> (first | exact rfl | exact trivial | omega | refine sigEq ?_ | skip)
    obtain ⟨k, G⟩ := x
    obtain ⟨hx1, hx2⟩ := hx
    simp only at hx1 hx2 ⊢
    refine G_run tOk eok_icopies 60 (fun _ => none) (fun bs => rfl) (fun bs => ?_) (fun bs => ?_)
    · (repeat' apply And.intro) <;> (intros; first | exact trivial | exact rfl | omega | exact u8_lo _ | exact u8_hi _ | exact u8_in64 _ | exact u8_in63 _ | (simp only [inR, IntKind.bits]; omega) | (simp [inR, IntKind.bits]; done) | (simp [inR, IntKind.bits] at * <;> omega) | (simp_all; done) | (with_reducible assumption) | skip)
    refine G_if rfl rfl (fun hk2 => ?_) (fun hk2 => ?_)
    · have hk2' : k < F.length := by omega
      refine G_run tOk eok_icopies 60 (fun _ => none) (fun bs => rfl) (fun bs => ?_) (fun bs => ?_)
      · (repeat' apply And.intro) <;> (intros; first | exact trivial | exact rfl | omega | exact u8_lo _ | exact u8_hi _ | exact u8_in64 _ | exact u8_in63 _ | (simp only [inR, IntKind.bits]; omega) | (simp [inR, IntKind.bits]; done) | (simp [inR, IntKind.bits] at * <;> omega) | (simp_all; done) | (with_reducible assumption) | skip)
      refine G_lp [0, 1, 2, 3, 4] (k + 1, ?G1) ?ok3 ?wk3
      case wk3 => (repeat' apply And.intro) <;> (first | exact rfl | exact trivial | omega | refine sigEq ?_ | skip)
      case ok3 => exact ⟨⟨hk2', by simp [hx2]⟩, by simp only; omega⟩
    · refine G_run tOk eok_icopies 60 (fun _ => none) (fun bs => rfl) (fun bs => ?_) (fun bs => ?_)
      · (repeat' apply And.intro) <;> (intros; first | exact trivial | exact rfl | omega | exact u8_lo _ | exact u8_hi _ | exact u8_in64 _ | exact u8_in63 _ | (simp only [inR, IntKind.bits]; omega) | (simp [inR, IntKind.bits]; done) | (simp [inR, IntKind.bits] at * <;> omega) | (simp_all; done) | (with_reducible assumption) | skip)
      refine G_lp [0, 1, 2, 3] (i + 1, u', fc, u2') ?ok4 ?wk4
      case ok4 => exact ⟨hk', by simp only; omega⟩
      case wk4 => (repeat' apply And.intro) <;> (first | exact rfl | exact trivial | omega | refine sigEq ?_ | skip)
  · have hk' : i = l.length := by omega
    subst hk'
    generalize deedsF [] l l.length = L at hdl ⊢
    refine G_run tOk eok_icopies 60 (fun _ => none) (fun bs => rfl) (fun bs => ?_) (fun bs => ?_)
    · (repeat' apply And.intro) <;> (intros; first | exact trivial | exact rfl | omega | exact u8_lo _ | exact u8_hi _ | exact u8_in64 _ | exact u8_in63 _ | (simp only [inR, IntKind.bits]; omega) | (simp [inR, IntKind.bits]; done) | (simp [inR, IntKind.bits] at * <;> omega) | (simp_all; done) | (with_reducible assumption) | skip)
    refine G_nx 4 rfl ?_
    refine G_callH [0, 1] id (hcopy b u c L (by omega)) rfl trivial rfl rfl rfl rfl (by decide) rfl rfl (fun x => rfl) (fun x _ => ?_)
    obtain ⟨cb, cu⟩ := x
    dsimp only
    refine G_run tOk eok_icopies 60 (fun _ => none) (fun bs => rfl) (fun bs => ?_) (fun bs => ?_)
    · (repeat' apply And.intro) <;> (intros; first | exact trivial | exact rfl | omega | exact u8_lo _ | exact u8_hi _ | exact u8_in64 _ | exact u8_in63 _ | (simp only [inR, IntKind.bits]; omega) | (simp [inR, IntKind.bits]; done) | (simp [inR, IntKind.bits] at * <;> omega) | (simp_all; done) | (with_reducible assumption) | skip)
    refine G_rawS 64 9 rfl rfl ?_
    refine G_run tOk eok_icopies 60 (fun _ => none) (fun bs => rfl) (fun bs => ?_) (fun bs => ?_)
    · (repeat' apply And.intro) <;> (intros; first | exact trivial | exact rfl | omega | exact u8_lo _ | exact u8_hi _ | exact u8_in64 _ | exact u8_in63 _ | (simp only [inR, IntKind.bits]; omega) | (simp [inR, IntKind.bits]; done) | (simp [inR, IntKind.bits] at * <;> omega) | (simp_all; done) | (with_reducible assumption) | skip)
    refine G_linkB 10 0 9 rfl rfl rfl ?_
    refine G_wkBV (ns := [0, 1, 2, 3, 4, 5, 10, 9]) (fs := fun qb qv => [(1, lst .act m), (5, .c (.ptr 0 b 0)), (6, .c (.ptr 2 b2 0)), (10, .c (.ptr 4 cb 0)), (11, .c (.ptr 6 qb 0)), (12, int .i64 0)]) (hs := fun qb qv => xrH b u c b2 u2 L ++ [.blk cb 54 [.own 5 cu, .pv (i64 c)], .own cu 58 .knw L, .blk qb 39 [.own 7 qv], .own qv 74 .knw L]) ?b3 ?v3 rfl ?wk5 (fun qb qv => ?_)
    case wk5 => (repeat' apply And.intro) <;> (first | exact rfl | exact trivial | omega | refine sigEq ?_ | skip)
    refine G_loop (fun x : Nat × Value × Int × Value => [(1, lst .act m), (5, .c (.ptr 0 b 0)), (6, .c (.ptr 2 b2 0)), (10, .c (.ptr 4 cb 0)), (11, .c (.ptr 6 qb 0)), (12, int .i64 x.1)]) (fun x => xrH b u c b2 u2 L ++ [.blk cb 54 [.own 5 x.2.1, .pv (i64 x.2.2.1)], .own x.2.1 58 .knw (deedsF L m x.1), .blk qb 39 [.own 7 x.2.2.2], .own x.2.2.2 74 .knw (deedsF L m x.1)]) (fun x => x.1 ≤ m.length) (fun x => m.length - x.1) rfl [0, 1, 2, 3, 4, 5, 6, 7] (0, cu, c, qv) (Nat.zero_le _) ?wk6 (fun x hx => ?_)
    case wk6 => (repeat' apply And.intro) <;> (first | exact rfl | exact trivial | omega | refine sigEq ?_ | skip)
    obtain ⟨i, u', c', u2'⟩ := x
    simp only at hx ⊢
    have hdl' := deedsF_len hdl m i
    refine G_run tOk eok_icopies 60 (fun _ => none) (fun bs => rfl) (fun bs => ?_) (fun bs => ?_)
    · (repeat' apply And.intro) <;> (intros; first | exact trivial | exact rfl | omega | exact u8_lo _ | exact u8_hi _ | exact u8_in64 _ | exact u8_in63 _ | (simp only [inR, IntKind.bits]; omega) | (simp [inR, IntKind.bits]; done) | (simp [inR, IntKind.bits] at * <;> omega) | (simp_all; done) | (with_reducible assumption) | skip)
    refine G_if rfl rfl (fun hk => ?_) (fun hk => ?_)
    · have hk' : i < m.length := by omega
      refine G_run tOk eok_icopies 60 (fun _ => none) (fun bs => rfl) (fun bs => ?_) (fun bs => ?_)
      · (repeat' apply And.intro) <;> (intros; first | exact trivial | exact rfl | omega | exact u8_lo _ | exact u8_hi _ | exact u8_in64 _ | exact u8_in63 _ | (simp only [inR, IntKind.bits]; omega) | (simp [inR, IntKind.bits]; done) | (simp [inR, IntKind.bits] at * <;> omega) | (simp_all; done) | (with_reducible assumption) | skip)
      refine G_nx 8 rfl ?_
      have hb := hm200 i hk'
      refine G_callH [4, 5, 6, 7] (fun n => n - 4) (iact cb u' c' qb u2' (deedsF L m i) (m.getD i LK.act.dft).act (m.getD i LK.act.dft).b (m.getD i LK.act.dft).e.kind (m.getD i LK.act.dft).e.start (m.getD i LK.act.dft).e.count (m.getD i LK.act.dft).e.size (m.getD i LK.act.dft).e.sum (by omega) hdl') rfl trivial rfl rfl rfl rfl (by decide) rfl rfl (fun x => rfl) (fun x _ => ?_)
      obtain ⟨u3, c3, u4⟩ := x
      dsimp only
      refine G_run tOk eok_icopies 60 (fun _ => none) (fun bs => rfl) (fun bs => ?_) (fun bs => ?_)
      · (repeat' apply And.intro) <;> (intros; first | exact trivial | exact rfl | omega | exact u8_lo _ | exact u8_hi _ | exact u8_in64 _ | exact u8_in63 _ | (simp only [inR, IntKind.bits]; omega) | (simp [inR, IntKind.bits]; done) | (simp [inR, IntKind.bits] at * <;> omega) | (simp_all; done) | (with_reducible assumption) | skip)
      refine G_els rfl rfl rfl ?_
      refine G_run tOk eok_icopies 60 (fun _ => none) (fun bs => rfl) (fun bs => ?_) (fun bs => ?_)
      · (repeat' apply And.intro) <;> (intros; first | exact trivial | exact rfl | omega | exact u8_lo _ | exact u8_hi _ | exact u8_in64 _ | exact u8_in63 _ | (simp only [inR, IntKind.bits]; omega) | (simp [inR, IntKind.bits]; done) | (simp [inR, IntKind.bits] at * <;> omega) | (simp_all; done) | (with_reducible assumption) | skip)
      refine G_lp [0, 1, 2, 3, 4, 5, 6, 7] (i + 1, u3, c3, u4) ?ok7 ?wk7
      case ok7 => exact ⟨hk', by simp only; omega⟩
      case wk7 => (repeat' apply And.intro) <;> (first | exact rfl | exact trivial | omega | refine sigEq ?_ | skip)
    refine G_run tOk eok_icopies 60 (fun _ => none) (fun bs => rfl) (fun bs => ?_) (fun bs => ?_)
    · (repeat' apply And.intro) <;> (intros; first | exact trivial | exact rfl | omega | exact u8_lo _ | exact u8_hi _ | exact u8_in64 _ | exact u8_in63 _ | (simp only [inR, IntKind.bits]; omega) | (simp [inR, IntKind.bits]; done) | (simp [inR, IntKind.bits] at * <;> omega) | (simp_all; done) | (with_reducible assumption) | skip)
    refine G_loop (fun x : Nat × Value × Int × Value => [(1, lst .act m), (5, .c (.ptr 0 b 0)), (6, .c (.ptr 2 b2 0)), (13, int .i64 x.1)]) (fun x => xrH b x.2.1 x.2.2.1 b2 x.2.2.2 (deedsF L m x.1)) (fun x => x.1 ≤ m.length) (fun x => m.length - x.1) rfl [0, 1, 2, 3] (0, u, c, u2) (Nat.zero_le _) ?wk8 (fun x hx => ?_)
    case wk8 => (repeat' apply And.intro) <;> (first | exact rfl | exact trivial | omega | refine sigEq ?_ | skip)
    obtain ⟨i, u', c', u2'⟩ := x
    simp only at hx ⊢
    have hdl' := deedsF_len hdl m i
    refine G_run tOk eok_icopies 60 (fun _ => none) (fun bs => rfl) (fun bs => ?_) (fun bs => ?_)
    · (repeat' apply And.intro) <;> (intros; first | exact trivial | exact rfl | omega | exact u8_lo _ | exact u8_hi _ | exact u8_in64 _ | exact u8_in63 _ | (simp only [inR, IntKind.bits]; omega) | (simp [inR, IntKind.bits]; done) | (simp [inR, IntKind.bits] at * <;> omega) | (simp_all; done) | (with_reducible assumption) | skip)
    refine G_if rfl rfl (fun hk => ?_) (fun hk => ?_)
    · have hk' : i < m.length := by omega
      refine G_run tOk eok_icopies 60 (fun _ => none) (fun bs => rfl) (fun bs => ?_) (fun bs => ?_)
      · (repeat' apply And.intro) <;> (intros; first | exact trivial | exact rfl | omega | exact u8_lo _ | exact u8_hi _ | exact u8_in64 _ | exact u8_in63 _ | (simp only [inR, IntKind.bits]; omega) | (simp [inR, IntKind.bits]; done) | (simp [inR, IntKind.bits] at * <;> omega) | (simp_all; done) | (with_reducible assumption) | skip)
      refine G_nx 4 rfl ?_
      have hb := hm200 i hk'
      refine G_callH [0, 1, 2, 3] id (iact b u' c' b2 u2' (deedsF L m i) (m.getD i LK.act.dft).act (m.getD i LK.act.dft).b (m.getD i LK.act.dft).e.kind (m.getD i LK.act.dft).e.start (m.getD i LK.act.dft).e.count (m.getD i LK.act.dft).e.size (m.getD i LK.act.dft).e.sum (by omega) hdl') rfl trivial rfl rfl rfl rfl (by decide) rfl rfl (fun x => rfl) (fun x _ => ?_)
      obtain ⟨u3, c3, u4⟩ := x
      dsimp only
      refine G_run tOk eok_icopies 60 (fun _ => none) (fun bs => rfl) (fun bs => ?_) (fun bs => ?_)
      · (repeat' apply And.intro) <;> (intros; first | exact trivial | exact rfl | omega | exact u8_lo _ | exact u8_hi _ | exact u8_in64 _ | exact u8_in63 _ | (simp only [inR, IntKind.bits]; omega) | (simp [inR, IntKind.bits]; done) | (simp [inR, IntKind.bits] at * <;> omega) | (simp_all; done) | (with_reducible assumption) | skip)
      refine G_els rfl rfl rfl ?_
      refine G_run tOk eok_icopies 60 (fun _ => none) (fun bs => rfl) (fun bs => ?_) (fun bs => ?_)
      · (repeat' apply And.intro) <;> (intros; first | exact trivial | exact rfl | omega | exact u8_lo _ | exact u8_hi _ | exact u8_in64 _ | exact u8_in63 _ | (simp only [inR, IntKind.bits]; omega) | (simp [inR, IntKind.bits]; done) | (simp [inR, IntKind.bits] at * <;> omega) | (simp_all; done) | (with_reducible assumption) | skip)
      refine G_lp [0, 1, 2, 3] (i + 1, u3, c3, u4) ?ok9 ?wk9
      case ok9 => exact ⟨hk', by simp only; omega⟩
      case wk9 => (repeat' apply And.intro) <;> (first | exact rfl | exact trivial | omega | refine sigEq ?_ | skip)
    · refine G_run tOk eok_icopies 60 (fun _ => none) (fun bs => rfl) (fun bs => ?_) (fun bs => ?_)
      · (repeat' apply And.intro) <;> (intros; first | exact trivial | exact rfl | omega | exact u8_lo _ | exact u8_hi _ | exact u8_in64 _ | exact u8_in63 _ | (simp only [inR, IntKind.bits]; omega) | (simp [inR, IntKind.bits]; done) | (simp [inR, IntKind.bits] at * <;> omega) | (simp_all; done) | (with_reducible assumption) | skip)
      exact G_ret tOk hM0 rfl rfl ⟨trivial, trivial⟩ rfl
def icopies_s : FSpec
  | [.c (.pv (.lst .act l)), .c (.pv (.lst .act m))] => some ((l.length ≤ 9223372036854775807) ∧ (m.length ≤ 9223372036854775807), false, .x (.c (bv true)))
  | _ => none
theorem icopies_s_ok : SpecOk Try.prog 6 icopies_s := by
  intro args pre sh rv h hp; unfold icopies_s at h; split at h
  · cases h; obtain ⟨hl, hm⟩ := hp; exact icopies_fn _ _ hl hm
  · cases h
def psi_icopies : FuncId → Option FSpec := psiCons 6 icopies_s psi_kclone
theorem psi_icopies_ok : PsiFn Try.prog psi_icopies := psiCons_ok icopies_s_ok psi_kclone_ok
end Go.Proofs.Ytbhemhmdmeomdaa
