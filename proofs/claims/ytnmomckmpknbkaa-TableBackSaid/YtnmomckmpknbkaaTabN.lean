import Derived.Test.YtnmomckmpknbkaaTabM
set_option linter.unusedSimpArgs false
set_option linter.unusedVariables false
namespace Go.Proofs.Ytnmomckmpknbkaa
open Go.Mt

theorem madT_right {ns : List Int} (hr : ∀ m ∈ ns, inR .u16 m) : rightT (madT ns) 4096 2 = true := madN_right (fun i => (gets hr i).1) _

def env_fplaces : Env := ⟨T, psi_made, pspNil, 62, [], none, true⟩
theorem eok_fplaces : PsiOk Try.prog env_fplaces := ⟨psi_made_ok, pspNil_ok⟩
theorem fplaces_fn (ns : List Int) (p : Int) (q : Int) (hn : ns.length ≤ 9223372036854775807) (hr : ∀ m ∈ ns, inR .u16 m) (hp : inR .u16 p) (hq : inR .u8 q) : Ctr Try.prog 4 false [lst (.ints .u16) ns, int .u16 p, int .u8 q] (.x (.c (bv true))) := by
  refine Ctr_intro (E := env_fplaces) Try.func4 rfl (by decide) rfl rfl (fun M0 W hM0 => ?_)
  have hp' : 0 ≤ p ∧ p ≤ 65535 := hp
  have hq' : 0 ≤ q ∧ q ≤ 255 := hq
  have hR := madT_right hr
  obtain ⟨kk, hkk⟩ : ∃ kk : Nat, p % 320 = kk := ⟨(p % 320).toNat, by omega⟩
  have hk3 : kk < 320 := by omega
  have ht1 := right_len hR
  have ht2 : ∀ i, (leaf (madT ns) i).length ≤ 1000000000 := fun i => Nat.le_trans (right_leaf hR i) (by decide)
  have main : ∀ (e : Entry) (b c : Nat), mayX 2 e = true → G Try.prog env_fplaces W.heap.size W M0 (bpost Try.prog Try.f4 (FnPost false M0 W (.x (.c (bv true)))))
      [Itm.code (rgt (rgt (rgt (rgt (rgt (fbody Try.f4))))))] (mk [(7, .c (.ptr 0 b 0)), (8, int .i64 (kk : Int)), (9, .c (.ptr 1 c 0))] [.blk b 24 [.pv (.lst .tbl (madT ns))], .blk c 30 [.pv (i64 e.kind), .pv (i64 e.start), .pv (i64 e.count), .pv (i64 e.size), .pv (.val (.int .u32 e.sum))]]) := by
    intro e b c he
    have hU := right_set hR he (kk : Int)
    have hat := fun j => at_set hR he (show kk < 4096 by omega) j
    have hback : setT (setT (madT ns) (kk : Int) e) (kk : Int) (atT (madT ns) kk) = madT ns := by
      have hm := at_may hR kk
      refine tab_ext (right_set hU hm _) hR (fun j hj => ?_)
      rw [at_set hU hm (by omega), hat]
      by_cases e1 : j = kk
      · rw [if_pos e1, e1]
      · rw [if_neg e1, if_neg e1]
    generalize madT ns = t at *
    have he5 : (⟨e.kind, e.start, e.count, e.size, e.sum⟩ : Entry) = e := rfl
    refine G_run tOk eok_fplaces 60 (fun _ => none) (fun bs => rfl) (fun bs => ?_) (fun bs => ?_)
    · (repeat' apply And.intro) <;> (intros; first | exact trivial | exact rfl | omega | exact u8_lo _ | exact u8_hi _ | exact u8_in64 _ | exact u8_in63 _ | (simp only [inR, IntKind.bits]; omega) | (simp [inR, IntKind.bits, ht2]; done) | (simp [inR, IntKind.bits, ht2] at * <;> omega) | (simp_all; done) | skip)
    generalize hu : setT t (kk : Int) e = u at *
    have hu1 := right_len hU
    have hu2 : ∀ i, (leaf u i).length ≤ 1000000000 := fun i => Nat.le_trans (right_leaf hU i) (by decide)
    refine G_wkB (ns := [0, 1, 2]) (fs := fun d => [(7, .c (.ptr 0 b 0)), (8, int .i64 (kk : Int)), (9, .c (.ptr 1 c 0)), (10, .c (.ptr 2 d 0)), (11, int .i64 0)]) (hs := fun d => [.blk b 24 [.pv (.lst .tbl t)], .blk c 30 [.pv (i64 e.kind), .pv (i64 e.start), .pv (i64 e.count), .pv (i64 e.size), .pv (.val (.int .u32 e.sum))], .blk d 24 [.pv (.lst .tbl u)]]) ?d1 rfl ?wk0 (fun d => ?_)
    case wk0 =>
      (repeat' apply And.intro) <;> (first | exact rfl | exact trivial | omega | refine sigEq ?_ | skip)
      all_goals (first | exact congrArg (PV.lst .tbl) hu | skip)
    refine G_loop (fun j : Nat => [(7, .c (.ptr 0 b 0)), (8, int .i64 (kk : Int)), (9, .c (.ptr 1 c 0)), (10, .c (.ptr 2 d 0)), (11, int .i64 j)]) (fun j => [.blk b 24 [.pv (.lst .tbl t)], .blk c 30 [.pv (i64 e.kind), .pv (i64 e.start), .pv (i64 e.count), .pv (i64 e.size), .pv (.val (.int .u32 e.sum))], .blk d 24 [.pv (.lst .tbl u)]]) (fun j => j ≤ 340) (fun j => 340 - j) rfl [0, 1, 2] 0 (Nat.zero_le _) ?wk (fun j hx => ?_)
    case wk => (repeat' apply And.intro) <;> (first | exact rfl | exact trivial | omega | refine sigEq ?_ | skip)
    refine G_run tOk eok_fplaces 60 (fun _ => none) (fun bs => rfl) (fun bs => ?_) (fun bs => ?_)
    · (repeat' apply And.intro) <;> (intros; first | exact trivial | exact rfl | omega | exact u8_lo _ | exact u8_hi _ | exact u8_in64 _ | exact u8_in63 _ | (simp only [inR, IntKind.bits]; omega) | (simp [inR, IntKind.bits]; done) | (simp [inR, IntKind.bits] at * <;> omega) | (simp_all; done) | skip)
    refine G_if rfl rfl (fun hk => ?_) (fun hk => ?_)
    · have hk' : j < 340 := by omega
      refine G_run tOk eok_fplaces 60 (fun _ => none) (fun bs => rfl) (fun bs => ?_) (fun bs => ?_)
      · (repeat' apply And.intro) <;> (intros; first | exact trivial | exact rfl | omega | exact u8_lo _ | exact u8_hi _ | exact u8_in64 _ | exact u8_in63 _ | (simp only [inR, IntKind.bits]; omega) | (simp [inR, IntKind.bits, ht2]; done) | (simp [inR, IntKind.bits, ht2] at * <;> omega) | (simp_all; done) | skip)
      refine G_cond (b := decide ((j : Int) = kk)) rfl rfl (fun h1 => ?_) (fun h1 => ?_)
      · have h1' : j = kk := by have := of_decide_eq_true h1; omega
        refine G_run tOk eok_fplaces 60 (fun _ => none) (fun bs => rfl) (fun bs => ?_) (fun bs => ?_)
        · (repeat' apply And.intro) <;> (intros; first | exact trivial | exact rfl | omega | exact u8_lo _ | exact u8_hi _ | exact u8_in64 _ | exact u8_in63 _ | (simp only [inR, IntKind.bits]; omega) | (simp [inR, IntKind.bits]; done) | (simp [inR, IntKind.bits] at * <;> omega) | (simp_all; done) | skip)
        refine G_nx 4 rfl ?_
        refine G_draw tOk eok_fplaces rfl (fun _ => none) 4 [0, 0, 3, 0, 15] [] rfl (by decide +kernel) (fun bs => rfl) (fun bs => ?_) (fun bs => ?_)
        · (repeat' apply And.intro) <;> (intros; first | exact trivial | exact rfl | omega | exact u8_lo _ | exact u8_hi _ | exact u8_in64 _ | exact u8_in63 _ | (simp only [inR, IntKind.bits]; omega) | (simp [inR, IntKind.bits, hu2]; done) | (simp [inR, IntKind.bits, hu2] at * <;> omega) | (simp_all; done) | skip)
        refine G_run tOk eok_fplaces 60 (fun _ => none) (fun bs => rfl) (fun bs => by (repeat' apply And.intro) <;> (intros; first | exact trivial | exact rfl | omega | exact u8_lo _ | exact u8_hi _ | exact u8_in64 _ | exact u8_in63 _ | (simp only [inR, IntKind.bits]; omega) | (simp [inR, IntKind.bits, hu2]; done) | (simp [inR, IntKind.bits, hu2] at * <;> omega) | (simp_all; done) | skip)) (fun bs => ?_)
        refine G_cond (b := !decide (atT u j = e)) rfl (by rw [← en_eq]; rfl) (fun h2 => ?_) (fun h2 => ?_)
        · rw [hat, if_pos h1'] at h2; simp at h2
        · refine G_run tOk eok_fplaces 60 (fun _ => none) (fun bs => rfl) (fun bs => ?_) (fun bs => ?_)
          · (repeat' apply And.intro) <;> (intros; first | exact trivial | exact rfl | omega | exact u8_lo _ | exact u8_hi _ | exact u8_in64 _ | exact u8_in63 _ | (simp only [inR, IntKind.bits]; omega) | (simp [inR, IntKind.bits]; done) | (simp [inR, IntKind.bits] at * <;> omega) | (simp_all; done) | skip)
          refine G_lp [0, 1, 2] (j + 1) ?ok1 ?wk1
          case ok1 => exact ⟨hk', by omega⟩
          case wk1 => (repeat' apply And.intro) <;> (first | exact rfl | exact trivial | omega | refine sigEq ?_ | skip)
      · have h1' : j ≠ kk := by have := of_decide_eq_false h1; omega
        refine G_run tOk eok_fplaces 60 (fun _ => none) (fun bs => rfl) (fun bs => ?_) (fun bs => ?_)
        · (repeat' apply And.intro) <;> (intros; first | exact trivial | exact rfl | omega | exact u8_lo _ | exact u8_hi _ | exact u8_in64 _ | exact u8_in63 _ | (simp only [inR, IntKind.bits]; omega) | (simp [inR, IntKind.bits]; done) | (simp [inR, IntKind.bits] at * <;> omega) | (simp_all; done) | skip)
        refine G_nx 4 rfl ?_
        refine G_draw tOk eok_fplaces rfl (fun _ => none) 4 [0, 0, 3, 0, 15] [] rfl (by decide +kernel) (fun bs => rfl) (fun bs => ?_) (fun bs => ?_)
        · (repeat' apply And.intro) <;> (intros; first | exact trivial | exact rfl | omega | exact u8_lo _ | exact u8_hi _ | exact u8_in64 _ | exact u8_in63 _ | (simp only [inR, IntKind.bits]; omega) | (simp [inR, IntKind.bits, hu2]; done) | (simp [inR, IntKind.bits, hu2] at * <;> omega) | (simp_all; done) | skip)
        refine G_run tOk eok_fplaces 60 (fun _ => none) (fun bs => rfl) (fun bs => by (repeat' apply And.intro) <;> (intros; first | exact trivial | exact rfl | omega | exact u8_lo _ | exact u8_hi _ | exact u8_in64 _ | exact u8_in63 _ | (simp only [inR, IntKind.bits]; omega) | (simp [inR, IntKind.bits, hu2]; done) | (simp [inR, IntKind.bits, hu2] at * <;> omega) | (simp_all; done) | skip)) (fun bs => ?_)
        refine G_cond (b := !decide (atT u j = atT t j)) rfl (by rw [← en_eq]; rfl) (fun h2 => ?_) (fun h2 => ?_)
        · rw [hat, if_neg h1'] at h2; simp at h2
        · refine G_run tOk eok_fplaces 60 (fun _ => none) (fun bs => rfl) (fun bs => ?_) (fun bs => ?_)
          · (repeat' apply And.intro) <;> (intros; first | exact trivial | exact rfl | omega | exact u8_lo _ | exact u8_hi _ | exact u8_in64 _ | exact u8_in63 _ | (simp only [inR, IntKind.bits]; omega) | (simp [inR, IntKind.bits]; done) | (simp [inR, IntKind.bits] at * <;> omega) | (simp_all; done) | skip)
          refine G_lp [0, 1, 2] (j + 1) ?ok2 ?wk2
          case ok2 => exact ⟨hk', by omega⟩
          case wk2 => (repeat' apply And.intro) <;> (first | exact rfl | exact trivial | omega | refine sigEq ?_ | skip)
    · refine G_run tOk eok_fplaces 60 (fun _ => none) (fun bs => rfl) (fun bs => ?_) (fun bs => ?_)
      · (repeat' apply And.intro) <;> (intros; first | exact trivial | exact rfl | omega | exact u8_lo _ | exact u8_hi _ | exact u8_in64 _ | exact u8_in63 _ | (simp only [inR, IntKind.bits]; omega) | (simp [inR, IntKind.bits]; done) | (simp [inR, IntKind.bits] at * <;> omega) | (simp_all; done) | skip)
      refine G_nx 3 rfl ?_
      refine G_draw tOk eok_fplaces rfl (fun _ => none) 7 [0, 0, 0, 0, 12, 31, 0, 127] [] rfl (by decide +kernel) (fun bs => rfl) (fun bs => ?_) (fun bs => ?_)
      · (repeat' apply And.intro) <;> (intros; first | exact trivial | exact rfl | omega | exact ht2 _ | exact hu2 _ | (simp; done) | skip)
      have hb5 : setT u (kk : Int) ⟨(atT t (kk : Int)).kind, (atT t (kk : Int)).start, (atT t (kk : Int)).count, (atT t (kk : Int)).size, (atT t (kk : Int)).sum⟩ = t := hback
      refine G_run tOk eok_fplaces 60 (fun _ => some true) (fun bs => rfl) (fun bs => ?_) (fun bs => ?_)
      · simp only [hb5, hU]
        (repeat' apply And.intro) <;> (intros; first | exact trivial | exact rfl | omega | exact ht2 _ | exact hu2 _ | (simp; done) | skip)
      refine G_ret tOk hM0 rfl rfl ⟨trivial, trivial⟩ ?_
      conv => whnf
      simp [hU, hb5]
  refine G_run tOk eok_fplaces 60 (fun _ => none) (fun bs => rfl) (fun bs => ?_) (fun bs => ?_)
  · (repeat' apply And.intro) <;> (intros; first | exact trivial | exact rfl | omega | exact u8_lo _ | exact u8_hi _ | exact u8_in64 _ | exact u8_in63 _ | (simp only [inR, IntKind.bits]; omega) | (simp [inR, IntKind.bits]; done) | (simp [inR, IntKind.bits] at * <;> omega) | (simp_all; done) | skip)
  refine G_cond (b := decide (128 ≤ q)) rfl rfl (fun h => ?_) (fun h => ?_)
  · refine G_run tOk eok_fplaces 2 (fun _ => none) (fun bs => rfl) (fun bs => ?_) (fun bs => ?_)
    · (repeat' apply And.intro) <;> (intros; first | exact trivial | exact rfl | omega | exact u8_lo _ | exact u8_hi _ | exact u8_in64 _ | exact u8_in63 _ | (simp only [inR, IntKind.bits]; omega) | (simp [inR, IntKind.bits]; done) | (simp [inR, IntKind.bits] at * <;> omega) | (simp_all; done) | skip)
    refine G_wk (ns := [0, 1]) (h := ?wka) rfl (main ⟨2, 7, 4, 0, 9⟩ ?ba ?ca (may_raw 9 (by decide)))
    case wka =>
      (repeat' apply And.intro) <;> (first | exact rfl | exact trivial | omega | refine sigEq ?_ | skip)
      all_goals exact hkk
  · refine G_run tOk eok_fplaces 1 (fun _ => none) (fun bs => rfl) (fun bs => ?_) (fun bs => ?_)
    · (repeat' apply And.intro) <;> (intros; first | exact trivial | exact rfl | omega | exact u8_lo _ | exact u8_hi _ | exact u8_in64 _ | exact u8_in63 _ | (simp only [inR, IntKind.bits]; omega) | (simp [inR, IntKind.bits]; done) | (simp [inR, IntKind.bits] at * <;> omega) | (simp_all; done) | skip)
    refine G_wk (ns := [0, 1]) (h := ?wkb) rfl (main ⟨q % 2, 0, 0, 0, 0⟩ ?bb ?cb ?hm)
    case wkb =>
      (repeat' apply And.intro) <;> (first | exact rfl | exact trivial | omega | refine sigEq ?_ | skip)
      all_goals exact hkk
    case hm =>
      have : q % 2 = 0 ∨ q % 2 = 1 := by omega
      rcases this with e | e <;> rw [e] <;> decide
def fplaces_s : FSpec
  | [.c (.pv (.lst (.ints .u16) ns)), .c (.pv (.val (.int .u16 p))), .c (.pv (.val (.int .u8 q)))] => some ((ns.length ≤ 9223372036854775807) ∧ (∀ m ∈ ns, inR .u16 m) ∧ (inR .u16 p) ∧ (inR .u8 q), false, .x (.c (bv true)))
  | _ => none
theorem fplaces_s_ok : SpecOk Try.prog 4 fplaces_s := by
  intro args pre sh rv h hp; unfold fplaces_s at h; split at h
  · cases h; obtain ⟨hn, hr, hp, hq⟩ := hp; exact fplaces_fn _ _ _ hn hr hp hq
  · cases h
def psi_fplaces : FuncId → Option FSpec := psiCons 4 fplaces_s psi_made
theorem psi_fplaces_ok : PsiFn Try.prog psi_fplaces := psiCons_ok fplaces_s_ok psi_made_ok
end Go.Proofs.Ytnmomckmpknbkaa
