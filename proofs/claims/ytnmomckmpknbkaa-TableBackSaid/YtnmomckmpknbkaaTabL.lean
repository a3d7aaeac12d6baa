import Derived.Test.YtnmomckmpknbkaaTabK
set_option linter.unusedSimpArgs false
set_option linter.unusedVariables false
namespace Go.Proofs.Ytnmomckmpknbkaa
open Go.Mt

def env_fback : Env := ⟨T, psi_freads, pspNil, 114, [], none, true⟩
theorem eok_fback : PsiOk Try.prog env_fback := ⟨psi_freads_ok, pspNil_ok⟩
theorem fback_fn (ns : List Int) (a : List UInt8) (z : List UInt8) (n : Int) (hn : ns.length ≤ 9223372036854775807) (hr : ∀ m ∈ ns, inR .u16 m) (ha : a.length ≤ 9223372036854775807) (hz : z.length ≤ 9223372036854775807) (hp : inR .u16 n) : Ctr Try.prog 11 false [lst (.ints .u16) ns, lst .byt a, lst .byt z, int .u16 n] (.x (.c (bv true))) := by
  refine Ctr_intro (E := env_fback) Try.func11 rfl (by decide) rfl rfl (fun M0 W hM0 => ?_)
  have hp' : 0 ≤ n ∧ n ≤ 65535 := hp
  refine G_run tOk eok_fback 60 (fun _ => none) (fun bs => rfl) (fun bs => ?_) (fun bs => ?_)
  · (repeat' apply And.intro) <;> (intros; first | exact trivial | exact rfl | omega | exact u8_lo _ | exact u8_hi _ | exact u8_in64 _ | exact u8_in63 _ | (simp only [inR, IntKind.bits]; omega) | (simp [inR, IntKind.bits]; done) | (simp [inR, IntKind.bits] at * <;> omega) | (simp_all; done) | skip)
  refine G_cond rfl rfl (fun h => ?_) (fun h => ?_)
  · refine G_run tOk eok_fback 60 (fun _ => none) (fun bs => rfl) (fun bs => ?_) (fun bs => ?_)
    · (repeat' apply And.intro) <;> (intros; first | exact trivial | exact rfl | omega | exact u8_lo _ | exact u8_hi _ | exact u8_in64 _ | exact u8_in63 _ | (simp only [inR, IntKind.bits]; omega) | (simp [inR, IntKind.bits]; done) | (simp [inR, IntKind.bits] at * <;> omega) | (simp_all; done) | skip)
    exact G_ret tOk hM0 rfl rfl ⟨trivial, trivial⟩ rfl
  have hl : a.length ≤ 500 ∧ z.length ≤ 500 := by simp at h; omega
  clear h
  have hR := madT_right hr
  have hs := madT_sum hr
  obtain ⟨b1, b2⟩ := back hR hs a z
  have hE := tabE_ok hR
  have hL := tabL_len' hR
  obtain ⟨k, hk⟩ : ∃ k : Nat, n % 320 = k := ⟨(n % 320).toNat, by omega⟩
  have hk3 : k < 320 := by omega
  obtain ⟨c1, c2⟩ := cut_at hR k
  have c3 := right_less (n := (k : Int)) c1 (by omega) (fun j hj h => by rw [c2 j hj, if_pos (by omega)])
  have ht1 := right_len hR
  have ht2 : ∀ i, (leaf (madT ns) i).length ≤ 1000000000 := fun i => Nat.le_trans (right_leaf hR i) (by decide)
  have hc1 := right_len c1
  have hc2 : ∀ i, (leaf (cutT (madT ns) (k : Int)) i).length ≤ 1000000000 := fun i => Nat.le_trans (right_leaf c1 i) (by decide)
  have hs' : ∀ i j, inR .u32 ((leaf (madT ns) i).getD j entZ).sum := fun i j => hs i j
  refine G_run tOk eok_fback 60 (fun _ => none) (fun bs => rfl) (fun bs => ?_) (fun bs => ?_)
  · (repeat' apply And.intro) <;> (intros; first | exact trivial | exact rfl | omega | exact u8_lo _ | exact u8_hi _ | exact u8_in64 _ | exact u8_in63 _ | (simp only [inR, IntKind.bits]; omega) | (simp [inR, IntKind.bits]; done) | (simp [inR, IntKind.bits] at * <;> omega) | (simp_all; done) | skip)
  generalize madT ns = t at *
  refine G_freeze 5 [12, 43] rfl ⟨rfl, rfl, trivial⟩ ?_
  refine G_freeze 1 [10] rfl ⟨rfl, trivial⟩ ?_
  generalize hB : tabL t 2 = B at *
  have hal : (a ++ B ++ z).length ≤ 1000000 := by simp only [List.length_append]; omega
  refine G_run tOk eok_fback 60 (fun _ => none) (fun bs => rfl) (fun bs => ?_) (fun bs => ?_)
  · simp only [List.nil_append]
    (repeat' apply And.intro) <;> (intros; first | exact trivial | exact rfl | omega | exact ht2 _ | (simp; done) | (simp [inR]; omega) | skip)
  have b1' : rdA ([] ++ a ++ B ++ z) a.length 4096 2 = some t := b1
  have b3 : rT (rdA ([] ++ a ++ B ++ z) a.length 4096 2) = t := by rw [b1']; rfl
  have b4 : rF (rdA ([] ++ a ++ B ++ z) a.length 4096 2) = 0 := by rw [b1']; rfl
  have b5 : rK ((a.length : Int) + 2 + 130 * getV ([] ++ a ++ B ++ z) a.length 2 false) (rdA ([] ++ a ++ B ++ z) a.length 4096 2) = a.length + B.length := by rw [b1']; exact b2
  have b6 : cutT t (n % 320) = cutT t (k : Int) := by rw [hk]
  refine G_wkB3 (ns := [0, 6, 7]) (fs := fun b c d => [(1, lst .byt a), (9, .c (.ptr 0 b 0)), (10, lst .byt B), (11, int .i64 0), (13, .c (.ptr 1 c 0)), (14, int .i64 (a.length + B.length)), (15, int .i64 0), (16, int .i64 k), (17, .c (.ptr 2 d 0)), (18, int .i64 0)]) (hs := fun b c d => [.blk b 24 [.pv (.lst .tbl t)], .blk c 24 [.pv (.lst .tbl t)], .blk d 24 [.pv (.lst .tbl (cutT t (k : Int)))]]) ?b1 ?c1 ?d1 rfl ?wk0 (fun b c d => ?_)
  case wk0 =>
    (repeat' apply And.intro) <;> (first | exact rfl | exact trivial | omega | refine sigEq ?_ | skip)
    all_goals first | exact hE | exact hk | exact b4 | exact b5 | exact congrArg (PV.lst .tbl) b3 | exact congrArg (PV.lst .tbl) b6 | skip
  generalize cutT t (k : Int) = u at *
  refine G_loop (fun j : Nat => [(1, lst .byt a), (9, .c (.ptr 0 b 0)), (10, lst .byt B), (11, int .i64 0), (13, .c (.ptr 1 c 0)), (14, int .i64 (a.length + B.length)), (15, int .i64 0), (16, int .i64 k), (17, .c (.ptr 2 d 0)), (18, int .i64 j)]) (fun j => [.blk b 24 [.pv (.lst .tbl t)], .blk c 24 [.pv (.lst .tbl t)], .blk d 24 [.pv (.lst .tbl u)]]) (fun j => j ≤ 320) (fun j => 320 - j) rfl [0, 1, 2] 0 (Nat.zero_le _) ?wk (fun j hx => ?_)
  case wk => (repeat' apply And.intro) <;> (first | exact rfl | exact trivial | omega | refine sigEq ?_ | skip)
  refine G_run tOk eok_fback 60 (fun _ => none) (fun bs => rfl) (fun bs => ?_) (fun bs => ?_)
  · (repeat' apply And.intro) <;> (intros; first | exact trivial | exact rfl | omega | exact u8_lo _ | exact u8_hi _ | exact u8_in64 _ | exact u8_in63 _ | (simp only [inR, IntKind.bits]; omega) | (simp [inR, IntKind.bits]; done) | (simp [inR, IntKind.bits] at * <;> omega) | (simp_all; done) | skip)
  refine G_if rfl rfl (fun hj => ?_) (fun hj => ?_)
  · have hj' : j < 320 := by omega
    have hat := c2 j (by omega)
    refine G_run tOk eok_fback 60 (fun _ => none) (fun bs => rfl) (fun bs => ?_) (fun bs => ?_)
    · (repeat' apply And.intro) <;> (intros; first | exact trivial | exact rfl | omega | exact u8_lo _ | exact u8_hi _ | exact u8_in64 _ | exact u8_in63 _ | (simp only [inR, IntKind.bits]; omega) | (simp [inR, IntKind.bits]; done) | (simp [inR, IntKind.bits] at * <;> omega) | (simp_all; done) | skip)
    refine G_nx 3 rfl ?_
    by_cases hkj : k ≤ j
    · have hz : (atT u (j : Int)).kind = 0 := by rw [hat, if_pos hkj]; rfl
      refine G_draw tOk eok_fback rfl (fun q => match q with | 3 => some true | 10 => some false | 14 => some false | _ => none) 20 [0, 0, 3, 7, 15, 15, 63, 127, 255, 511, 1023, 2047, 2047, 8191, 16383, 32767, 32767, 131071, 32767, 32767, 1048575, 2097151, 4194303, 8388607] [] rfl (by decide +kernel) (fun bs => rfl) (fun bs => ?_) (fun bs => ?_)
      · (repeat' apply And.intro) <;> (intros; first | exact trivial | exact rfl | omega | exact ht2 _ | exact hc2 _ | (simp; omega) | (simp [hz]; done) | skip)
      refine G_run tOk eok_fback 60 (fun q => match q with | 3 => some true | 10 => some false | 14 => some false | _ => none) (fun bs => rfl) (fun bs => ?_) (fun bs => ?_)
      · (repeat' apply And.intro) <;> (intros; first | exact trivial | exact rfl | omega | exact ht2 _ | exact hc2 _ | (simp; omega) | (simp [hz]; done) | skip)
      refine G_els rfl rfl ?ce ?_
      case ce => simp [hz]
      refine G_run tOk eok_fback 60 (fun _ => none) (fun bs => rfl) (fun bs => ?_) (fun bs => ?_)
      · (repeat' apply And.intro) <;> (intros; first | exact trivial | exact rfl | omega | exact u8_lo _ | exact u8_hi _ | exact u8_in64 _ | exact u8_in63 _ | (simp only [inR, IntKind.bits]; omega) | (simp [inR, IntKind.bits]; done) | (simp [inR, IntKind.bits] at * <;> omega) | (simp_all; done) | skip)
      refine G_lp [0, 1, 2] (j + 1) ?ok1 ?wk1
      case ok1 => exact ⟨hj', by omega⟩
      case wk1 => (repeat' apply And.intro) <;> (first | exact rfl | exact trivial | omega | refine sigEq ?_ | skip)
    · have hz : atT u (j : Int) = atT t (j : Int) := by rw [hat, if_neg hkj]
      refine G_draw tOk eok_fback rfl (fun q => match q with | 3 => some false | 10 => some false | 14 => some true | _ => none) 20 [0, 0, 3, 7, 15, 15, 63, 127, 255, 511, 1023, 2047, 2047, 8191, 16383, 32767, 32767, 131071, 32767, 32767, 1048575, 2097151, 4194303, 8388607] [] rfl (by decide +kernel) (fun bs => rfl) (fun bs => ?_) (fun bs => ?_)
      · (repeat' apply And.intro) <;> (intros; first | exact trivial | exact rfl | omega | exact ht2 _ | exact hc2 _ | (simp; omega) | (simp [hz]; done) | skip)
      refine G_run tOk eok_fback 60 (fun q => match q with | 3 => some false | 10 => some false | 14 => some true | _ => none) (fun bs => rfl) (fun bs => ?_) (fun bs => ?_)
      · (repeat' apply And.intro) <;> (intros; first | exact trivial | exact rfl | omega | exact ht2 _ | exact hc2 _ | (simp; omega) | (simp [hz]; done) | skip)
      refine G_cond rfl rfl (fun h2 => ?_) (fun h2 => ?_)
      · simp [hz, hkj] at h2
      · refine G_run tOk eok_fback 60 (fun _ => none) (fun bs => rfl) (fun bs => ?_) (fun bs => ?_)
        · (repeat' apply And.intro) <;> (intros; first | exact trivial | exact rfl | omega | exact u8_lo _ | exact u8_hi _ | exact u8_in64 _ | exact u8_in63 _ | (simp only [inR, IntKind.bits]; omega) | (simp [inR, IntKind.bits]; done) | (simp [inR, IntKind.bits] at * <;> omega) | (simp_all; done) | skip)
        refine G_lp [0, 1, 2] (j + 1) ?ok2 ?wk2
        case ok2 => exact ⟨hj', by omega⟩
        case wk2 => (repeat' apply And.intro) <;> (first | exact rfl | exact trivial | omega | refine sigEq ?_ | skip)
  · refine G_run tOk eok_fback 60 (fun _ => some true) (fun bs => rfl) (fun bs => ?_) (fun bs => ?_)
    · simp only [c3]
      (repeat' apply And.intro) <;> (intros; first | exact trivial | exact rfl | omega | exact ht2 _ | exact hc2 _ | (simp; done) | (simp [inR]; omega) | skip)
    refine G_ret tOk hM0 rfl rfl ⟨trivial, trivial⟩ ?_
    conv => whnf
    simp [c3]
def fback_s : FSpec
  | [.c (.pv (.lst (.ints .u16) ns)), .c (.pv (.lst .byt a)), .c (.pv (.lst .byt z)), .c (.pv (.val (.int .u16 n)))] => some ((ns.length ≤ 9223372036854775807) ∧ (∀ m ∈ ns, inR .u16 m) ∧ (a.length ≤ 9223372036854775807) ∧ (z.length ≤ 9223372036854775807) ∧ (inR .u16 n), false, .x (.c (bv true)))
  | _ => none
theorem fback_s_ok : SpecOk Try.prog 11 fback_s := by
  intro args pre sh rv h hp; unfold fback_s at h; split at h
  · cases h; obtain ⟨hn, hr, ha, hz, hp⟩ := hp; exact fback_fn _ _ _ _ hn hr ha hz hp
  · cases h
def psi_fback : FuncId → Option FSpec := psiCons 11 fback_s psi_freads
theorem psi_fback_ok : PsiFn Try.prog psi_fback := psiCons_ok fback_s_ok psi_freads_ok
end Go.Proofs.Ytnmomckmpknbkaa
