import Derived.Test.YtgobmfkffhomaaaShtO
set_option linter.unusedSimpArgs false
set_option linter.unusedVariables false
set_option maxHeartbeats 1600000
namespace Go.Proofs.Ytgobmfkffhomaaa
open Go.Mt

theorem sht_ext {a b : Shot} (h1 : a.name = b.name) (h2 : a.size = b.size) (h3 : a.t = b.t) : a = b := by cases a; cases b; simp_all
def env_msame : Env := ⟨T, psi_rints, pspNil, psc_del, 97, [], none, true⟩
theorem eok_msame : PsiOk Try.prog env_msame := ⟨psi_rints_ok, pspNil_ok, psc_del_ok⟩
theorem msame_fn (a0 : Int) (a1 : Int) (a2 : List UInt8) (a3 : List (List Entry)) (a4 : List Shot) (a5 : List Bitmap) (a6 : List Int) (b0 : Int) (b1 : Int) (b2 : List UInt8) (b3 : List (List Entry)) (b4 : List Shot) (b5 : List Bitmap) (b6 : List Int) (ha : MtaOk ⟨a0, a1, a2, a3, a4, a5, a6⟩) (hb : MtaOk ⟨b0, b1, b2, b3, b4, b5, b6⟩) : Ctr Try.prog 26 false [.g [.pv (.val (.int .i64 a0)), .pv (.val (.int .i64 a1)), .pv (.val (.string ⟨⟨a2⟩⟩)), .pv (.lst .tbl a3), .pv (.lst .sht a4), .pv (.lst .bms a5), .pv (.lst (.ints .i64) a6)], .g [.pv (.val (.int .i64 b0)), .pv (.val (.int .i64 b1)), .pv (.val (.string ⟨⟨b2⟩⟩)), .pv (.lst .tbl b3), .pv (.lst .sht b4), .pv (.lst .bms b5), .pv (.lst (.ints .i64) b6)]] (.x (.c (bv (decide ((⟨a0, a1, a2, a3, a4, a5, a6⟩ : Mta) = ⟨b0, b1, b2, b3, b4, b5, b6⟩))))) := by
  refine Ctr_intro (E := env_msame) Try.func26 rfl (by decide) rfl rfl (fun M0 W hM0 => ?_)
  obtain ⟨hat, haS, haM, haC⟩ := ha
  obtain ⟨hbt, hbS, hbM, hbC⟩ := hb
  simp only at hat haS haM haC hbt hbS hbM hbC
  have haSl := haS.len
  have hbSl := hbS.len
  obtain ⟨ha9, ha9f⟩ := hat.nine
  obtain ⟨hb9, hb9f⟩ := hbt.nine
  have no : ¬ ((⟨a0, a1, a2, a3, a4, a5, a6⟩ : Mta) = ⟨b0, b1, b2, b3, b4, b5, b6⟩) → false = decide ((⟨a0, a1, a2, a3, a4, a5, a6⟩ : Mta) = ⟨b0, b1, b2, b3, b4, b5, b6⟩) := fun h => (decide_eq_false h).symm
  refine G_run tOk eok_msame 4 (fun _ => none) (fun bs => rfl) (fun bs => ?_) (fun bs => ?_)
  · (repeat' apply And.intro) <;> (intros; first | exact trivial | exact rfl | omega | exact u8_lo _ | exact u8_hi _ | exact u8_in64 _ | exact u8_in63 _ | (simp only [inR, IntKind.bits]; omega) | (simp [inR, IntKind.bits]; done) | (simp [inR, IntKind.bits] at * <;> omega) | (simp_all; done) | (with_reducible assumption) | skip)
  cases h0 : ((!decide (a0 = b0) || !decide (a1 = b1)) || !decide (a2 = b2)) || !decide ((a4.length : Int) = (b4.length : Int)) with
  | true =>
    refine G_run tOk eok_msame 60 (fun j => match j with | 28 => some true | 36 => some true | 44 => some true | _ => none) (fun bs => rfl) (fun bs => ?_) (fun bs => ?_)
    · (repeat' apply And.intro) <;> (intros; first | exact trivial | exact rfl | omega | exact u8_lo _ | exact u8_hi _ | exact u8_in64 _ | exact u8_in63 _ | (simp only [inR, IntKind.bits]; omega) | (simp [inR, IntKind.bits]; done) | (simp [inR, IntKind.bits] at * <;> omega) | (simp_all; done) | (with_reducible assumption) | skip)
      all_goals first | exact h0 | skip
    refine G_thn rfl rfl ?hb0 ?_
    case hb0 => simp
    refine G_run tOk eok_msame 60 (fun _ => none) (fun bs => rfl) (fun bs => ?_) (fun bs => ?_)
    · (repeat' apply And.intro) <;> (intros; first | exact trivial | exact rfl | omega | exact u8_lo _ | exact u8_hi _ | exact u8_in64 _ | exact u8_in63 _ | (simp only [inR, IntKind.bits]; omega) | (simp [inR, IntKind.bits]; done) | (simp [inR, IntKind.bits] at * <;> omega) | (simp_all; done) | (with_reducible assumption) | skip)
    exact G_ret tOk hM0 rfl rfl ⟨trivial, trivial⟩ (no (fun e => by
      simp only [Mta.mk.injEq] at e
      obtain ⟨e0, e1, e2, _, e4, _, _⟩ := e
      subst e0 e1 e2 e4
      simp at h0))
  | false =>
  have h0' : ((a0 = b0 ∧ a1 = b1) ∧ a2 = b2) ∧ (a4.length : Int) = (b4.length : Int) := by
    simpa only [Bool.or_eq_false_iff, Bool.not_eq_false', decide_eq_true_eq] using h0
  obtain ⟨⟨⟨q0, q1⟩, q2⟩, q4i⟩ := h0'
  have q4 : a4.length = b4.length := by omega
  cases h3 : decide (a3 = b3) with
  | false =>
    have h3' : ¬ a3 = b3 := by simpa using h3
    refine G_run tOk eok_msame 60 (fun j => match j with | 28 => some false | 36 => some true | 44 => some true | _ => none) (fun bs => rfl) (fun bs => ?_) (fun bs => ?_)
    · (repeat' apply And.intro) <;> (intros; first | exact trivial | exact rfl | omega | exact u8_lo _ | exact u8_hi _ | exact u8_in64 _ | exact u8_in63 _ | (simp only [inR, IntKind.bits]; omega) | (simp [inR, IntKind.bits]; done) | (simp [inR, IntKind.bits] at * <;> omega) | (simp_all; done) | (with_reducible assumption) | skip)
      all_goals first | exact h0 | exact ha9 | exact ha9f | exact hb9 | exact hb9f | (simp [h3']; done) | skip
    refine G_thn rfl rfl ?hb1 ?_
    case hb1 => simp [h3']
    refine G_run tOk eok_msame 60 (fun _ => none) (fun bs => rfl) (fun bs => ?_) (fun bs => ?_)
    · (repeat' apply And.intro) <;> (intros; first | exact trivial | exact rfl | omega | exact u8_lo _ | exact u8_hi _ | exact u8_in64 _ | exact u8_in63 _ | (simp only [inR, IntKind.bits]; omega) | (simp [inR, IntKind.bits]; done) | (simp [inR, IntKind.bits] at * <;> omega) | (simp_all; done) | (with_reducible assumption) | skip)
    exact G_ret tOk hM0 rfl rfl ⟨trivial, trivial⟩ (no (fun e => by simp only [Mta.mk.injEq] at e; exact h3' e.2.2.2.1))
  | true =>
  have h3' : a3 = b3 := by simpa using h3
  cases h5 : decide (a5 = b5) with
  | false =>
    have h5' : ¬ a5 = b5 := by simpa using h5
    refine G_run tOk eok_msame 60 (fun j => match j with | 28 => some false | 36 => some false | 44 => some true | _ => none) (fun bs => rfl) (fun bs => ?_) (fun bs => ?_)
    · (repeat' apply And.intro) <;> (intros; first | exact trivial | exact rfl | omega | exact u8_lo _ | exact u8_hi _ | exact u8_in64 _ | exact u8_in63 _ | (simp only [inR, IntKind.bits]; omega) | (simp [inR, IntKind.bits]; done) | (simp [inR, IntKind.bits] at * <;> omega) | (simp_all; done) | (with_reducible assumption) | skip)
      all_goals first | exact h0 | exact ha9 | exact ha9f | exact hb9 | exact hb9f | (simp [h3', h5', q0, q1, q2, q4]; done) | skip
    refine G_thn rfl rfl ?hb2 ?_
    case hb2 => simp [h5']
    refine G_run tOk eok_msame 60 (fun _ => none) (fun bs => rfl) (fun bs => ?_) (fun bs => ?_)
    · (repeat' apply And.intro) <;> (intros; first | exact trivial | exact rfl | omega | exact u8_lo _ | exact u8_hi _ | exact u8_in64 _ | exact u8_in63 _ | (simp only [inR, IntKind.bits]; omega) | (simp [inR, IntKind.bits]; done) | (simp [inR, IntKind.bits] at * <;> omega) | (simp_all; done) | (with_reducible assumption) | skip)
    exact G_ret tOk hM0 rfl rfl ⟨trivial, trivial⟩ (no (fun e => by simp only [Mta.mk.injEq] at e; exact h5' e.2.2.2.2.2.1))
  | true =>
  have h5' : a5 = b5 := by simpa using h5
  refine G_run tOk eok_msame 60 (fun j => match j with | 28 => some false | 36 => some false | 44 => some false | _ => none) (fun bs => rfl) (fun bs => ?_) (fun bs => ?_)
  · (repeat' apply And.intro) <;> (intros; first | exact trivial | exact rfl | omega | exact u8_lo _ | exact u8_hi _ | exact u8_in64 _ | exact u8_in63 _ | (simp only [inR, IntKind.bits]; omega) | (simp [inR, IntKind.bits]; done) | (simp [inR, IntKind.bits] at * <;> omega) | (simp_all; done) | (with_reducible assumption) | skip)
    all_goals first | exact h0 | exact ha9 | exact ha9f | exact hb9 | exact hb9f | (simp [h3', h5', q0, q1, q2, q4]; done) | skip
  refine G_cond rfl rfl (fun h6 => ?_) (fun h6 => ?_)
  · have h6' : ¬ a6 = b6 := by simpa [h3', h5', q0, q1, q2, q4] using h6
    refine G_run tOk eok_msame 60 (fun _ => none) (fun bs => rfl) (fun bs => ?_) (fun bs => ?_)
    · (repeat' apply And.intro) <;> (intros; first | exact trivial | exact rfl | omega | exact u8_lo _ | exact u8_hi _ | exact u8_in64 _ | exact u8_in63 _ | (simp only [inR, IntKind.bits]; omega) | (simp [inR, IntKind.bits]; done) | (simp [inR, IntKind.bits] at * <;> omega) | (simp_all; done) | (with_reducible assumption) | skip)
    exact G_ret tOk hM0 rfl rfl ⟨trivial, trivial⟩ (no (fun e => by simp only [Mta.mk.injEq] at e; exact h6' e.2.2.2.2.2.2))
  have h6' : a6 = b6 := by simpa [h3', h5', q0, q1, q2, q4] using h6
  subst q0 q1 q2 h3' h5' h6'
  have hd : decide ((⟨a0, a1, a2, a3, a4, a5, a6⟩ : Mta) = ⟨a0, a1, a2, a3, b4, a5, a6⟩) = decide (a4 = b4) := by
    rw [decide_eq_decide]; simp
  rw [hd]
  refine G_run tOk eok_msame 60 (fun _ => none) (fun bs => rfl) (fun bs => ?_) (fun bs => ?_)
  · (repeat' apply And.intro) <;> (intros; first | exact trivial | exact rfl | omega | exact u8_lo _ | exact u8_hi _ | exact u8_in64 _ | exact u8_in63 _ | (simp only [inR, IntKind.bits]; omega) | (simp [inR, IntKind.bits]; done) | (simp [inR, IntKind.bits] at * <;> omega) | (simp_all; done) | (with_reducible assumption) | skip)
  refine G_wkB2 (ns := [0, 1]) (fs := fun b c => [(2, .c (.ptr 0 b 0)), (3, .c (.ptr 1 c 0)), (5, int .i64 0)]) (hs := fun b c => [.blk b 31 [.pv (i64 a0), .pv (i64 a1), .pv (.val (.string ⟨⟨a2⟩⟩)), .pv (.lst .tbl a3), .pv (.lst .sht a4), .pv (.lst .bms a5), .pv (.lst (.ints .i64) a6)], .blk c 31 [.pv (i64 a0), .pv (i64 a1), .pv (.val (.string ⟨⟨a2⟩⟩)), .pv (.lst .tbl a3), .pv (.lst .sht b4), .pv (.lst .bms a5), .pv (.lst (.ints .i64) a6)]]) ?b1 ?c1 rfl ?wk0 (fun b c => ?_)
  case wk0 => (repeat' apply And.intro) <;> (first | exact rfl | exact trivial | omega | refine sigEq ?_ | skip)
  refine G_loop (fun x : Nat => [(2, .c (.ptr 0 b 0)), (3, .c (.ptr 1 c 0)), (5, int .i64 x)]) (fun x => [.blk b 31 [.pv (i64 a0), .pv (i64 a1), .pv (.val (.string ⟨⟨a2⟩⟩)), .pv (.lst .tbl a3), .pv (.lst .sht a4), .pv (.lst .bms a5), .pv (.lst (.ints .i64) a6)], .blk c 31 [.pv (i64 a0), .pv (i64 a1), .pv (.val (.string ⟨⟨a2⟩⟩)), .pv (.lst .tbl a3), .pv (.lst .sht b4), .pv (.lst .bms a5), .pv (.lst (.ints .i64) a6)]]) (fun x => x ≤ a4.length ∧ a4.take x = b4.take x) (fun x => a4.length - x) rfl [0, 1] 0 ⟨Nat.zero_le _, rfl⟩ ?wk (fun x hx => ?_)
  case wk => (repeat' apply And.intro) <;> (first | exact rfl | exact trivial | omega | refine sigEq ?_ | skip)
  obtain ⟨hx, hr⟩ := hx
  refine G_run tOk eok_msame 60 (fun _ => none) (fun bs => rfl) (fun bs => ?_) (fun bs => ?_)
  · (repeat' apply And.intro) <;> (intros; first | exact trivial | exact rfl | omega | exact u8_lo _ | exact u8_hi _ | exact u8_in64 _ | exact u8_in63 _ | (simp only [inR, IntKind.bits]; omega) | (simp [inR, IntKind.bits]; done) | (simp [inR, IntKind.bits] at * <;> omega) | (simp_all; done) | (with_reducible assumption) | skip)
  refine G_if rfl rfl (fun hk => ?_) (fun hk => ?_)
  · have hk' : x < a4.length := by omega
    have ht := take_eq LK.sht.dft hr hk' (by omega)
    obtain ⟨p1, p2⟩ := (haS.get x).nine
    obtain ⟨p3, p4⟩ := (hbS.get x).nine
    obtain ⟨A, hA⟩ : ∃ A, a4.getD (x : Int).toNat LK.sht.dft = A := ⟨_, rfl⟩
    obtain ⟨C, hC⟩ : ∃ C, b4.getD (x : Int).toNat LK.sht.dft = C := ⟨_, rfl⟩
    have hA' : a4.getD x LK.sht.dft = A := hA
    have hC' : b4.getD x LK.sht.dft = C := hC
    rw [hA', hC'] at ht
    rw [hA'] at p1 p2
    rw [hC'] at p3 p4
    have no2 : ¬ A = C → false = decide (a4 = b4) := fun h => (decide_eq_false (fun e => h (by rw [← hA', ← hC', e]))).symm
    refine G_run tOk eok_msame 60 (fun _ => none) (fun bs => rfl) (fun bs => ?_) (fun bs => ?_)
    · (repeat' apply And.intro) <;> (intros; first | exact trivial | exact rfl | omega | exact u8_lo _ | exact u8_hi _ | exact u8_in64 _ | exact u8_in63 _ | (simp only [inR, IntKind.bits]; omega) | (simp [inR, IntKind.bits]; done) | (simp [inR, IntKind.bits] at * <;> omega) | (simp_all; done) | (with_reducible assumption) | skip)
    refine G_nx 2 rfl ?_
    refine G_draw tOk eok_msame rfl (fun _ => none) 13 [0, 1, 0, 7, 15, 0, 32, 0, 224, 480, 0, 0, 3103, 8191] [(12, 12)] rfl (by decide +kernel) (fun bs => rfl) (fun bs => ?_) (fun bs => ?_)
    · (repeat' apply And.intro) <;> (intros; first | exact trivial | exact rfl | omega | exact u8_lo _ | exact u8_hi _ | exact u8_in64 _ | exact u8_in63 _ | (simp only [inR, IntKind.bits]; omega) | (simp [inR, IntKind.bits]; done) | (simp [inR, IntKind.bits] at * <;> omega) | (simp_all; done) | (with_reducible assumption) | skip)
    refine G_run tOk eok_msame 1 (fun _ => none) (fun bs => rfl) (fun bs => ?_) (fun bs => ?_)
    · (repeat' apply And.intro) <;> (intros; first | exact trivial | exact rfl | omega | exact u8_lo _ | exact u8_hi _ | exact u8_in64 _ | exact u8_in63 _ | (simp only [inR, IntKind.bits]; omega) | (simp [inR, IntKind.bits]; done) | (simp [inR, IntKind.bits] at * <;> omega) | (simp_all; done) | (with_reducible assumption) | skip)
    rw [hA, hC]
    cases c1 : !decide (A.name = C.name) || !decide (A.size = C.size) with
    | true =>
      refine G_run tOk eok_msame 60 (fun j => match j with | 12 => some true | _ => none) (fun bs => rfl) (fun bs => ?_) (fun bs => ?_)
      · (repeat' apply And.intro) <;> (intros; first | exact trivial | exact rfl | omega | exact u8_lo _ | exact u8_hi _ | exact u8_in64 _ | exact u8_in63 _ | (simp only [inR, IntKind.bits]; omega) | (simp [inR, IntKind.bits]; done) | (simp [inR, IntKind.bits] at * <;> omega) | (simp_all; done) | (with_reducible assumption) | skip)
        all_goals first | exact c1 | skip
      refine G_thn rfl rfl ?hb3 ?_
      case hb3 => simp
      refine G_run tOk eok_msame 60 (fun _ => none) (fun bs => rfl) (fun bs => ?_) (fun bs => ?_)
      · (repeat' apply And.intro) <;> (intros; first | exact trivial | exact rfl | omega | exact u8_lo _ | exact u8_hi _ | exact u8_in64 _ | exact u8_in63 _ | (simp only [inR, IntKind.bits]; omega) | (simp [inR, IntKind.bits]; done) | (simp [inR, IntKind.bits] at * <;> omega) | (simp_all; done) | (with_reducible assumption) | skip)
      exact G_ret tOk hM0 rfl rfl ⟨trivial, trivial⟩ (no2 (fun e => by subst e; simp at c1))
    | false =>
    have c1' : A.name = C.name ∧ A.size = C.size := by simpa only [Bool.or_eq_false_iff, Bool.not_eq_false', decide_eq_true_eq] using c1
    refine G_run tOk eok_msame 60 (fun j => match j with | 12 => some false | _ => none) (fun bs => rfl) (fun bs => ?_) (fun bs => ?_)
    · (repeat' apply And.intro) <;> (intros; first | exact trivial | exact rfl | omega | exact u8_lo _ | exact u8_hi _ | exact u8_in64 _ | exact u8_in63 _ | (simp only [inR, IntKind.bits]; omega) | (simp [inR, IntKind.bits]; done) | (simp [inR, IntKind.bits] at * <;> omega) | (simp_all; done) | (with_reducible assumption) | skip)
      all_goals first | exact c1 | exact p1 | exact p2 | exact p3 | exact p4 | skip
    refine G_cond rfl rfl (fun h => ?_) (fun h => ?_)
    · refine G_run tOk eok_msame 60 (fun _ => none) (fun bs => rfl) (fun bs => ?_) (fun bs => ?_)
      · (repeat' apply And.intro) <;> (intros; first | exact trivial | exact rfl | omega | exact u8_lo _ | exact u8_hi _ | exact u8_in64 _ | exact u8_in63 _ | (simp only [inR, IntKind.bits]; omega) | (simp [inR, IntKind.bits]; done) | (simp [inR, IntKind.bits] at * <;> omega) | (simp_all; done) | (with_reducible assumption) | skip)
      exact G_ret tOk hM0 rfl rfl ⟨trivial, trivial⟩ (no2 (fun e => by subst e; simp at h))
    · have h' : A.t = C.t := by simpa [c1'.1, c1'.2] using h
      refine G_run tOk eok_msame 60 (fun _ => none) (fun bs => rfl) (fun bs => ?_) (fun bs => ?_)
      · (repeat' apply And.intro) <;> (intros; first | exact trivial | exact rfl | omega | exact u8_lo _ | exact u8_hi _ | exact u8_in64 _ | exact u8_in63 _ | (simp only [inR, IntKind.bits]; omega) | (simp [inR, IntKind.bits]; done) | (simp [inR, IntKind.bits] at * <;> omega) | (simp_all; done) | (with_reducible assumption) | skip)
      refine G_lp [0, 1] (x + 1) ?ok ?wk2
      case ok => exact ⟨⟨hk', ht.2 (sht_ext c1'.1 c1'.2 h')⟩, by omega⟩
      case wk2 => (repeat' apply And.intro) <;> (first | exact rfl | exact trivial | omega | refine sigEq ?_ | skip)
  · have hk' : x = a4.length := by omega
    subst hk'
    refine G_run tOk eok_msame 60 (fun _ => none) (fun bs => rfl) (fun bs => ?_) (fun bs => ?_)
    · (repeat' apply And.intro) <;> (intros; first | exact trivial | exact rfl | omega | exact u8_lo _ | exact u8_hi _ | exact u8_in64 _ | exact u8_in63 _ | (simp only [inR, IntKind.bits]; omega) | (simp [inR, IntKind.bits]; done) | (simp [inR, IntKind.bits] at * <;> omega) | (simp_all; done) | (with_reducible assumption) | skip)
    have hd : decide (a4 = b4) = true := by
      simp only [decide_eq_true_eq]
      rw [List.take_length, q4, List.take_length] at hr; exact hr
    exact G_ret tOk hM0 rfl rfl ⟨trivial, trivial⟩ hd.symm
def msame_s : FSpec
  | [.g [.pv (.val (.int .i64 a0)), .pv (.val (.int .i64 a1)), .pv (.val (.string ⟨⟨a2⟩⟩)), .pv (.lst .tbl a3), .pv (.lst .sht a4), .pv (.lst .bms a5), .pv (.lst (.ints .i64) a6)], .g [.pv (.val (.int .i64 b0)), .pv (.val (.int .i64 b1)), .pv (.val (.string ⟨⟨b2⟩⟩)), .pv (.lst .tbl b3), .pv (.lst .sht b4), .pv (.lst .bms b5), .pv (.lst (.ints .i64) b6)]] => some ((MtaOk ⟨a0, a1, a2, a3, a4, a5, a6⟩) ∧ (MtaOk ⟨b0, b1, b2, b3, b4, b5, b6⟩), false, .x (.c (bv (decide ((⟨a0, a1, a2, a3, a4, a5, a6⟩ : Mta) = ⟨b0, b1, b2, b3, b4, b5, b6⟩)))))
  | _ => none
theorem msame_s_ok : SpecOk Try.prog 26 msame_s := by
  intro args pre sh rv h hp; unfold msame_s at h; split at h
  · cases h; obtain ⟨ha, hb⟩ := hp; exact msame_fn _ _ _ _ _ _ _ _ _ _ _ _ _ _ ha hb
  · cases h
def psi_msame : FuncId → Option FSpec := psiCons 26 msame_s psi_rints
theorem psi_msame_ok : PsiFn Try.prog psi_msame := psiCons_ok msame_s_ok psi_rints_ok
end Go.Proofs.Ytgobmfkffhomaaa
