import Derived.Test.YtfpfmpanmnjjhaaSlot3
set_option linter.unusedSimpArgs false
set_option linter.unusedVariables false
namespace Go.Proofs.Ytfpfmpanmnjjhaa
open Go.Mt

theorem gF_enc {sq st ct sm : Int} (h0 : 0 ≤ sq ∧ sq ≤ 4294967295) (h1 : 0 ≤ st ∧ st ≤ 4294967295) (h2 : 0 ≤ ct ∧ ct ≤ 4294967295) (h3 : 0 ≤ sm ∧ sm ≤ 4294967295) : gF (slB sq st ct sm) = ⟨sq, st, ct, sm⟩ := by
  rw [slB_eq h0 h1 h2 h3]
  have g0 := (getV_put [] (putB 4 false (st.toNat : Nat) 4 ++ putB 4 false (ct.toNat : Nat) 4 ++ putB 4 false (sm.toNat : Nat) 4) 4 false sq.toNat (by omega) (by omega) (by omega)).1
  have g4 := (getV_put (putB 4 false (sq.toNat : Nat) 4) (putB 4 false (ct.toNat : Nat) 4 ++ putB 4 false (sm.toNat : Nat) 4) 4 false st.toNat (by omega) (by omega) (by omega)).1
  have g8 := (getV_put (putB 4 false (sq.toNat : Nat) 4 ++ putB 4 false (st.toNat : Nat) 4) (putB 4 false (sm.toNat : Nat) 4) 4 false ct.toNat (by omega) (by omega) (by omega)).1
  have g12 := (getV_put (putB 4 false (sq.toNat : Nat) 4 ++ putB 4 false (st.toNat : Nat) 4 ++ putB 4 false (ct.toNat : Nat) 4) [] 4 false sm.toNat (by omega) (by omega) (by omega)).1
  have l4 : (putB 4 false (sq.toNat : Nat) 4).length = 4 := by simp [putB]
  have l8 : (putB 4 false (sq.toNat : Nat) 4 ++ putB 4 false (st.toNat : Nat) 4).length = 8 := by simp [putB]
  have l12 : (putB 4 false (sq.toNat : Nat) 4 ++ putB 4 false (st.toNat : Nat) 4 ++ putB 4 false (ct.toNat : Nat) 4).length = 12 := by simp [putB]
  rw [l4] at g4; rw [l8] at g8; rw [l12] at g12
  have e0 : putB 4 false (sq.toNat : Nat) 4 ++ putB 4 false (st.toNat : Nat) 4 ++ putB 4 false (ct.toNat : Nat) 4 ++ putB 4 false (sm.toNat : Nat) 4 = [] ++ putB 4 false (sq.toNat : Nat) 4 ++ (putB 4 false (st.toNat : Nat) 4 ++ putB 4 false (ct.toNat : Nat) 4 ++ putB 4 false (sm.toNat : Nat) 4) := by simp
  have e4 : putB 4 false (sq.toNat : Nat) 4 ++ putB 4 false (st.toNat : Nat) 4 ++ putB 4 false (ct.toNat : Nat) 4 ++ putB 4 false (sm.toNat : Nat) 4 = putB 4 false (sq.toNat : Nat) 4 ++ putB 4 false (st.toNat : Nat) 4 ++ (putB 4 false (ct.toNat : Nat) 4 ++ putB 4 false (sm.toNat : Nat) 4) := by simp
  rw [List.append_nil] at g12
  generalize hX : putB 4 false (sq.toNat : Nat) 4 ++ putB 4 false (st.toNat : Nat) 4 ++ putB 4 false (ct.toNat : Nat) 4 ++ putB 4 false (sm.toNat : Nat) 4 = X at e0 e4 g8 g12
  have r0 : getV X 0 4 false = sq := by
    rw [e0]; have g' : getV _ 0 4 false = ((sq.toNat : Nat) : Int) := g0; exact g'.trans (by omega)
  have r4 : getV X 4 4 false = st := by
    rw [e4]; have g' : getV _ 4 4 false = ((st.toNat : Nat) : Int) := g4; exact g'.trans (by omega)
  have r8 : getV X 8 4 false = ct := by
    have g' : getV X 8 4 false = ((ct.toNat : Nat) : Int) := g8
    rw [g']; omega
  have r12 : getV X 12 4 false = sm := by
    have g' : getV X 12 4 false = ((sm.toNat : Nat) : Int) := g12
    rw [g']; omega
  simp only [gF]
  rw [r0, r4, r8, r12]
theorem get_put {sq st ct sm : Int} (h : mayS sq st ct = true) (hs : 0 ≤ sm ∧ sm ≤ 4294967295) : slL sq st ct sm = slB sq st ct sm ∧ (slL sq st ct sm).length = 16 ∧ gE (slL sq st ct sm) = 0 ∧ gX (slL sq st ct sm) = ⟨sq, st, ct, sm⟩ := by
  have hm := mayS_iff.1 h
  have e : slL sq st ct sm = slB sq st ct sm := by simp [slL, h]
  have hl := slB_len h hs
  have hg := gF_enc (sq := sq) (st := st) (ct := ct) (sm := sm) (by omega) (by omega) (by omega) hs
  have he : gE (slB sq st ct sm) = 0 := by unfold gE; rw [if_pos ⟨hl, by rw [hg]; exact h⟩]
  rw [e]
  exact ⟨rfl, hl, he, by simp only [gX, he, if_true, hg]⟩

def env_sbounds : Env := ⟨T, psi_sorders, pspNil, 84, []⟩
theorem eok_sbounds : PsiOk Try.prog env_sbounds := ⟨psi_sorders_ok, pspNil_ok⟩
theorem sbounds_fn (wh : Int) (sm : Int) (hw : inR .u8 wh) (hsm : inR .u32 sm) : Ctr Try.prog 7 false [int .u8 wh, int .u32 sm] (.x (.c (bv true))) := by
  refine Ctr_intro (E := env_sbounds) Try.func7 rfl (by decide) rfl rfl (fun M0 W hM0 => ?_)
  simp only [inR] at hw hsm
  refine G_run tOk eok_sbounds 60 (fun _ => none) (fun bs => rfl) (fun bs => ?_) (fun bs => ?_)
  · (repeat' apply And.intro) <;> (intros; first | exact trivial | exact rfl | omega | exact u8_lo _ | exact u8_hi _ | exact u8_in64 _ | exact u8_in63 _ | (simp only [inR, IntKind.bits]; omega) | (simp [inR, IntKind.bits]; done) | (simp [inR, IntKind.bits] at * <;> omega) | (simp_all; done) | skip)
  refine G_cut (X := Nat × Slot) (fun x => [(0, int .u8 wh), (5, .c (.ptr 0 x.1 0))]) (fun x => [.blk x.1 24 [.pv (i64 x.2.seq), .pv (i64 x.2.start), .pv (i64 x.2.count), .pv (.val (.int .u32 x.2.sum))]])
    (fun x => x.2 = if wh % 2 = 1 then ⟨2147483648, 65536, 1048576, sm⟩ else ⟨1, 2, 1, sm⟩) rfl ?_ (fun x hx => ?_)
  · by_cases h1 : wh % 2 = 1
    · refine G_thn rfl rfl (by simp [h1]) ?_
      refine G_run tOk eok_sbounds 60 (fun _ => none) (fun bs => rfl) (fun bs => ?_) (fun bs => ?_)
      · (repeat' apply And.intro) <;> (intros; first | exact trivial | exact rfl | omega | exact u8_lo _ | exact u8_hi _ | exact u8_in64 _ | exact u8_in63 _ | (simp only [inR, IntKind.bits]; omega) | (simp [inR, IntKind.bits]; done) | (simp [inR, IntKind.bits] at * <;> omega) | (simp_all; done) | skip)
      refine G_lp [0] (?b0, ⟨2147483648, 65536, 1048576, sm⟩) ?ok ?wk
      case ok => simp [h1]
      case wk => (repeat' apply And.intro) <;> (first | exact rfl | exact trivial | omega | refine sigEq ?_ | skip)
    · refine G_els rfl rfl (by simp [h1]) ?_
      refine G_run tOk eok_sbounds 60 (fun _ => none) (fun bs => rfl) (fun bs => ?_) (fun bs => ?_)
      · (repeat' apply And.intro) <;> (intros; first | exact trivial | exact rfl | omega | exact u8_lo _ | exact u8_hi _ | exact u8_in64 _ | exact u8_in63 _ | (simp only [inR, IntKind.bits]; omega) | (simp [inR, IntKind.bits]; done) | (simp [inR, IntKind.bits] at * <;> omega) | (simp_all; done) | skip)
      refine G_lp [0] (?b1, ⟨1, 2, 1, sm⟩) ?ok1 ?wk1
      case ok1 => simp [h1]
      case wk1 => (repeat' apply And.intro) <;> (first | exact rfl | exact trivial | omega | refine sigEq ?_ | skip)
  obtain ⟨b, x⟩ := x
  dsimp only at hx ⊢
  by_cases h1 : wh % 2 = 1
  · rw [if_pos h1] at hx
    subst hx
    have hm : mayS 2147483648 65536 1048576 = true := by decide
    have hE : slE 2147483648 65536 1048576 = 0 := by decide
    obtain ⟨_, hl, r1, r2⟩ := get_put hm hsm
    refine G_run tOk eok_sbounds 60 (fun _ => some false) (fun bs => rfl) (fun bs => ?_) (fun bs => ?_)
    · simp only [hE, r1, r2, hl]
      (repeat' apply And.intro) <;> (intros; first | exact trivial | exact rfl | omega | exact u8_lo _ | exact u8_hi _ | exact u8_in64 _ | exact u8_in63 _ | (simp only [inR, IntKind.bits]; omega) | (simp [inR, IntKind.bits]; done) | (simp [inR, IntKind.bits] at * <;> omega) | (simp_all; done) | skip)
    refine G_els rfl rfl ?_ ?_
    · simp only [hE, r1, r2]; simp
    refine G_run tOk eok_sbounds 60 (fun _ => none) (fun bs => rfl) (fun bs => ?_) (fun bs => ?_)
    · (repeat' apply And.intro) <;> (intros; first | exact trivial | exact rfl | omega | exact u8_lo _ | exact u8_hi _ | exact u8_in64 _ | exact u8_in63 _ | (simp only [inR, IntKind.bits]; omega) | (simp [inR, IntKind.bits]; done) | (simp [inR, IntKind.bits] at * <;> omega) | (simp_all; done) | skip)
    refine G_els rfl rfl ?_ ?_
    · simp; omega
    refine G_run tOk eok_sbounds 60 (fun _ => none) (fun bs => rfl) (fun bs => ?_) (fun bs => ?_)
    · (repeat' apply And.intro) <;> (intros; first | exact trivial | exact rfl | omega | exact u8_lo _ | exact u8_hi _ | exact u8_in64 _ | exact u8_in63 _ | (simp only [inR, IntKind.bits]; omega) | (simp [inR, IntKind.bits]; done) | (simp [inR, IntKind.bits] at * <;> omega) | (simp_all; done) | skip)
    by_cases h2 : wh / 2 % 3 = 0
    · refine G_thn rfl rfl (by simp [h2]) ?_
      refine G_run tOk eok_sbounds 60 (fun _ => some true) (fun bs => rfl) (fun bs => ?_) (fun bs => ?_)
      · (repeat' apply And.intro) <;> (intros; first | exact trivial | exact rfl | omega | exact u8_lo _ | exact u8_hi _ | exact u8_in64 _ | exact u8_in63 _ | (simp only [inR, IntKind.bits]; omega) | (simp [inR, IntKind.bits]; done) | (simp [inR, IntKind.bits] at * <;> omega) | (simp_all; done) | skip)
      refine G_ret tOk hM0 rfl rfl ⟨trivial, trivial⟩ ?_
      conv => whnf
      simp [slE, slL, mayS]
    · refine G_els rfl rfl (by simp [h2]) ?_
      refine G_run tOk eok_sbounds 60 (fun _ => none) (fun bs => rfl) (fun bs => ?_) (fun bs => ?_)
      · (repeat' apply And.intro) <;> (intros; first | exact trivial | exact rfl | omega | exact u8_lo _ | exact u8_hi _ | exact u8_in64 _ | exact u8_in63 _ | (simp only [inR, IntKind.bits]; omega) | (simp [inR, IntKind.bits]; done) | (simp [inR, IntKind.bits] at * <;> omega) | (simp_all; done) | skip)
      by_cases h3 : wh / 2 % 3 = 1
      · refine G_thn rfl rfl (by simp [h3]) ?_
        refine G_run tOk eok_sbounds 60 (fun _ => some true) (fun bs => rfl) (fun bs => ?_) (fun bs => ?_)
        · (repeat' apply And.intro) <;> (intros; first | exact trivial | exact rfl | omega | exact u8_lo _ | exact u8_hi _ | exact u8_in64 _ | exact u8_in63 _ | (simp only [inR, IntKind.bits]; omega) | (simp [inR, IntKind.bits]; done) | (simp [inR, IntKind.bits] at * <;> omega) | (simp_all; done) | skip)
        refine G_ret tOk hM0 rfl rfl ⟨trivial, trivial⟩ ?_
        conv => whnf
        simp [slE, slL, mayS]
      · refine G_els rfl rfl (by simp [h3]) ?_
        refine G_run tOk eok_sbounds 60 (fun _ => some true) (fun bs => rfl) (fun bs => ?_) (fun bs => ?_)
        · (repeat' apply And.intro) <;> (intros; first | exact trivial | exact rfl | omega | exact u8_lo _ | exact u8_hi _ | exact u8_in64 _ | exact u8_in63 _ | (simp only [inR, IntKind.bits]; omega) | (simp [inR, IntKind.bits]; done) | (simp [inR, IntKind.bits] at * <;> omega) | (simp_all; done) | skip)
        refine G_ret tOk hM0 rfl rfl ⟨trivial, trivial⟩ ?_
        conv => whnf
        simp [slE, slL, mayS]
  · rw [if_neg h1] at hx
    subst hx
    have hm : mayS 1 2 1 = true := by decide
    have hE : slE 1 2 1 = 0 := by decide
    obtain ⟨_, hl, r1, r2⟩ := get_put hm hsm
    refine G_run tOk eok_sbounds 60 (fun _ => some false) (fun bs => rfl) (fun bs => ?_) (fun bs => ?_)
    · simp only [hE, r1, r2, hl]
      (repeat' apply And.intro) <;> (intros; first | exact trivial | exact rfl | omega | exact u8_lo _ | exact u8_hi _ | exact u8_in64 _ | exact u8_in63 _ | (simp only [inR, IntKind.bits]; omega) | (simp [inR, IntKind.bits]; done) | (simp [inR, IntKind.bits] at * <;> omega) | (simp_all; done) | skip)
    refine G_els rfl rfl ?_ ?_
    · simp only [hE, r1, r2]; simp
    refine G_run tOk eok_sbounds 60 (fun _ => none) (fun bs => rfl) (fun bs => ?_) (fun bs => ?_)
    · (repeat' apply And.intro) <;> (intros; first | exact trivial | exact rfl | omega | exact u8_lo _ | exact u8_hi _ | exact u8_in64 _ | exact u8_in63 _ | (simp only [inR, IntKind.bits]; omega) | (simp [inR, IntKind.bits]; done) | (simp [inR, IntKind.bits] at * <;> omega) | (simp_all; done) | skip)
    refine G_thn rfl rfl ?_ ?_
    · simp; omega
    refine G_run tOk eok_sbounds 60 (fun _ => none) (fun bs => rfl) (fun bs => ?_) (fun bs => ?_)
    · (repeat' apply And.intro) <;> (intros; first | exact trivial | exact rfl | omega | exact u8_lo _ | exact u8_hi _ | exact u8_in64 _ | exact u8_in63 _ | (simp only [inR, IntKind.bits]; omega) | (simp [inR, IntKind.bits]; done) | (simp [inR, IntKind.bits] at * <;> omega) | (simp_all; done) | skip)
    by_cases h2 : wh / 2 % 3 = 0
    · refine G_thn rfl rfl (by simp [h2]) ?_
      refine G_run tOk eok_sbounds 60 (fun _ => some true) (fun bs => rfl) (fun bs => ?_) (fun bs => ?_)
      · (repeat' apply And.intro) <;> (intros; first | exact trivial | exact rfl | omega | exact u8_lo _ | exact u8_hi _ | exact u8_in64 _ | exact u8_in63 _ | (simp only [inR, IntKind.bits]; omega) | (simp [inR, IntKind.bits]; done) | (simp [inR, IntKind.bits] at * <;> omega) | (simp_all; done) | skip)
      refine G_ret tOk hM0 rfl rfl ⟨trivial, trivial⟩ ?_
      conv => whnf
      simp [slE, slL, mayS]
    · refine G_els rfl rfl (by simp [h2]) ?_
      refine G_run tOk eok_sbounds 60 (fun _ => none) (fun bs => rfl) (fun bs => ?_) (fun bs => ?_)
      · (repeat' apply And.intro) <;> (intros; first | exact trivial | exact rfl | omega | exact u8_lo _ | exact u8_hi _ | exact u8_in64 _ | exact u8_in63 _ | (simp only [inR, IntKind.bits]; omega) | (simp [inR, IntKind.bits]; done) | (simp [inR, IntKind.bits] at * <;> omega) | (simp_all; done) | skip)
      by_cases h3 : wh / 2 % 3 = 1
      · refine G_thn rfl rfl (by simp [h3]) ?_
        refine G_run tOk eok_sbounds 60 (fun _ => some true) (fun bs => rfl) (fun bs => ?_) (fun bs => ?_)
        · (repeat' apply And.intro) <;> (intros; first | exact trivial | exact rfl | omega | exact u8_lo _ | exact u8_hi _ | exact u8_in64 _ | exact u8_in63 _ | (simp only [inR, IntKind.bits]; omega) | (simp [inR, IntKind.bits]; done) | (simp [inR, IntKind.bits] at * <;> omega) | (simp_all; done) | skip)
        refine G_ret tOk hM0 rfl rfl ⟨trivial, trivial⟩ ?_
        conv => whnf
        simp [slE, slL, mayS]
      · refine G_els rfl rfl (by simp [h3]) ?_
        refine G_run tOk eok_sbounds 60 (fun _ => some true) (fun bs => rfl) (fun bs => ?_) (fun bs => ?_)
        · (repeat' apply And.intro) <;> (intros; first | exact trivial | exact rfl | omega | exact u8_lo _ | exact u8_hi _ | exact u8_in64 _ | exact u8_in63 _ | (simp only [inR, IntKind.bits]; omega) | (simp [inR, IntKind.bits]; done) | (simp [inR, IntKind.bits] at * <;> omega) | (simp_all; done) | skip)
        refine G_ret tOk hM0 rfl rfl ⟨trivial, trivial⟩ ?_
        conv => whnf
        simp [slE, slL, mayS]

def sbounds_s : FSpec
  | [.c (.pv (.val (.int .u8 wh))), .c (.pv (.val (.int .u32 sm)))] => some ((inR .u8 wh) ∧ (inR .u32 sm), false, .x (.c (bv true)))
  | _ => none
theorem sbounds_s_ok : SpecOk Try.prog 7 sbounds_s := by
  intro args pre sh rv h hp; unfold sbounds_s at h; split at h
  · cases h; obtain ⟨hw, hsm⟩ := hp; exact sbounds_fn _ _ hw hsm
  · cases h
def psi_sbounds : FuncId → Option FSpec := psiCons 7 sbounds_s psi_sorders
theorem psi_sbounds_ok : PsiFn Try.prog psi_sbounds := psiCons_ok sbounds_s_ok psi_sorders_ok
def env_sback : Env := ⟨T, psi_sbounds, pspNil, 98, []⟩
theorem eok_sback : PsiOk Try.prog env_sback := ⟨psi_sbounds_ok, pspNil_ok⟩
theorem sback_fn (q : Int) (a : Int) (n : Int) (sm : Int) (first : Bool) (hq : inR .u16 q) (ha : inR .u16 a) (hn : inR .u16 n) (hsm : inR .u32 sm) : Ctr Try.prog 6 false [int .u16 q, int .u16 a, int .u16 n, int .u32 sm, bool first] (.x (.c (bv true))) := by
  refine Ctr_intro (E := env_sback) Try.func6 rfl (by decide) rfl rfl (fun M0 W hM0 => ?_)
  simp only [inR] at hq ha hn hsm
  generalize hS : 2 + a % 65000 = S
  have hS2 : 2 ≤ S ∧ S ≤ 65001 := by omega
  have m1 : mayS (2 + q) S (1 + n) = true := mayS_iff.2 (by omega)
  have m2 : mayS (2 + q - 1) S (1 + n) = true := mayS_iff.2 (by omega)
  have E1 : slE (2 + q) S (1 + n) = 0 := by simp only [slE, m1, if_true]
  have E2 : slE (2 + q - 1) S (1 + n) = 0 := by simp only [slE, m2, if_true]
  obtain ⟨_, l1, r1, r2⟩ := get_put m1 hsm
  obtain ⟨_, l2, r3, r4⟩ := get_put m2 hsm
  have o1 : ordL (slL (2 + q) S (1 + n) sm) (slL (2 + q - 1) S (1 + n) sm) = [⟨2 + q, S, 1 + n, sm⟩, ⟨2 + q - 1, S, 1 + n, sm⟩] := by
    unfold ordL; rw [r1, r2, r3, r4]; simp; omega
  have o2 : ordL (slL (2 + q - 1) S (1 + n) sm) (slL (2 + q) S (1 + n) sm) = [⟨2 + q, S, 1 + n, sm⟩, ⟨2 + q - 1, S, 1 + n, sm⟩] := by
    unfold ordL; rw [r1, r2, r3, r4]; simp; omega
  refine G_run tOk eok_sback 60 (fun _ => some false) (fun bs => rfl) (fun bs => ?_) (fun bs => ?_)
  · simp only [hS, E1, E2, r1, r2, r3, r4, l1, l2]
    (repeat' apply And.intro) <;> (intros; first | exact trivial | exact rfl | omega | exact u8_lo _ | exact u8_hi _ | exact u8_in64 _ | exact u8_in63 _ | (simp only [inR, IntKind.bits]; omega) | (simp [inR, IntKind.bits]; done) | (simp [inR, IntKind.bits] at * <;> omega) | (simp_all; done) | skip)
  refine G_els rfl rfl ?_ ?_
  · simp only [hS, E1, E2, r1, r2, r3, r4]; simp
  refine G_run tOk eok_sback 60 (fun _ => none) (fun bs => rfl) (fun bs => ?_) (fun bs => ?_)
  · simp only [hS, l1, l2]
    (repeat' apply And.intro) <;> (intros; first | exact trivial | exact rfl | omega | exact u8_lo _ | exact u8_hi _ | exact u8_in64 _ | exact u8_in63 _ | (simp only [inR, IntKind.bits]; omega) | (simp [inR, IntKind.bits]; done) | (simp [inR, IntKind.bits] at * <;> omega) | (simp_all; done) | skip)
  cases first with
  | true =>
    refine G_els rfl rfl rfl ?_
    refine G_run tOk eok_sback 60 (fun _ => none) (fun bs => rfl) (fun bs => ?_) (fun bs => ?_)
    · (repeat' apply And.intro) <;> (intros; first | exact trivial | exact rfl | omega | exact u8_lo _ | exact u8_hi _ | exact u8_in64 _ | exact u8_in63 _ | (simp only [inR, IntKind.bits]; omega) | (simp [inR, IntKind.bits]; done) | (simp [inR, IntKind.bits] at * <;> omega) | (simp_all; done) | skip)
    refine G_draw tOk eok_sback rfl (fun _ => some true) 15 [0, 1, 3, 7, 15, 31, 63, 15, 255, 511, 1023, 2047, 4095, 8191, 2047, 32767, 65535, 131071, 262143, 524287, 1048575] [] rfl (by decide +kernel) (fun bs => rfl) (fun bs => ?_) (fun bs => ?_)
    · simp only [hS, o1]
      (repeat' apply And.intro) <;> (intros; first | exact trivial | exact rfl | omega | exact u8_lo _ | exact u8_hi _ | exact u8_in64 _ | exact u8_in63 _ | (simp only [inR, IntKind.bits]; omega) | (simp [inR, IntKind.bits]; done) | (simp [inR, IntKind.bits] at * <;> omega) | (simp_all; done) | skip)
    refine G_run tOk eok_sback 60 (fun _ => some true) (fun bs => rfl) (fun bs => by (repeat' apply And.intro) <;> (intros; first | exact trivial | exact rfl | omega | exact u8_lo _ | exact u8_hi _ | exact u8_in64 _ | exact u8_in63 _ | (simp only [inR, IntKind.bits]; omega) | (simp [inR, IntKind.bits]; done) | (simp [inR, IntKind.bits] at * <;> omega) | (simp_all; done) | skip)) (fun bs => ?_)
    refine G_ret tOk hM0 rfl rfl ⟨trivial, trivial⟩ ?_
    conv => whnf
    simp only [hS, o1]
    simp
  | false =>
    refine G_thn rfl rfl rfl ?_
    refine G_run tOk eok_sback 60 (fun _ => none) (fun bs => rfl) (fun bs => ?_) (fun bs => ?_)
    · simp only [hS, l1, l2]
      (repeat' apply And.intro) <;> (intros; first | exact trivial | exact rfl | omega | exact u8_lo _ | exact u8_hi _ | exact u8_in64 _ | exact u8_in63 _ | (simp only [inR, IntKind.bits]; omega) | (simp [inR, IntKind.bits]; done) | (simp [inR, IntKind.bits] at * <;> omega) | (simp_all; done) | skip)
    refine G_draw tOk eok_sback rfl (fun _ => some true) 15 [0, 1, 3, 7, 15, 31, 63, 15, 255, 511, 1023, 2047, 4095, 8191, 2047, 32767, 65535, 131071, 262143, 524287, 1048575] [] rfl (by decide +kernel) (fun bs => rfl) (fun bs => ?_) (fun bs => ?_)
    · simp only [hS, o2]
      (repeat' apply And.intro) <;> (intros; first | exact trivial | exact rfl | omega | exact u8_lo _ | exact u8_hi _ | exact u8_in64 _ | exact u8_in63 _ | (simp only [inR, IntKind.bits]; omega) | (simp [inR, IntKind.bits]; done) | (simp [inR, IntKind.bits] at * <;> omega) | (simp_all; done) | skip)
    refine G_run tOk eok_sback 60 (fun _ => some true) (fun bs => rfl) (fun bs => by (repeat' apply And.intro) <;> (intros; first | exact trivial | exact rfl | omega | exact u8_lo _ | exact u8_hi _ | exact u8_in64 _ | exact u8_in63 _ | (simp only [inR, IntKind.bits]; omega) | (simp [inR, IntKind.bits]; done) | (simp [inR, IntKind.bits] at * <;> omega) | (simp_all; done) | skip)) (fun bs => ?_)
    refine G_ret tOk hM0 rfl rfl ⟨trivial, trivial⟩ ?_
    conv => whnf
    simp only [hS, o2]
    simp

def sback_s : FSpec
  | [.c (.pv (.val (.int .u16 q))), .c (.pv (.val (.int .u16 a))), .c (.pv (.val (.int .u16 n))), .c (.pv (.val (.int .u32 sm))), .c (.pv (.val (.bool first)))] => some ((inR .u16 q) ∧ (inR .u16 a) ∧ (inR .u16 n) ∧ (inR .u32 sm), false, .x (.c (bv true)))
  | _ => none
theorem sback_s_ok : SpecOk Try.prog 6 sback_s := by
  intro args pre sh rv h hp; unfold sback_s at h; split at h
  · cases h; obtain ⟨hq, ha, hn, hsm⟩ := hp; exact sback_fn _ _ _ _ _ hq ha hn hsm
  · cases h
def psi_sback : FuncId → Option FSpec := psiCons 6 sback_s psi_sbounds
theorem psi_sback_ok : PsiFn Try.prog psi_sback := psiCons_ok sback_s_ok psi_sbounds_ok
theorem slB_inj {a b : Slot} (ha : mayS a.seq a.start a.count = true) (hb : mayS b.seq b.start b.count = true) (h1 : 0 ≤ a.sum ∧ a.sum ≤ 4294967295) (h2 : 0 ≤ b.sum ∧ b.sum ≤ 4294967295) : slL a.seq a.start a.count a.sum = slL b.seq b.start b.count b.sum ↔ a = b := by
  constructor
  · intro h
    obtain ⟨_, _, _, r1⟩ := get_put ha h1
    obtain ⟨_, _, _, r2⟩ := get_put hb h2
    rw [h, r2] at r1
    cases a; cases b; exact r1.symm
  · intro h; rw [h]

def env_sunlike : Env := ⟨T, psi_sback, pspNil, 103, []⟩
theorem eok_sunlike : PsiOk Try.prog env_sunlike := ⟨psi_sback_ok, pspNil_ok⟩
theorem sunlike_fn (a : Int) (b : Int) (c : Int) (d : Int) (ha : inR .u32 a) (hb : inR .u32 b) (hc : inR .u16 c) (hd : inR .u16 d) : Ctr Try.prog 8 false [int .u32 a, int .u32 b, int .u16 c, int .u16 d] (.x (.c (bv true))) := by
  refine Ctr_intro (E := env_sunlike) Try.func8 rfl (by decide) rfl rfl (fun M0 W hM0 => ?_)
  simp only [inR] at ha hb hc hd
  generalize hS : 2 + d % 60000 = S
  have hS2 : 2 ≤ S ∧ S ≤ 60001 := by omega
  generalize hT : 2 + c % 60000 = U
  have hT2 : 2 ≤ U ∧ U ≤ 60001 := by omega
  have m1 : mayS (1 + c) S (1 + c) = true := mayS_iff.2 (by omega)
  have m2 : mayS (1 + d) U (1 + d) = true := mayS_iff.2 (by omega)
  have E1 : slE (1 + c) S (1 + c) = 0 := by simp only [slE, m1, if_true]
  have E2 : slE (1 + d) U (1 + d) = 0 := by simp only [slE, m2, if_true]
  obtain ⟨_, l1, r1, r2⟩ := get_put m1 ha
  obtain ⟨_, l2, r3, r4⟩ := get_put m2 hb
  have hinj := slB_inj (a := ⟨1 + c, S, 1 + c, a⟩) (b := ⟨1 + d, U, 1 + d, b⟩) m1 m2 ha hb
  simp only at hinj
  have hcmp : decide (slL (1 + c) S (1 + c) a = slL (1 + d) U (1 + d) b) = (decide (1 + c = 1 + d) && (decide (S = U) && (decide (1 + c = 1 + d) && (decide (a = b) && true)))) := by
    rw [Bool.eq_iff_iff]
    simp only [decide_eq_true_eq, Bool.and_eq_true, and_true]
    rw [hinj]; simp
  have c15 : gE ((slL (1 + c) S (1 + c) a).take 15) = 3 := by
    unfold gE; rw [if_neg]; rintro ⟨h, _⟩; rw [List.length_take, l1] at h; omega
  have c17 : gE ([] ++ slL (1 + c) S (1 + c) a ++ [UInt8.ofNat (Int.toNat 0)]) = 3 := by
    unfold gE; rw [if_neg]; rintro ⟨h, _⟩; simp [l1] at h
  refine G_run tOk eok_sunlike 60 (fun _ => none) (fun bs => rfl) (fun bs => ?_) (fun bs => ?_)
  · (repeat' apply And.intro) <;> (intros; first | exact trivial | exact rfl | omega | exact u8_lo _ | exact u8_hi _ | exact u8_in64 _ | exact u8_in63 _ | (simp only [inR, IntKind.bits]; omega) | (simp [inR, IntKind.bits]; done) | (simp [inR, IntKind.bits] at * <;> omega) | (simp_all; done) | skip)
  refine G_draw tOk eok_sunlike rfl (fun _ => some false) 22 [0, 1, 3, 7, 15, 31, 63, 127, 255, 511, 1023, 2047, 4095, 8191, 16383, 32767, 16383, 81919, 262143, 16383, 16383, 1589247, 4194303, 8388607] [] rfl (by decide +kernel) (fun bs => rfl) (fun bs => ?_) (fun bs => ?_)
  · simp only [hS, hT, E1, E2, l1, l2, hcmp]
    (repeat' apply And.intro) <;> (intros; first | exact trivial | exact rfl | omega | exact u8_lo _ | exact u8_hi _ | exact u8_in64 _ | exact u8_in63 _ | (simp only [inR, IntKind.bits]; omega) | (simp [inR, IntKind.bits]; done) | (simp [inR, IntKind.bits] at * <;> omega) | (simp_all; done) | skip)
  refine G_run tOk eok_sunlike 60 (fun _ => some false) (fun bs => rfl) (fun bs => by (repeat' apply And.intro) <;> (intros; first | exact trivial | exact rfl | omega | exact u8_lo _ | exact u8_hi _ | exact u8_in64 _ | exact u8_in63 _ | (simp only [inR, IntKind.bits]; omega) | (simp [inR, IntKind.bits]; done) | (simp [inR, IntKind.bits] at * <;> omega) | (simp_all; done) | skip)) (fun bs => ?_)
  refine G_els rfl rfl ?_ ?_
  · simp only [hS, hT, E1, E2, l1, l2, hcmp]
    simp
  refine G_freeze 2 [11] rfl ⟨rfl, trivial⟩ ?_
  have z0 : Int.toNat 0 = 0 := rfl
  have z15 : Int.toNat 15 = 15 := rfl
  refine G_run tOk eok_sunlike 60 (fun _ => some true) (fun bs => rfl) (fun bs => ?_) (fun bs => ?_)
  · simp only [hS, hT, z0, z15, List.drop_zero, c15, c17, l1]
    (repeat' apply And.intro) <;> (intros; first | exact trivial | exact rfl | omega | exact u8_lo _ | exact u8_hi _ | exact u8_in64 _ | exact u8_in63 _ | (simp only [inR, IntKind.bits]; omega) | (simp [inR, IntKind.bits]; done) | (simp [inR, IntKind.bits] at * <;> omega) | (simp_all; done) | skip)
  refine G_ret tOk hM0 rfl rfl ⟨trivial, trivial⟩ ?_
  conv => whnf
  simp only [hS, hT, z0, z15, List.drop_zero, c15, c17, l1]
  simp
  exact c17
def sunlike_s : FSpec
  | [.c (.pv (.val (.int .u32 a))), .c (.pv (.val (.int .u32 b))), .c (.pv (.val (.int .u16 c))), .c (.pv (.val (.int .u16 d)))] => some ((inR .u32 a) ∧ (inR .u32 b) ∧ (inR .u16 c) ∧ (inR .u16 d), false, .x (.c (bv true)))
  | _ => none
theorem sunlike_s_ok : SpecOk Try.prog 8 sunlike_s := by
  intro args pre sh rv h hp; unfold sunlike_s at h; split at h
  · cases h; obtain ⟨ha, hb, hc, hd⟩ := hp; exact sunlike_fn _ _ _ _ ha hb hc hd
  · cases h
def psi_sunlike : FuncId → Option FSpec := psiCons 8 sunlike_s psi_sback
theorem psi_sunlike_ok : PsiFn Try.prog psi_sunlike := psiCons_ok sunlike_s_ok psi_sback_ok
end Go.Proofs.Ytfpfmpanmnjjhaa
