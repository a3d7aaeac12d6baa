import Derived.Test.YtndjdmnpdknneaaMapT
import Derived.Test.YtndjdmnpdknneaaMtQ4
set_option linter.unusedSimpArgs false
set_option linter.unusedVariables false
set_option maxRecDepth 10000
namespace Go.Proofs.Ytndjdmnpdknneaa
open Go.Mt

theorem on_a (p q on : Bool) (A C : List Span) : trnE (bm2 p q A C) [97] = 0 ∧ trnL (bm2 p q A C) [97] (fOn on) = bm2 on q A C := ⟨rfl, rfl⟩
theorem on_b (p q on : Bool) (A C : List Span) : trnE (bm2 p q A C) [98] = 0 ∧ trnL (bm2 p q A C) [98] (fOn on) = bm2 p on A C := ⟨rfl, rfl⟩
theorem cl_a (p q : Bool) (A C : List Span) : trnE (bm2 p q A C) [97] = 0 ∧ trnL (bm2 p q A C) [97] fClr = bm2 p q [] C := ⟨rfl, rfl⟩
theorem cl_b (p q : Bool) (A C : List Span) : trnE (bm2 p q A C) [98] = 0 ∧ trnL (bm2 p q A C) [98] fClr = bm2 p q A [] := ⟨rfl, rfl⟩
structure NX where
  i : Nat
  p : Bool
  q : Bool
  A : List Span
  C : List Span
  h : List Bool

def env_fnotes : Env := ⟨T, psi_fsizes, pspNil, psc_del, 226, [], none, true⟩
theorem eok_fnotes : PsiOk Try.prog env_fnotes := ⟨psi_fsizes_ok, pspNil_ok, psc_del_ok⟩
theorem fnotes_fn (s : List Stp) (hs : ∀ x ∈ s, inR .u8 x.fr ∧ inR .u8 x.to) : Ctr Try.prog 3 false [lst .stp s] (.x (.c (bv true))) := by
  refine Ctr_intro (E := env_fnotes) Try.func3 rfl (by decide) rfl rfl (fun M0 W hM0 => ?_)
  have b0 : BmOk [] := ⟨by decide, by simp⟩
  have hE : mpE [] [97] = 0 := by decide +kernel
  have hL : mpL [] [97] = [⟨[97], true, []⟩] := by decide +kernel
  have b1 : BmOk [⟨[97], true, []⟩] := ⟨by decide, by simp⟩
  have hE2 : mpE [⟨[97], true, []⟩] [98] = 0 := by decide +kernel
  have hL2 : mpL [⟨[97], true, []⟩] [98] = bm2 true true [] [] := by decide +kernel
  refine G_run tOk eok_fnotes 60 (fun _ => none) (fun bs => rfl) (fun bs => ?_) (fun bs => ?_)
  · (repeat' apply And.intro) <;> (intros; first | exact trivial | exact rfl | omega | exact u8_lo _ | exact u8_hi _ | exact u8_in64 _ | exact u8_in63 _ | (simp only [inR, IntKind.bits]; omega) | (simp [inR, IntKind.bits]; done) | (simp [inR, IntKind.bits] at * <;> omega) | (simp_all; done) | (with_reducible assumption) | skip)
  refine G_if rfl rfl (fun hlen => ?_) (fun hlen => ?_)
  · refine G_run tOk eok_fnotes 60 (fun _ => none) (fun bs => rfl) (fun bs => ?_) (fun bs => ?_)
    · (repeat' apply And.intro) <;> (intros; first | exact trivial | exact rfl | omega | exact u8_lo _ | exact u8_hi _ | exact u8_in64 _ | exact u8_in63 _ | (simp only [inR, IntKind.bits]; omega) | (simp [inR, IntKind.bits]; done) | (simp [inR, IntKind.bits] at * <;> omega) | (simp_all; done) | (with_reducible assumption) | skip)
    exact G_ret tOk hM0 rfl rfl ⟨trivial, trivial⟩ rfl
  refine G_run tOk eok_fnotes 4 (fun _ => none) (fun bs => rfl) (fun bs => ?_) (fun bs => ?_)
  · (repeat' apply And.intro) <;> (intros; first | exact trivial | exact rfl | omega | exact u8_lo _ | exact u8_hi _ | exact u8_in64 _ | exact u8_in63 _ | (simp only [inR, IntKind.bits]; omega) | (simp [inR, IntKind.bits]; done) | (simp [inR, IntKind.bits] at * <;> omega) | (simp_all; done) | (with_reducible assumption) | skip)
  rw [hE, hL]
  refine G_freeze 0 [24, 3] rfl ⟨rfl, rfl, trivial⟩ ?_
  refine G_run tOk eok_fnotes 3 (fun _ => none) (fun bs => rfl) (fun bs => ?_) (fun bs => ?_)
  · (repeat' apply And.intro) <;> (intros; first | exact trivial | exact rfl | omega | exact u8_lo _ | exact u8_hi _ | exact u8_in64 _ | exact u8_in63 _ | (simp only [inR, IntKind.bits]; omega) | (simp [inR, IntKind.bits]; done) | (simp [inR, IntKind.bits] at * <;> omega) | (simp_all; done) | (with_reducible assumption) | skip)
  rw [hE2, hL2]
  refine G_freeze 1 [29, 3] rfl ⟨rfl, rfl, trivial⟩ ?_
  refine G_run tOk eok_fnotes 60 (fun _ => some false) (fun bs => rfl) (fun bs => ?_) (fun bs => ?_)
  · (repeat' apply And.intro) <;> (intros; first | exact trivial | exact rfl | omega | exact u8_lo _ | exact u8_hi _ | exact u8_in64 _ | exact u8_in63 _ | (simp only [inR, IntKind.bits]; omega) | (simp [inR, IntKind.bits]; done) | (simp [inR, IntKind.bits] at * <;> omega) | (simp_all; done) | (with_reducible assumption) | skip)
  refine G_els rfl rfl rfl ?_
  refine G_run tOk eok_fnotes 60 (fun _ => none) (fun bs => rfl) (fun bs => ?_) (fun bs => ?_)
  · (repeat' apply And.intro) <;> (intros; first | exact trivial | exact rfl | omega | exact u8_lo _ | exact u8_hi _ | exact u8_in64 _ | exact u8_in63 _ | (simp only [inR, IntKind.bits]; omega) | (simp [inR, IntKind.bits]; done) | (simp [inR, IntKind.bits] at * <;> omega) | (simp_all; done) | (with_reducible assumption) | skip)
  refine G_buildA tOk rfl rfl rfl rfl rfl rfl rfl rfl ?_
  refine G_run tOk eok_fnotes 60 (fun _ => none) (fun bs => rfl) (fun bs => ?_) (fun bs => ?_)
  · (repeat' apply And.intro) <;> (intros; first | exact trivial | exact rfl | omega | exact u8_lo _ | exact u8_hi _ | exact u8_in64 _ | exact u8_in63 _ | (simp only [inR, IntKind.bits]; omega) | (simp [inR, IntKind.bits]; done) | (simp [inR, IntKind.bits] at * <;> omega) | (simp_all; done) | (with_reducible assumption) | skip)
  refine G_buildA tOk rfl rfl rfl rfl rfl rfl rfl rfl ?_
  refine G_run tOk eok_fnotes 60 (fun _ => none) (fun bs => rfl) (fun bs => ?_) (fun bs => ?_)
  · (repeat' apply And.intro) <;> (intros; first | exact trivial | exact rfl | omega | exact u8_lo _ | exact u8_hi _ | exact u8_in64 _ | exact u8_in63 _ | (simp only [inR, IntKind.bits]; omega) | (simp [inR, IntKind.bits]; done) | (simp [inR, IntKind.bits] at * <;> omega) | (simp_all; done) | (with_reducible assumption) | skip)
  refine G_arrF 2 600 rfl (by decide) ?_
  refine G_wkB3 (ns := [2, 3, 4]) (fs := fun b c d => [(0, lst .stp s), (3, lst .bms (bm2 true true [] [])), (6, .c (.ptr 0 b 0)), (7, .c (.ptr 1 c 0)), (8, .c (.ptr 2 d 0)), (9, int .i64 0)]) (hs := fun b c d => [.own (.slice (some ⟨b, 0, none⟩) 600 600) 30 .bls (List.replicate 600 false), .blk c 31 [.pv (bv true), .pv (bv true)], .blk d 32 [.pv (sv [97]), .pv (sv [98])]]) ?b1 ?c1 ?d1 rfl ?wk0 (fun b c d => ?_)
  case wk0 => (repeat' apply And.intro) <;> (first | exact rfl | exact trivial | omega | refine sigEq ?_ | skip)
  refine G_loop (fun x : NX => [(0, lst .stp s), (3, lst .bms (bm2 x.p x.q x.A x.C)), (6, .c (.ptr 0 b 0)), (7, .c (.ptr 1 c 0)), (8, .c (.ptr 2 d 0)), (9, int .i64 x.i)]) (fun x => [.own (.slice (some ⟨b, 0, none⟩) 600 600) 30 .bls x.h, .blk c 31 [.pv (bv x.p), .pv (bv x.q)], .blk d 32 [.pv (sv [97]), .pv (sv [98])]]) (fun x => x.i ≤ s.length ∧ NI x.A x.C x.h) (fun x => s.length - x.i) rfl [0, 1, 2] ⟨0, true, true, [], [], List.replicate 600 false⟩ ⟨Nat.zero_le _, NI.start⟩ ?wk (fun x hx => ?_)
  case wk => (repeat' apply And.intro) <;> (first | exact rfl | exact trivial | omega | refine sigEq ?_ | skip)
  obtain ⟨i, p, q, A, C, h⟩ := x
  simp only at hx ⊢
  obtain ⟨hi, hN⟩ := hx
  have hlA := hN.ra.len
  have hlC := hN.rc.len
  have hlh := hN.len
  have bok := hN.ok (p := p) (q := q)
  refine G_run tOk eok_fnotes 60 (fun _ => none) (fun bs => rfl) (fun bs => ?_) (fun bs => ?_)
  · (repeat' apply And.intro) <;> (intros; first | exact trivial | exact rfl | omega | exact u8_lo _ | exact u8_hi _ | exact u8_in64 _ | exact u8_in63 _ | (simp only [inR, IntKind.bits]; omega) | (simp [inR, IntKind.bits]; done) | (simp [inR, IntKind.bits] at * <;> omega) | (simp_all; done) | (with_reducible assumption) | skip)
  refine G_if rfl rfl (fun hk => ?_) (fun hk => ?_)
  · have hk' : i < s.length := by omega
    have hm : s.getD (i : Int).toNat LK.stp.dft ∈ s := by
      rw [List.getD, List.getElem?_eq_getElem (show (i : Int).toNat < s.length by omega)]; exact List.getElem_mem _
    obtain ⟨hu1, hu2⟩ := hs _ hm
    simp only [inR] at hu1 hu2
    refine G_run tOk eok_fnotes 60 (fun _ => none) (fun bs => rfl) (fun bs => ?_) (fun bs => ?_)
    · (repeat' apply And.intro) <;> (intros; first | exact trivial | exact rfl | omega | exact u8_lo _ | exact u8_hi _ | exact u8_in64 _ | exact u8_in63 _ | (simp only [inR, IntKind.bits]; omega) | (simp [inR, IntKind.bits]; done) | (simp [inR, IntKind.bits] at * <;> omega) | (simp_all; done) | (with_reducible assumption) | skip)
    generalize s.getD (i : Int).toNat LK.stp.dft = e at hu1 hu2
    obtain ⟨act, which, fr, to⟩ := e
    simp only at hu1 hu2
    refine G_cond (b := which) rfl rfl (fun hwh => ?_) (fun hwh => ?_)
    · refine G_run tOk eok_fnotes 60 (fun _ => none) (fun bs => rfl) (fun bs => ?_) (fun bs => ?_)
      · (repeat' apply And.intro) <;> (intros; first | exact trivial | exact rfl | omega | exact u8_lo _ | exact u8_hi _ | exact u8_in64 _ | exact u8_in63 _ | (simp only [inR, IntKind.bits]; omega) | (simp [inR, IntKind.bits]; done) | (simp [inR, IntKind.bits] at * <;> omega) | (simp_all; done) | (with_reducible assumption) | skip)
      refine G_if rfl rfl (fun hd0 => ?_) (fun hd0 => ?_)
      · refine G_run tOk eok_fnotes 5 (fun _ => none) (fun bs => rfl) (fun bs => ?_) (fun bs => ?_)
        · (repeat' apply And.intro) <;> (intros; first | exact trivial | exact rfl | omega | exact u8_lo _ | exact u8_hi _ | exact u8_in64 _ | exact u8_in63 _ | (simp only [inR, IntKind.bits]; omega) | (simp [inR, IntKind.bits]; done) | (simp [inR, IntKind.bits] at * <;> omega) | (simp_all; done) | (with_reducible assumption) | skip)
        rw [(on_b p q true A C).1, (on_b p q true A C).2]
        have bok2 := hN.ok (p := p) (q := true)
        refine G_freeze 4 [116, 3] rfl ⟨rfl, rfl, trivial⟩ ?_
        refine G_run tOk eok_fnotes 60 (fun _ => some false) (fun bs => rfl) (fun bs => ?_) (fun bs => ?_)
        · (repeat' apply And.intro) <;> (intros; first | exact trivial | exact rfl | omega | exact u8_lo _ | exact u8_hi _ | exact u8_in64 _ | exact u8_in63 _ | (simp only [inR, IntKind.bits]; omega) | (simp [inR, IntKind.bits]; done) | (simp [inR, IntKind.bits] at * <;> omega) | (simp_all; done) | (with_reducible assumption) | skip)
        refine G_els rfl rfl rfl ?_
        refine G_run tOk eok_fnotes 60 (fun _ => none) (fun bs => rfl) (fun bs => ?_) (fun bs => ?_)
        · (repeat' apply And.intro) <;> (intros; first | exact trivial | exact rfl | omega | exact u8_lo _ | exact u8_hi _ | exact u8_in64 _ | exact u8_in63 _ | (simp only [inR, IntKind.bits]; omega) | (simp [inR, IntKind.bits]; done) | (simp [inR, IntKind.bits] at * <;> omega) | (simp_all; done) | (with_reducible assumption) | skip)
        refine G_lp [0, 1, 2] (⟨i + 1, p, true, A, C, h⟩ : NX) ?ok10 ?wk10
        case ok10 => exact ⟨⟨by simp only; omega, hN⟩, by simp only; omega⟩
        case wk10 => (repeat' apply And.intro) <;> (first | exact rfl | exact trivial | omega | refine sigEq ?_ | skip)
      refine G_run tOk eok_fnotes 60 (fun _ => none) (fun bs => rfl) (fun bs => ?_) (fun bs => ?_)
      · (repeat' apply And.intro) <;> (intros; first | exact trivial | exact rfl | omega | exact u8_lo _ | exact u8_hi _ | exact u8_in64 _ | exact u8_in63 _ | (simp only [inR, IntKind.bits]; omega) | (simp [inR, IntKind.bits]; done) | (simp [inR, IntKind.bits] at * <;> omega) | (simp_all; done) | (with_reducible assumption) | skip)
      refine G_if rfl rfl (fun hd1 => ?_) (fun hd1 => ?_)
      · refine G_run tOk eok_fnotes 5 (fun _ => none) (fun bs => rfl) (fun bs => ?_) (fun bs => ?_)
        · (repeat' apply And.intro) <;> (intros; first | exact trivial | exact rfl | omega | exact u8_lo _ | exact u8_hi _ | exact u8_in64 _ | exact u8_in63 _ | (simp only [inR, IntKind.bits]; omega) | (simp [inR, IntKind.bits]; done) | (simp [inR, IntKind.bits] at * <;> omega) | (simp_all; done) | (with_reducible assumption) | skip)
        rw [(on_b p q false A C).1, (on_b p q false A C).2]
        have bok2 := hN.ok (p := p) (q := false)
        refine G_freeze 4 [128, 3] rfl ⟨rfl, rfl, trivial⟩ ?_
        refine G_run tOk eok_fnotes 60 (fun _ => some false) (fun bs => rfl) (fun bs => ?_) (fun bs => ?_)
        · (repeat' apply And.intro) <;> (intros; first | exact trivial | exact rfl | omega | exact u8_lo _ | exact u8_hi _ | exact u8_in64 _ | exact u8_in63 _ | (simp only [inR, IntKind.bits]; omega) | (simp [inR, IntKind.bits]; done) | (simp [inR, IntKind.bits] at * <;> omega) | (simp_all; done) | (with_reducible assumption) | skip)
        refine G_els rfl rfl rfl ?_
        refine G_run tOk eok_fnotes 60 (fun _ => none) (fun bs => rfl) (fun bs => ?_) (fun bs => ?_)
        · (repeat' apply And.intro) <;> (intros; first | exact trivial | exact rfl | omega | exact u8_lo _ | exact u8_hi _ | exact u8_in64 _ | exact u8_in63 _ | (simp only [inR, IntKind.bits]; omega) | (simp [inR, IntKind.bits]; done) | (simp [inR, IntKind.bits] at * <;> omega) | (simp_all; done) | (with_reducible assumption) | skip)
        refine G_lp [0, 1, 2] (⟨i + 1, p, false, A, C, h⟩ : NX) ?ok11 ?wk11
        case ok11 => exact ⟨⟨by simp only; omega, hN⟩, by simp only; omega⟩
        case wk11 => (repeat' apply And.intro) <;> (first | exact rfl | exact trivial | omega | refine sigEq ?_ | skip)
      refine G_run tOk eok_fnotes 60 (fun _ => none) (fun bs => rfl) (fun bs => ?_) (fun bs => ?_)
      · (repeat' apply And.intro) <;> (intros; first | exact trivial | exact rfl | omega | exact u8_lo _ | exact u8_hi _ | exact u8_in64 _ | exact u8_in63 _ | (simp only [inR, IntKind.bits]; omega) | (simp [inR, IntKind.bits]; done) | (simp [inR, IntKind.bits] at * <;> omega) | (simp_all; done) | (with_reducible assumption) | skip)
      refine G_if rfl rfl (fun hd2 => ?_) (fun hd2 => ?_)
      · refine G_run tOk eok_fnotes 60 (fun _ => none) (fun bs => rfl) (fun bs => ?_) (fun bs => ?_)
        · (repeat' apply And.intro) <;> (intros; first | exact trivial | exact rfl | omega | exact u8_lo _ | exact u8_hi _ | exact u8_in64 _ | exact u8_in63 _ | (simp only [inR, IntKind.bits]; omega) | (simp [inR, IntKind.bits]; done) | (simp [inR, IntKind.bits] at * <;> omega) | (simp_all; done) | (with_reducible assumption) | skip)
        refine G_buildA tOk rfl rfl rfl rfl rfl rfl rfl rfl ?_
        refine G_run tOk eok_fnotes 60 (fun _ => none) (fun bs => rfl) (fun bs => ?_) (fun bs => ?_)
        · (repeat' apply And.intro) <;> (intros; first | exact trivial | exact rfl | omega | exact u8_lo _ | exact u8_hi _ | exact u8_in64 _ | exact u8_in63 _ | (simp only [inR, IntKind.bits]; omega) | (simp [inR, IntKind.bits]; done) | (simp [inR, IntKind.bits] at * <;> omega) | (simp_all; done) | (with_reducible assumption) | skip)
        refine G_clrA (q := 1) (sz := 300) (m := 300) tOk rfl rfl rfl rfl rfl rfl rfl rfl rfl (by rw [hlh]; decide) rfl ?_
        refine G_run tOk eok_fnotes 3 (fun _ => none) (fun bs => rfl) (fun bs => ?_) (fun bs => ?_)
        · (repeat' apply And.intro) <;> (intros; first | exact trivial | exact rfl | omega | exact u8_lo _ | exact u8_hi _ | exact u8_in64 _ | exact u8_in63 _ | (simp only [inR, IntKind.bits]; omega) | (simp [inR, IntKind.bits]; done) | (simp [inR, IntKind.bits] at * <;> omega) | (simp_all; done) | (with_reducible assumption) | skip)
        rw [(cl_b p q A C).1, (cl_b p q A C).2]
        have bok2 := hN.cl1.ok (p := p) (q := q)
        refine G_freeze 4 [141, 3] rfl ⟨rfl, rfl, trivial⟩ ?_
        refine G_run tOk eok_fnotes 60 (fun _ => some false) (fun bs => rfl) (fun bs => ?_) (fun bs => ?_)
        · (repeat' apply And.intro) <;> (intros; first | exact trivial | exact rfl | omega | exact u8_lo _ | exact u8_hi _ | exact u8_in64 _ | exact u8_in63 _ | (simp only [inR, IntKind.bits]; omega) | (simp [inR, IntKind.bits]; done) | (simp [inR, IntKind.bits] at * <;> omega) | (simp_all; done) | (with_reducible assumption) | skip)
        refine G_els rfl rfl rfl ?_
        refine G_run tOk eok_fnotes 60 (fun _ => none) (fun bs => rfl) (fun bs => ?_) (fun bs => ?_)
        · (repeat' apply And.intro) <;> (intros; first | exact trivial | exact rfl | omega | exact u8_lo _ | exact u8_hi _ | exact u8_in64 _ | exact u8_in63 _ | (simp only [inR, IntKind.bits]; omega) | (simp [inR, IntKind.bits]; done) | (simp [inR, IntKind.bits] at * <;> omega) | (simp_all; done) | (with_reducible assumption) | skip)
        refine G_lp [0, 1, 2] (⟨i + 1, p, q, A, [], clrW 1 h⟩ : NX) ?ok12 ?wk12
        case ok12 => exact ⟨⟨by simp only; omega, hN.cl1⟩, by simp only; omega⟩
        case wk12 => (repeat' apply And.intro) <;> (first | exact rfl | exact trivial | omega | refine sigEq ?_ | skip)
      refine G_run tOk eok_fnotes 60 (fun _ => none) (fun bs => rfl) (fun bs => ?_) (fun bs => ?_)
      · (repeat' apply And.intro) <;> (intros; first | exact trivial | exact rfl | omega | exact u8_lo _ | exact u8_hi _ | exact u8_in64 _ | exact u8_in63 _ | (simp only [inR, IntKind.bits]; omega) | (simp [inR, IntKind.bits]; done) | (simp [inR, IntKind.bits] at * <;> omega) | (simp_all; done) | (with_reducible assumption) | skip)
      refine G_if rfl rfl (fun hd3 => ?_) (fun hd3 => ?_)
      · refine G_run tOk eok_fnotes 60 (fun _ => none) (fun bs => rfl) (fun bs => ?_) (fun bs => ?_)
        · (repeat' apply And.intro) <;> (intros; first | exact trivial | exact rfl | omega | exact u8_lo _ | exact u8_hi _ | exact u8_in64 _ | exact u8_in63 _ | (simp only [inR, IntKind.bits]; omega) | (simp [inR, IntKind.bits]; done) | (simp [inR, IntKind.bits] at * <;> omega) | (simp_all; done) | (with_reducible assumption) | skip)
        refine G_loop (fun x : Nat × List Bool => [(0, lst .stp s), (3, lst .bms (bm2 p q A C)), (6, .c (.ptr 0 b 0)), (7, .c (.ptr 1 c 0)), (8, .c (.ptr 2 d 0)), (9, int .i64 i), (11, int .i64 1), (13, int .i64 x.1)]) (fun x => [.own (.slice (some ⟨b, 0, none⟩) 600 600) 30 .bls x.2, .blk c 31 [.pv (bv p), .pv (bv q)], .blk d 32 [.pv (sv [97]), .pv (sv [98])]]) (fun x => MI h x.2 300 0 x.1) (fun x => 300 - x.1) rfl [0, 1, 2] (0, h) (MI.start hlh) ?wkm1 (fun x hx => ?_)
        case wkm1 => (repeat' apply And.intro) <;> (first | exact rfl | exact trivial | omega | refine sigEq ?_ | skip)
        obtain ⟨k, h1⟩ := x
        simp only at hx ⊢
        have hl1 := hx.len
        have hkl := hx.le
        refine G_run tOk eok_fnotes 60 (fun _ => none) (fun bs => rfl) (fun bs => ?_) (fun bs => ?_)
        · (repeat' apply And.intro) <;> (intros; first | exact trivial | exact rfl | omega | exact u8_lo _ | exact u8_hi _ | exact u8_in64 _ | exact u8_in63 _ | (simp only [inR, IntKind.bits]; omega) | (simp [inR, IntKind.bits]; done) | (simp [inR, IntKind.bits] at * <;> omega) | (simp_all; done) | (with_reducible assumption) | skip)
        refine G_if rfl rfl (fun hk3 => ?_) (fun hk3 => ?_)
        · have hk4 : k < 300 := by omega
          refine G_run tOk eok_fnotes 60 (fun _ => none) (fun bs => rfl) (fun bs => ?_) (fun bs => ?_)
          · (repeat' apply And.intro) <;> (intros; first | exact trivial | exact rfl | omega | exact u8_lo _ | exact u8_hi _ | exact u8_in64 _ | exact u8_in63 _ | (simp only [inR, IntKind.bits]; omega) | (simp [inR, IntKind.bits]; done) | (simp [inR, IntKind.bits] at * <;> omega) | (simp_all; done) | (with_reducible assumption) | skip)
          refine G_nx 3 rfl ?_
          refine G_draw tOk eok_fnotes rfl (fun _ => none) 16 [0, 0, 0, 0, 4, 28, 60, 124, 252, 508, 252, 1020, 4092, 8188, 16380, 1, 65535, 131071] [(17, 0)] rfl (by decide +kernel) (fun bs => rfl) (fun bs => ?_) (fun bs => ?_)
          · (repeat' apply And.intro) <;> (intros; first | exact trivial | exact rfl | omega | exact u8_lo _ | exact u8_hi _ | exact u8_in64 _ | exact u8_in63 _ | (simp only [inR, IntKind.bits]; omega) | (simp [inR, IntKind.bits]; done) | (simp [inR, IntKind.bits] at * <;> omega) | (simp_all; done) | (with_reducible assumption) | skip)
            · exact ⟨rfl, by decide, by decide⟩
            · refine ⟨⟨rfl, rfl⟩, ?_⟩
              show (1 - 1 : Int).toNat * 300 + 0 + (k : Int).toNat < h1.length
              omega
          refine G_run tOk eok_fnotes 60 (fun _ => none) (fun bs => rfl) (fun bs => ?_) (fun bs => ?_)
          · (repeat' apply And.intro) <;> (intros; first | exact trivial | exact rfl | omega | exact u8_lo _ | exact u8_hi _ | exact u8_in64 _ | exact u8_in63 _ | (simp only [inR, IntKind.bits]; omega) | (simp [inR, IntKind.bits]; done) | (simp [inR, IntKind.bits] at * <;> omega) | (simp_all; done) | (with_reducible assumption) | skip)
          refine G_lp [0, 1, 2] (k + 1, h1.set (1 * 300 + 0 + (k : Int).toNat) (h1.getD (1 * 300 + 0 + (k : Int).toNat) false || h1.getD (0 * 300 + 0 + (k : Int).toNat) false)) ?okm1 ?wkn1
          case okm1 =>
            refine ⟨?_, by simp only; omega⟩
            have := hx.step hk4 (by omega) (b := (h1.getD (300 + k) false || h1.getD (0 + k) false)) rfl
            have e0 : 1 * 300 + 0 + (k : Int).toNat = 300 + k := by omega
            have e1 : 0 * 300 + 0 + (k : Int).toNat = 0 + k := by omega
            simp only
            rw [e0, e1]; exact this
          case wkn1 => (repeat' apply And.intro) <;> (first | exact rfl | exact trivial | omega | refine sigEq ?_ | skip)
        · have hk4 : k = 300 := by omega
          subst hk4
          have hM := hN.mrg1 hx
          have bok2 := hM.ok (p := p) (q := q)
          refine G_run tOk eok_fnotes 60 (fun _ => none) (fun bs => rfl) (fun bs => ?_) (fun bs => ?_)
          · (repeat' apply And.intro) <;> (intros; first | exact trivial | exact rfl | omega | exact u8_lo _ | exact u8_hi _ | exact u8_in64 _ | exact u8_in63 _ | (simp only [inR, IntKind.bits]; omega) | (simp [inR, IntKind.bits]; done) | (simp [inR, IntKind.bits] at * <;> omega) | (simp_all; done) | (with_reducible assumption) | skip)
          refine G_nx 3 rfl ?_
          refine G_draw tOk eok_fnotes rfl (fun _ => none) 13 [0, 0, 2, 6, 0, 16, 48, 112, 255, 511, 1023, 1023, 2047, 8191] [] rfl (by decide +kernel) (fun bs => rfl) (fun bs => ?_) (fun bs => ?_)
          · (repeat' apply And.intro) <;> (intros; first | exact trivial | exact rfl | omega | exact u8_lo _ | exact u8_hi _ | exact u8_in64 _ | exact u8_in63 _ | (simp only [inR, IntKind.bits]; omega) | (simp [inR, IntKind.bits]; done) | (simp [inR, IntKind.bits] at * <;> omega) | (simp_all; done) | (with_reducible assumption) | skip)
          refine G_run tOk eok_fnotes 1 (fun _ => none) (fun bs => rfl) (fun bs => ?_) (fun bs => ?_)
          · (repeat' apply And.intro) <;> (intros; first | exact trivial | exact rfl | omega | exact u8_lo _ | exact u8_hi _ | exact u8_in64 _ | exact u8_in63 _ | (simp only [inR, IntKind.bits]; omega) | (simp [inR, IntKind.bits]; done) | (simp [inR, IntKind.bits] at * <;> omega) | (simp_all; done) | (with_reducible assumption) | skip)
          rw [(mrg_b p q A C).1, (mrg_b p q A C).2]
          refine G_freeze 11 [176, 3] rfl ⟨rfl, rfl, trivial⟩ ?_
          refine G_run tOk eok_fnotes 60 (fun _ => some false) (fun bs => rfl) (fun bs => ?_) (fun bs => ?_)
          · (repeat' apply And.intro) <;> (intros; first | exact trivial | exact rfl | omega | exact u8_lo _ | exact u8_hi _ | exact u8_in64 _ | exact u8_in63 _ | (simp only [inR, IntKind.bits]; omega) | (simp [inR, IntKind.bits]; done) | (simp [inR, IntKind.bits] at * <;> omega) | (simp_all; done) | (with_reducible assumption) | skip)
          refine G_els rfl rfl rfl ?_
          refine G_run tOk eok_fnotes 60 (fun _ => none) (fun bs => rfl) (fun bs => ?_) (fun bs => ?_)
          · (repeat' apply And.intro) <;> (intros; first | exact trivial | exact rfl | omega | exact u8_lo _ | exact u8_hi _ | exact u8_in64 _ | exact u8_in63 _ | (simp only [inR, IntKind.bits]; omega) | (simp [inR, IntKind.bits]; done) | (simp [inR, IntKind.bits] at * <;> omega) | (simp_all; done) | (with_reducible assumption) | skip)
          refine G_lp [0, 1, 2] (⟨i + 1, p, q, A, mrgP C A, h1⟩ : NX) ?ok13 ?wk13
          case ok13 => exact ⟨⟨by simp only; omega, hM⟩, by simp only; omega⟩
          case wk13 => (repeat' apply And.intro) <;> (first | exact rfl | exact trivial | omega | refine sigEq ?_ | skip)
      refine G_run tOk eok_fnotes 60 (fun _ => none) (fun bs => rfl) (fun bs => ?_) (fun bs => ?_)
      · (repeat' apply And.intro) <;> (intros; first | exact trivial | exact rfl | omega | exact u8_lo _ | exact u8_hi _ | exact u8_in64 _ | exact u8_in63 _ | (simp only [inR, IntKind.bits]; omega) | (simp [inR, IntKind.bits]; done) | (simp [inR, IntKind.bits] at * <;> omega) | (simp_all; done) | (with_reducible assumption) | skip)
      obtain ⟨f, rfl⟩ := Int.eq_ofNat_of_zero_le hu1.1
      obtain ⟨t, rfl⟩ := Int.eq_ofNat_of_zero_le hu2.1
      have hto : ((f : Int) + 1 + (t : Int) % 40) = ((f + 1 + t % 40 : Nat) : Int) := by omega
      refine G_wkB (ns := [0, 1, 2, 4]) (fs := fun e => [(0, lst .stp s), (3, lst .bms (bm2 p q A C)), (6, .c (.ptr 0 b 0)), (7, .c (.ptr 1 c 0)), (8, .c (.ptr 2 d 0)), (9, int .i64 i), (12, int .i64 0), (14, .c (.ptr 3 e 0)), (15, int .i64 f)]) (hs := fun e => [.own (.slice (some ⟨b, 0, none⟩) 600 600) 30 .bls h, .blk c 31 [.pv (bv p), .pv (bv q)], .blk d 32 [.pv (sv [97]), .pv (sv [98])], .blk e 38 [.pv (i64 f), .pv (i64 ((f : Int) + 1 + (t : Int) % 40))]]) ?be1 rfl ?wke1 (fun e => ?_)
      case wke1 => (repeat' apply And.intro) <;> (first | exact rfl | exact trivial | omega | refine sigEq ?_ | skip)
      refine G_loop (fun x : Nat × List Bool => [(0, lst .stp s), (3, lst .bms (bm2 p q A C)), (6, .c (.ptr 0 b 0)), (7, .c (.ptr 1 c 0)), (8, .c (.ptr 2 d 0)), (9, int .i64 i), (12, int .i64 0), (14, .c (.ptr 3 e 0)), (15, int .i64 x.1)]) (fun x => [.own (.slice (some ⟨b, 0, none⟩) 600 600) 30 .bls x.2, .blk c 31 [.pv (bv p), .pv (bv q)], .blk d 32 [.pv (sv [97]), .pv (sv [98])], .blk e 38 [.pv (i64 f), .pv (i64 ((f : Int) + 1 + (t : Int) % 40))]]) (fun x => (f ≤ x.1 ∧ x.1 ≤ f + 1 + t % 40) ∧ TI h x.2 p q f x.1) (fun x => 300 - x.1) rfl [0, 1, 2, 3] (f, h) ⟨⟨Nat.le_refl _, by simp only; omega⟩, TI.start hlh⟩ ?wkt1 (fun x hx => ?_)
      case wkt1 => (repeat' apply And.intro) <;> (first | exact rfl | exact trivial | omega | refine sigEq ?_ | skip)
      obtain ⟨k, h1⟩ := x
      simp only at hx ⊢
      obtain ⟨⟨hx1, hx2⟩, hx⟩ := hx
      have hl1 := hx.len
      refine G_run tOk eok_fnotes 60 (fun _ => none) (fun bs => rfl) (fun bs => ?_) (fun bs => ?_)
      · (repeat' apply And.intro) <;> (intros; first | exact trivial | exact rfl | omega | exact u8_lo _ | exact u8_hi _ | exact u8_in64 _ | exact u8_in63 _ | (simp only [inR, IntKind.bits]; omega) | (simp [inR, IntKind.bits]; done) | (simp [inR, IntKind.bits] at * <;> omega) | (simp_all; done) | (with_reducible assumption) | skip)
      refine G_if rfl rfl (fun hk5 => ?_) (fun hk5 => ?_)
      · have hk4 : k < f + 1 + t % 40 := by omega
        have hsl : (h1.set (0 * 300 + 0 + (k : Int).toNat) (h1.getD (0 * 300 + 0 + (k : Int).toNat) false || p)).length = 600 := by rw [List.length_set]; exact hl1
        refine G_run tOk eok_fnotes 60 (fun _ => none) (fun bs => rfl) (fun bs => ?_) (fun bs => ?_)
        · (repeat' apply And.intro) <;> (intros; first | exact trivial | exact rfl | omega | exact u8_lo _ | exact u8_hi _ | exact u8_in64 _ | exact u8_in63 _ | (simp only [inR, IntKind.bits]; omega) | (simp [inR, IntKind.bits]; done) | (simp [inR, IntKind.bits] at * <;> omega) | (simp_all; done) | (with_reducible assumption) | skip)
        refine G_lp [0, 1, 2, 3] (k + 1, ((h1.set (0 * 300 + 0 + (k : Int).toNat) (h1.getD (0 * 300 + 0 + (k : Int).toNat) false || p)).set (1 * 300 + 0 + (k : Int).toNat) ((h1.set (0 * 300 + 0 + (k : Int).toNat) (h1.getD (0 * 300 + 0 + (k : Int).toNat) false || p)).getD (1 * 300 + 0 + (k : Int).toNat) false || q))) ?okt1 ?wku1
        case okt1 =>
          refine ⟨⟨⟨by simp only; omega, by simp only; omega⟩, ?_⟩, by simp only; omega⟩
          have e0 : 0 * 300 + 0 + (k : Int).toNat = k := by omega
          have e1 : 1 * 300 + 0 + (k : Int).toNat = 300 + k := by omega
          simp only
          rw [e0, e1]; exact hx.step (by omega) hx1 rfl rfl
        case wku1 => (repeat' apply And.intro) <;> (first | exact rfl | exact trivial | omega | refine sigEq ?_ | skip)
      · have hk4 : k = f + 1 + t % 40 := by omega
        subst hk4
        have hM := hN.tch (p := p) (q := q) (by omega) (by omega) hx
        have bok2 := hM.ok (p := p) (q := q)
        refine G_run tOk eok_fnotes 3 (fun _ => none) (fun bs => rfl) (fun bs => ?_) (fun bs => ?_)
        · (repeat' apply And.intro) <;> (intros; first | exact trivial | exact rfl | omega | exact u8_lo _ | exact u8_hi _ | exact u8_in64 _ | exact u8_in63 _ | (simp only [inR, IntKind.bits]; omega) | (simp [inR, IntKind.bits]; done) | (simp [inR, IntKind.bits] at * <;> omega) | (simp_all; done) | (with_reducible assumption) | skip)
        rw [hto, tch2]
        refine G_freeze 4 [105, 3] rfl ⟨rfl, rfl, trivial⟩ ?_
        refine G_run tOk eok_fnotes 60 (fun _ => some false) (fun bs => rfl) (fun bs => ?_) (fun bs => ?_)
        · (repeat' apply And.intro) <;> (intros; first | exact trivial | exact rfl | omega | exact u8_lo _ | exact u8_hi _ | exact u8_in64 _ | exact u8_in63 _ | (simp only [inR, IntKind.bits]; omega) | (simp [inR, IntKind.bits]; done) | (simp [inR, IntKind.bits] at * <;> omega) | (simp_all; done) | (with_reducible assumption) | skip)
        refine G_els rfl rfl rfl ?_
        refine G_run tOk eok_fnotes 60 (fun _ => none) (fun bs => rfl) (fun bs => ?_) (fun bs => ?_)
        · (repeat' apply And.intro) <;> (intros; first | exact trivial | exact rfl | omega | exact u8_lo _ | exact u8_hi _ | exact u8_in64 _ | exact u8_in63 _ | (simp only [inR, IntKind.bits]; omega) | (simp [inR, IntKind.bits]; done) | (simp [inR, IntKind.bits] at * <;> omega) | (simp_all; done) | (with_reducible assumption) | skip)
        refine G_lp [0, 1, 2] (⟨i + 1, p, q, (tch ⟨f, ((f + 1 + t % 40 : Nat) : Int)⟩ ⟨[97], p, A⟩).l, (tch ⟨f, ((f + 1 + t % 40 : Nat) : Int)⟩ ⟨[98], q, C⟩).l, h1⟩ : NX) ?ok14 ?wk14
        case ok14 => exact ⟨⟨by simp only; omega, hM⟩, by simp only; omega⟩
        case wk14 => (repeat' apply And.intro) <;> (first | exact rfl | exact trivial | omega | refine sigEq ?_ | skip)
    · refine G_run tOk eok_fnotes 60 (fun _ => none) (fun bs => rfl) (fun bs => ?_) (fun bs => ?_)
      · (repeat' apply And.intro) <;> (intros; first | exact trivial | exact rfl | omega | exact u8_lo _ | exact u8_hi _ | exact u8_in64 _ | exact u8_in63 _ | (simp only [inR, IntKind.bits]; omega) | (simp [inR, IntKind.bits]; done) | (simp [inR, IntKind.bits] at * <;> omega) | (simp_all; done) | (with_reducible assumption) | skip)
      refine G_if rfl rfl (fun hd0 => ?_) (fun hd0 => ?_)
      · refine G_run tOk eok_fnotes 5 (fun _ => none) (fun bs => rfl) (fun bs => ?_) (fun bs => ?_)
        · (repeat' apply And.intro) <;> (intros; first | exact trivial | exact rfl | omega | exact u8_lo _ | exact u8_hi _ | exact u8_in64 _ | exact u8_in63 _ | (simp only [inR, IntKind.bits]; omega) | (simp [inR, IntKind.bits]; done) | (simp [inR, IntKind.bits] at * <;> omega) | (simp_all; done) | (with_reducible assumption) | skip)
        rw [(on_a p q true A C).1, (on_a p q true A C).2]
        have bok2 := hN.ok (p := true) (q := q)
        refine G_freeze 4 [116, 3] rfl ⟨rfl, rfl, trivial⟩ ?_
        refine G_run tOk eok_fnotes 60 (fun _ => some false) (fun bs => rfl) (fun bs => ?_) (fun bs => ?_)
        · (repeat' apply And.intro) <;> (intros; first | exact trivial | exact rfl | omega | exact u8_lo _ | exact u8_hi _ | exact u8_in64 _ | exact u8_in63 _ | (simp only [inR, IntKind.bits]; omega) | (simp [inR, IntKind.bits]; done) | (simp [inR, IntKind.bits] at * <;> omega) | (simp_all; done) | (with_reducible assumption) | skip)
        refine G_els rfl rfl rfl ?_
        refine G_run tOk eok_fnotes 60 (fun _ => none) (fun bs => rfl) (fun bs => ?_) (fun bs => ?_)
        · (repeat' apply And.intro) <;> (intros; first | exact trivial | exact rfl | omega | exact u8_lo _ | exact u8_hi _ | exact u8_in64 _ | exact u8_in63 _ | (simp only [inR, IntKind.bits]; omega) | (simp [inR, IntKind.bits]; done) | (simp [inR, IntKind.bits] at * <;> omega) | (simp_all; done) | (with_reducible assumption) | skip)
        refine G_lp [0, 1, 2] (⟨i + 1, true, q, A, C, h⟩ : NX) ?ok00 ?wk00
        case ok00 => exact ⟨⟨by simp only; omega, hN⟩, by simp only; omega⟩
        case wk00 => (repeat' apply And.intro) <;> (first | exact rfl | exact trivial | omega | refine sigEq ?_ | skip)
      refine G_run tOk eok_fnotes 60 (fun _ => none) (fun bs => rfl) (fun bs => ?_) (fun bs => ?_)
      · (repeat' apply And.intro) <;> (intros; first | exact trivial | exact rfl | omega | exact u8_lo _ | exact u8_hi _ | exact u8_in64 _ | exact u8_in63 _ | (simp only [inR, IntKind.bits]; omega) | (simp [inR, IntKind.bits]; done) | (simp [inR, IntKind.bits] at * <;> omega) | (simp_all; done) | (with_reducible assumption) | skip)
      refine G_if rfl rfl (fun hd1 => ?_) (fun hd1 => ?_)
      · refine G_run tOk eok_fnotes 5 (fun _ => none) (fun bs => rfl) (fun bs => ?_) (fun bs => ?_)
        · (repeat' apply And.intro) <;> (intros; first | exact trivial | exact rfl | omega | exact u8_lo _ | exact u8_hi _ | exact u8_in64 _ | exact u8_in63 _ | (simp only [inR, IntKind.bits]; omega) | (simp [inR, IntKind.bits]; done) | (simp [inR, IntKind.bits] at * <;> omega) | (simp_all; done) | (with_reducible assumption) | skip)
        rw [(on_a p q false A C).1, (on_a p q false A C).2]
        have bok2 := hN.ok (p := false) (q := q)
        refine G_freeze 4 [128, 3] rfl ⟨rfl, rfl, trivial⟩ ?_
        refine G_run tOk eok_fnotes 60 (fun _ => some false) (fun bs => rfl) (fun bs => ?_) (fun bs => ?_)
        · (repeat' apply And.intro) <;> (intros; first | exact trivial | exact rfl | omega | exact u8_lo _ | exact u8_hi _ | exact u8_in64 _ | exact u8_in63 _ | (simp only [inR, IntKind.bits]; omega) | (simp [inR, IntKind.bits]; done) | (simp [inR, IntKind.bits] at * <;> omega) | (simp_all; done) | (with_reducible assumption) | skip)
        refine G_els rfl rfl rfl ?_
        refine G_run tOk eok_fnotes 60 (fun _ => none) (fun bs => rfl) (fun bs => ?_) (fun bs => ?_)
        · (repeat' apply And.intro) <;> (intros; first | exact trivial | exact rfl | omega | exact u8_lo _ | exact u8_hi _ | exact u8_in64 _ | exact u8_in63 _ | (simp only [inR, IntKind.bits]; omega) | (simp [inR, IntKind.bits]; done) | (simp [inR, IntKind.bits] at * <;> omega) | (simp_all; done) | (with_reducible assumption) | skip)
        refine G_lp [0, 1, 2] (⟨i + 1, false, q, A, C, h⟩ : NX) ?ok01 ?wk01
        case ok01 => exact ⟨⟨by simp only; omega, hN⟩, by simp only; omega⟩
        case wk01 => (repeat' apply And.intro) <;> (first | exact rfl | exact trivial | omega | refine sigEq ?_ | skip)
      refine G_run tOk eok_fnotes 60 (fun _ => none) (fun bs => rfl) (fun bs => ?_) (fun bs => ?_)
      · (repeat' apply And.intro) <;> (intros; first | exact trivial | exact rfl | omega | exact u8_lo _ | exact u8_hi _ | exact u8_in64 _ | exact u8_in63 _ | (simp only [inR, IntKind.bits]; omega) | (simp [inR, IntKind.bits]; done) | (simp [inR, IntKind.bits] at * <;> omega) | (simp_all; done) | (with_reducible assumption) | skip)
      refine G_if rfl rfl (fun hd2 => ?_) (fun hd2 => ?_)
      · refine G_run tOk eok_fnotes 60 (fun _ => none) (fun bs => rfl) (fun bs => ?_) (fun bs => ?_)
        · (repeat' apply And.intro) <;> (intros; first | exact trivial | exact rfl | omega | exact u8_lo _ | exact u8_hi _ | exact u8_in64 _ | exact u8_in63 _ | (simp only [inR, IntKind.bits]; omega) | (simp [inR, IntKind.bits]; done) | (simp [inR, IntKind.bits] at * <;> omega) | (simp_all; done) | (with_reducible assumption) | skip)
        refine G_buildA tOk rfl rfl rfl rfl rfl rfl rfl rfl ?_
        refine G_run tOk eok_fnotes 60 (fun _ => none) (fun bs => rfl) (fun bs => ?_) (fun bs => ?_)
        · (repeat' apply And.intro) <;> (intros; first | exact trivial | exact rfl | omega | exact u8_lo _ | exact u8_hi _ | exact u8_in64 _ | exact u8_in63 _ | (simp only [inR, IntKind.bits]; omega) | (simp [inR, IntKind.bits]; done) | (simp [inR, IntKind.bits] at * <;> omega) | (simp_all; done) | (with_reducible assumption) | skip)
        refine G_clrA (q := 0) (sz := 300) (m := 300) tOk rfl rfl rfl rfl rfl rfl rfl rfl rfl (by rw [hlh]; decide) rfl ?_
        refine G_run tOk eok_fnotes 3 (fun _ => none) (fun bs => rfl) (fun bs => ?_) (fun bs => ?_)
        · (repeat' apply And.intro) <;> (intros; first | exact trivial | exact rfl | omega | exact u8_lo _ | exact u8_hi _ | exact u8_in64 _ | exact u8_in63 _ | (simp only [inR, IntKind.bits]; omega) | (simp [inR, IntKind.bits]; done) | (simp [inR, IntKind.bits] at * <;> omega) | (simp_all; done) | (with_reducible assumption) | skip)
        rw [(cl_a p q A C).1, (cl_a p q A C).2]
        have bok2 := hN.cl0.ok (p := p) (q := q)
        refine G_freeze 4 [141, 3] rfl ⟨rfl, rfl, trivial⟩ ?_
        refine G_run tOk eok_fnotes 60 (fun _ => some false) (fun bs => rfl) (fun bs => ?_) (fun bs => ?_)
        · (repeat' apply And.intro) <;> (intros; first | exact trivial | exact rfl | omega | exact u8_lo _ | exact u8_hi _ | exact u8_in64 _ | exact u8_in63 _ | (simp only [inR, IntKind.bits]; omega) | (simp [inR, IntKind.bits]; done) | (simp [inR, IntKind.bits] at * <;> omega) | (simp_all; done) | (with_reducible assumption) | skip)
        refine G_els rfl rfl rfl ?_
        refine G_run tOk eok_fnotes 60 (fun _ => none) (fun bs => rfl) (fun bs => ?_) (fun bs => ?_)
        · (repeat' apply And.intro) <;> (intros; first | exact trivial | exact rfl | omega | exact u8_lo _ | exact u8_hi _ | exact u8_in64 _ | exact u8_in63 _ | (simp only [inR, IntKind.bits]; omega) | (simp [inR, IntKind.bits]; done) | (simp [inR, IntKind.bits] at * <;> omega) | (simp_all; done) | (with_reducible assumption) | skip)
        refine G_lp [0, 1, 2] (⟨i + 1, p, q, [], C, clrW 0 h⟩ : NX) ?ok02 ?wk02
        case ok02 => exact ⟨⟨by simp only; omega, hN.cl0⟩, by simp only; omega⟩
        case wk02 => (repeat' apply And.intro) <;> (first | exact rfl | exact trivial | omega | refine sigEq ?_ | skip)
      refine G_run tOk eok_fnotes 60 (fun _ => none) (fun bs => rfl) (fun bs => ?_) (fun bs => ?_)
      · (repeat' apply And.intro) <;> (intros; first | exact trivial | exact rfl | omega | exact u8_lo _ | exact u8_hi _ | exact u8_in64 _ | exact u8_in63 _ | (simp only [inR, IntKind.bits]; omega) | (simp [inR, IntKind.bits]; done) | (simp [inR, IntKind.bits] at * <;> omega) | (simp_all; done) | (with_reducible assumption) | skip)
      refine G_if rfl rfl (fun hd3 => ?_) (fun hd3 => ?_)
      · refine G_run tOk eok_fnotes 60 (fun _ => none) (fun bs => rfl) (fun bs => ?_) (fun bs => ?_)
        · (repeat' apply And.intro) <;> (intros; first | exact trivial | exact rfl | omega | exact u8_lo _ | exact u8_hi _ | exact u8_in64 _ | exact u8_in63 _ | (simp only [inR, IntKind.bits]; omega) | (simp [inR, IntKind.bits]; done) | (simp [inR, IntKind.bits] at * <;> omega) | (simp_all; done) | (with_reducible assumption) | skip)
        refine G_loop (fun x : Nat × List Bool => [(0, lst .stp s), (3, lst .bms (bm2 p q A C)), (6, .c (.ptr 0 b 0)), (7, .c (.ptr 1 c 0)), (8, .c (.ptr 2 d 0)), (9, int .i64 i), (11, int .i64 0), (13, int .i64 x.1)]) (fun x => [.own (.slice (some ⟨b, 0, none⟩) 600 600) 30 .bls x.2, .blk c 31 [.pv (bv p), .pv (bv q)], .blk d 32 [.pv (sv [97]), .pv (sv [98])]]) (fun x => MI h x.2 0 300 x.1) (fun x => 300 - x.1) rfl [0, 1, 2] (0, h) (MI.start hlh) ?wkm0 (fun x hx => ?_)
        case wkm0 => (repeat' apply And.intro) <;> (first | exact rfl | exact trivial | omega | refine sigEq ?_ | skip)
        obtain ⟨k, h1⟩ := x
        simp only at hx ⊢
        have hl1 := hx.len
        have hkl := hx.le
        refine G_run tOk eok_fnotes 60 (fun _ => none) (fun bs => rfl) (fun bs => ?_) (fun bs => ?_)
        · (repeat' apply And.intro) <;> (intros; first | exact trivial | exact rfl | omega | exact u8_lo _ | exact u8_hi _ | exact u8_in64 _ | exact u8_in63 _ | (simp only [inR, IntKind.bits]; omega) | (simp [inR, IntKind.bits]; done) | (simp [inR, IntKind.bits] at * <;> omega) | (simp_all; done) | (with_reducible assumption) | skip)
        refine G_if rfl rfl (fun hk3 => ?_) (fun hk3 => ?_)
        · have hk4 : k < 300 := by omega
          refine G_run tOk eok_fnotes 60 (fun _ => none) (fun bs => rfl) (fun bs => ?_) (fun bs => ?_)
          · (repeat' apply And.intro) <;> (intros; first | exact trivial | exact rfl | omega | exact u8_lo _ | exact u8_hi _ | exact u8_in64 _ | exact u8_in63 _ | (simp only [inR, IntKind.bits]; omega) | (simp [inR, IntKind.bits]; done) | (simp [inR, IntKind.bits] at * <;> omega) | (simp_all; done) | (with_reducible assumption) | skip)
          refine G_nx 3 rfl ?_
          refine G_draw tOk eok_fnotes rfl (fun _ => none) 16 [0, 0, 0, 0, 4, 28, 60, 124, 252, 508, 252, 1020, 4092, 8188, 16380, 1, 65535, 131071] [(17, 0)] rfl (by decide +kernel) (fun bs => rfl) (fun bs => ?_) (fun bs => ?_)
          · (repeat' apply And.intro) <;> (intros; first | exact trivial | exact rfl | omega | exact u8_lo _ | exact u8_hi _ | exact u8_in64 _ | exact u8_in63 _ | (simp only [inR, IntKind.bits]; omega) | (simp [inR, IntKind.bits]; done) | (simp [inR, IntKind.bits] at * <;> omega) | (simp_all; done) | (with_reducible assumption) | skip)
            · exact ⟨rfl, by decide, by decide⟩
            · refine ⟨⟨rfl, rfl⟩, ?_⟩
              show (1 - 0 : Int).toNat * 300 + 0 + (k : Int).toNat < h1.length
              omega
          refine G_run tOk eok_fnotes 60 (fun _ => none) (fun bs => rfl) (fun bs => ?_) (fun bs => ?_)
          · (repeat' apply And.intro) <;> (intros; first | exact trivial | exact rfl | omega | exact u8_lo _ | exact u8_hi _ | exact u8_in64 _ | exact u8_in63 _ | (simp only [inR, IntKind.bits]; omega) | (simp [inR, IntKind.bits]; done) | (simp [inR, IntKind.bits] at * <;> omega) | (simp_all; done) | (with_reducible assumption) | skip)
          refine G_lp [0, 1, 2] (k + 1, h1.set (0 * 300 + 0 + (k : Int).toNat) (h1.getD (0 * 300 + 0 + (k : Int).toNat) false || h1.getD (1 * 300 + 0 + (k : Int).toNat) false)) ?okm0 ?wkn0
          case okm0 =>
            refine ⟨?_, by simp only; omega⟩
            have := hx.step hk4 (by omega) (b := (h1.getD (0 + k) false || h1.getD (300 + k) false)) rfl
            have e0 : 0 * 300 + 0 + (k : Int).toNat = 0 + k := by omega
            have e1 : 1 * 300 + 0 + (k : Int).toNat = 300 + k := by omega
            simp only
            rw [e0, e1]; exact this
          case wkn0 => (repeat' apply And.intro) <;> (first | exact rfl | exact trivial | omega | refine sigEq ?_ | skip)
        · have hk4 : k = 300 := by omega
          subst hk4
          have hM := hN.mrg0 hx
          have bok2 := hM.ok (p := p) (q := q)
          refine G_run tOk eok_fnotes 60 (fun _ => none) (fun bs => rfl) (fun bs => ?_) (fun bs => ?_)
          · (repeat' apply And.intro) <;> (intros; first | exact trivial | exact rfl | omega | exact u8_lo _ | exact u8_hi _ | exact u8_in64 _ | exact u8_in63 _ | (simp only [inR, IntKind.bits]; omega) | (simp [inR, IntKind.bits]; done) | (simp [inR, IntKind.bits] at * <;> omega) | (simp_all; done) | (with_reducible assumption) | skip)
          refine G_nx 3 rfl ?_
          refine G_draw tOk eok_fnotes rfl (fun _ => none) 13 [0, 0, 2, 6, 0, 16, 48, 112, 255, 511, 1023, 1023, 2047, 8191] [] rfl (by decide +kernel) (fun bs => rfl) (fun bs => ?_) (fun bs => ?_)
          · (repeat' apply And.intro) <;> (intros; first | exact trivial | exact rfl | omega | exact u8_lo _ | exact u8_hi _ | exact u8_in64 _ | exact u8_in63 _ | (simp only [inR, IntKind.bits]; omega) | (simp [inR, IntKind.bits]; done) | (simp [inR, IntKind.bits] at * <;> omega) | (simp_all; done) | (with_reducible assumption) | skip)
          refine G_run tOk eok_fnotes 1 (fun _ => none) (fun bs => rfl) (fun bs => ?_) (fun bs => ?_)
          · (repeat' apply And.intro) <;> (intros; first | exact trivial | exact rfl | omega | exact u8_lo _ | exact u8_hi _ | exact u8_in64 _ | exact u8_in63 _ | (simp only [inR, IntKind.bits]; omega) | (simp [inR, IntKind.bits]; done) | (simp [inR, IntKind.bits] at * <;> omega) | (simp_all; done) | (with_reducible assumption) | skip)
          rw [(mrg_a p q A C).1, (mrg_a p q A C).2]
          refine G_freeze 11 [176, 3] rfl ⟨rfl, rfl, trivial⟩ ?_
          refine G_run tOk eok_fnotes 60 (fun _ => some false) (fun bs => rfl) (fun bs => ?_) (fun bs => ?_)
          · (repeat' apply And.intro) <;> (intros; first | exact trivial | exact rfl | omega | exact u8_lo _ | exact u8_hi _ | exact u8_in64 _ | exact u8_in63 _ | (simp only [inR, IntKind.bits]; omega) | (simp [inR, IntKind.bits]; done) | (simp [inR, IntKind.bits] at * <;> omega) | (simp_all; done) | (with_reducible assumption) | skip)
          refine G_els rfl rfl rfl ?_
          refine G_run tOk eok_fnotes 60 (fun _ => none) (fun bs => rfl) (fun bs => ?_) (fun bs => ?_)
          · (repeat' apply And.intro) <;> (intros; first | exact trivial | exact rfl | omega | exact u8_lo _ | exact u8_hi _ | exact u8_in64 _ | exact u8_in63 _ | (simp only [inR, IntKind.bits]; omega) | (simp [inR, IntKind.bits]; done) | (simp [inR, IntKind.bits] at * <;> omega) | (simp_all; done) | (with_reducible assumption) | skip)
          refine G_lp [0, 1, 2] (⟨i + 1, p, q, mrgP A C, C, h1⟩ : NX) ?ok03 ?wk03
          case ok03 => exact ⟨⟨by simp only; omega, hM⟩, by simp only; omega⟩
          case wk03 => (repeat' apply And.intro) <;> (first | exact rfl | exact trivial | omega | refine sigEq ?_ | skip)
      refine G_run tOk eok_fnotes 60 (fun _ => none) (fun bs => rfl) (fun bs => ?_) (fun bs => ?_)
      · (repeat' apply And.intro) <;> (intros; first | exact trivial | exact rfl | omega | exact u8_lo _ | exact u8_hi _ | exact u8_in64 _ | exact u8_in63 _ | (simp only [inR, IntKind.bits]; omega) | (simp [inR, IntKind.bits]; done) | (simp [inR, IntKind.bits] at * <;> omega) | (simp_all; done) | (with_reducible assumption) | skip)
      obtain ⟨f, rfl⟩ := Int.eq_ofNat_of_zero_le hu1.1
      obtain ⟨t, rfl⟩ := Int.eq_ofNat_of_zero_le hu2.1
      have hto : ((f : Int) + 1 + (t : Int) % 40) = ((f + 1 + t % 40 : Nat) : Int) := by omega
      refine G_wkB (ns := [0, 1, 2, 4]) (fs := fun e => [(0, lst .stp s), (3, lst .bms (bm2 p q A C)), (6, .c (.ptr 0 b 0)), (7, .c (.ptr 1 c 0)), (8, .c (.ptr 2 d 0)), (9, int .i64 i), (12, int .i64 0), (14, .c (.ptr 3 e 0)), (15, int .i64 f)]) (hs := fun e => [.own (.slice (some ⟨b, 0, none⟩) 600 600) 30 .bls h, .blk c 31 [.pv (bv p), .pv (bv q)], .blk d 32 [.pv (sv [97]), .pv (sv [98])], .blk e 38 [.pv (i64 f), .pv (i64 ((f : Int) + 1 + (t : Int) % 40))]]) ?be0 rfl ?wke0 (fun e => ?_)
      case wke0 => (repeat' apply And.intro) <;> (first | exact rfl | exact trivial | omega | refine sigEq ?_ | skip)
      refine G_loop (fun x : Nat × List Bool => [(0, lst .stp s), (3, lst .bms (bm2 p q A C)), (6, .c (.ptr 0 b 0)), (7, .c (.ptr 1 c 0)), (8, .c (.ptr 2 d 0)), (9, int .i64 i), (12, int .i64 0), (14, .c (.ptr 3 e 0)), (15, int .i64 x.1)]) (fun x => [.own (.slice (some ⟨b, 0, none⟩) 600 600) 30 .bls x.2, .blk c 31 [.pv (bv p), .pv (bv q)], .blk d 32 [.pv (sv [97]), .pv (sv [98])], .blk e 38 [.pv (i64 f), .pv (i64 ((f : Int) + 1 + (t : Int) % 40))]]) (fun x => (f ≤ x.1 ∧ x.1 ≤ f + 1 + t % 40) ∧ TI h x.2 p q f x.1) (fun x => 300 - x.1) rfl [0, 1, 2, 3] (f, h) ⟨⟨Nat.le_refl _, by simp only; omega⟩, TI.start hlh⟩ ?wkt0 (fun x hx => ?_)
      case wkt0 => (repeat' apply And.intro) <;> (first | exact rfl | exact trivial | omega | refine sigEq ?_ | skip)
      obtain ⟨k, h1⟩ := x
      simp only at hx ⊢
      obtain ⟨⟨hx1, hx2⟩, hx⟩ := hx
      have hl1 := hx.len
      refine G_run tOk eok_fnotes 60 (fun _ => none) (fun bs => rfl) (fun bs => ?_) (fun bs => ?_)
      · (repeat' apply And.intro) <;> (intros; first | exact trivial | exact rfl | omega | exact u8_lo _ | exact u8_hi _ | exact u8_in64 _ | exact u8_in63 _ | (simp only [inR, IntKind.bits]; omega) | (simp [inR, IntKind.bits]; done) | (simp [inR, IntKind.bits] at * <;> omega) | (simp_all; done) | (with_reducible assumption) | skip)
      refine G_if rfl rfl (fun hk5 => ?_) (fun hk5 => ?_)
      · have hk4 : k < f + 1 + t % 40 := by omega
        have hsl : (h1.set (0 * 300 + 0 + (k : Int).toNat) (h1.getD (0 * 300 + 0 + (k : Int).toNat) false || p)).length = 600 := by rw [List.length_set]; exact hl1
        refine G_run tOk eok_fnotes 60 (fun _ => none) (fun bs => rfl) (fun bs => ?_) (fun bs => ?_)
        · (repeat' apply And.intro) <;> (intros; first | exact trivial | exact rfl | omega | exact u8_lo _ | exact u8_hi _ | exact u8_in64 _ | exact u8_in63 _ | (simp only [inR, IntKind.bits]; omega) | (simp [inR, IntKind.bits]; done) | (simp [inR, IntKind.bits] at * <;> omega) | (simp_all; done) | (with_reducible assumption) | skip)
        refine G_lp [0, 1, 2, 3] (k + 1, ((h1.set (0 * 300 + 0 + (k : Int).toNat) (h1.getD (0 * 300 + 0 + (k : Int).toNat) false || p)).set (1 * 300 + 0 + (k : Int).toNat) ((h1.set (0 * 300 + 0 + (k : Int).toNat) (h1.getD (0 * 300 + 0 + (k : Int).toNat) false || p)).getD (1 * 300 + 0 + (k : Int).toNat) false || q))) ?okt0 ?wku0
        case okt0 =>
          refine ⟨⟨⟨by simp only; omega, by simp only; omega⟩, ?_⟩, by simp only; omega⟩
          have e0 : 0 * 300 + 0 + (k : Int).toNat = k := by omega
          have e1 : 1 * 300 + 0 + (k : Int).toNat = 300 + k := by omega
          simp only
          rw [e0, e1]; exact hx.step (by omega) hx1 rfl rfl
        case wku0 => (repeat' apply And.intro) <;> (first | exact rfl | exact trivial | omega | refine sigEq ?_ | skip)
      · have hk4 : k = f + 1 + t % 40 := by omega
        subst hk4
        have hM := hN.tch (p := p) (q := q) (by omega) (by omega) hx
        have bok2 := hM.ok (p := p) (q := q)
        refine G_run tOk eok_fnotes 3 (fun _ => none) (fun bs => rfl) (fun bs => ?_) (fun bs => ?_)
        · (repeat' apply And.intro) <;> (intros; first | exact trivial | exact rfl | omega | exact u8_lo _ | exact u8_hi _ | exact u8_in64 _ | exact u8_in63 _ | (simp only [inR, IntKind.bits]; omega) | (simp [inR, IntKind.bits]; done) | (simp [inR, IntKind.bits] at * <;> omega) | (simp_all; done) | (with_reducible assumption) | skip)
        rw [hto, tch2]
        refine G_freeze 4 [105, 3] rfl ⟨rfl, rfl, trivial⟩ ?_
        refine G_run tOk eok_fnotes 60 (fun _ => some false) (fun bs => rfl) (fun bs => ?_) (fun bs => ?_)
        · (repeat' apply And.intro) <;> (intros; first | exact trivial | exact rfl | omega | exact u8_lo _ | exact u8_hi _ | exact u8_in64 _ | exact u8_in63 _ | (simp only [inR, IntKind.bits]; omega) | (simp [inR, IntKind.bits]; done) | (simp [inR, IntKind.bits] at * <;> omega) | (simp_all; done) | (with_reducible assumption) | skip)
        refine G_els rfl rfl rfl ?_
        refine G_run tOk eok_fnotes 60 (fun _ => none) (fun bs => rfl) (fun bs => ?_) (fun bs => ?_)
        · (repeat' apply And.intro) <;> (intros; first | exact trivial | exact rfl | omega | exact u8_lo _ | exact u8_hi _ | exact u8_in64 _ | exact u8_in63 _ | (simp only [inR, IntKind.bits]; omega) | (simp [inR, IntKind.bits]; done) | (simp [inR, IntKind.bits] at * <;> omega) | (simp_all; done) | (with_reducible assumption) | skip)
        refine G_lp [0, 1, 2] (⟨i + 1, p, q, (tch ⟨f, ((f + 1 + t % 40 : Nat) : Int)⟩ ⟨[97], p, A⟩).l, (tch ⟨f, ((f + 1 + t % 40 : Nat) : Int)⟩ ⟨[98], q, C⟩).l, h1⟩ : NX) ?ok04 ?wk04
        case ok04 => exact ⟨⟨by simp only; omega, hM⟩, by simp only; omega⟩
        case wk04 => (repeat' apply And.intro) <;> (first | exact rfl | exact trivial | omega | refine sigEq ?_ | skip)
  · have hfa := hN.ha
    have hfc := hN.hc
    have hrA : rightB A = true := right_iff.2 hN.ra.1
    have hrC : rightB C = true := right_iff.2 hN.rc.1
    refine G_run tOk eok_fnotes 60 (fun _ => none) (fun bs => rfl) (fun bs => ?_) (fun bs => ?_)
    · (repeat' apply And.intro) <;> (intros; first | exact trivial | exact rfl | omega | exact u8_lo _ | exact u8_hi _ | exact u8_in64 _ | exact u8_in63 _ | (simp only [inR, IntKind.bits]; omega) | (simp [inR, IntKind.bits]; done) | (simp [inR, IntKind.bits] at * <;> omega) | (simp_all; done) | (with_reducible assumption) | skip)
    refine G_loop (fun w : Nat => [(3, lst .bms (bm2 p q A C)), (6, .c (.ptr 0 b 0)), (7, .c (.ptr 1 c 0)), (16, int .i64 w)]) (fun w => [.own (.slice (some ⟨b, 0, none⟩) 600 600) 30 .bls h, .blk c 31 [.pv (bv p), .pv (bv q)]]) (fun w => w ≤ 2) (fun w => 2 - w) rfl [0, 1] 0 (Nat.zero_le _) ?wkf (fun w hw => ?_)
    case wkf => (repeat' apply And.intro) <;> (first | exact rfl | exact trivial | omega | refine sigEq ?_ | skip)
    refine G_run tOk eok_fnotes 60 (fun _ => none) (fun bs => rfl) (fun bs => ?_) (fun bs => ?_)
    · (repeat' apply And.intro) <;> (intros; first | exact trivial | exact rfl | omega | exact u8_lo _ | exact u8_hi _ | exact u8_in64 _ | exact u8_in63 _ | (simp only [inR, IntKind.bits]; omega) | (simp [inR, IntKind.bits]; done) | (simp [inR, IntKind.bits] at * <;> omega) | (simp_all; done) | (with_reducible assumption) | skip)
    refine G_if rfl rfl (fun hk6 => ?_) (fun hk6 => ?_)
    · rcases (show w = 0 ∨ w = 1 by omega) with hw2 | hw2
      · subst hw2
        refine G_run tOk eok_fnotes 60 (fun _ => none) (fun bs => rfl) (fun bs => ?_) (fun bs => ?_)
        · (repeat' apply And.intro) <;> (intros; first | exact trivial | exact rfl | omega | exact u8_lo _ | exact u8_hi _ | exact u8_in64 _ | exact u8_in63 _ | (simp only [inR, IntKind.bits]; omega) | (simp [inR, IntKind.bits]; done) | (simp [inR, IntKind.bits] at * <;> omega) | (simp_all; done) | (with_reducible assumption) | skip)
        refine G_loop (fun n : Nat => [(3, lst .bms (bm2 p q A C)), (6, .c (.ptr 0 b 0)), (7, .c (.ptr 1 c 0)), (16, int .i64 0), (17, int .i64 n)]) (fun n => [.own (.slice (some ⟨b, 0, none⟩) 600 600) 30 .bls h, .blk c 31 [.pv (bv p), .pv (bv q)]]) (fun n => n ≤ 300) (fun n => 300 - n) rfl [0, 1] 0 (Nat.zero_le _) ?wkg0 (fun n hn => ?_)
        case wkg0 => (repeat' apply And.intro) <;> (first | exact rfl | exact trivial | omega | refine sigEq ?_ | skip)
        refine G_run tOk eok_fnotes 60 (fun _ => none) (fun bs => rfl) (fun bs => ?_) (fun bs => ?_)
        · (repeat' apply And.intro) <;> (intros; first | exact trivial | exact rfl | omega | exact u8_lo _ | exact u8_hi _ | exact u8_in64 _ | exact u8_in63 _ | (simp only [inR, IntKind.bits]; omega) | (simp [inR, IntKind.bits]; done) | (simp [inR, IntKind.bits] at * <;> omega) | (simp_all; done) | (with_reducible assumption) | skip)
        refine G_if rfl rfl (fun hk7 => ?_) (fun hk7 => ?_)
        · have hn2 : n < 300 := by omega
          have hhas : hasL A (n : Int) = h.getD (0 * 300 + 0 + (n : Int).toNat) false := by
            rw [show 0 * 300 + 0 + (n : Int).toNat = n by omega, hfa n hn2]
            exact hasL_of hN.ra.1 n
          refine G_run tOk eok_fnotes 60 (fun _ => none) (fun bs => rfl) (fun bs => ?_) (fun bs => ?_)
          · (repeat' apply And.intro) <;> (intros; first | exact trivial | exact rfl | omega | exact u8_lo _ | exact u8_hi _ | exact u8_in64 _ | exact u8_in63 _ | (simp only [inR, IntKind.bits]; omega) | (simp [inR, IntKind.bits]; done) | (simp [inR, IntKind.bits] at * <;> omega) | (simp_all; done) | (with_reducible assumption) | skip)
          refine G_nx 2 rfl ?_
          refine G_draw tOk eok_fnotes rfl (fun _ => none) 12 [0, 0, 3, 7, 15, 0, 63, 0, 0, 128, 896, 1920, 4095] [] rfl (by decide +kernel) (fun bs => rfl) (fun bs => ?_) (fun bs => ?_)
          · (repeat' apply And.intro) <;> (intros; first | exact trivial | exact rfl | omega | exact u8_lo _ | exact u8_hi _ | exact u8_in64 _ | exact u8_in63 _ | (simp only [inR, IntKind.bits]; omega) | (simp [inR, IntKind.bits]; done) | (simp [inR, IntKind.bits] at * <;> omega) | (simp_all; done) | (with_reducible assumption) | skip)
          refine G_run tOk eok_fnotes 60 (fun _ => none) (fun bs => rfl) (fun bs => ?_) (fun bs => ?_)
          · (repeat' apply And.intro) <;> (intros; first | exact trivial | exact rfl | omega | exact u8_lo _ | exact u8_hi _ | exact u8_in64 _ | exact u8_in63 _ | (simp only [inR, IntKind.bits]; omega) | (simp [inR, IntKind.bits]; done) | (simp [inR, IntKind.bits] at * <;> omega) | (simp_all; done) | (with_reducible assumption) | skip)
          refine G_cond (b := !decide (hasL A (n : Int) = h.getD (0 * 300 + 0 + (n : Int).toNat) false)) rfl rfl (fun h2 => ?_) (fun h2 => ?_)
          · rw [hhas] at h2; simp at h2
          · refine G_run tOk eok_fnotes 60 (fun _ => none) (fun bs => rfl) (fun bs => ?_) (fun bs => ?_)
            · (repeat' apply And.intro) <;> (intros; first | exact trivial | exact rfl | omega | exact u8_lo _ | exact u8_hi _ | exact u8_in64 _ | exact u8_in63 _ | (simp only [inR, IntKind.bits]; omega) | (simp [inR, IntKind.bits]; done) | (simp [inR, IntKind.bits] at * <;> omega) | (simp_all; done) | (with_reducible assumption) | skip)
            refine G_lp [0, 1] (n + 1) ?okh0 ?wkh0
            case okh0 => exact ⟨hn2, by omega⟩
            case wkh0 => (repeat' apply And.intro) <;> (first | exact rfl | exact trivial | omega | refine sigEq ?_ | skip)
        · refine G_run tOk eok_fnotes 60 (fun _ => none) (fun bs => rfl) (fun bs => ?_) (fun bs => ?_)
          · (repeat' apply And.intro) <;> (intros; first | exact trivial | exact rfl | omega | exact u8_lo _ | exact u8_hi _ | exact u8_in64 _ | exact u8_in63 _ | (simp only [inR, IntKind.bits]; omega) | (simp [inR, IntKind.bits]; done) | (simp [inR, IntKind.bits] at * <;> omega) | (simp_all; done) | (with_reducible assumption) | skip)
          refine G_nx 2 rfl ?_
          refine G_draw tOk eok_fnotes rfl (fun _ => some false) 12 [0, 0, 3, 7, 15, 0, 32, 96, 255, 511, 1023, 1023, 4095, 8191, 16383, 32767, 65535, 131071] [] rfl (by decide +kernel) (fun bs => rfl) (fun bs => ?_) (fun bs => ?_)
          · (repeat' apply And.intro) <;> (intros; first | exact trivial | exact rfl | omega | exact u8_lo _ | exact u8_hi _ | exact u8_in64 _ | exact u8_in63 _ | (simp only [inR, IntKind.bits]; omega) | (simp [inR, IntKind.bits]; done) | (simp [inR, IntKind.bits] at * <;> omega) | (simp_all; done) | (with_reducible assumption) | skip)
          refine G_run tOk eok_fnotes 60 (fun _ => some false) (fun bs => rfl) (fun bs => ?_) (fun bs => ?_)
          · (repeat' apply And.intro) <;> (intros; first | exact trivial | exact rfl | omega | exact u8_lo _ | exact u8_hi _ | exact u8_in64 _ | exact u8_in63 _ | (simp only [inR, IntKind.bits]; omega) | (simp [inR, IntKind.bits]; done) | (simp [inR, IntKind.bits] at * <;> omega) | (simp_all; done) | (with_reducible assumption) | skip)
          refine G_els rfl rfl ?hr0 ?_
          case hr0 => simp [hrA]
          refine G_run tOk eok_fnotes 60 (fun _ => none) (fun bs => rfl) (fun bs => ?_) (fun bs => ?_)
          · (repeat' apply And.intro) <;> (intros; first | exact trivial | exact rfl | omega | exact u8_lo _ | exact u8_hi _ | exact u8_in64 _ | exact u8_in63 _ | (simp only [inR, IntKind.bits]; omega) | (simp [inR, IntKind.bits]; done) | (simp [inR, IntKind.bits] at * <;> omega) | (simp_all; done) | (with_reducible assumption) | skip)
          refine G_lp [0, 1] 1 ?oki0 ?wki0
          case oki0 => exact ⟨by omega, by omega⟩
          case wki0 => (repeat' apply And.intro) <;> (first | exact rfl | exact trivial | omega | refine sigEq ?_ | skip)
      · subst hw2
        refine G_run tOk eok_fnotes 60 (fun _ => none) (fun bs => rfl) (fun bs => ?_) (fun bs => ?_)
        · (repeat' apply And.intro) <;> (intros; first | exact trivial | exact rfl | omega | exact u8_lo _ | exact u8_hi _ | exact u8_in64 _ | exact u8_in63 _ | (simp only [inR, IntKind.bits]; omega) | (simp [inR, IntKind.bits]; done) | (simp [inR, IntKind.bits] at * <;> omega) | (simp_all; done) | (with_reducible assumption) | skip)
        refine G_loop (fun n : Nat => [(3, lst .bms (bm2 p q A C)), (6, .c (.ptr 0 b 0)), (7, .c (.ptr 1 c 0)), (16, int .i64 1), (17, int .i64 n)]) (fun n => [.own (.slice (some ⟨b, 0, none⟩) 600 600) 30 .bls h, .blk c 31 [.pv (bv p), .pv (bv q)]]) (fun n => n ≤ 300) (fun n => 300 - n) rfl [0, 1] 0 (Nat.zero_le _) ?wkg1 (fun n hn => ?_)
        case wkg1 => (repeat' apply And.intro) <;> (first | exact rfl | exact trivial | omega | refine sigEq ?_ | skip)
        refine G_run tOk eok_fnotes 60 (fun _ => none) (fun bs => rfl) (fun bs => ?_) (fun bs => ?_)
        · (repeat' apply And.intro) <;> (intros; first | exact trivial | exact rfl | omega | exact u8_lo _ | exact u8_hi _ | exact u8_in64 _ | exact u8_in63 _ | (simp only [inR, IntKind.bits]; omega) | (simp [inR, IntKind.bits]; done) | (simp [inR, IntKind.bits] at * <;> omega) | (simp_all; done) | (with_reducible assumption) | skip)
        refine G_if rfl rfl (fun hk7 => ?_) (fun hk7 => ?_)
        · have hn2 : n < 300 := by omega
          have hhas : hasL C (n : Int) = h.getD (1 * 300 + 0 + (n : Int).toNat) false := by
            rw [show 1 * 300 + 0 + (n : Int).toNat = 300 + n by omega, hfc n hn2]
            exact hasL_of hN.rc.1 n
          refine G_run tOk eok_fnotes 60 (fun _ => none) (fun bs => rfl) (fun bs => ?_) (fun bs => ?_)
          · (repeat' apply And.intro) <;> (intros; first | exact trivial | exact rfl | omega | exact u8_lo _ | exact u8_hi _ | exact u8_in64 _ | exact u8_in63 _ | (simp only [inR, IntKind.bits]; omega) | (simp [inR, IntKind.bits]; done) | (simp [inR, IntKind.bits] at * <;> omega) | (simp_all; done) | (with_reducible assumption) | skip)
          refine G_nx 2 rfl ?_
          refine G_draw tOk eok_fnotes rfl (fun _ => none) 12 [0, 0, 3, 7, 15, 0, 63, 0, 0, 128, 896, 1920, 4095] [] rfl (by decide +kernel) (fun bs => rfl) (fun bs => ?_) (fun bs => ?_)
          · (repeat' apply And.intro) <;> (intros; first | exact trivial | exact rfl | omega | exact u8_lo _ | exact u8_hi _ | exact u8_in64 _ | exact u8_in63 _ | (simp only [inR, IntKind.bits]; omega) | (simp [inR, IntKind.bits]; done) | (simp [inR, IntKind.bits] at * <;> omega) | (simp_all; done) | (with_reducible assumption) | skip)
          refine G_run tOk eok_fnotes 60 (fun _ => none) (fun bs => rfl) (fun bs => ?_) (fun bs => ?_)
          · (repeat' apply And.intro) <;> (intros; first | exact trivial | exact rfl | omega | exact u8_lo _ | exact u8_hi _ | exact u8_in64 _ | exact u8_in63 _ | (simp only [inR, IntKind.bits]; omega) | (simp [inR, IntKind.bits]; done) | (simp [inR, IntKind.bits] at * <;> omega) | (simp_all; done) | (with_reducible assumption) | skip)
          refine G_cond (b := !decide (hasL C (n : Int) = h.getD (1 * 300 + 0 + (n : Int).toNat) false)) rfl rfl (fun h2 => ?_) (fun h2 => ?_)
          · rw [hhas] at h2; simp at h2
          · refine G_run tOk eok_fnotes 60 (fun _ => none) (fun bs => rfl) (fun bs => ?_) (fun bs => ?_)
            · (repeat' apply And.intro) <;> (intros; first | exact trivial | exact rfl | omega | exact u8_lo _ | exact u8_hi _ | exact u8_in64 _ | exact u8_in63 _ | (simp only [inR, IntKind.bits]; omega) | (simp [inR, IntKind.bits]; done) | (simp [inR, IntKind.bits] at * <;> omega) | (simp_all; done) | (with_reducible assumption) | skip)
            refine G_lp [0, 1] (n + 1) ?okh1 ?wkh1
            case okh1 => exact ⟨hn2, by omega⟩
            case wkh1 => (repeat' apply And.intro) <;> (first | exact rfl | exact trivial | omega | refine sigEq ?_ | skip)
        · refine G_run tOk eok_fnotes 60 (fun _ => none) (fun bs => rfl) (fun bs => ?_) (fun bs => ?_)
          · (repeat' apply And.intro) <;> (intros; first | exact trivial | exact rfl | omega | exact u8_lo _ | exact u8_hi _ | exact u8_in64 _ | exact u8_in63 _ | (simp only [inR, IntKind.bits]; omega) | (simp [inR, IntKind.bits]; done) | (simp [inR, IntKind.bits] at * <;> omega) | (simp_all; done) | (with_reducible assumption) | skip)
          refine G_nx 2 rfl ?_
          refine G_draw tOk eok_fnotes rfl (fun _ => some false) 12 [0, 0, 3, 7, 15, 0, 32, 96, 255, 511, 1023, 1023, 4095, 8191, 16383, 32767, 65535, 131071] [] rfl (by decide +kernel) (fun bs => rfl) (fun bs => ?_) (fun bs => ?_)
          · (repeat' apply And.intro) <;> (intros; first | exact trivial | exact rfl | omega | exact u8_lo _ | exact u8_hi _ | exact u8_in64 _ | exact u8_in63 _ | (simp only [inR, IntKind.bits]; omega) | (simp [inR, IntKind.bits]; done) | (simp [inR, IntKind.bits] at * <;> omega) | (simp_all; done) | (with_reducible assumption) | skip)
          refine G_run tOk eok_fnotes 60 (fun _ => some false) (fun bs => rfl) (fun bs => ?_) (fun bs => ?_)
          · (repeat' apply And.intro) <;> (intros; first | exact trivial | exact rfl | omega | exact u8_lo _ | exact u8_hi _ | exact u8_in64 _ | exact u8_in63 _ | (simp only [inR, IntKind.bits]; omega) | (simp [inR, IntKind.bits]; done) | (simp [inR, IntKind.bits] at * <;> omega) | (simp_all; done) | (with_reducible assumption) | skip)
          refine G_els rfl rfl ?hr1 ?_
          case hr1 => simp [hrC]
          refine G_run tOk eok_fnotes 60 (fun _ => none) (fun bs => rfl) (fun bs => ?_) (fun bs => ?_)
          · (repeat' apply And.intro) <;> (intros; first | exact trivial | exact rfl | omega | exact u8_lo _ | exact u8_hi _ | exact u8_in64 _ | exact u8_in63 _ | (simp only [inR, IntKind.bits]; omega) | (simp [inR, IntKind.bits]; done) | (simp [inR, IntKind.bits] at * <;> omega) | (simp_all; done) | (with_reducible assumption) | skip)
          refine G_lp [0, 1] 2 ?oki1 ?wki1
          case oki1 => exact ⟨by omega, by omega⟩
          case wki1 => (repeat' apply And.intro) <;> (first | exact rfl | exact trivial | omega | refine sigEq ?_ | skip)
    · refine G_run tOk eok_fnotes 60 (fun _ => some true) (fun bs => rfl) (fun bs => ?_) (fun bs => ?_)
      · (repeat' apply And.intro) <;> (intros; first | exact trivial | exact rfl | omega | exact u8_lo _ | exact u8_hi _ | exact u8_in64 _ | exact u8_in63 _ | (simp only [inR, IntKind.bits]; omega) | (simp [inR, IntKind.bits]; done) | (simp [inR, IntKind.bits] at * <;> omega) | (simp_all; done) | (with_reducible assumption) | skip)
      exact G_ret tOk hM0 rfl rfl ⟨trivial, trivial⟩ rfl
def fnotes_s : FSpec
  | [.c (.pv (.lst .stp s))] => some ((∀ x ∈ s, inR .u8 x.fr ∧ inR .u8 x.to), false, .x (.c (bv true)))
  | _ => none
theorem fnotes_s_ok : SpecOk Try.prog 3 fnotes_s := by
  intro args pre sh rv h hp; unfold fnotes_s at h; split at h
  · cases h; have hs := hp; exact fnotes_fn _ hs
  · cases h
def psi_fnotes : FuncId → Option FSpec := psiCons 3 fnotes_s psi_fsizes
theorem psi_fnotes_ok : PsiFn Try.prog psi_fnotes := psiCons_ok fnotes_s_ok psi_fsizes_ok
end Go.Proofs.Ytndjdmnpdknneaa
