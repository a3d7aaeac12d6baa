import Derived.Test.YtgobmfkffhomaaaShtZG
import Derived.Test.YtgobmfkffhomaaaShtZA
set_option linter.unusedSimpArgs false
set_option linter.unusedVariables false
set_option maxRecDepth 10000
set_option maxHeartbeats 3200000
namespace Go.Proofs.Ytgobmfkffhomaaa
open Go.Mt

def psi_vd := psiOff 12 (psiOff 18 Tt.psi_trright2)
theorem psi_vd_ok : PsiFn Try.prog psi_vd := psiOff_ok (psiOff_ok Tt.psi_trright2_ok)
def env_m : Env := ⟨T, psi_vd, pspNil, psc_del, 128, [], none, true⟩
theorem eok_m : PsiOk Try.prog env_m := ⟨psi_vd_ok, pspNil_ok, psc_del_ok⟩
abbrev om : List UInt8 := [111, 110, 101, 45, 109, 111, 114, 101]
theorem om_ok : nameB om = true := by decide +kernel
theorem saE_om (m : Mta) : saE m om = 5 ∨ saE m om = 9 ∨ (saE m om = 0 ∧ spl m.sh om < 0 ∧ m.sh.length < 8) := by
  unfold saE
  rw [om_ok]
  cases h1 : decide (0 ≤ spl m.sh om) with
  | true => exact .inl rfl
  | false =>
    cases h2 : decide (8 ≤ (m.sh.length : Int)) with
    | true => exact .inr (.inl rfl)
    | false => exact .inr (.inr ⟨rfl, by simpa using h1, by simp at h2; omega⟩)
theorem sb_om {m : Mta} (sz : Int) (t : List (List Entry)) (h : spl m.sh om < 0) : (sbM ⟨m.cl, sz, m.bk, t, m.sh ++ [⟨om, m.sz, m.t⟩], m.mp, m.ct⟩ om).t = m.t ∧ sdE ⟨m.cl, sz, m.bk, t, m.sh ++ [⟨om, m.sz, m.t⟩], m.mp, m.ct⟩ om = 0 := by
  have hs := spl_new ⟨om, m.sz, m.t⟩ h rfl
  have hd : decide (((m.sh.length : Nat) : Int) < 0) = false := by simp
  refine ⟨?_, by simp only [sdE, hs, hd]⟩
  simp only [sbM, thS, hs, hd, Int.toNat_natCast, getD_last]

def env_fapart : Env := ⟨T, Tt.psi_trright2, pspNil, psc_del, 128, [], none, true⟩
theorem eok_fapart : PsiOk Try.prog env_fapart := ⟨Tt.psi_trright2_ok, pspNil_ok, psc_del_ok⟩
theorem fapart_fn (m0 : Int) (m1 : Int) (m2 : List UInt8) (m3 : List (List Entry)) (m4 : List Shot) (m5 : List Bitmap) (m6 : List Int) (hI : MtaIn ⟨m0, m1, m2, m3, m4, m5, m6⟩) : Ctr Try.prog 8 false [.g [.pv (.val (.int .i64 m0)), .pv (.val (.int .i64 m1)), .pv (.val (.string ⟨⟨m2⟩⟩)), .pv (.lst .tbl m3), .pv (.lst .sht m4), .pv (.lst .bms m5), .pv (.lst (.ints .i64) m6)]] (.x (.c (bv true))) := by
  refine Ctr_intro (E := env_fapart) Try.func8 rfl (by decide) rfl rfl (fun M0 W hM0 => ?_)
  have hI' := hI
  obtain ⟨it, iS, iM, iC, ib, ist, isn, ibl, ibn⟩ := hI'
  simp only at it iS iM iC ib ist isn ibl ibn
  refine G_run tOk eok_fapart 3 (fun _ => none) (fun bs => rfl) (fun bs => ?_) (fun bs => ?_)
  · (repeat' apply And.intro) <;> (intros; first | exact trivial | exact rfl | omega | exact u8_lo _ | exact u8_hi _ | exact u8_in64 _ | exact u8_in63 _ | (simp only [inR, IntKind.bits]; omega) | (simp [inR, IntKind.bits]; done) | (simp [inR, IntKind.bits] at * <;> omega) | (simp_all; done) | (with_reducible assumption) | skip)
  cases hg : gtM ⟨m0, m1, m2, m3, m4, m5, m6⟩ with
  | true =>
    refine G_run tOk eok_fapart 60 (fun _ => some true) (fun bs => rfl) (fun bs => ?_) (fun bs => ?_)
    · (repeat' apply And.intro) <;> (intros; first | exact trivial | exact rfl | omega | exact u8_lo _ | exact u8_hi _ | exact u8_in64 _ | exact u8_in63 _ | (simp only [inR, IntKind.bits]; omega) | (simp [inR, IntKind.bits]; done) | (simp [inR, IntKind.bits] at * <;> omega) | (simp_all; done) | (with_reducible assumption) | skip)
      all_goals first | (simp [hg]; done) | skip
    refine G_thn rfl rfl rfl ?_
    refine G_run tOk eok_fapart 60 (fun _ => none) (fun bs => rfl) (fun bs => ?_) (fun bs => ?_)
    · (repeat' apply And.intro) <;> (intros; first | exact trivial | exact rfl | omega | exact u8_lo _ | exact u8_hi _ | exact u8_in64 _ | exact u8_in63 _ | (simp only [inR, IntKind.bits]; omega) | (simp [inR, IntKind.bits]; done) | (simp [inR, IntKind.bits] at * <;> omega) | (simp_all; done) | (with_reducible assumption) | skip)
    exact G_ret tOk hM0 rfl rfl ⟨trivial, trivial⟩ rfl
  | false =>
  have hsm := gtM_sm hg
  have hok := hsm.ok
  cases hr : rtM ⟨m0, m1, m2, m3, m4, m5, m6⟩ with
  | false =>
    refine G_run tOk eok_fapart 60 (fun j => match j with | 2 => some false | _ => some true) (fun bs => rfl) (fun bs => ?_) (fun bs => ?_)
    · (repeat' apply And.intro) <;> (intros; first | exact trivial | exact rfl | omega | exact u8_lo _ | exact u8_hi _ | exact u8_in64 _ | exact u8_in63 _ | (simp only [inR, IntKind.bits]; omega) | (simp [inR, IntKind.bits]; done) | (simp [inR, IntKind.bits] at * <;> omega) | (simp_all; done) | (with_reducible assumption) | skip)
      all_goals first | (simp [hg, hr]; done) | skip
    refine G_thn rfl rfl ?hb0 ?_
    case hb0 => simp [hr]
    refine G_run tOk eok_fapart 60 (fun _ => none) (fun bs => rfl) (fun bs => ?_) (fun bs => ?_)
    · (repeat' apply And.intro) <;> (intros; first | exact trivial | exact rfl | omega | exact u8_lo _ | exact u8_hi _ | exact u8_in64 _ | exact u8_in63 _ | (simp only [inR, IntKind.bits]; omega) | (simp [inR, IntKind.bits]; done) | (simp [inR, IntKind.bits] at * <;> omega) | (simp_all; done) | (with_reducible assumption) | skip)
    exact G_ret tOk hM0 rfl rfl ⟨trivial, trivial⟩ rfl
  | true =>
  refine G_run tOk eok_fapart 60 (fun j => match j with | 2 => some false | _ => none) (fun bs => rfl) (fun bs => ?_) (fun bs => ?_)
  · (repeat' apply And.intro) <;> (intros; first | exact trivial | exact rfl | omega | exact u8_lo _ | exact u8_hi _ | exact u8_in64 _ | exact u8_in63 _ | (simp only [inR, IntKind.bits]; omega) | (simp [inR, IntKind.bits]; done) | (simp [inR, IntKind.bits] at * <;> omega) | (simp_all; done) | (with_reducible assumption) | skip)
    all_goals first | (simp [hg, hr]; done) | skip
  refine G_els rfl rfl ?hb1 ?_
  case hb1 => simp [hg, hr]
  rcases saE_om ⟨m0, m1, m2, m3, m4, m5, m6⟩ with hE | hE | ⟨hE, hS0, hS8⟩
  · refine G_run tOk eok_fapart 60 (fun _ => none) (fun bs => rfl) (fun bs => ?_) (fun bs => ?_)
    · (repeat' apply And.intro) <;> (intros; first | exact trivial | exact rfl | omega | exact u8_lo _ | exact u8_hi _ | exact u8_in64 _ | exact u8_in63 _ | (simp only [inR, IntKind.bits]; omega) | (simp [inR, IntKind.bits]; done) | (simp [inR, IntKind.bits] at * <;> omega) | (simp_all; done) | (with_reducible assumption) | skip)
    refine G_thn rfl rfl (by simp [hE]) ?_
    refine G_run tOk eok_fapart 60 (fun _ => none) (fun bs => rfl) (fun bs => ?_) (fun bs => ?_)
    · (repeat' apply And.intro) <;> (intros; first | exact trivial | exact rfl | omega | exact u8_lo _ | exact u8_hi _ | exact u8_in64 _ | exact u8_in63 _ | (simp only [inR, IntKind.bits]; omega) | (simp [inR, IntKind.bits]; done) | (simp [inR, IntKind.bits] at * <;> omega) | (simp_all; done) | (with_reducible assumption) | skip)
    exact G_ret tOk hM0 rfl rfl ⟨trivial, trivial⟩ rfl
  · refine G_run tOk eok_fapart 60 (fun _ => none) (fun bs => rfl) (fun bs => ?_) (fun bs => ?_)
    · (repeat' apply And.intro) <;> (intros; first | exact trivial | exact rfl | omega | exact u8_lo _ | exact u8_hi _ | exact u8_in64 _ | exact u8_in63 _ | (simp only [inR, IntKind.bits]; omega) | (simp [inR, IntKind.bits]; done) | (simp [inR, IntKind.bits] at * <;> omega) | (simp_all; done) | (with_reducible assumption) | skip)
    refine G_thn rfl rfl (by simp [hE]) ?_
    refine G_run tOk eok_fapart 60 (fun _ => none) (fun bs => rfl) (fun bs => ?_) (fun bs => ?_)
    · (repeat' apply And.intro) <;> (intros; first | exact trivial | exact rfl | omega | exact u8_lo _ | exact u8_hi _ | exact u8_in64 _ | exact u8_in63 _ | (simp only [inR, IntKind.bits]; omega) | (simp [inR, IntKind.bits]; done) | (simp [inR, IntKind.bits] at * <;> omega) | (simp_all; done) | (with_reducible assumption) | skip)
    exact G_ret tOk hM0 rfl rfl ⟨trivial, trivial⟩ rfl
  refine G_env env_m rfl rfl rfl ?_
  simp only at hS0 hS8
  refine G_run tOk eok_m 60 (fun _ => none) (fun bs => rfl) (fun bs => ?_) (fun bs => ?_)
  · (repeat' apply And.intro) <;> (intros; first | exact trivial | exact rfl | omega | exact u8_lo _ | exact u8_hi _ | exact u8_in64 _ | exact u8_in63 _ | (simp only [inR, IntKind.bits]; omega) | (simp [inR, IntKind.bits]; done) | (simp [inR, IntKind.bits] at * <;> omega) | (simp_all; done) | (with_reducible assumption) | skip)
  refine G_nx 2 rfl ?_
  refine G_callF [] id (saddF m0 m1 m2 m3 m4 m5 m6 om hok.t hok.sh hok.mp hok.ct (by decide) om_ok (by omega) hS8) (fun x => leafT_own) rfl trivial rfl rfl rfl rfl (by decide) rfl (fun x => rfl) (fun x => rfl) (fun x hx => ?_)
  obtain ⟨v, Lh⟩ := x
  dsimp only at hx ⊢
  obtain ⟨hLl, hA⟩ := hx
  refine G_run tOk eok_m 60 (fun _ => none) (fun bs => rfl) (fun bs => ?_) (fun bs => ?_)
  · (repeat' apply And.intro) <;> (intros; first | exact trivial | exact rfl | omega | exact u8_lo _ | exact u8_hi _ | exact u8_in64 _ | exact u8_in63 _ | (simp only [inR, IntKind.bits]; omega) | (simp [inR, IntKind.bits]; done) | (simp [inR, IntKind.bits] at * <;> omega) | (simp_all; done) | (with_reducible assumption) | skip)
  refine G_els rfl rfl (by simp) ?_
  refine G_run tOk eok_m 60 (fun _ => none) (fun bs => rfl) (fun bs => ?_) (fun bs => ?_)
  · (repeat' apply And.intro) <;> (intros; first | exact trivial | exact rfl | omega | exact u8_lo _ | exact u8_hi _ | exact u8_in64 _ | exact u8_in63 _ | (simp only [inR, IntKind.bits]; omega) | (simp [inR, IntKind.bits]; done) | (simp [inR, IntKind.bits] at * <;> omega) | (simp_all; done) | (with_reducible assumption) | skip)
  refine G_wkFB3 (ns := [0, 1, 3, 2]) (fun i => i + 40) (fs := fun b c0 d => [(1, .c (.ptr 0 b 0)), (3, .c (.ptr 1 c0 0)), (4, .c (.ptr 2 d 0)), (6, int .i64 0)]) (hs := fun b c0 d => [.blk b 31 [.pv (i64 m0), .pv (i64 m1), .pv (.val (.string ⟨⟨m2⟩⟩)), .pv (.lst .tbl m3), .pv (.lst .sht m4), .pv (.lst .bms m5), .pv (.lst (.ints .i64) m6)], .blk c0 31 [.pv (i64 m0), .pv (i64 m1), .pv (.val (.string ⟨⟨m2⟩⟩)), .pv (.lst .tbl m3), .pv (.lst .sht m4), .pv (.lst .bms m5), .pv (.lst (.ints .i64) m6)], .blk d 31 [.pv (i64 m0), .pv (i64 m1), .pv (.val (.string ⟨⟨m2⟩⟩)), .own 3 v, .pv (.lst .sht (m4 ++ [⟨om, m1, m3⟩])), .pv (.lst .bms m5), .pv (.lst (.ints .i64) m6)], .own v 59 .tbh Lh]) (L := leafT (Tt.leaf m3) Lh) ?b0 ?c0 ?d0 rfl ⟨?wkA, fun i y h => h, fun i y h => rfl, fun i j y z _ _ e => ?injA⟩ (fun b c0 d => ?_)
  case wkA => (repeat' apply And.intro) <;> (first | exact rfl | exact trivial | omega | refine sigEq ?_ | skip)
  case injA => omega
  have hca : ∀ j, (Tt.leaf m3 j).length ≤ 1000000 := hok.t.each
  refine G_loopF (fun x : Nat × (Nat → List Entry) => [(1, .c (.ptr 0 b 0)), (3, .c (.ptr 1 c0 0)), (4, .c (.ptr 2 d 0)), (6, int .i64 x.1)]) (fun x => [.blk b 31 [.pv (i64 m0), .pv (i64 m1), .pv (.val (.string ⟨⟨m2⟩⟩)), .pv (.lst .tbl m3), .pv (.lst .sht m4), .pv (.lst .bms m5), .pv (.lst (.ints .i64) m6)], .blk c0 31 [.pv (i64 m0), .pv (i64 m1), .pv (.val (.string ⟨⟨m2⟩⟩)), .pv (.lst .tbl m3), .pv (.lst .sht m4), .pv (.lst .bms m5), .pv (.lst (.ints .i64) m6)], .blk d 31 [.pv (i64 m0), .pv (i64 m1), .pv (.val (.string ⟨⟨m2⟩⟩)), .own 3 v, .pv (.lst .sht (m4 ++ [⟨om, m1, m3⟩])), .pv (.lst .bms m5), .pv (.lst (.ints .i64) m6)], .own v 59 .tbh Lh]) (fun x => leafT x.2 Lh) (fun x => x.1 ≤ Lh.length ∧ ∀ j, (x.2 j).length ≤ 1000000) (fun x => Lh.length - x.1) rfl [0, 1, 2, 3] (fun i => i + 40) (0, Tt.leaf m3) ⟨Nat.zero_le _, hca⟩ ⟨?wkaa, fun i y h => h, fun i y h => rfl, fun i j y z _ _ e => ?injaa⟩ (fun x hx => ?_)
  case wkaa => (repeat' apply And.intro) <;> (first | exact rfl | exact trivial | omega | refine sigEq ?_ | skip)
  case injaa => omega
  obtain ⟨i, c⟩ := x
  obtain ⟨hi, hcl⟩ := hx
  dsimp only at hi hcl ⊢
  refine G_run tOk eok_m 60 (fun _ => none) (fun bs => rfl) (fun bs => ?_) (fun bs => ?_)
  · (repeat' apply And.intro) <;> (intros; first | exact trivial | exact rfl | omega | exact u8_lo _ | exact u8_hi _ | exact u8_in64 _ | exact u8_in63 _ | (simp only [inR, IntKind.bits]; omega) | (simp [inR, IntKind.bits]; done) | (simp [inR, IntKind.bits] at * <;> omega) | (simp_all; done) | (with_reducible assumption) | skip)
  refine G_if rfl rfl (fun hk5 => ?_) (fun hk5 => ?_)
  · have hil : i < Lh.length := by omega
    obtain ⟨u, hu⟩ := hA i hil
    have hci := hcl i
    have hsp : (Lh.getD i LK.tbh.dft).pv = .val u := by simp only [List.getD, hu, Option.getD_some]; rfl
    have hiO : ∀ j, j ≠ i → j + 40 ≠ i + 40 := fun j h => by omega
    refine G_run tOk eok_m 60 (fun _ => none) (fun bs => rfl) (fun bs => ?_) (fun bs => ?_)
    · (repeat' apply And.intro) <;> (intros; first | exact trivial | exact rfl | omega | exact u8_lo _ | exact u8_hi _ | exact u8_in64 _ | exact u8_in63 _ | (simp only [inR, IntKind.bits]; omega) | (simp [inR, IntKind.bits]; done) | (simp [inR, IntKind.bits] at * <;> omega) | (simp_all; done) | (with_reducible assumption) | skip)
    refine G_nxTo 4 ?_
    refine G_moveH (i + 40) (leafT_at hu) ?_
    refine G_loopF (fun x : Nat × List Entry => [(1, .c (.ptr 0 b 0)), (3, .c (.ptr 1 c0 0)), (4, .c (.ptr 2 d 0)), (6, int .i64 i), (7, int .i64 x.1)]) (fun x => [.blk b 31 [.pv (i64 m0), .pv (i64 m1), .pv (.val (.string ⟨⟨m2⟩⟩)), .pv (.lst .tbl m3), .pv (.lst .sht m4), .pv (.lst .bms m5), .pv (.lst (.ints .i64) m6)], .blk c0 31 [.pv (i64 m0), .pv (i64 m1), .pv (.val (.string ⟨⟨m2⟩⟩)), .pv (.lst .tbl m3), .pv (.lst .sht m4), .pv (.lst .bms m5), .pv (.lst (.ints .i64) m6)], .blk d 31 [.pv (i64 m0), .pv (i64 m1), .pv (.val (.string ⟨⟨m2⟩⟩)), .own 3 v, .pv (.lst .sht (m4 ++ [⟨om, m1, m3⟩])), .pv (.lst .bms m5), .pv (.lst (.ints .i64) m6)], .own v 59 .tbh Lh, .own u 62 .ent x.2]) (fun x j => if j = i then none else leafT c Lh j) (fun x => x.1 ≤ (c i).length ∧ x.2.length = (c i).length) (fun x => (c i).length - x.1) rfl [0, 1, 2, 3, 4] (fun i => i + 40) (0, c i) ⟨Nat.zero_le _, rfl⟩ ⟨?wkab, fun j y h => ?famab, fun i y h => rfl, fun i j y z _ _ e => ?injab⟩ (fun x hx => ?_)
    case wkab => (repeat' apply And.intro) <;> (first | exact rfl | exact trivial | omega | refine sigEq ?_ | skip)
    case injab => omega
    case famab =>
      by_cases e : j = i
      · rw [if_pos e] at h; cases h
      · rw [if_neg e] at h
        show updH (fun n => famH [.blk b 31 [.pv (i64 m0), .pv (i64 m1), .pv (.val (.string ⟨⟨m2⟩⟩)), .pv (.lst .tbl m3), .pv (.lst .sht m4), .pv (.lst .bms m5), .pv (.lst (.ints .i64) m6)], .blk c0 31 [.pv (i64 m0), .pv (i64 m1), .pv (.val (.string ⟨⟨m2⟩⟩)), .pv (.lst .tbl m3), .pv (.lst .sht m4), .pv (.lst .bms m5), .pv (.lst (.ints .i64) m6)], .blk d 31 [.pv (i64 m0), .pv (i64 m1), .pv (.val (.string ⟨⟨m2⟩⟩)), .own 3 v, .pv (.lst .sht (m4 ++ [⟨om, m1, m3⟩])), .pv (.lst .bms m5), .pv (.lst (.ints .i64) m6)], .own v 59 .tbh Lh] (leafT c Lh) n) (i + 40) none (j + 40) = some y
        rw [updH_ne _ _ (hiO j e)]
        exact h
    obtain ⟨q, L⟩ := x
    obtain ⟨hq, hLq⟩ := hx
    dsimp only at hq hLq ⊢
    refine G_run tOk eok_m 3 (fun _ => none) (fun bs => rfl) (fun bs => ?_) (fun bs => ?_)
    · (repeat' apply And.intro) <;> (intros; first | exact trivial | exact rfl | omega | exact u8_lo _ | exact u8_hi _ | exact u8_in64 _ | exact u8_in63 _ | (simp only [inR, IntKind.bits]; omega) | (simp [inR, IntKind.bits]; done) | (simp [inR, IntKind.bits] at * <;> omega) | (simp_all; done) | (with_reducible assumption) | skip)
    refine G_ops tOk eok_m 7 (fun _ => none) rfl rfl rfl (fun bs => rfl) (fun bs => ?_) (fun bs => ?_)
    · (repeat' apply And.intro) <;> (intros; first | exact trivial | exact rfl | omega | exact u8_lo _ | exact u8_hi _ | exact u8_in64 _ | exact u8_in63 _ | (simp only [inR, IntKind.bits]; omega) | (simp [inR, IntKind.bits]; done) | (simp [inR, IntKind.bits] at * <;> omega) | (simp_all; done) | (with_reducible assumption) | skip)
    refine G_link 47 4 (x := (Lh.getD i LK.tbh.dft).pv) (v := u) rfl hsp rfl ?_
    refine G_run tOk eok_m 60 (fun _ => none) (fun bs => rfl) (fun bs => ?_) (fun bs => ?_)
    · (repeat' apply And.intro) <;> (intros; first | exact trivial | exact rfl | omega | exact u8_lo _ | exact u8_hi _ | exact u8_in64 _ | exact u8_in63 _ | (simp only [inR, IntKind.bits]; omega) | (simp [inR, IntKind.bits]; done) | (simp [inR, IntKind.bits] at * <;> omega) | (simp_all; done) | (with_reducible assumption) | skip)
    refine G_if rfl rfl (fun hk9 => ?_) (fun hk9 => ?_)
    · have hqL : q < L.length := by omega
      refine G_run tOk eok_m 4 (fun _ => none) (fun bs => rfl) (fun bs => ?_) (fun bs => ?_)
      · (repeat' apply And.intro) <;> (intros; first | exact trivial | exact rfl | omega | exact u8_lo _ | exact u8_hi _ | exact u8_in64 _ | exact u8_in63 _ | (simp only [inR, IntKind.bits]; omega) | (simp [inR, IntKind.bits]; done) | (simp [inR, IntKind.bits] at * <;> omega) | (simp_all; done) | (with_reducible assumption) | skip)
      refine G_ops tOk eok_m 6 (fun _ => none) rfl rfl rfl (fun bs => rfl) (fun bs => ?_) (fun bs => ?_)
      · (repeat' apply And.intro) <;> (intros; first | exact trivial | exact rfl | omega | exact u8_lo _ | exact u8_hi _ | exact u8_in64 _ | exact u8_in63 _ | (simp only [inR, IntKind.bits]; omega) | (simp [inR, IntKind.bits]; done) | (simp [inR, IntKind.bits] at * <;> omega) | (simp_all; done) | (with_reducible assumption) | skip)
      refine G_link 57 4 (x := (Lh.getD i LK.tbh.dft).pv) (v := u) rfl hsp rfl ?_
      refine G_run tOk eok_m 60 (fun _ => none) (fun bs => rfl) (fun bs => ?_) (fun bs => ?_)
      · (repeat' apply And.intro) <;> (intros; first | exact trivial | exact rfl | omega | exact u8_lo _ | exact u8_hi _ | exact u8_in64 _ | exact u8_in63 _ | (simp only [inR, IntKind.bits]; omega) | (simp [inR, IntKind.bits]; done) | (simp [inR, IntKind.bits] at * <;> omega) | (simp_all; done) | (with_reducible assumption) | skip)
      refine G_lpF [0, 1, 2, 3, 4] (fun i => i + 40) (q + 1, ?La) ⟨⟨by omega, ?okla⟩, by simp only; omega⟩ ⟨?wkac, fun i y h => h, fun i y h => rfl, fun i j y z _ _ e => ?injac⟩
      case wkac => (repeat' apply And.intro) <;> (first | exact rfl | exact trivial | omega | refine sigEq ?_ | skip)
      case okla => simp [hLq]
      case injac => omega
    · refine G_run tOk eok_m 60 (fun _ => none) (fun bs => rfl) (fun bs => ?_) (fun bs => ?_)
      · (repeat' apply And.intro) <;> (intros; first | exact trivial | exact rfl | omega | exact u8_lo _ | exact u8_hi _ | exact u8_in64 _ | exact u8_in63 _ | (simp only [inR, IntKind.bits]; omega) | (simp [inR, IntKind.bits]; done) | (simp [inR, IntKind.bits] at * <;> omega) | (simp_all; done) | (with_reducible assumption) | skip)
      refine G_lpF [0, 1, 2, 3] (fun j => if j = i then 4 else j + 40) (i + 1, fun j => if j = i then L else c j) ⟨⟨by omega, fun j => ?okad⟩, by simp only; omega⟩ ⟨?wkad, fun j y h => ?famad, fun j y h => ?disad, fun j j' y z _ _ e => ?injad⟩
      case wkad => (repeat' apply And.intro) <;> (first | exact rfl | exact trivial | omega | refine sigEq ?_ | skip)
      case okad =>
        dsimp only
        split
        · rw [hLq]; exact hci
        · exact hcl j
      case disad =>
        by_cases e : j = i
        · simp only [if_pos e]; rfl
        · simp only [if_neg e]; rfl
      case injad =>
        by_cases e1 : j = i <;> by_cases e2 : j' = i <;> simp only [e1, e2, if_true, if_false] at e ⊢ <;> omega
      case famad =>
        by_cases e : j = i
        · subst e
          rw [leafT_at hu] at h
          simp only [if_true] at h ⊢
          exact h
        · simp only [if_neg e]
          have h2 : leafT c Lh j = some y := by
            rw [← h]; unfold leafT; split <;> simp [e]
          show (if j = i then none else leafT c Lh j) = some y
          rw [if_neg e]; exact h2
  have hil : i = Lh.length := by omega
  obtain ⟨t', ht'⟩ : ∃ t', t' = ((List.range Lh.length).map c) := ⟨_, rfl⟩
  have htl : t'.length = Lh.length := by subst ht'; simp
  have htg : ∀ j, j < t'.length → t'.getD j [] = c j := fun j hj => by subst ht'; simp at hj; simp [List.getD, hj]
  have hT' : TlOk t' := ⟨by rw [htl, hLl]; exact hok.t.len, fun j => by
    by_cases hj : j < t'.length
    · show (t'.getD j []).length ≤ 1000000
      rw [htg j hj]; exact hcl j
    · simp [Tt.leaf, List.getD, List.getElem?_eq_none (Nat.le_of_not_lt hj)]⟩
  refine G_freezeT 2 3 3 (fun i => i + 40) (ty' := 62) (t := t') (nth [.blk b 31 [.pv (i64 m0), .pv (i64 m1), .pv (.val (.string ⟨⟨m2⟩⟩)), .pv (.lst .tbl m3), .pv (.lst .sht m4), .pv (.lst .bms m5), .pv (.lst (.ints .i64) m6)], .blk c0 31 [.pv (i64 m0), .pv (i64 m1), .pv (.val (.string ⟨⟨m2⟩⟩)), .pv (.lst .tbl m3), .pv (.lst .sht m4), .pv (.lst .bms m5), .pv (.lst (.ints .i64) m6)], .blk d 31 [.pv (i64 m0), .pv (i64 m1), .pv (.val (.string ⟨⟨m2⟩⟩)), .pv (.lst .tbl t'), .pv (.lst .sht (m4 ++ [⟨om, m1, m3⟩])), .pv (.lst .bms m5), .pv (.lst (.ints .i64) m6)]]) rfl rfl rfl htl (fun j hj => ?leafF) (fun q x hx => ?hHF) ?_
  case leafF =>
    obtain ⟨u, hu⟩ := hA j (by omega)
    refine ⟨u, hu, ?_⟩
    rw [htg j hj]
    exact leafT_at hu
  case hHF =>
    match q, hx with
    | 0, hx => exact .inr ⟨by decide, hx, by decide, fun i _ => by omega⟩
    | 1, hx => exact .inr ⟨by decide, hx, by decide, fun i _ => by omega⟩
    | 2, hx => cases hx; exact .inl ⟨rfl, rfl⟩
    | q + 3, hx => cases hx
  have hShO : ShOk (m4 ++ [(⟨om, m1, m3⟩ : Shot)]) := ⟨by simp; omega, fun x hx => by
    rcases List.mem_append.1 hx with hx | hx
    · exact hok.sh.each x hx
    · rw [List.mem_singleton.1 hx]; exact hok.t⟩
  have hspl : spl (m4 ++ [(⟨om, m1, m3⟩ : Shot)]) om = m4.length := spl_new ⟨om, m1, m3⟩ hS0 rfl
  have hlast : (m4 ++ [(⟨om, m1, m3⟩ : Shot)]).getD m4.length LK.sht.dft = ⟨om, m1, m3⟩ := getD_last _ _ _
  clear hca
  refine G_nxTo 3 ?_
  refine G_run tOk eok_m 60 (fun _ => none) (fun bs => rfl) (fun bs => ?_) (fun bs => ?_)
  · (repeat' apply And.intro) <;> (intros; first | exact trivial | exact rfl | omega | exact u8_lo _ | exact u8_hi _ | exact u8_in64 _ | exact u8_in63 _ | (simp only [inR, IntKind.bits]; omega) | (simp [inR, IntKind.bits]; done) | (simp [inR, IntKind.bits] at * <;> omega) | (simp_all; done) | (with_reducible assumption) | skip)
  refine G_nx 3 rfl ?_
  refine G_callF [] id (sfindF m0 m1 m2 t' (m4 ++ [⟨om, m1, m3⟩]) m5 m6 om m4.length hShO hspl) (fun x => leafT_own) rfl trivial rfl rfl rfl rfl (by decide) rfl (fun x => rfl) (fun x => rfl) (fun x hx => ?_)
  obtain ⟨v2, Lh2⟩ := x
  dsimp only at hx ⊢
  simp only [hlast] at hx ⊢
  obtain ⟨hLl2, hA2⟩ := hx
  refine G_run tOk eok_m 1 (fun _ => none) (fun bs => rfl) (fun bs => ?_) (fun bs => ?_)
  · (repeat' apply And.intro) <;> (intros; first | exact trivial | exact rfl | omega | exact u8_lo _ | exact u8_hi _ | exact u8_in64 _ | exact u8_in63 _ | (simp only [inR, IntKind.bits]; omega) | (simp [inR, IntKind.bits]; done) | (simp [inR, IntKind.bits] at * <;> omega) | (simp_all; done) | (with_reducible assumption) | skip)
  refine G_wkFB2 (ns := [0, 1, 2, 4, 3]) (fun i => i + 40) (fs := fun eb _ => [(1, .c (.ptr 0 b 0)), (3, .c (.ptr 1 c0 0)), (4, .c (.ptr 2 d 0)), (8, .c (.ptr 3 eb 0)), (9, bool true)]) (hs := fun eb _ => [.blk b 31 [.pv (i64 m0), .pv (i64 m1), .pv (.val (.string ⟨⟨m2⟩⟩)), .pv (.lst .tbl m3), .pv (.lst .sht m4), .pv (.lst .bms m5), .pv (.lst (.ints .i64) m6)], .blk c0 31 [.pv (i64 m0), .pv (i64 m1), .pv (.val (.string ⟨⟨m2⟩⟩)), .pv (.lst .tbl m3), .pv (.lst .sht m4), .pv (.lst .bms m5), .pv (.lst (.ints .i64) m6)], .blk d 31 [.pv (i64 m0), .pv (i64 m1), .pv (.val (.string ⟨⟨m2⟩⟩)), .pv (.lst .tbl t'), .pv (.lst .sht (m4 ++ [⟨om, m1, m3⟩])), .pv (.lst .bms m5), .pv (.lst (.ints .i64) m6)], .blk eb 40 [.pv (.val (.string ⟨⟨om⟩⟩)), .pv (i64 m1), .own 4 v2], .own v2 59 .tbh Lh2]) (L := leafT (Tt.leaf m3) Lh2) ?e0 0 rfl ⟨?wkB, fun i y h => h, fun i y h => rfl, fun i j y z _ _ e => ?injB⟩ (fun eb _ => ?_)
  case wkB => (repeat' apply And.intro) <;> (first | exact rfl | exact trivial | omega | refine sigEq ?_ | skip)
  case injB => omega
  have h9 := hok.t.nine
  refine G_run tOk eok_m 60 (fun _ => some false) (fun bs => rfl) (fun bs => ?_) (fun bs => ?_)
  · (repeat' apply And.intro) <;> (intros; first | exact trivial | exact rfl | omega | exact u8_lo _ | exact u8_hi _ | exact u8_in64 _ | exact u8_in63 _ | (simp only [inR, IntKind.bits]; omega) | (simp [inR, IntKind.bits]; done) | (simp [inR, IntKind.bits] at * <;> omega) | (simp_all; done) | (with_reducible assumption) | skip)
  refine G_callK (Tt.tables_fn m3 m3 h9.1 h9.1 h9.2 h9.2) rfl ⟨_, rfl, rfl⟩ rfl rfl (fun Mx a w hS => ?_) rfl ?_
  · refine RAs.cons (RA.tblG (rdG_ok hS (Γ := []) (by simp) (.tmp 70) _ rfl) (tbl_R (hS.h.ok 4 _ rfl) ⟨hLl2.symm, fun i hi => ?_⟩ (fun _ _ => rfl))) (RAs.cons ((rdG_ok hS (Γ := []) (by simp) (.tmp 72) _ rfl).mono hS.h.mem) RAs.nil)
    obtain ⟨u, hu⟩ := hA2 i (by omega)
    exact ⟨u, _, _, _, hu, hS.h.ok (i + 40) _ (show leafT (Tt.leaf m3) Lh2 i = _ from leafT_at hu)⟩
  refine G_run tOk eok_m 60 (fun _ => some false) (fun bs => rfl) (fun bs => ?_) (fun bs => ?_)
  · (repeat' apply And.intro) <;> (intros; first | exact trivial | exact rfl | omega | exact u8_lo _ | exact u8_hi _ | exact u8_in64 _ | exact u8_in63 _ | (simp only [inR, IntKind.bits]; omega) | (simp [inR, IntKind.bits]; done) | (simp [inR, IntKind.bits] at * <;> omega) | (simp_all; done) | (with_reducible assumption) | skip)
  refine G_els rfl rfl (by simp) ?_
  refine G_run tOk eok_m 60 (fun _ => none) (fun bs => rfl) (fun bs => ?_) (fun bs => ?_)
  · (repeat' apply And.intro) <;> (intros; first | exact trivial | exact rfl | omega | exact u8_lo _ | exact u8_hi _ | exact u8_in64 _ | exact u8_in63 _ | (simp only [inR, IntKind.bits]; omega) | (simp [inR, IntKind.bits]; done) | (simp [inR, IntKind.bits] at * <;> omega) | (simp_all; done) | (with_reducible assumption) | skip)
  have hcs : ∀ j, (Tt.leaf m3 j).length ≤ 1000000 := hok.t.each
  refine G_loopF (fun x : Nat × (Nat → List Entry) => [(1, .c (.ptr 0 b 0)), (3, .c (.ptr 1 c0 0)), (4, .c (.ptr 2 d 0)), (8, .c (.ptr 3 eb 0)), (10, int .i64 x.1)]) (fun x => [.blk b 31 [.pv (i64 m0), .pv (i64 m1), .pv (.val (.string ⟨⟨m2⟩⟩)), .pv (.lst .tbl m3), .pv (.lst .sht m4), .pv (.lst .bms m5), .pv (.lst (.ints .i64) m6)], .blk c0 31 [.pv (i64 m0), .pv (i64 m1), .pv (.val (.string ⟨⟨m2⟩⟩)), .pv (.lst .tbl m3), .pv (.lst .sht m4), .pv (.lst .bms m5), .pv (.lst (.ints .i64) m6)], .blk d 31 [.pv (i64 m0), .pv (i64 m1), .pv (.val (.string ⟨⟨m2⟩⟩)), .pv (.lst .tbl t'), .pv (.lst .sht (m4 ++ [⟨om, m1, m3⟩])), .pv (.lst .bms m5), .pv (.lst (.ints .i64) m6)], .blk eb 40 [.pv (.val (.string ⟨⟨om⟩⟩)), .pv (i64 m1), .own 4 v2], .own v2 59 .tbh Lh2]) (fun x => leafT x.2 Lh2) (fun x => x.1 ≤ Lh2.length ∧ ∀ j, (x.2 j).length ≤ 1000000) (fun x => Lh2.length - x.1) rfl [0, 1, 2, 3, 4] (fun i => i + 40) (0, Tt.leaf m3) ⟨Nat.zero_le _, hcs⟩ ⟨?wksa, fun i y h => h, fun i y h => rfl, fun i j y z _ _ e => ?injsa⟩ (fun x hx => ?_)
  case wksa => (repeat' apply And.intro) <;> (first | exact rfl | exact trivial | omega | refine sigEq ?_ | skip)
  case injsa => omega
  obtain ⟨i, c⟩ := x
  obtain ⟨hi, hcl⟩ := hx
  dsimp only at hi hcl ⊢
  refine G_run tOk eok_m 60 (fun _ => none) (fun bs => rfl) (fun bs => ?_) (fun bs => ?_)
  · (repeat' apply And.intro) <;> (intros; first | exact trivial | exact rfl | omega | exact u8_lo _ | exact u8_hi _ | exact u8_in64 _ | exact u8_in63 _ | (simp only [inR, IntKind.bits]; omega) | (simp [inR, IntKind.bits]; done) | (simp [inR, IntKind.bits] at * <;> omega) | (simp_all; done) | (with_reducible assumption) | skip)
  refine G_if rfl rfl (fun hk5 => ?_) (fun hk5 => ?_)
  · have hil : i < Lh2.length := by omega
    obtain ⟨u, hu⟩ := hA2 i hil
    have hci := hcl i
    have hsp : (Lh2.getD i LK.tbh.dft).pv = .val u := by simp only [List.getD, hu, Option.getD_some]; rfl
    have hiO : ∀ j, j ≠ i → j + 40 ≠ i + 40 := fun j h => by omega
    refine G_run tOk eok_m 60 (fun _ => none) (fun bs => rfl) (fun bs => ?_) (fun bs => ?_)
    · (repeat' apply And.intro) <;> (intros; first | exact trivial | exact rfl | omega | exact u8_lo _ | exact u8_hi _ | exact u8_in64 _ | exact u8_in63 _ | (simp only [inR, IntKind.bits]; omega) | (simp [inR, IntKind.bits]; done) | (simp [inR, IntKind.bits] at * <;> omega) | (simp_all; done) | (with_reducible assumption) | skip)
    refine G_nxTo 5 ?_
    refine G_moveH (i + 40) (leafT_at hu) ?_
    refine G_loopF (fun x : Nat × List Entry => [(1, .c (.ptr 0 b 0)), (3, .c (.ptr 1 c0 0)), (4, .c (.ptr 2 d 0)), (8, .c (.ptr 3 eb 0)), (10, int .i64 i), (11, int .i64 x.1)]) (fun x => [.blk b 31 [.pv (i64 m0), .pv (i64 m1), .pv (.val (.string ⟨⟨m2⟩⟩)), .pv (.lst .tbl m3), .pv (.lst .sht m4), .pv (.lst .bms m5), .pv (.lst (.ints .i64) m6)], .blk c0 31 [.pv (i64 m0), .pv (i64 m1), .pv (.val (.string ⟨⟨m2⟩⟩)), .pv (.lst .tbl m3), .pv (.lst .sht m4), .pv (.lst .bms m5), .pv (.lst (.ints .i64) m6)], .blk d 31 [.pv (i64 m0), .pv (i64 m1), .pv (.val (.string ⟨⟨m2⟩⟩)), .pv (.lst .tbl t'), .pv (.lst .sht (m4 ++ [⟨om, m1, m3⟩])), .pv (.lst .bms m5), .pv (.lst (.ints .i64) m6)], .blk eb 40 [.pv (.val (.string ⟨⟨om⟩⟩)), .pv (i64 m1), .own 4 v2], .own v2 59 .tbh Lh2, .own u 62 .ent x.2]) (fun x j => if j = i then none else leafT c Lh2 j) (fun x => x.1 ≤ (c i).length ∧ x.2.length = (c i).length) (fun x => (c i).length - x.1) rfl [0, 1, 2, 3, 4, 5] (fun i => i + 40) (0, c i) ⟨Nat.zero_le _, rfl⟩ ⟨?wksb, fun j y h => ?famsb, fun i y h => rfl, fun i j y z _ _ e => ?injsb⟩ (fun x hx => ?_)
    case wksb => (repeat' apply And.intro) <;> (first | exact rfl | exact trivial | omega | refine sigEq ?_ | skip)
    case injsb => omega
    case famsb =>
      by_cases e : j = i
      · rw [if_pos e] at h; cases h
      · rw [if_neg e] at h
        show updH (fun n => famH [.blk b 31 [.pv (i64 m0), .pv (i64 m1), .pv (.val (.string ⟨⟨m2⟩⟩)), .pv (.lst .tbl m3), .pv (.lst .sht m4), .pv (.lst .bms m5), .pv (.lst (.ints .i64) m6)], .blk c0 31 [.pv (i64 m0), .pv (i64 m1), .pv (.val (.string ⟨⟨m2⟩⟩)), .pv (.lst .tbl m3), .pv (.lst .sht m4), .pv (.lst .bms m5), .pv (.lst (.ints .i64) m6)], .blk d 31 [.pv (i64 m0), .pv (i64 m1), .pv (.val (.string ⟨⟨m2⟩⟩)), .pv (.lst .tbl t'), .pv (.lst .sht (m4 ++ [⟨om, m1, m3⟩])), .pv (.lst .bms m5), .pv (.lst (.ints .i64) m6)], .blk eb 40 [.pv (.val (.string ⟨⟨om⟩⟩)), .pv (i64 m1), .own 4 v2], .own v2 59 .tbh Lh2] (leafT c Lh2) n) (i + 40) none (j + 40) = some y
        rw [updH_ne _ _ (hiO j e)]
        exact h
    obtain ⟨q, L⟩ := x
    obtain ⟨hq, hLq⟩ := hx
    dsimp only at hq hLq ⊢
    refine G_run tOk eok_m 3 (fun _ => none) (fun bs => rfl) (fun bs => ?_) (fun bs => ?_)
    · (repeat' apply And.intro) <;> (intros; first | exact trivial | exact rfl | omega | exact u8_lo _ | exact u8_hi _ | exact u8_in64 _ | exact u8_in63 _ | (simp only [inR, IntKind.bits]; omega) | (simp [inR, IntKind.bits]; done) | (simp [inR, IntKind.bits] at * <;> omega) | (simp_all; done) | (with_reducible assumption) | skip)
    refine G_ops tOk eok_m 7 (fun _ => none) rfl rfl rfl (fun bs => rfl) (fun bs => ?_) (fun bs => ?_)
    · (repeat' apply And.intro) <;> (intros; first | exact trivial | exact rfl | omega | exact u8_lo _ | exact u8_hi _ | exact u8_in64 _ | exact u8_in63 _ | (simp only [inR, IntKind.bits]; omega) | (simp [inR, IntKind.bits]; done) | (simp [inR, IntKind.bits] at * <;> omega) | (simp_all; done) | (with_reducible assumption) | skip)
    refine G_link 96 5 (x := (Lh2.getD i LK.tbh.dft).pv) (v := u) rfl hsp rfl ?_
    refine G_run tOk eok_m 60 (fun _ => none) (fun bs => rfl) (fun bs => ?_) (fun bs => ?_)
    · (repeat' apply And.intro) <;> (intros; first | exact trivial | exact rfl | omega | exact u8_lo _ | exact u8_hi _ | exact u8_in64 _ | exact u8_in63 _ | (simp only [inR, IntKind.bits]; omega) | (simp [inR, IntKind.bits]; done) | (simp [inR, IntKind.bits] at * <;> omega) | (simp_all; done) | (with_reducible assumption) | skip)
    refine G_if rfl rfl (fun hk9 => ?_) (fun hk9 => ?_)
    · have hqL : q < L.length := by omega
      refine G_run tOk eok_m 4 (fun _ => none) (fun bs => rfl) (fun bs => ?_) (fun bs => ?_)
      · (repeat' apply And.intro) <;> (intros; first | exact trivial | exact rfl | omega | exact u8_lo _ | exact u8_hi _ | exact u8_in64 _ | exact u8_in63 _ | (simp only [inR, IntKind.bits]; omega) | (simp [inR, IntKind.bits]; done) | (simp [inR, IntKind.bits] at * <;> omega) | (simp_all; done) | (with_reducible assumption) | skip)
      refine G_ops tOk eok_m 6 (fun _ => none) rfl rfl rfl (fun bs => rfl) (fun bs => ?_) (fun bs => ?_)
      · (repeat' apply And.intro) <;> (intros; first | exact trivial | exact rfl | omega | exact u8_lo _ | exact u8_hi _ | exact u8_in64 _ | exact u8_in63 _ | (simp only [inR, IntKind.bits]; omega) | (simp [inR, IntKind.bits]; done) | (simp [inR, IntKind.bits] at * <;> omega) | (simp_all; done) | (with_reducible assumption) | skip)
      refine G_link 106 5 (x := (Lh2.getD i LK.tbh.dft).pv) (v := u) rfl hsp rfl ?_
      refine G_run tOk eok_m 60 (fun _ => none) (fun bs => rfl) (fun bs => ?_) (fun bs => ?_)
      · (repeat' apply And.intro) <;> (intros; first | exact trivial | exact rfl | omega | exact u8_lo _ | exact u8_hi _ | exact u8_in64 _ | exact u8_in63 _ | (simp only [inR, IntKind.bits]; omega) | (simp [inR, IntKind.bits]; done) | (simp [inR, IntKind.bits] at * <;> omega) | (simp_all; done) | (with_reducible assumption) | skip)
      refine G_lpF [0, 1, 2, 3, 4, 5] (fun i => i + 40) (q + 1, ?Ls) ⟨⟨by omega, ?okls⟩, by simp only; omega⟩ ⟨?wksc, fun i y h => h, fun i y h => rfl, fun i j y z _ _ e => ?injsc⟩
      case wksc => (repeat' apply And.intro) <;> (first | exact rfl | exact trivial | omega | refine sigEq ?_ | skip)
      case okls => simp [hLq]
      case injsc => omega
    · refine G_run tOk eok_m 60 (fun _ => none) (fun bs => rfl) (fun bs => ?_) (fun bs => ?_)
      · (repeat' apply And.intro) <;> (intros; first | exact trivial | exact rfl | omega | exact u8_lo _ | exact u8_hi _ | exact u8_in64 _ | exact u8_in63 _ | (simp only [inR, IntKind.bits]; omega) | (simp [inR, IntKind.bits]; done) | (simp [inR, IntKind.bits] at * <;> omega) | (simp_all; done) | (with_reducible assumption) | skip)
      refine G_lpF [0, 1, 2, 3, 4] (fun j => if j = i then 5 else j + 40) (i + 1, fun j => if j = i then L else c j) ⟨⟨by omega, fun j => ?oksd⟩, by simp only; omega⟩ ⟨?wksd, fun j y h => ?famsd, fun j y h => ?dissd, fun j j' y z _ _ e => ?injsd⟩
      case wksd => (repeat' apply And.intro) <;> (first | exact rfl | exact trivial | omega | refine sigEq ?_ | skip)
      case oksd =>
        dsimp only
        split
        · rw [hLq]; exact hci
        · exact hcl j
      case dissd =>
        by_cases e : j = i
        · simp only [if_pos e]; rfl
        · simp only [if_neg e]; rfl
      case injsd =>
        by_cases e1 : j = i <;> by_cases e2 : j' = i <;> simp only [e1, e2, if_true, if_false] at e ⊢ <;> omega
      case famsd =>
        by_cases e : j = i
        · subst e
          rw [leafT_at hu] at h
          simp only [if_true] at h ⊢
          exact h
        · simp only [if_neg e]
          have h2 : leafT c Lh2 j = some y := by
            rw [← h]; unfold leafT; split <;> simp [e]
          show (if j = i then none else leafT c Lh2 j) = some y
          rw [if_neg e]; exact h2
  refine G_env env_fapart rfl rfl rfl ?_
  refine G_wk (ns := [0, 1, 2]) (fs := [(1, .c (.ptr 0 b 0)), (3, .c (.ptr 1 c0 0)), (4, .c (.ptr 2 d 0))]) (hs := [.blk b 31 [.pv (i64 m0), .pv (i64 m1), .pv (.val (.string ⟨⟨m2⟩⟩)), .pv (.lst .tbl m3), .pv (.lst .sht m4), .pv (.lst .bms m5), .pv (.lst (.ints .i64) m6)], .blk c0 31 [.pv (i64 m0), .pv (i64 m1), .pv (.val (.string ⟨⟨m2⟩⟩)), .pv (.lst .tbl m3), .pv (.lst .sht m4), .pv (.lst .bms m5), .pv (.lst (.ints .i64) m6)], .blk d 31 [.pv (i64 m0), .pv (i64 m1), .pv (.val (.string ⟨⟨m2⟩⟩)), .pv (.lst .tbl t'), .pv (.lst .sht (m4 ++ [⟨om, m1, m3⟩])), .pv (.lst .bms m5), .pv (.lst (.ints .i64) m6)]]) rfl ?wkC ?_
  case wkC => (repeat' apply And.intro) <;> (first | exact rfl | exact trivial | omega | refine sigEq ?_ | skip)
  obtain ⟨hbt, hbe⟩ := sb_om (m := ⟨m0, m1, m2, m3, m4, m5, m6⟩) m1 t' hS0
  simp only at hbt hbe
  have hokA : MtaOk ⟨m0, m1, m2, t', (m4 ++ [⟨om, m1, m3⟩]), m5, m6⟩ := ⟨hT', hShO, hok.mp, hok.ct⟩
  refine G_run tOk eok_fapart 60 (fun _ => some true) (fun bs => rfl) (fun bs => ?_) (fun bs => ?_)
  · (repeat' apply And.intro) <;> (intros; first | exact trivial | exact rfl | omega | exact u8_lo _ | exact u8_hi _ | exact u8_in64 _ | exact u8_in63 _ | (simp only [inR, IntKind.bits]; omega) | (simp [inR, IntKind.bits]; done) | (simp [inR, IntKind.bits] at * <;> omega) | (simp_all; done) | (with_reducible assumption) | skip)
  refine G_ret tOk hM0 rfl rfl ⟨trivial, trivial⟩ ?_
  conv => whnf
  simp [hbt, hbe]
def fapart_s : FSpec
  | [.g [.pv (.val (.int .i64 m0)), .pv (.val (.int .i64 m1)), .pv (.val (.string ⟨⟨m2⟩⟩)), .pv (.lst .tbl m3), .pv (.lst .sht m4), .pv (.lst .bms m5), .pv (.lst (.ints .i64) m6)]] => some ((MtaIn ⟨m0, m1, m2, m3, m4, m5, m6⟩), false, .x (.c (bv true)))
  | _ => none
theorem fapart_s_ok : SpecOk Try.prog 8 fapart_s := by
  intro args pre sh rv h hp; unfold fapart_s at h; split at h
  · cases h; have hI := hp; exact fapart_fn _ _ _ _ _ _ _ hI
  · cases h
def psi_fapart : FuncId → Option FSpec := psiCons 8 fapart_s Tt.psi_trright2
theorem psi_fapart_ok : PsiFn Try.prog psi_fapart := psiCons_ok fapart_s_ok Tt.psi_trright2_ok
end Go.Proofs.Ytgobmfkffhomaaa
