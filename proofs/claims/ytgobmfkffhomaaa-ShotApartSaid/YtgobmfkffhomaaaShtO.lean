import Derived.Test.YtgobmfkffhomaaaShtN
set_option linter.unusedSimpArgs false
set_option linter.unusedVariables false
set_option maxHeartbeats 1600000
namespace Go.Proofs.Ytgobmfkffhomaaa
open Go.Mt

def env_mcopyH : Env := ⟨T, Th.psi_rcopy, pspNil, psc_del, 44, [], none, false⟩
theorem eok_mcopyH : PsiOk Try.prog env_mcopyH := ⟨Th.psi_rcopy_ok, pspNil_ok, psc_del_ok⟩
theorem mcopyH (cl sz : Int) (bk : List UInt8) (t : List (List Entry)) (S : List Shot) (M : List Bitmap) (C : List Int) (ht : TlOk t) (hS : ShOk S) (hM : BmOk M) (hC : C.length ≤ 1000000) : CtrH (X := Value × Value × Value) Try.prog 21 [.g [.pv (i64 cl), .pv (i64 sz), .pv (.val (.string ⟨⟨bk⟩⟩)), .pv (.lst .tbl t), .pv (.lst .sht S), .pv (.lst .bms M), .pv (.lst (.ints .i64) C)]] [] (fun _ => True) (fun x => .g [.pv (i64 cl), .pv (i64 sz), .pv (.val (.string ⟨⟨bk⟩⟩)), .pv (.lst .tbl t), .own 0 x.1, .own 1 x.2.1, .own 2 x.2.2]) (fun x => [.own x.1 40 .sht S, .own x.2.1 51 .bms M, .own x.2.2 3 (.ints .i64) C]) := by
  refine CtrH_intro (E := env_mcopyH) Try.func21 rfl (by decide) rfl rfl (fun M0 W hM0 => ?_)
  have hSl := hS.len
  have hMl := hM.len
  obtain ⟨ht9, ht9f⟩ := ht.nine
  refine G_run tOk eok_mcopyH 60 (fun _ => none) (fun bs => rfl) (fun bs => ?_) (fun bs => ?_)
  · (repeat' apply And.intro) <;> (intros; first | exact trivial | exact rfl | omega | exact u8_lo _ | exact u8_hi _ | exact u8_in64 _ | exact u8_in63 _ | (simp only [inR, IntKind.bits]; omega) | (simp [inR, IntKind.bits]; done) | (simp [inR, IntKind.bits] at * <;> omega) | (simp_all; done) | (with_reducible assumption) | skip)
  refine G_ownB 2 4 40 rfl rfl ?_
  refine G_wkB3 (ns := [0, 1, 2, 3]) (fs := fun b c d => [(1, .c (.ptr 0 b 0)), (2, .c (.ptr 1 c 0)), (3, .c (.ptr 2 d 0)), (4, int .i64 0)]) (hs := fun b c d => [.blk b 31 [.pv (i64 cl), .pv (i64 sz), .pv (.val (.string ⟨⟨bk⟩⟩)), .pv (.lst .tbl t), .pv (.lst .sht S), .pv (.lst .bms M), .pv (.lst (.ints .i64) C)], .blk c 31 mZ, .blk d 31 [.pv (i64 cl), .pv (i64 sz), .pv (.val (.string ⟨⟨bk⟩⟩)), .pv (.lst .tbl t), .own 3 (.slice none 0 0), .pv (.lst .bms M), .pv (.lst (.ints .i64) C)], .own (.slice none 0 0) 40 .sht []]) ?b1 ?c1 ?d1 rfl ?wk0 (fun b c d => ?_)
  case wk0 => (repeat' apply And.intro) <;> (first | exact rfl | exact trivial | omega | refine sigEq ?_ | skip)
  refine G_loop (fun x : Nat × Value => [(1, .c (.ptr 0 b 0)), (2, .c (.ptr 1 c 0)), (3, .c (.ptr 2 d 0)), (4, int .i64 x.1)]) (fun x => [.blk b 31 [.pv (i64 cl), .pv (i64 sz), .pv (.val (.string ⟨⟨bk⟩⟩)), .pv (.lst .tbl t), .pv (.lst .sht S), .pv (.lst .bms M), .pv (.lst (.ints .i64) C)], .blk c 31 mZ, .blk d 31 [.pv (i64 cl), .pv (i64 sz), .pv (.val (.string ⟨⟨bk⟩⟩)), .pv (.lst .tbl t), .own 3 x.2, .pv (.lst .bms M), .pv (.lst (.ints .i64) C)], .own x.2 40 .sht (S.take x.1)]) (fun x => x.1 ≤ S.length) (fun x => S.length - x.1) rfl [0, 1, 2, 3] (0, .slice none 0 0) (Nat.zero_le _) ?wk (fun x hx => ?_)
  case wk => (repeat' apply And.intro) <;> (first | exact rfl | exact trivial | omega | refine sigEq ?_ | skip)
  obtain ⟨i, V⟩ := x
  dsimp only at hx ⊢
  refine G_run tOk eok_mcopyH 60 (fun _ => none) (fun bs => rfl) (fun bs => ?_) (fun bs => ?_)
  · (repeat' apply And.intro) <;> (intros; first | exact trivial | exact rfl | omega | exact u8_lo _ | exact u8_hi _ | exact u8_in64 _ | exact u8_in63 _ | (simp only [inR, IntKind.bits]; omega) | (simp [inR, IntKind.bits]; done) | (simp [inR, IntKind.bits] at * <;> omega) | (simp_all; done) | (with_reducible assumption) | skip)
  refine G_if rfl rfl (fun hk => ?_) (fun hk => ?_)
  · have hk' : i < S.length := by omega
    obtain ⟨hq1, hq2⟩ := (hS.get i).nine
    have hq1' : (S.getD (i : Int).toNat LK.sht.dft).t.length ≤ 1000000000 := hq1
    have hq2' : ∀ q, (Tt.leaf (S.getD (i : Int).toNat LK.sht.dft).t q).length ≤ 1000000000 := hq2
    refine G_run tOk eok_mcopyH 60 (fun _ => none) (fun bs => rfl) (fun bs => ?_) (fun bs => ?_)
    · (repeat' apply And.intro) <;> (intros; first | exact trivial | exact rfl | omega | exact u8_lo _ | exact u8_hi _ | exact u8_in64 _ | exact u8_in63 _ | (simp only [inR, IntKind.bits]; omega) | (simp [inR, IntKind.bits]; done) | (simp [inR, IntKind.bits] at * <;> omega) | (simp_all; done) | (with_reducible assumption) | skip)
    refine G_lp [0, 1, 2, 6] (i + 1, ?v1) ?ok1 ?wk1
    case ok1 => exact ⟨hk', by simp only; omega⟩
    case wk1 =>
      (repeat' apply And.intro) <;> (first | exact rfl | exact trivial | omega | refine sigEq ?_ | skip)
      all_goals first | exact take_app S LK.sht.dft hk' | skip
  · have hk' : i = S.length := by omega
    subst hk'
    rw [List.take_length]
    refine G_run tOk eok_mcopyH 60 (fun _ => none) (fun bs => rfl) (fun bs => ?_) (fun bs => ?_)
    · (repeat' apply And.intro) <;> (intros; first | exact trivial | exact rfl | omega | exact u8_lo _ | exact u8_hi _ | exact u8_in64 _ | exact u8_in63 _ | (simp only [inR, IntKind.bits]; omega) | (simp [inR, IntKind.bits]; done) | (simp [inR, IntKind.bits] at * <;> omega) | (simp_all; done) | (with_reducible assumption) | skip)
    refine G_retH rfl tOk rfl rfl ⟨rfl, trivial⟩ (_, _, _) trivial [3, 4, 6] (fun n => match n with | 3 => 0 | 4 => 1 | _ => 2) rfl (by decide) rfl

def env_rshotF : Env := ⟨T, Th.psi_rcopy, pspNil, psc_del, 8, [], none, true⟩
theorem eok_rshotF : PsiOk Try.prog env_rshotF := ⟨Th.psi_rcopy_ok, pspNil_ok, psc_del_ok⟩
theorem rshotF_fn (m0 : Int) (m1 : Int) (m2 : List UInt8) (m3 : List (List Entry)) (m4 : List Shot) (m5 : List Bitmap) (m6 : List Int) (nm : List UInt8) (hl : m4.length ≤ 1000000) : Ctr Try.prog 25 false [.g [.pv (.val (.int .i64 m0)), .pv (.val (.int .i64 m1)), .pv (.val (.string ⟨⟨m2⟩⟩)), .pv (.lst .tbl m3), .pv (.lst .sht m4), .pv (.lst .bms m5), .pv (.lst (.ints .i64) m6)], str nm] (.x (.c (i64 (spl m4 nm)))) := by
  refine Ctr_intro (E := env_rshotF) Try.func25 rfl (by decide) rfl rfl (fun M0 W hM0 => ?_)
  refine G_run tOk eok_rshotF 60 (fun _ => none) (fun bs => rfl) (fun bs => ?_) (fun bs => ?_)
  · (repeat' apply And.intro) <;> (intros; first | exact trivial | exact rfl | omega | exact u8_lo _ | exact u8_hi _ | exact u8_in64 _ | exact u8_in63 _ | (simp only [inR, IntKind.bits]; omega) | (simp [inR, IntKind.bits]; done) | (simp [inR, IntKind.bits] at * <;> omega) | (simp_all; done) | (with_reducible assumption) | skip)
  exact G_ret tOk hM0 rfl rfl ⟨trivial, trivial⟩ ⟨rfl, rfl⟩

def rshotF_s : FSpec
  | [.g [.pv (.val (.int .i64 m0)), .pv (.val (.int .i64 m1)), .pv (.val (.string ⟨⟨m2⟩⟩)), .pv (.lst .tbl m3), .pv (.lst .sht m4), .pv (.lst .bms m5), .pv (.lst (.ints .i64) m6)], .c (.pv (.val (.string ⟨⟨nm⟩⟩)))] => some ((m4.length ≤ 1000000), false, .x (.c (i64 (spl m4 nm))))
  | _ => none
theorem rshotF_s_ok : SpecOk Try.prog 25 rshotF_s := by
  intro args pre sh rv h hp; unfold rshotF_s at h; split at h
  · cases h; have hl := hp; exact rshotF_fn _ _ _ _ _ _ _ _ hl
  · cases h
def psi_rshotF : FuncId → Option FSpec := psiCons 25 rshotF_s Th.psi_rcopy
theorem psi_rshotF_ok : PsiFn Try.prog psi_rshotF := psiCons_ok rshotF_s_ok Th.psi_rcopy_ok
def env_raddshot : Env := ⟨T, psi_rshotF, pspNil, psc_del, 36, [], none, true⟩
theorem eok_raddshot : PsiOk Try.prog env_raddshot := ⟨psi_rshotF_ok, pspNil_ok, psc_del_ok⟩
theorem raddshot_fn (m0 : Int) (m1 : Int) (m2 : List UInt8) (m3 : List (List Entry)) (m4 : List Shot) (m5 : List Bitmap) (m6 : List Int) (nm : List UInt8) (hm : MtaOk ⟨m0, m1, m2, m3, m4, m5, m6⟩) (hn : nm.length ≤ 1000000000) : Ctr Try.prog 22 true [.g [.pv (.val (.int .i64 m0)), .pv (.val (.int .i64 m1)), .pv (.val (.string ⟨⟨m2⟩⟩)), .pv (.lst .tbl m3), .pv (.lst .sht m4), .pv (.lst .bms m5), .pv (.lst (.ints .i64) m6)], str nm] (.t [.g (saM ⟨m0, m1, m2, m3, m4, m5, m6⟩ nm).pvs, .c (i64 (saE ⟨m0, m1, m2, m3, m4, m5, m6⟩ nm))]) := by
  refine Ctr_intro (E := env_raddshot) Try.func22 rfl (by decide) rfl rfl (fun M0 W hM0 => ?_)
  obtain ⟨ht, hS, hM, hC⟩ := hm
  have hSl := hS.len
  have hMl := hM.len
  simp only at ht hS hM hC hSl hMl
  obtain ⟨ht9, ht9f⟩ := ht.nine
  generalize hmm : (⟨m0, m1, m2, m3, m4, m5, m6⟩ : Mta) = mm
  have h4 : mm.sh = m4 := by rw [← hmm]
  refine G_run tOk eok_raddshot 60 (fun _ => none) (fun bs => rfl) (fun bs => ?_) (fun bs => ?_)
  · (repeat' apply And.intro) <;> (intros; first | exact trivial | exact rfl | omega | exact u8_lo _ | exact u8_hi _ | exact u8_in64 _ | exact u8_in63 _ | (simp only [inR, IntKind.bits]; omega) | (simp [inR, IntKind.bits]; done) | (simp [inR, IntKind.bits] at * <;> omega) | (simp_all; done) | (with_reducible assumption) | skip)
  refine G_cond (b := !nameB nm) rfl rfl (fun h => ?_) (fun h => ?_)
  · have e : saE mm nm = 1 := by simp only [saE, (by simpa using h : nameB nm = false)]
    have e2 : saM mm nm = Mta.z := by simp only [saM, e]; rfl
    rw [e, e2]
    refine G_run tOk eok_raddshot 60 (fun _ => none) (fun bs => rfl) (fun bs => ?_) (fun bs => ?_)
    · (repeat' apply And.intro) <;> (intros; first | exact trivial | exact rfl | omega | exact u8_lo _ | exact u8_hi _ | exact u8_in64 _ | exact u8_in63 _ | (simp only [inR, IntKind.bits]; omega) | (simp [inR, IntKind.bits]; done) | (simp [inR, IntKind.bits] at * <;> omega) | (simp_all; done) | (with_reducible assumption) | skip)
    exact G_ret tOk hM0 rfl rfl ⟨rfl, trivial, trivial⟩ ⟨⟨⟨rfl, rfl⟩, ⟨rfl, rfl⟩, rfl, ⟨rfl, rfl⟩, ⟨rfl, rfl⟩, ⟨rfl, rfl⟩, ⟨rfl, rfl⟩, trivial⟩, ⟨rfl, rfl⟩, trivial⟩
  have h1 : nameB nm = true := by simpa using h
  refine G_run tOk eok_raddshot 60 (fun _ => none) (fun bs => rfl) (fun bs => ?_) (fun bs => ?_)
  · (repeat' apply And.intro) <;> (intros; first | exact trivial | exact rfl | omega | exact u8_lo _ | exact u8_hi _ | exact u8_in64 _ | exact u8_in63 _ | (simp only [inR, IntKind.bits]; omega) | (simp [inR, IntKind.bits]; done) | (simp [inR, IntKind.bits] at * <;> omega) | (simp_all; done) | (with_reducible assumption) | skip)
  refine G_cond (b := decide (0 ≤ spl m4 nm)) rfl rfl (fun h2 => ?_) (fun h2 => ?_)
  · have e : saE mm nm = 5 := by simp only [saE, h1, h4, h2]
    have e2 : saM mm nm = Mta.z := by simp only [saM, e]; rfl
    rw [e, e2]
    refine G_run tOk eok_raddshot 60 (fun _ => none) (fun bs => rfl) (fun bs => ?_) (fun bs => ?_)
    · (repeat' apply And.intro) <;> (intros; first | exact trivial | exact rfl | omega | exact u8_lo _ | exact u8_hi _ | exact u8_in64 _ | exact u8_in63 _ | (simp only [inR, IntKind.bits]; omega) | (simp [inR, IntKind.bits]; done) | (simp [inR, IntKind.bits] at * <;> omega) | (simp_all; done) | (with_reducible assumption) | skip)
    exact G_ret tOk hM0 rfl rfl ⟨rfl, trivial, trivial⟩ ⟨⟨⟨rfl, rfl⟩, ⟨rfl, rfl⟩, rfl, ⟨rfl, rfl⟩, ⟨rfl, rfl⟩, ⟨rfl, rfl⟩, ⟨rfl, rfl⟩, trivial⟩, ⟨rfl, rfl⟩, trivial⟩
  refine G_run tOk eok_raddshot 60 (fun _ => none) (fun bs => rfl) (fun bs => ?_) (fun bs => ?_)
  · (repeat' apply And.intro) <;> (intros; first | exact trivial | exact rfl | omega | exact u8_lo _ | exact u8_hi _ | exact u8_in64 _ | exact u8_in63 _ | (simp only [inR, IntKind.bits]; omega) | (simp [inR, IntKind.bits]; done) | (simp [inR, IntKind.bits] at * <;> omega) | (simp_all; done) | (with_reducible assumption) | skip)
  refine G_cond (b := decide (8 ≤ (m4.length : Int))) rfl rfl (fun h3 => ?_) (fun h3 => ?_)
  · have e : saE mm nm = 9 := by simp only [saE, h1, h4, h2, h3]
    have e2 : saM mm nm = Mta.z := by simp only [saM, e]; rfl
    rw [e, e2]
    refine G_run tOk eok_raddshot 60 (fun _ => none) (fun bs => rfl) (fun bs => ?_) (fun bs => ?_)
    · (repeat' apply And.intro) <;> (intros; first | exact trivial | exact rfl | omega | exact u8_lo _ | exact u8_hi _ | exact u8_in64 _ | exact u8_in63 _ | (simp only [inR, IntKind.bits]; omega) | (simp [inR, IntKind.bits]; done) | (simp [inR, IntKind.bits] at * <;> omega) | (simp_all; done) | (with_reducible assumption) | skip)
    exact G_ret tOk hM0 rfl rfl ⟨rfl, trivial, trivial⟩ ⟨⟨⟨rfl, rfl⟩, ⟨rfl, rfl⟩, rfl, ⟨rfl, rfl⟩, ⟨rfl, rfl⟩, ⟨rfl, rfl⟩, ⟨rfl, rfl⟩, trivial⟩, ⟨rfl, rfl⟩, trivial⟩
  have e : saE mm nm = 0 := by simp only [saE, h1, h4, h2, h3]
  have e2 : saM mm nm = ⟨m0, m1, m2, m3, m4 ++ [⟨nm, m1, m3⟩], m5, m6⟩ := by subst hmm; simp only [saM, e]; rfl
  rw [e, e2]
  refine G_run tOk eok_raddshot 60 (fun _ => none) (fun bs => rfl) (fun bs => ?_) (fun bs => ?_)
  · (repeat' apply And.intro) <;> (intros; first | exact trivial | exact rfl | omega | exact u8_lo _ | exact u8_hi _ | exact u8_in64 _ | exact u8_in63 _ | (simp only [inR, IntKind.bits]; omega) | (simp [inR, IntKind.bits]; done) | (simp [inR, IntKind.bits] at * <;> omega) | (simp_all; done) | (with_reducible assumption) | skip)
  refine G_nx 2 rfl ?_
  refine G_callH [] id (mcopyH m0 m1 m2 m3 m4 m5 m6 ht hS hM hC) rfl trivial rfl rfl rfl rfl (by decide) rfl rfl (fun x => rfl) (fun x _ => ?_)
  obtain ⟨v, u, w⟩ := x
  dsimp only
  refine G_run tOk eok_raddshot 60 (fun _ => none) (fun bs => rfl) (fun bs => ?_) (fun bs => ?_)
  · (repeat' apply And.intro) <;> (intros; first | exact trivial | exact rfl | omega | exact u8_lo _ | exact u8_hi _ | exact u8_in64 _ | exact u8_in63 _ | (simp only [inR, IntKind.bits]; omega) | (simp [inR, IntKind.bits]; done) | (simp [inR, IntKind.bits] at * <;> omega) | (simp_all; done) | (with_reducible assumption) | skip)
  refine G_nx 6 rfl ?_
  refine G_draw tOk eok_raddshot rfl (fun _ => none) 10 [0, 1, 0, 0, 8, 0, 32, 96, 252, 508, 1023, 2047, 4095] [(10, 2)] rfl (by decide +kernel) (fun bs => rfl) (fun bs => ?_) (fun bs => ?_)
  · (repeat' apply And.intro) <;> (intros; first | exact trivial | exact rfl | omega | exact u8_lo _ | exact u8_hi _ | exact u8_in64 _ | exact u8_in63 _ | (simp only [inR, IntKind.bits]; omega) | (simp [inR, IntKind.bits]; done) | (simp [inR, IntKind.bits] at * <;> omega) | (simp_all; done) | (with_reducible assumption) | skip)
  refine G_run tOk eok_raddshot 60 (fun _ => none) (fun bs => rfl) (fun bs => ?_) (fun bs => ?_)
  · (repeat' apply And.intro) <;> (intros; first | exact trivial | exact rfl | omega | exact u8_lo _ | exact u8_hi _ | exact u8_in64 _ | exact u8_in63 _ | (simp only [inR, IntKind.bits]; omega) | (simp [inR, IntKind.bits]; done) | (simp [inR, IntKind.bits] at * <;> omega) | (simp_all; done) | (with_reducible assumption) | skip)
  refine G_freezeC 1 4 16 rfl rfl rfl ?_
  refine G_freezeC 1 5 3 rfl rfl rfl ?_
  refine G_freezeC 1 6 4 rfl rfl rfl ?_
  exact G_ret tOk hM0 rfl rfl ⟨rfl, trivial, trivial⟩ ⟨⟨⟨rfl, rfl⟩, ⟨rfl, rfl⟩, rfl, rfl, rfl, rfl, rfl, trivial⟩, ⟨rfl, rfl⟩, trivial⟩

def raddshot_s : FSpec
  | [.g [.pv (.val (.int .i64 m0)), .pv (.val (.int .i64 m1)), .pv (.val (.string ⟨⟨m2⟩⟩)), .pv (.lst .tbl m3), .pv (.lst .sht m4), .pv (.lst .bms m5), .pv (.lst (.ints .i64) m6)], .c (.pv (.val (.string ⟨⟨nm⟩⟩)))] => some ((MtaOk ⟨m0, m1, m2, m3, m4, m5, m6⟩) ∧ (nm.length ≤ 1000000000), true, .t [.g (saM ⟨m0, m1, m2, m3, m4, m5, m6⟩ nm).pvs, .c (i64 (saE ⟨m0, m1, m2, m3, m4, m5, m6⟩ nm))])
  | _ => none
theorem raddshot_s_ok : SpecOk Try.prog 22 raddshot_s := by
  intro args pre sh rv h hp; unfold raddshot_s at h; split at h
  · cases h; obtain ⟨hm, hn⟩ := hp; exact raddshot_fn _ _ _ _ _ _ _ _ hm hn
  · cases h
def psi_raddshot : FuncId → Option FSpec := psiCons 22 raddshot_s psi_rshotF
theorem psi_raddshot_ok : PsiFn Try.prog psi_raddshot := psiCons_ok raddshot_s_ok psi_rshotF_ok
def psi_o : FuncId → Option FSpec := psiCons 21 mcopy_s psi_raddshot
theorem psi_o_ok : PsiFn Try.prog psi_o := psiCons_ok mcopy_s_ok psi_raddshot_ok

def env_rdropshot : Env := ⟨T, psi_o, pspNil, psc_del, 33, [], none, true⟩
theorem eok_rdropshot : PsiOk Try.prog env_rdropshot := ⟨psi_o_ok, pspNil_ok, psc_del_ok⟩
theorem rdropshot_fn (m0 : Int) (m1 : Int) (m2 : List UInt8) (m3 : List (List Entry)) (m4 : List Shot) (m5 : List Bitmap) (m6 : List Int) (nm : List UInt8) (hm : MtaOk ⟨m0, m1, m2, m3, m4, m5, m6⟩) : Ctr Try.prog 24 true [.g [.pv (.val (.int .i64 m0)), .pv (.val (.int .i64 m1)), .pv (.val (.string ⟨⟨m2⟩⟩)), .pv (.lst .tbl m3), .pv (.lst .sht m4), .pv (.lst .bms m5), .pv (.lst (.ints .i64) m6)], str nm] (.t [.g (sdM ⟨m0, m1, m2, m3, m4, m5, m6⟩ nm).pvs, .c (i64 (sdE ⟨m0, m1, m2, m3, m4, m5, m6⟩ nm))]) := by
  refine Ctr_intro (E := env_rdropshot) Try.func24 rfl (by decide) rfl rfl (fun M0 W hM0 => ?_)
  have hm' := hm
  obtain ⟨ht, hS, hM, hC⟩ := hm'
  have hSl := hS.len
  have hMl := hM.len
  simp only at ht hS hM hC hSl hMl
  have hp := spl_spec m4 nm
  refine G_run tOk eok_rdropshot 60 (fun _ => none) (fun bs => rfl) (fun bs => ?_) (fun bs => ?_)
  · (repeat' apply And.intro) <;> (intros; first | exact trivial | exact rfl | omega | exact u8_lo _ | exact u8_hi _ | exact u8_in64 _ | exact u8_in63 _ | (simp only [inR, IntKind.bits]; omega) | (simp [inR, IntKind.bits]; done) | (simp [inR, IntKind.bits] at * <;> omega) | (simp_all; done) | (with_reducible assumption) | skip)
  refine G_cond (b := decide (spl m4 nm < 0)) rfl rfl (fun h => ?_) (fun h => ?_)
  · have e : sdE ⟨m0, m1, m2, m3, m4, m5, m6⟩ nm = 4 := by simp only [sdE, h]
    have e2 : sdM ⟨m0, m1, m2, m3, m4, m5, m6⟩ nm = Mta.z := by simp only [sdM, h]
    rw [e, e2]
    refine G_run tOk eok_rdropshot 60 (fun _ => none) (fun bs => rfl) (fun bs => ?_) (fun bs => ?_)
    · (repeat' apply And.intro) <;> (intros; first | exact trivial | exact rfl | omega | exact u8_lo _ | exact u8_hi _ | exact u8_in64 _ | exact u8_in63 _ | (simp only [inR, IntKind.bits]; omega) | (simp [inR, IntKind.bits]; done) | (simp [inR, IntKind.bits] at * <;> omega) | (simp_all; done) | (with_reducible assumption) | skip)
    exact G_ret tOk hM0 rfl rfl ⟨rfl, trivial, trivial⟩ ⟨⟨⟨rfl, rfl⟩, ⟨rfl, rfl⟩, rfl, ⟨rfl, rfl⟩, ⟨rfl, rfl⟩, ⟨rfl, rfl⟩, ⟨rfl, rfl⟩, trivial⟩, ⟨rfl, rfl⟩, trivial⟩
  have h' : ¬ spl m4 nm < 0 := by simpa using h
  have e : sdE ⟨m0, m1, m2, m3, m4, m5, m6⟩ nm = 0 := by simp only [sdE, h]
  have e2 : sdM ⟨m0, m1, m2, m3, m4, m5, m6⟩ nm = ⟨m0, m1, m2, m3, m4.take (spl m4 nm).toNat ++ m4.drop (spl m4 nm + 1).toNat, m5, m6⟩ := by simp only [sdM, h]
  rw [e, e2]
  refine G_run tOk eok_rdropshot 60 (fun _ => none) (fun bs => rfl) (fun bs => ?_) (fun bs => ?_)
  · (repeat' apply And.intro) <;> (intros; first | exact trivial | exact rfl | omega | exact u8_lo _ | exact u8_hi _ | exact u8_in64 _ | exact u8_in63 _ | (simp only [inR, IntKind.bits]; omega) | (simp [inR, IntKind.bits]; done) | (simp [inR, IntKind.bits] at * <;> omega) | (simp_all; done) | (with_reducible assumption) | skip)
  refine G_freezeC 1 4 4 rfl rfl rfl ?_
  refine G_ret tOk hM0 rfl rfl ⟨rfl, trivial, trivial⟩ ⟨⟨⟨rfl, rfl⟩, ⟨rfl, rfl⟩, rfl, rfl, ?_, rfl, rfl, trivial⟩, ⟨rfl, rfl⟩, trivial⟩
  conv => whnf
  have e1 : m4.take ((m4.length : Int).toNat) = m4 := by rw [Int.toNat_natCast, List.take_length]
  simp only [e1, List.nil_append]
  rfl

/-! ### the same -/
def rdropshot_s : FSpec
  | [.g [.pv (.val (.int .i64 m0)), .pv (.val (.int .i64 m1)), .pv (.val (.string ⟨⟨m2⟩⟩)), .pv (.lst .tbl m3), .pv (.lst .sht m4), .pv (.lst .bms m5), .pv (.lst (.ints .i64) m6)], .c (.pv (.val (.string ⟨⟨nm⟩⟩)))] => some ((MtaOk ⟨m0, m1, m2, m3, m4, m5, m6⟩), true, .t [.g (sdM ⟨m0, m1, m2, m3, m4, m5, m6⟩ nm).pvs, .c (i64 (sdE ⟨m0, m1, m2, m3, m4, m5, m6⟩ nm))])
  | _ => none
theorem rdropshot_s_ok : SpecOk Try.prog 24 rdropshot_s := by
  intro args pre sh rv h hp; unfold rdropshot_s at h; split at h
  · cases h; have hm := hp; exact rdropshot_fn _ _ _ _ _ _ _ _ hm
  · cases h
def psi_rdropshot : FuncId → Option FSpec := psiCons 24 rdropshot_s psi_o
theorem psi_rdropshot_ok : PsiFn Try.prog psi_rdropshot := psiCons_ok rdropshot_s_ok psi_o_ok
def env_rints : Env := ⟨T, psi_rdropshot, pspNil, psc_del, 26, [], none, true⟩
theorem eok_rints : PsiOk Try.prog env_rints := ⟨psi_rdropshot_ok, pspNil_ok, psc_del_ok⟩
theorem rints_fn (a : List Int) (b : List Int) (ha : a.length ≤ 1000000) (hb : b.length ≤ 1000000) : Ctr Try.prog 45 false [lst (.ints .i64) a, lst (.ints .i64) b] (.x (.c (bv (decide (a = b))))) := by
  refine Ctr_intro (E := env_rints) Try.func45 rfl (by decide) rfl rfl (fun M0 W hM0 => ?_)
  refine G_run tOk eok_rints 60 (fun _ => none) (fun bs => rfl) (fun bs => ?_) (fun bs => ?_)
  · (repeat' apply And.intro) <;> (intros; first | exact trivial | exact rfl | omega | exact u8_lo _ | exact u8_hi _ | exact u8_in64 _ | exact u8_in63 _ | (simp only [inR, IntKind.bits]; omega) | (simp [inR, IntKind.bits]; done) | (simp [inR, IntKind.bits] at * <;> omega) | (simp_all; done) | (with_reducible assumption) | skip)
  refine G_cond rfl rfl (fun h => ?_) (fun h => ?_)
  · refine G_run tOk eok_rints 60 (fun _ => none) (fun bs => rfl) (fun bs => ?_) (fun bs => ?_)
    · (repeat' apply And.intro) <;> (intros; first | exact trivial | exact rfl | omega | exact u8_lo _ | exact u8_hi _ | exact u8_in64 _ | exact u8_in63 _ | (simp only [inR, IntKind.bits]; omega) | (simp [inR, IntKind.bits]; done) | (simp [inR, IntKind.bits] at * <;> omega) | (simp_all; done) | (with_reducible assumption) | skip)
    have hd : decide (a = b) = false := by simp; intro e; subst e; simp at h
    exact G_ret tOk hM0 rfl rfl ⟨trivial, trivial⟩ hd.symm
  have hlm : a.length = b.length := by simp at h; omega
  refine G_run tOk eok_rints 60 (fun _ => none) (fun bs => rfl) (fun bs => ?_) (fun bs => ?_)
  · (repeat' apply And.intro) <;> (intros; first | exact trivial | exact rfl | omega | exact u8_lo _ | exact u8_hi _ | exact u8_in64 _ | exact u8_in63 _ | (simp only [inR, IntKind.bits]; omega) | (simp [inR, IntKind.bits]; done) | (simp [inR, IntKind.bits] at * <;> omega) | (simp_all; done) | (with_reducible assumption) | skip)
  refine G_loop (fun x : Nat => [(0, lst (.ints .i64) a), (1, lst (.ints .i64) b), (5, int .i64 x)]) (fun x => []) (fun x => x ≤ a.length ∧ a.take x = b.take x) (fun x => a.length - x) rfl [] 0 ⟨Nat.zero_le _, rfl⟩ ?wk (fun x hx => ?_)
  case wk => (repeat' apply And.intro) <;> (first | exact rfl | exact trivial | omega | refine sigEq ?_ | skip)
  obtain ⟨hx, hr⟩ := hx
  refine G_run tOk eok_rints 60 (fun _ => none) (fun bs => rfl) (fun bs => ?_) (fun bs => ?_)
  · (repeat' apply And.intro) <;> (intros; first | exact trivial | exact rfl | omega | exact u8_lo _ | exact u8_hi _ | exact u8_in64 _ | exact u8_in63 _ | (simp only [inR, IntKind.bits]; omega) | (simp [inR, IntKind.bits]; done) | (simp [inR, IntKind.bits] at * <;> omega) | (simp_all; done) | (with_reducible assumption) | skip)
  refine G_if rfl rfl (fun hk => ?_) (fun hk => ?_)
  · have hk' : x < a.length := by omega
    have ht := take_eq (0 : Int) hr hk' (by omega)
    refine G_run tOk eok_rints 60 (fun _ => none) (fun bs => rfl) (fun bs => ?_) (fun bs => ?_)
    · (repeat' apply And.intro) <;> (intros; first | exact trivial | exact rfl | omega | exact u8_lo _ | exact u8_hi _ | exact u8_in64 _ | exact u8_in63 _ | (simp only [inR, IntKind.bits]; omega) | (simp [inR, IntKind.bits]; done) | (simp [inR, IntKind.bits] at * <;> omega) | (simp_all; done) | (with_reducible assumption) | skip)
    refine G_draw tOk eok_rints rfl (fun _ => none) 8 [0, 0, 3, 7, 0, 0, 48, 112, 255] [] rfl (by decide +kernel) (fun bs => rfl) (fun bs => ?_) (fun bs => ?_)
    · (repeat' apply And.intro) <;> (intros; first | exact trivial | exact rfl | omega | exact u8_lo _ | exact u8_hi _ | exact u8_in64 _ | exact u8_in63 _ | (simp only [inR, IntKind.bits]; omega) | (simp [inR, IntKind.bits]; done) | (simp [inR, IntKind.bits] at * <;> omega) | (simp_all; done) | (with_reducible assumption) | skip)
    refine G_run tOk eok_rints 60 (fun _ => none) (fun bs => rfl) (fun bs => by (repeat' apply And.intro) <;> (intros; first | exact trivial | exact rfl | omega | exact u8_lo _ | exact u8_hi _ | exact u8_in64 _ | exact u8_in63 _ | (simp only [inR, IntKind.bits]; omega) | (simp [inR, IntKind.bits]; done) | (simp [inR, IntKind.bits] at * <;> omega) | (simp_all; done) | (with_reducible assumption) | skip)) (fun bs => ?_)
    refine G_cond (b := !decide (a.getD x 0 = b.getD x 0)) rfl rfl (fun h => ?_) (fun h => ?_)
    · refine G_run tOk eok_rints 60 (fun _ => none) (fun bs => rfl) (fun bs => ?_) (fun bs => ?_)
      · (repeat' apply And.intro) <;> (intros; first | exact trivial | exact rfl | omega | exact u8_lo _ | exact u8_hi _ | exact u8_in64 _ | exact u8_in63 _ | (simp only [inR, IntKind.bits]; omega) | (simp [inR, IntKind.bits]; done) | (simp [inR, IntKind.bits] at * <;> omega) | (simp_all; done) | (with_reducible assumption) | skip)
      have hd : decide (a = b) = false := by
        simp only [decide_eq_false_iff_not]
        rintro rfl
        simp at h
      exact G_ret tOk hM0 rfl rfl ⟨trivial, trivial⟩ hd.symm
    · refine G_run tOk eok_rints 60 (fun _ => none) (fun bs => rfl) (fun bs => ?_) (fun bs => ?_)
      · (repeat' apply And.intro) <;> (intros; first | exact trivial | exact rfl | omega | exact u8_lo _ | exact u8_hi _ | exact u8_in64 _ | exact u8_in63 _ | (simp only [inR, IntKind.bits]; omega) | (simp [inR, IntKind.bits]; done) | (simp [inR, IntKind.bits] at * <;> omega) | (simp_all; done) | (with_reducible assumption) | skip)
      refine G_lp [] (x + 1) ?ok ?wk2
      case ok => exact ⟨⟨hk', ht.2 (by simpa using h)⟩, by omega⟩
      case wk2 => (repeat' apply And.intro) <;> (first | exact rfl | exact trivial | omega | refine sigEq ?_ | skip)
  · have hk' : x = a.length := by omega
    subst hk'
    refine G_run tOk eok_rints 60 (fun _ => none) (fun bs => rfl) (fun bs => ?_) (fun bs => ?_)
    · (repeat' apply And.intro) <;> (intros; first | exact trivial | exact rfl | omega | exact u8_lo _ | exact u8_hi _ | exact u8_in64 _ | exact u8_in63 _ | (simp only [inR, IntKind.bits]; omega) | (simp [inR, IntKind.bits]; done) | (simp [inR, IntKind.bits] at * <;> omega) | (simp_all; done) | (with_reducible assumption) | skip)
    have hd : decide (a = b) = true := by
      simp only [decide_eq_true_eq]
      rw [List.take_length, hlm, List.take_length] at hr; exact hr
    exact G_ret tOk hM0 rfl rfl ⟨trivial, trivial⟩ hd.symm
def rints_s : FSpec
  | [.c (.pv (.lst (.ints .i64) a)), .c (.pv (.lst (.ints .i64) b))] => some ((a.length ≤ 1000000) ∧ (b.length ≤ 1000000), false, .x (.c (bv (decide (a = b)))))
  | _ => none
theorem rints_s_ok : SpecOk Try.prog 45 rints_s := by
  intro args pre sh rv h hp; unfold rints_s at h; split at h
  · cases h; obtain ⟨ha, hb⟩ := hp; exact rints_fn _ _ ha hb
  · cases h
def psi_rints : FuncId → Option FSpec := psiCons 45 rints_s psi_rdropshot
theorem psi_rints_ok : PsiFn Try.prog psi_rints := psiCons_ok rints_s_ok psi_rdropshot_ok
end Go.Proofs.Ytgobmfkffhomaaa
