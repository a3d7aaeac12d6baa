import Derived.Test.YtgobmfkffhomaaaShtD2
set_option linter.unusedSimpArgs false
set_option linter.unusedVariables false
namespace Go.Proofs.Ytgobmfkffhomaaa
open Go.Mt

structure Mta where
  cl : Int
  sz : Int
  bk : List UInt8
  t : List (List Entry)
  sh : List Shot
  mp : List Bitmap
  ct : List Int
  deriving DecidableEq
abbrev Mta.pvs (m : Mta) : List PV := [i64 m.cl, i64 m.sz, .val (.string ⟨⟨m.bk⟩⟩), .lst .tbl m.t, .lst .sht m.sh, .lst .bms m.mp, .lst (.ints .i64) m.ct]
def Mta.z : Mta := ⟨0, 0, [], [], [], [], []⟩
structure MtaOk (m : Mta) : Prop where
  t : TlOk m.t
  sh : ShOk m.sh
  mp : BmOk m.mp
  ct : m.ct.length ≤ 1000000
theorem spl_spec (l : List Shot) (nm : List UInt8) : spl l nm < 0 ∨ (0 ≤ spl l nm ∧ (spl l nm).toNat < l.length) := by
  have := ixP_lt (isS nm) LK.sht.dft l l.length
  unfold spl
  by_cases h : ixP (isS nm) LK.sht.dft l l.length < 0
  · exact .inl h
  · exact .inr ⟨by omega, by have := this.2.2 (by omega); omega⟩

/-! ### one more -/
def saE (m : Mta) (nm : List UInt8) : Int := match nameB nm with
  | false => 1
  | true => match decide (0 ≤ spl m.sh nm) with
    | true => 5
    | false => match decide (8 ≤ (m.sh.length : Int)) with
      | true => 9
      | false => 0
def saM (m : Mta) (nm : List UInt8) : Mta := match decide (saE m nm = 0) with
  | true => ⟨m.cl, m.sz, m.bk, m.t, m.sh ++ [⟨nm, m.sz, m.t⟩], m.mp, m.ct⟩
  | false => Mta.z

def env_sadd2 : Env := ⟨T, psi_splace, pspNil, psc_del, 38, [], none, true⟩
theorem eok_sadd2 : PsiOk Try.prog env_sadd2 := ⟨psi_splace_ok, pspNil_ok, psc_del_ok⟩
theorem sadd2_fn (m0 : Int) (m1 : Int) (m2 : List UInt8) (m3 : List (List Entry)) (m4 : List Shot) (m5 : List Bitmap) (m6 : List Int) (nm : List UInt8) (hm : MtaOk ⟨m0, m1, m2, m3, m4, m5, m6⟩) (hn : nm.length ≤ 1000000000) : Ctr Try.prog 12 true [.g [.pv (.val (.int .i64 m0)), .pv (.val (.int .i64 m1)), .pv (.val (.string ⟨⟨m2⟩⟩)), .pv (.lst .tbl m3), .pv (.lst .sht m4), .pv (.lst .bms m5), .pv (.lst (.ints .i64) m6)], str nm] (.t [.g (saM ⟨m0, m1, m2, m3, m4, m5, m6⟩ nm).pvs, .c (i64 (saE ⟨m0, m1, m2, m3, m4, m5, m6⟩ nm))]) := by
  refine Ctr_intro (E := env_sadd2) Try.func12 rfl (by decide) rfl rfl (fun M0 W hM0 => ?_)
  obtain ⟨ht, hS, hM, hC⟩ := hm
  have hSl := hS.len
  have hMl := hM.len
  simp only at ht hS hM hC hSl hMl
  generalize hmm : (⟨m0, m1, m2, m3, m4, m5, m6⟩ : Mta) = mm
  have h4 : mm.sh = m4 := by rw [← hmm]
  refine G_run tOk eok_sadd2 60 (fun _ => none) (fun bs => rfl) (fun bs => ?_) (fun bs => ?_)
  · (repeat' apply And.intro) <;> (intros; first | exact trivial | exact rfl | omega | exact u8_lo _ | exact u8_hi _ | exact u8_in64 _ | exact u8_in63 _ | (simp only [inR, IntKind.bits]; omega) | (simp [inR, IntKind.bits]; done) | (simp [inR, IntKind.bits] at * <;> omega) | (simp_all; done) | (with_reducible assumption) | skip)
  refine G_cond (b := !nameB nm) rfl rfl (fun h => ?_) (fun h => ?_)
  · have e : saE mm nm = 1 := by simp only [saE, (by simpa using h : nameB nm = false)]
    have e2 : saM mm nm = Mta.z := by simp only [saM, e]; rfl
    rw [e, e2]
    refine G_run tOk eok_sadd2 60 (fun _ => none) (fun bs => rfl) (fun bs => ?_) (fun bs => ?_)
    · (repeat' apply And.intro) <;> (intros; first | exact trivial | exact rfl | omega | exact u8_lo _ | exact u8_hi _ | exact u8_in64 _ | exact u8_in63 _ | (simp only [inR, IntKind.bits]; omega) | (simp [inR, IntKind.bits]; done) | (simp [inR, IntKind.bits] at * <;> omega) | (simp_all; done) | (with_reducible assumption) | skip)
    exact G_ret tOk hM0 rfl rfl ⟨rfl, trivial, trivial⟩ ⟨⟨⟨rfl, rfl⟩, ⟨rfl, rfl⟩, rfl, ⟨rfl, rfl⟩, ⟨rfl, rfl⟩, ⟨rfl, rfl⟩, ⟨rfl, rfl⟩, trivial⟩, ⟨rfl, rfl⟩, trivial⟩
  have h1 : nameB nm = true := by simpa using h
  refine G_run tOk eok_sadd2 60 (fun _ => none) (fun bs => rfl) (fun bs => ?_) (fun bs => ?_)
  · (repeat' apply And.intro) <;> (intros; first | exact trivial | exact rfl | omega | exact u8_lo _ | exact u8_hi _ | exact u8_in64 _ | exact u8_in63 _ | (simp only [inR, IntKind.bits]; omega) | (simp [inR, IntKind.bits]; done) | (simp [inR, IntKind.bits] at * <;> omega) | (simp_all; done) | (with_reducible assumption) | skip)
  refine G_cond (b := decide (0 ≤ spl m4 nm)) rfl rfl (fun h2 => ?_) (fun h2 => ?_)
  · have e : saE mm nm = 5 := by simp only [saE, h1, h4, h2]
    have e2 : saM mm nm = Mta.z := by simp only [saM, e]; rfl
    rw [e, e2]
    refine G_run tOk eok_sadd2 60 (fun _ => none) (fun bs => rfl) (fun bs => ?_) (fun bs => ?_)
    · (repeat' apply And.intro) <;> (intros; first | exact trivial | exact rfl | omega | exact u8_lo _ | exact u8_hi _ | exact u8_in64 _ | exact u8_in63 _ | (simp only [inR, IntKind.bits]; omega) | (simp [inR, IntKind.bits]; done) | (simp [inR, IntKind.bits] at * <;> omega) | (simp_all; done) | (with_reducible assumption) | skip)
    exact G_ret tOk hM0 rfl rfl ⟨rfl, trivial, trivial⟩ ⟨⟨⟨rfl, rfl⟩, ⟨rfl, rfl⟩, rfl, ⟨rfl, rfl⟩, ⟨rfl, rfl⟩, ⟨rfl, rfl⟩, ⟨rfl, rfl⟩, trivial⟩, ⟨rfl, rfl⟩, trivial⟩
  refine G_run tOk eok_sadd2 60 (fun _ => none) (fun bs => rfl) (fun bs => ?_) (fun bs => ?_)
  · (repeat' apply And.intro) <;> (intros; first | exact trivial | exact rfl | omega | exact u8_lo _ | exact u8_hi _ | exact u8_in64 _ | exact u8_in63 _ | (simp only [inR, IntKind.bits]; omega) | (simp [inR, IntKind.bits]; done) | (simp [inR, IntKind.bits] at * <;> omega) | (simp_all; done) | (with_reducible assumption) | skip)
  refine G_cond (b := decide (8 ≤ (m4.length : Int))) rfl rfl (fun h3 => ?_) (fun h3 => ?_)
  · have e : saE mm nm = 9 := by simp only [saE, h1, h4, h2, h3]
    have e2 : saM mm nm = Mta.z := by simp only [saM, e]; rfl
    rw [e, e2]
    refine G_run tOk eok_sadd2 60 (fun _ => none) (fun bs => rfl) (fun bs => ?_) (fun bs => ?_)
    · (repeat' apply And.intro) <;> (intros; first | exact trivial | exact rfl | omega | exact u8_lo _ | exact u8_hi _ | exact u8_in64 _ | exact u8_in63 _ | (simp only [inR, IntKind.bits]; omega) | (simp [inR, IntKind.bits]; done) | (simp [inR, IntKind.bits] at * <;> omega) | (simp_all; done) | (with_reducible assumption) | skip)
    exact G_ret tOk hM0 rfl rfl ⟨rfl, trivial, trivial⟩ ⟨⟨⟨rfl, rfl⟩, ⟨rfl, rfl⟩, rfl, ⟨rfl, rfl⟩, ⟨rfl, rfl⟩, ⟨rfl, rfl⟩, ⟨rfl, rfl⟩, trivial⟩, ⟨rfl, rfl⟩, trivial⟩
  have e : saE mm nm = 0 := by simp only [saE, h1, h4, h2, h3]
  have e2 : saM mm nm = ⟨m0, m1, m2, m3, m4 ++ [⟨nm, m1, m3⟩], m5, m6⟩ := by subst hmm; simp only [saM, e]; rfl
  rw [e, e2]
  refine G_run tOk eok_sadd2 60 (fun _ => none) (fun bs => rfl) (fun bs => ?_) (fun bs => ?_)
  · (repeat' apply And.intro) <;> (intros; first | exact trivial | exact rfl | omega | exact u8_lo _ | exact u8_hi _ | exact u8_in64 _ | exact u8_in63 _ | (simp only [inR, IntKind.bits]; omega) | (simp [inR, IntKind.bits]; done) | (simp [inR, IntKind.bits] at * <;> omega) | (simp_all; done) | (with_reducible assumption) | skip)
  refine G_nx 2 rfl ?_
  refine G_callH [] id (sown m0 m1 m2 m3 m4 m5 m6 ht hS hM hC) rfl trivial rfl rfl rfl rfl (by decide) rfl rfl (fun x => rfl) (fun x _ => ?_)
  obtain ⟨v, u⟩ := x
  dsimp only
  refine G_run tOk eok_sadd2 60 (fun _ => none) (fun bs => rfl) (fun bs => ?_) (fun bs => ?_)
  · (repeat' apply And.intro) <;> (intros; first | exact trivial | exact rfl | omega | exact u8_lo _ | exact u8_hi _ | exact u8_in64 _ | exact u8_in63 _ | (simp only [inR, IntKind.bits]; omega) | (simp [inR, IntKind.bits]; done) | (simp [inR, IntKind.bits] at * <;> omega) | (simp_all; done) | (with_reducible assumption) | skip)
  refine G_nx 4 rfl ?_
  refine G_draw tOk eok_sadd2 rfl (fun _ => none) 10 [0, 1, 0, 0, 8, 0, 32, 96, 252, 508, 1023, 2047, 4095] [(10, 2)] rfl (by decide +kernel) (fun bs => rfl) (fun bs => ?_) (fun bs => ?_)
  · (repeat' apply And.intro) <;> (intros; first | exact trivial | exact rfl | omega | exact u8_lo _ | exact u8_hi _ | exact u8_in64 _ | exact u8_in63 _ | (simp only [inR, IntKind.bits]; omega) | (simp [inR, IntKind.bits]; done) | (simp [inR, IntKind.bits] at * <;> omega) | (simp_all; done) | (with_reducible assumption) | skip)
  refine G_run tOk eok_sadd2 60 (fun _ => none) (fun bs => rfl) (fun bs => ?_) (fun bs => ?_)
  · (repeat' apply And.intro) <;> (intros; first | exact trivial | exact rfl | omega | exact u8_lo _ | exact u8_hi _ | exact u8_in64 _ | exact u8_in63 _ | (simp only [inR, IntKind.bits]; omega) | (simp [inR, IntKind.bits]; done) | (simp [inR, IntKind.bits] at * <;> omega) | (simp_all; done) | (with_reducible assumption) | skip)
  refine G_freezeC 1 4 14 rfl rfl rfl ?_
  refine G_freezeC 1 5 3 rfl rfl rfl ?_
  exact G_ret tOk hM0 rfl rfl ⟨rfl, trivial, trivial⟩ ⟨⟨⟨rfl, rfl⟩, ⟨rfl, rfl⟩, rfl, rfl, rfl, rfl, rfl, trivial⟩, ⟨rfl, rfl⟩, trivial⟩
def sadd2_s : FSpec
  | [.g [.pv (.val (.int .i64 m0)), .pv (.val (.int .i64 m1)), .pv (.val (.string ⟨⟨m2⟩⟩)), .pv (.lst .tbl m3), .pv (.lst .sht m4), .pv (.lst .bms m5), .pv (.lst (.ints .i64) m6)], .c (.pv (.val (.string ⟨⟨nm⟩⟩)))] => some ((MtaOk ⟨m0, m1, m2, m3, m4, m5, m6⟩) ∧ (nm.length ≤ 1000000000), true, .t [.g (saM ⟨m0, m1, m2, m3, m4, m5, m6⟩ nm).pvs, .c (i64 (saE ⟨m0, m1, m2, m3, m4, m5, m6⟩ nm))])
  | _ => none
theorem sadd2_s_ok : SpecOk Try.prog 12 sadd2_s := by
  intro args pre sh rv h hp; unfold sadd2_s at h; split at h
  · cases h; obtain ⟨hm, hn⟩ := hp; exact sadd2_fn _ _ _ _ _ _ _ _ hm hn
  · cases h
def psi_sadd2 : FuncId → Option FSpec := psiCons 12 sadd2_s psi_splace
theorem psi_sadd2_ok : PsiFn Try.prog psi_sadd2 := psiCons_ok sadd2_s_ok psi_splace_ok
end Go.Proofs.Ytgobmfkffhomaaa
