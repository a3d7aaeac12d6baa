import Derived.Test.YtbhemhmdmeomdaaIdxF
import Derived.Test.YtbhemhmdmeomdaaMtQ4
set_option linter.unusedSimpArgs false
set_option linter.unusedVariables false
namespace Go.Proofs.Ytbhemhmdmeomdaa
open Go.Mt

def hdel_c : CSpec := fun x xs => match x, xs with
  | ⟨.knw, l⟩, [.c (.pv (.val (.int .i64 i))), .c (.pv (.val (.int .i64 j)))] => some (((0 ≤ i ∧ i ≤ j) ∧ j ≤ l.length) ∧ l.length ≤ 1000000, ⟨.knw, l.take i.toNat ++ l.drop j.toNat⟩)
  | _, _ => none
theorem hdel_cok : CSpecOk Try.prog 19 58 hdel_c := by
  intro k l xs pre k' l' h hp v
  unfold hdel_c at h
  split at h
  · rename_i x xs l0 i j hx
    cases hx
    cases h
    exact hdel v _ _ _ hp.1.1.1 hp.1.1.2 hp.1.2 hp.2
  · cases h
def psc_del : FuncId → Option (TypeId × CSpec) := pscCons 19 58 hdel_c pscNil
theorem psc_del_ok : PsiCo Try.prog psc_del := pscCons_ok hdel_cok pscNil_ok

def env_hadd2 : Env := ⟨T, psi_ncopy, pspNil, psc_del, 50, [], none, false⟩
theorem eok_hadd2 : PsiOk Try.prog env_hadd2 := ⟨psi_ncopy_ok, pspNil_ok, psc_del_ok⟩
theorem hadd2 (b : Nat) (v : Value) (c : Int) (l : List Known) (bl : List UInt8) (e0 e1 e2 e3 e4 : Int) (hb : bl.length ≤ 1000000) (hl : l.length ≤ 1000) : CtrH Try.prog 9 [.c (.ptr 0 b 0), lst .byt bl, .g [.pv (i64 e0), .pv (i64 e1), .pv (i64 e2), .pv (i64 e3), .pv (.val (.int .u32 e4))]] (kH b v c l) (fun _ => True) (fun _ : Value => .t []) (fun u => kH b u c (addK l ⟨fg bl, ⟨e0, e1, e2, e3, e4⟩⟩)) := by
  refine CtrH_intro (E := env_hadd2) Try.func9 rfl (by decide) rfl rfl (fun M0 W hM0 => ?_)
  refine G_run tOk eok_hadd2 60 (fun _ => none) (fun bs => rfl) (fun bs => ?_) (fun bs => ?_)
  · (repeat' apply And.intro) <;> (intros; first | exact trivial | exact rfl | omega | exact u8_lo _ | exact u8_hi _ | exact u8_in64 _ | exact u8_in63 _ | (simp only [inR, IntKind.bits]; omega) | (simp [inR, IntKind.bits]; done) | (simp [inR, IntKind.bits] at * <;> omega) | (simp_all; done) | (with_reducible assumption) | skip)
  refine G_els rfl rfl rfl ?_
  refine G_run tOk eok_hadd2 60 (fun _ => none) (fun bs => rfl) (fun bs => ?_) (fun bs => ?_)
  · (repeat' apply And.intro) <;> (intros; first | exact trivial | exact rfl | omega | exact u8_lo _ | exact u8_hi _ | exact u8_in64 _ | exact u8_in63 _ | (simp only [inR, IntKind.bits]; omega) | (simp [inR, IntKind.bits]; done) | (simp [inR, IntKind.bits] at * <;> omega) | (simp_all; done) | (with_reducible assumption) | skip)
  refine G_nx 3 rfl ?_
  refine G_draw tOk eok_hadd2 rfl (fun _ => none) 5 [0, 1, 0, 7, 0, 31] [] rfl (by decide +kernel) (fun bs => rfl) (fun bs => ?_) (fun bs => ?_)
  · (repeat' apply And.intro) <;> (intros; first | exact trivial | exact rfl | omega | exact u8_lo _ | exact u8_hi _ | exact u8_in64 _ | exact u8_in63 _ | (simp only [inR, IntKind.bits]; omega) | (simp [inR, IntKind.bits]; done) | (simp [inR, IntKind.bits] at * <;> omega) | (simp_all; done) | (with_reducible assumption) | skip)
  refine G_run tOk eok_hadd2 60 (fun _ => none) (fun bs => rfl) (fun bs => ?_) (fun bs => ?_)
  · (repeat' apply And.intro) <;> (intros; first | exact trivial | exact rfl | omega | exact u8_lo _ | exact u8_hi _ | exact u8_in64 _ | exact u8_in63 _ | (simp only [inR, IntKind.bits]; omega) | (simp [inR, IntKind.bits]; done) | (simp [inR, IntKind.bits] at * <;> omega) | (simp_all; done) | (with_reducible assumption) | skip)
  refine G_nx 8 rfl ?_
  refine G_draw tOk eok_hadd2 rfl (fun _ => none) 5 [0, 1, 3, 7, 0, 31] [] rfl (by decide +kernel) (fun bs => rfl) (fun bs => ?_) (fun bs => ?_)
  · (repeat' apply And.intro) <;> (intros; first | exact trivial | exact rfl | omega | exact u8_lo _ | exact u8_hi _ | exact u8_in64 _ | exact u8_in63 _ | (simp only [inR, IntKind.bits]; omega) | (simp [inR, IntKind.bits]; done) | (simp [inR, IntKind.bits] at * <;> omega) | (simp_all; done) | (with_reducible assumption) | skip)
  refine G_run tOk eok_hadd2 60 (fun _ => none) (fun bs => rfl) (fun bs => ?_) (fun bs => ?_)
  · (repeat' apply And.intro) <;> (intros; first | exact trivial | exact rfl | omega | exact u8_lo _ | exact u8_hi _ | exact u8_in64 _ | exact u8_in63 _ | (simp only [inR, IntKind.bits]; omega) | (simp [inR, IntKind.bits]; done) | (simp [inR, IntKind.bits] at * <;> omega) | (simp_all; done) | (with_reducible assumption) | skip)
  refine G_cond (b := hasK l ⟨fg bl, ⟨e0, e1, e2, e3, e4⟩⟩) rfl rfl (fun h => ?_) (fun h => ?_)
  · have hA : addK l ⟨fg bl, ⟨e0, e1, e2, e3, e4⟩⟩ = l := by simp only [addK, h]
    rw [hA]
    refine G_run tOk eok_hadd2 60 (fun _ => none) (fun bs => rfl) (fun bs => ?_) (fun bs => ?_)
    · (repeat' apply And.intro) <;> (intros; first | exact trivial | exact rfl | omega | exact u8_lo _ | exact u8_hi _ | exact u8_in64 _ | exact u8_in63 _ | (simp only [inR, IntKind.bits]; omega) | (simp [inR, IntKind.bits]; done) | (simp [inR, IntKind.bits] at * <;> omega) | (simp_all; done) | (with_reducible assumption) | skip)
    refine G_retH rfl tOk rfl rfl trivial v trivial [0, 1] id rfl (by decide) rfl
  · refine G_run tOk eok_hadd2 60 (fun _ => none) (fun bs => rfl) (fun bs => ?_) (fun bs => ?_)
    · (repeat' apply And.intro) <;> (intros; first | exact trivial | exact rfl | omega | exact u8_lo _ | exact u8_hi _ | exact u8_in64 _ | exact u8_in63 _ | (simp only [inR, IntKind.bits]; omega) | (simp [inR, IntKind.bits]; done) | (simp [inR, IntKind.bits] at * <;> omega) | (simp_all; done) | (with_reducible assumption) | skip)
    refine G_if rfl rfl (fun h2 => ?_) (fun h2 => ?_)
    · have hA : addK l ⟨fg bl, ⟨e0, e1, e2, e3, e4⟩⟩ = l.drop (l.length - 63) ++ [⟨fg bl, ⟨e0, e1, e2, e3, e4⟩⟩] := by
        have : decide (64 ≤ l.length) = true := by simp; omega
        simp only [addK, h, this]
      rw [hA]
      have hdr : l.take (0 : Int).toNat ++ l.drop ((l.length : Int) + 1 - 64).toNat = l.drop (l.length - 63) := by
        rw [show ((l.length : Int) + 1 - 64).toNat = l.length - 63 by omega]; simp
      rw [← hdr]
      refine G_run tOk eok_hadd2 60 (fun _ => none) (fun bs => rfl) (fun bs => ?_) (fun bs => ?_)
      · (repeat' apply And.intro) <;> (intros; first | exact trivial | exact rfl | omega | exact u8_lo _ | exact u8_hi _ | exact u8_in64 _ | exact u8_in63 _ | (simp only [inR, IntKind.bits]; omega) | (simp [inR, IntKind.bits]; done) | (simp [inR, IntKind.bits] at * <;> omega) | (simp_all; done) | (with_reducible assumption) | skip)
      refine G_nx 13 rfl ?_
      refine G_draw tOk eok_hadd2 rfl (fun _ => none) 13 [0, 0, 2, 6, 14, 0, 32, 96, 224, 480, 992, 2016, 4094, 8191, 16383, 32767] [(12, 1)] rfl (by decide +kernel) (fun bs => rfl) (fun bs => ?_) (fun bs => ?_)
      · (repeat' apply And.intro) <;> (intros; first | exact trivial | exact rfl | omega | exact u8_lo _ | exact u8_hi _ | exact u8_in64 _ | exact u8_in63 _ | (simp only [inR, IntKind.bits]; omega) | (simp [inR, IntKind.bits]; done) | (simp [inR, IntKind.bits] at * <;> omega) | (simp_all; done) | (with_reducible assumption) | skip)
      refine G_run tOk eok_hadd2 60 (fun _ => none) (fun bs => rfl) (fun bs => ?_) (fun bs => ?_)
      · (repeat' apply And.intro) <;> (intros; first | exact trivial | exact rfl | omega | exact u8_lo _ | exact u8_hi _ | exact u8_in64 _ | exact u8_in63 _ | (simp only [inR, IntKind.bits]; omega) | (simp [inR, IntKind.bits]; done) | (simp [inR, IntKind.bits] at * <;> omega) | (simp_all; done) | (with_reducible assumption) | skip)
      refine G_nx 26 rfl ?_
      refine G_draw tOk eok_hadd2 rfl (fun _ => none) 8 [0, 0, 2, 6, 14, 0, 32, 126, 255, 511, 1023] [(7, 25)] rfl (by decide +kernel) (fun bs => rfl) (fun bs => ?_) (fun bs => ?_)
      · (repeat' apply And.intro) <;> (intros; first | exact trivial | exact rfl | omega | exact u8_lo _ | exact u8_hi _ | exact u8_in64 _ | exact u8_in63 _ | (simp only [inR, IntKind.bits]; omega) | (simp [inR, IntKind.bits]; done) | (simp [inR, IntKind.bits] at * <;> omega) | (simp_all; done) | (with_reducible assumption) | skip)
      refine G_run tOk eok_hadd2 60 (fun _ => none) (fun bs => rfl) (fun bs => ?_) (fun bs => ?_)
      · (repeat' apply And.intro) <;> (intros; first | exact trivial | exact rfl | omega | exact u8_lo _ | exact u8_hi _ | exact u8_in64 _ | exact u8_in63 _ | (simp only [inR, IntKind.bits]; omega) | (simp [inR, IntKind.bits]; done) | (simp [inR, IntKind.bits] at * <;> omega) | (simp_all; done) | (with_reducible assumption) | skip)
      refine G_endH rfl tOk rfl trivial _ trivial [0, 33] (fun n => match n with | 0 => 0 | _ => 1) rfl (by decide) rfl
    · have hA : addK l ⟨fg bl, ⟨e0, e1, e2, e3, e4⟩⟩ = l ++ [⟨fg bl, ⟨e0, e1, e2, e3, e4⟩⟩] := by
        have : decide (64 ≤ l.length) = false := by simp; omega
        simp only [addK, h, this]
      rw [hA]
      refine G_run tOk eok_hadd2 60 (fun _ => none) (fun bs => rfl) (fun bs => ?_) (fun bs => ?_)
      · (repeat' apply And.intro) <;> (intros; first | exact trivial | exact rfl | omega | exact u8_lo _ | exact u8_hi _ | exact u8_in64 _ | exact u8_in63 _ | (simp only [inR, IntKind.bits]; omega) | (simp [inR, IntKind.bits]; done) | (simp [inR, IntKind.bits] at * <;> omega) | (simp_all; done) | (with_reducible assumption) | skip)
      refine G_nx 13 rfl ?_
      refine G_draw tOk eok_hadd2 rfl (fun _ => none) 8 [0, 0, 2, 6, 14, 0, 32, 126, 255, 511, 1023] [(7, 1)] rfl (by decide +kernel) (fun bs => rfl) (fun bs => ?_) (fun bs => ?_)
      · (repeat' apply And.intro) <;> (intros; first | exact trivial | exact rfl | omega | exact u8_lo _ | exact u8_hi _ | exact u8_in64 _ | exact u8_in63 _ | (simp only [inR, IntKind.bits]; omega) | (simp [inR, IntKind.bits]; done) | (simp [inR, IntKind.bits] at * <;> omega) | (simp_all; done) | (with_reducible assumption) | skip)
      refine G_run tOk eok_hadd2 60 (fun _ => none) (fun bs => rfl) (fun bs => ?_) (fun bs => ?_)
      · (repeat' apply And.intro) <;> (intros; first | exact trivial | exact rfl | omega | exact u8_lo _ | exact u8_hi _ | exact u8_in64 _ | exact u8_in63 _ | (simp only [inR, IntKind.bits]; omega) | (simp [inR, IntKind.bits]; done) | (simp [inR, IntKind.bits] at * <;> omega) | (simp_all; done) | (with_reducible assumption) | skip)
      refine G_endH rfl tOk rfl trivial _ trivial [0, 20] (fun n => match n with | 0 => 0 | _ => 1) rfl (by decide) rfl

/-! ### Forget -/
theorem ent_eq (x y : Entry) : (decide (x.kind = y.kind) && (decide (x.start = y.start) && (decide (x.count = y.count) && (decide (x.size = y.size) && (decide (x.sum = y.sum) && true))))) = decide (x = y) := by
  obtain ⟨k, s, c, z, m⟩ := x; obtain ⟨k', s', c', z', m'⟩ := y
  rw [Bool.eq_iff_iff]; simp [and_assoc]
def env_fcl : Env := ⟨T, psi_ncopy, pspNil, psc_del, 8, [], none, true⟩
theorem eok_fcl : PsiOk Try.prog env_fcl := ⟨psi_ncopy_ok, pspNil_ok, psc_del_ok⟩
theorem fcl_fn (k0 : Int) (k1 : Int) (k2 : Int) (k3 : Int) (k4 : Int) (k5 : Int) (e0 : Int) (e1 : Int) (e2 : Int) (e3 : Int) (e4 : Int)  : Ctr Try.prog 26 false [.g [.pv (.val (.int .u64 k0)), .pv (.val (.int .i64 k1)), .pv (.val (.int .i64 k2)), .pv (.val (.int .i64 k3)), .pv (.val (.int .i64 k4)), .pv (.val (.int .u32 k5))], .c (.cel [(.val (.int .i64 e0)), (.val (.int .i64 e1)), (.val (.int .i64 e2)), (.val (.int .i64 e3)), (.val (.int .u32 e4))])] (.x (.c (bv (decide ((⟨k1, k2, k3, k4, k5⟩ : Entry) = ⟨e0, e1, e2, e3, e4⟩))))) := by
  refine Ctr_intro (E := env_fcl) Try.func26 rfl (by decide) rfl rfl (fun M0 W hM0 => ?_)
  refine G_run tOk eok_fcl 60 (fun _ => none) (fun bs => rfl) (fun bs => ?_) (fun bs => ?_)
  · (repeat' apply And.intro) <;> (intros; first | exact trivial | exact rfl | omega | exact u8_lo _ | exact u8_hi _ | exact u8_in64 _ | exact u8_in63 _ | (simp only [inR, IntKind.bits]; omega) | (simp [inR, IntKind.bits]; done) | (simp [inR, IntKind.bits] at * <;> omega) | (simp_all; done) | (with_reducible assumption) | skip)
  exact G_ret tOk hM0 rfl rfl ⟨trivial, trivial⟩ (ent_eq ⟨k1, k2, k3, k4, k5⟩ ⟨e0, e1, e2, e3, e4⟩)
abbrev isE (e : Entry) : Known → Bool := fun k => decide (k.e = e)

def fcl_s : FSpec
  | [.g [.pv (.val (.int .u64 k0)), .pv (.val (.int .i64 k1)), .pv (.val (.int .i64 k2)), .pv (.val (.int .i64 k3)), .pv (.val (.int .i64 k4)), .pv (.val (.int .u32 k5))], .c (.cel [(.val (.int .i64 e0)), (.val (.int .i64 e1)), (.val (.int .i64 e2)), (.val (.int .i64 e3)), (.val (.int .u32 e4))])] => some (True, false, .x (.c (bv (decide ((⟨k1, k2, k3, k4, k5⟩ : Entry) = ⟨e0, e1, e2, e3, e4⟩)))))
  | _ => none
theorem fcl_s_ok : SpecOk Try.prog 26 fcl_s := by
  intro args pre sh rv h hp; unfold fcl_s at h; split at h
  · cases h; exact fcl_fn _ _ _ _ _ _ _ _ _ _ _ 
  · cases h
def psi_fcl : FuncId → Option FSpec := psiCons 26 fcl_s psi_ncopy
theorem psi_fcl_ok : PsiFn Try.prog psi_fcl := psiCons_ok fcl_s_ok psi_ncopy_ok
def env_eidx : Env := ⟨T, psi_fcl, pspNil, psc_del, 19, [], none, true⟩
theorem eok_eidx : PsiOk Try.prog env_eidx := ⟨psi_fcl_ok, pspNil_ok, psc_del_ok⟩
theorem eidx_fn (l : List Known) (c0 : Int) (c1 : Int) (c2 : Int) (c3 : Int) (c4 : Int) (hl : l.length ≤ 1000000) : Ctr Try.prog 33 false [lst .knw l, .c (.clo 26 [.cel [(.val (.int .i64 c0)), (.val (.int .i64 c1)), (.val (.int .i64 c2)), (.val (.int .i64 c3)), (.val (.int .u32 c4))]])] (.x (.c (i64 (ixP (isE ⟨c0, c1, c2, c3, c4⟩) LK.knw.dft l l.length)))) := by
  refine Ctr_intro (E := env_eidx) Try.func33 rfl (by decide) rfl rfl (fun M0 W hM0 => ?_)
  refine G_run tOk eok_eidx 60 (fun _ => none) (fun bs => rfl) (fun bs => ?_) (fun bs => ?_)
  · (repeat' apply And.intro) <;> (intros; first | exact trivial | exact rfl | omega | exact u8_lo _ | exact u8_hi _ | exact u8_in64 _ | exact u8_in63 _ | (simp only [inR, IntKind.bits]; omega) | (simp [inR, IntKind.bits]; done) | (simp [inR, IntKind.bits] at * <;> omega) | (simp_all; done) | (with_reducible assumption) | skip)
  refine G_loop (fun i : Nat => [(1, .c (.clo 26 [.cel [i64 c0, i64 c1, i64 c2, i64 c3, .val (.int .u32 c4)]])), (0, lst .knw l), (7, int .i64 l.length), (8, int .i64 i)]) (fun i => []) (fun i => i ≤ l.length ∧ ixP (isE ⟨c0, c1, c2, c3, c4⟩) LK.knw.dft l i = -1) (fun i => l.length - i) rfl [] 0 ⟨Nat.zero_le _, rfl⟩ ?wk (fun i hx => ?_)
  case wk => (repeat' apply And.intro) <;> (first | exact rfl | exact trivial | omega | refine sigEq ?_ | skip)
  obtain ⟨hx1, hx2⟩ := hx
  refine G_run tOk eok_eidx 60 (fun _ => none) (fun bs => rfl) (fun bs => ?_) (fun bs => ?_)
  · (repeat' apply And.intro) <;> (intros; first | exact trivial | exact rfl | omega | exact u8_lo _ | exact u8_hi _ | exact u8_in64 _ | exact u8_in63 _ | (simp only [inR, IntKind.bits]; omega) | (simp [inR, IntKind.bits]; done) | (simp [inR, IntKind.bits] at * <;> omega) | (simp_all; done) | (with_reducible assumption) | skip)
  refine G_if rfl rfl (fun hk => ?_) (fun hk => ?_)
  · have hk' : i < l.length := by omega
    refine G_run tOk eok_eidx 60 (fun _ => none) (fun bs => rfl) (fun bs => ?_) (fun bs => ?_)
    · (repeat' apply And.intro) <;> (intros; first | exact trivial | exact rfl | omega | exact u8_lo _ | exact u8_hi _ | exact u8_in64 _ | exact u8_in63 _ | (simp only [inR, IntKind.bits]; omega) | (simp [inR, IntKind.bits]; done) | (simp [inR, IntKind.bits] at * <;> omega) | (simp_all; done) | (with_reducible assumption) | skip)
    refine G_cond (b := isE ⟨c0, c1, c2, c3, c4⟩ (l.getD i LK.knw.dft)) rfl rfl (fun h => ?_) (fun h => ?_)
    · have h1 : ixP (isE ⟨c0, c1, c2, c3, c4⟩) LK.knw.dft l (i + 1) = i := by simp only [ixP, hx2, h]; rfl
      have h2 : ixP (isE ⟨c0, c1, c2, c3, c4⟩) LK.knw.dft l l.length = i := by rw [ixP_keep (i := i + 1) (by omega) (by omega), h1]
      refine G_run tOk eok_eidx 60 (fun _ => none) (fun bs => rfl) (fun bs => ?_) (fun bs => ?_)
      · (repeat' apply And.intro) <;> (intros; first | exact trivial | exact rfl | omega | exact u8_lo _ | exact u8_hi _ | exact u8_in64 _ | exact u8_in63 _ | (simp only [inR, IntKind.bits]; omega) | (simp [inR, IntKind.bits]; done) | (simp [inR, IntKind.bits] at * <;> omega) | (simp_all; done) | (with_reducible assumption) | skip)
      exact G_ret tOk hM0 rfl rfl ⟨trivial, trivial⟩ ⟨rfl, h2.symm⟩
    · have h1 : ixP (isE ⟨c0, c1, c2, c3, c4⟩) LK.knw.dft l (i + 1) = -1 := by simp only [ixP, hx2, h]; rfl
      refine G_run tOk eok_eidx 60 (fun _ => none) (fun bs => rfl) (fun bs => ?_) (fun bs => ?_)
      · (repeat' apply And.intro) <;> (intros; first | exact trivial | exact rfl | omega | exact u8_lo _ | exact u8_hi _ | exact u8_in64 _ | exact u8_in63 _ | (simp only [inR, IntKind.bits]; omega) | (simp [inR, IntKind.bits]; done) | (simp [inR, IntKind.bits] at * <;> omega) | (simp_all; done) | (with_reducible assumption) | skip)
      refine G_lp [] (i + 1) ?ok ?wk1
      case ok => exact ⟨⟨hk', h1⟩, by omega⟩
      case wk1 => (repeat' apply And.intro) <;> (first | exact rfl | exact trivial | omega | refine sigEq ?_ | skip)
  · have hk' : i = l.length := by omega
    subst hk'
    refine G_run tOk eok_eidx 60 (fun _ => none) (fun bs => rfl) (fun bs => ?_) (fun bs => ?_)
    · (repeat' apply And.intro) <;> (intros; first | exact trivial | exact rfl | omega | exact u8_lo _ | exact u8_hi _ | exact u8_in64 _ | exact u8_in63 _ | (simp only [inR, IntKind.bits]; omega) | (simp [inR, IntKind.bits]; done) | (simp [inR, IntKind.bits] at * <;> omega) | (simp_all; done) | (with_reducible assumption) | skip)
    exact G_ret tOk hM0 rfl rfl ⟨trivial, trivial⟩ ⟨rfl, hx2.symm⟩
def eidx_s : FSpec
  | [.c (.pv (.lst .knw l)), .c (.clo 26 [.cel [(.val (.int .i64 c0)), (.val (.int .i64 c1)), (.val (.int .i64 c2)), (.val (.int .i64 c3)), (.val (.int .u32 c4))]])] => some ((l.length ≤ 1000000), false, .x (.c (i64 (ixP (isE ⟨c0, c1, c2, c3, c4⟩) LK.knw.dft l l.length))))
  | _ => none
theorem eidx_s_ok : SpecOk Try.prog 33 eidx_s := by
  intro args pre sh rv h hp; unfold eidx_s at h; split at h
  · cases h; have hl := hp; exact eidx_fn _ _ _ _ _ _ hl
  · cases h
def psi_eidx : FuncId → Option FSpec := psiCons 33 eidx_s psi_fcl
theorem psi_eidx_ok : PsiFn Try.prog psi_eidx := psiCons_ok eidx_s_ok psi_fcl_ok
end Go.Proofs.Ytbhemhmdmeomdaa
