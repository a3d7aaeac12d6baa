import Derived.Test.YtnmomckmpknbkaaFieldL
set_option linter.unusedSimpArgs false
set_option linter.unusedVariables false
namespace Go.Proofs.Ytnmomckmpknbkaa
open Go.Mt

theorem pow_c {c : Int} (h : 0 ≤ c ∧ c ≤ 6) : (1 : Int) ≤ 2 ^ c.toNat ∧ (2 : Int) ^ c.toNat ≤ 64 := by
  have : c = 0 ∨ c = 1 ∨ c = 2 ∨ c = 3 ∨ c = 4 ∨ c = 5 ∨ c = 6 := by omega
  rcases this with h | h | h | h | h | h | h <;> subst h <;> decide
def placeB (st ct : Int) : Bool := decide (2 ≤ st) && decide (st ≤ 65536) && decide (0 ≤ ct) && decide (ct ≤ 65536 - st)
def mayE (k st ct sz sm c : Int) : Bool :=
  if c < 0 ∨ 6 < c then false else if k = 0 ∨ k = 1 then decide (st = 0 ∧ ct = 0 ∧ sz = 0 ∧ sm = 0)
  else if k = 2 then decide (ct = 2 ^ c.toNat ∧ sz = 0 ∧ 2 ≤ st ∧ st ≤ 65536 ∧ ct ≤ 65536 - st)
  else if k = 3 then decide (1 ≤ ct ∧ ct < 2 ^ c.toNat ∧ 1 ≤ sz ∧ (ct - 1) * 16 < sz ∧ sz ≤ ct * 16 ∧ 2 ≤ st ∧ st ≤ 65536 ∧ ct ≤ 65536 - st)
  else false

def env_place : Env := ⟨T, psi_rget, pspNil, 24, [], none, true⟩
theorem eok_place : PsiOk Try.prog env_place := ⟨psi_rget_ok, pspNil_ok⟩
theorem place_fn (e0 : Int) (e1 : Int) (e2 : Int) (e3 : Int) (e4 : Int)  : Ctr Try.prog 47 false [.g [.pv (.val (.int .i64 e0)), .pv (.val (.int .i64 e1)), .pv (.val (.int .i64 e2)), .pv (.val (.int .i64 e3)), .pv (.val (.int .u32 e4))]] (.x (.c (bv (placeB e1 e2)))) := by
  refine Ctr_intro (E := env_place) Try.func47 rfl (by decide) rfl rfl (fun M0 W hM0 => ?_)
  refine G_run tOk eok_place 60 (fun _ => none) (fun bs => rfl) (fun bs => ?_) (fun bs => ?_)
  · (repeat' apply And.intro) <;> (intros; first | exact trivial | exact rfl | omega | exact u8_lo _ | exact u8_hi _ | exact u8_in64 _ | exact u8_in63 _ | (simp only [inR, IntKind.bits]; omega) | (simp [inR, IntKind.bits]; done) | (simp [inR, IntKind.bits] at * <;> omega) | (simp_all; done) | skip)
  refine G_ret tOk hM0 rfl rfl ⟨trivial, trivial⟩ ?_
  conv => whnf
  rfl

def place_s : FSpec
  | [.g [.pv (.val (.int .i64 e0)), .pv (.val (.int .i64 e1)), .pv (.val (.int .i64 e2)), .pv (.val (.int .i64 e3)), .pv (.val (.int .u32 e4))]] => some (True, false, .x (.c (bv (placeB e1 e2))))
  | _ => none
theorem place_s_ok : SpecOk Try.prog 47 place_s := by
  intro args pre sh rv h hp; unfold place_s at h; split at h
  · cases h; exact place_fn _ _ _ _ _ 
  · cases h
def psi_place : FuncId → Option FSpec := psiCons 47 place_s psi_rget
theorem psi_place_ok : PsiFn Try.prog psi_place := psiCons_ok place_s_ok psi_rget_ok
def env_may : Env := ⟨T, psi_place, pspNil, 75, [], none, true⟩
theorem eok_may : PsiOk Try.prog env_may := ⟨psi_place_ok, pspNil_ok⟩
theorem may_fn (e0 : Int) (e1 : Int) (e2 : Int) (e3 : Int) (e4 : Int) (c : Int)  : Ctr Try.prog 30 false [.g [.pv (.val (.int .i64 e0)), .pv (.val (.int .i64 e1)), .pv (.val (.int .i64 e2)), .pv (.val (.int .i64 e3)), .pv (.val (.int .u32 e4))], int .i64 c] (.x (.c (bv (mayE e0 e1 e2 e3 e4 c)))) := by
  refine Ctr_intro (E := env_may) Try.func30 rfl (by decide) rfl rfl (fun M0 W hM0 => ?_)
  refine G_run tOk eok_may 60 (fun _ => none) (fun bs => rfl) (fun bs => ?_) (fun bs => ?_)
  · (repeat' apply And.intro) <;> (intros; first | exact trivial | exact rfl | omega | exact u8_lo _ | exact u8_hi _ | exact u8_in64 _ | exact u8_in63 _ | (simp only [inR, IntKind.bits]; omega) | (simp [inR, IntKind.bits]; done) | (simp [inR, IntKind.bits] at * <;> omega) | (simp_all; done) | skip)
  refine G_cond rfl rfl (fun h => ?_) (fun h => ?_)
  · refine G_run tOk eok_may 60 (fun _ => none) (fun bs => rfl) (fun bs => ?_) (fun bs => ?_)
    · (repeat' apply And.intro) <;> (intros; first | exact trivial | exact rfl | omega | exact u8_lo _ | exact u8_hi _ | exact u8_in64 _ | exact u8_in63 _ | (simp only [inR, IntKind.bits]; omega) | (simp [inR, IntKind.bits]; done) | (simp [inR, IntKind.bits] at * <;> omega) | (simp_all; done) | skip)
    have hb : mayE e0 e1 e2 e3 e4 c = false := by simp at h; simp [mayE, h]
    exact G_ret tOk hM0 rfl rfl ⟨trivial, trivial⟩ hb.symm
  have hc : 0 ≤ c ∧ c ≤ 6 := by simp at h; omega
  have hcn : ¬ (c < 0 ∨ 6 < c) := by omega
  clear h
  have hp := pow_c hc
  refine G_run tOk eok_may 60 (fun _ => none) (fun bs => rfl) (fun bs => ?_) (fun bs => ?_)
  · (repeat' apply And.intro) <;> (intros; first | exact trivial | exact rfl | omega | exact u8_lo _ | exact u8_hi _ | exact u8_in64 _ | exact u8_in63 _ | (simp only [inR, IntKind.bits]; omega) | (simp [inR, IntKind.bits]; done) | (simp [inR, IntKind.bits] at * <;> omega) | (simp_all; done) | skip)
  by_cases k0 : e0 = 0
  · refine G_thn rfl rfl (by simp [k0]) ?_
    refine G_run tOk eok_may 60 (fun _ => none) (fun bs => rfl) (fun bs => ?_) (fun bs => ?_)
    · (repeat' apply And.intro) <;> (intros; first | exact trivial | exact rfl | omega | exact u8_lo _ | exact u8_hi _ | exact u8_in64 _ | exact u8_in63 _ | (simp only [inR, IntKind.bits]; omega) | (simp [inR, IntKind.bits]; done) | (simp [inR, IntKind.bits] at * <;> omega) | (simp_all; done) | skip)
    refine G_ret tOk hM0 rfl rfl ⟨trivial, trivial⟩ ?_
    conv => whnf
    simp [mayE, hcn, k0]
  refine G_els rfl rfl (by simp [k0]) ?_
  refine G_run tOk eok_may 60 (fun _ => none) (fun bs => rfl) (fun bs => ?_) (fun bs => ?_)
  · (repeat' apply And.intro) <;> (intros; first | exact trivial | exact rfl | omega | exact u8_lo _ | exact u8_hi _ | exact u8_in64 _ | exact u8_in63 _ | (simp only [inR, IntKind.bits]; omega) | (simp [inR, IntKind.bits]; done) | (simp [inR, IntKind.bits] at * <;> omega) | (simp_all; done) | skip)
  by_cases k1 : e0 = 1
  · refine G_thn rfl rfl (by simp [k1]) ?_
    refine G_run tOk eok_may 60 (fun _ => none) (fun bs => rfl) (fun bs => ?_) (fun bs => ?_)
    · (repeat' apply And.intro) <;> (intros; first | exact trivial | exact rfl | omega | exact u8_lo _ | exact u8_hi _ | exact u8_in64 _ | exact u8_in63 _ | (simp only [inR, IntKind.bits]; omega) | (simp [inR, IntKind.bits]; done) | (simp [inR, IntKind.bits] at * <;> omega) | (simp_all; done) | skip)
    refine G_ret tOk hM0 rfl rfl ⟨trivial, trivial⟩ ?_
    conv => whnf
    simp [mayE, hcn, k1]
  refine G_els rfl rfl (by simp [k1]) ?_
  refine G_run tOk eok_may 60 (fun _ => none) (fun bs => rfl) (fun bs => ?_) (fun bs => ?_)
  · (repeat' apply And.intro) <;> (intros; first | exact trivial | exact rfl | omega | exact u8_lo _ | exact u8_hi _ | exact u8_in64 _ | exact u8_in63 _ | (simp only [inR, IntKind.bits]; omega) | (simp [inR, IntKind.bits]; done) | (simp [inR, IntKind.bits] at * <;> omega) | (simp_all; done) | skip)
  by_cases k2 : e0 = 2
  · refine G_thn rfl rfl (by simp [k2]) ?_
    by_cases hok : e2 = 2 ^ c.toNat ∧ e3 = 0
    · refine G_run tOk eok_may 60 (fun j => match j with | 1 => some true | _ => none) (fun bs => rfl) (fun bs => ?_) (fun bs => ?_)
      · simp [hok.1, hok.2]
      refine G_ret tOk hM0 rfl rfl ⟨trivial, trivial⟩ ?_
      conv => whnf
      simp [mayE, hcn, k2, hok, placeB]
      rw [Bool.eq_iff_iff]; simp; omega
    · refine G_run tOk eok_may 60 (fun j => match j with | 1 => some false | _ => none) (fun bs => rfl) (fun bs => ?_) (fun bs => ?_)
      · simp; exact fun a b => hok ⟨a, b⟩
      refine G_ret tOk hM0 rfl rfl ⟨trivial, trivial⟩ ?_
      conv => whnf
      simp [mayE, hcn, k2]
      intro a b; exact absurd ⟨a, b⟩ hok
  refine G_els rfl rfl (by simp [k2]) ?_
  refine G_run tOk eok_may 60 (fun _ => none) (fun bs => rfl) (fun bs => ?_) (fun bs => ?_)
  · (repeat' apply And.intro) <;> (intros; first | exact trivial | exact rfl | omega | exact u8_lo _ | exact u8_hi _ | exact u8_in64 _ | exact u8_in63 _ | (simp only [inR, IntKind.bits]; omega) | (simp [inR, IntKind.bits]; done) | (simp [inR, IntKind.bits] at * <;> omega) | (simp_all; done) | skip)
  by_cases k3 : e0 = 3
  · refine G_thn rfl rfl (by simp [k3]) ?_
    by_cases hok : ((((1 ≤ e2 ∧ e2 < 2 ^ c.toNat) ∧ 1 ≤ e3) ∧ (e2 - 1) * 16 < e3) ∧ e3 ≤ e2 * 16)
    · refine G_run tOk eok_may 60 (fun j => match j with | 1 => some true | _ => none) (fun bs => rfl) (fun bs => ?_) (fun bs => ?_)
      · (repeat' apply And.intro) <;> (intros; first | exact trivial | exact rfl | omega | exact u8_lo _ | exact u8_hi _ | exact u8_in64 _ | exact u8_in63 _ | (simp only [inR, IntKind.bits]; omega) | (simp [inR, IntKind.bits]; done) | (simp [inR, IntKind.bits] at * <;> omega) | (simp_all; done) | skip)
      refine G_ret tOk hM0 rfl rfl ⟨trivial, trivial⟩ ?_
      conv => whnf
      simp [mayE, hcn, k3, hok, placeB]
      rw [Bool.eq_iff_iff]; simp; omega
    · refine G_run tOk eok_may 60 (fun j => match j with | 1 => some false | _ => none) (fun bs => rfl) (fun bs => ?_) (fun bs => ?_)
      · (repeat' apply And.intro) <;> (intros; first | exact trivial | exact rfl | omega | exact u8_lo _ | exact u8_hi _ | exact u8_in64 _ | exact u8_in63 _ | (simp only [inR, IntKind.bits]; omega) | (simp [inR, IntKind.bits]; done) | (simp [inR, IntKind.bits] at * <;> omega) | (simp_all; done) | skip)
      refine G_ret tOk hM0 rfl rfl ⟨trivial, trivial⟩ ?_
      conv => whnf
      simp [mayE, hcn, k3]
      intro a1 a2 a3 a4 a5; exact absurd ⟨⟨⟨⟨a1, a2⟩, a3⟩, a4⟩, a5⟩ hok
  refine G_els rfl rfl (by simp [k3]) ?_
  refine G_run tOk eok_may 60 (fun _ => none) (fun bs => rfl) (fun bs => ?_) (fun bs => ?_)
  · (repeat' apply And.intro) <;> (intros; first | exact trivial | exact rfl | omega | exact u8_lo _ | exact u8_hi _ | exact u8_in64 _ | exact u8_in63 _ | (simp only [inR, IntKind.bits]; omega) | (simp [inR, IntKind.bits]; done) | (simp [inR, IntKind.bits] at * <;> omega) | (simp_all; done) | skip)
  refine G_ret tOk hM0 rfl rfl ⟨trivial, trivial⟩ ?_
  conv => whnf
  simp [mayE, hcn, k0, k1, k2, k3]

def may_s : FSpec
  | [.g [.pv (.val (.int .i64 e0)), .pv (.val (.int .i64 e1)), .pv (.val (.int .i64 e2)), .pv (.val (.int .i64 e3)), .pv (.val (.int .u32 e4))], .c (.pv (.val (.int .i64 c)))] => some (True, false, .x (.c (bv (mayE e0 e1 e2 e3 e4 c))))
  | _ => none
theorem may_s_ok : SpecOk Try.prog 30 may_s := by
  intro args pre sh rv h hp; unfold may_s at h; split at h
  · cases h; exact may_fn _ _ _ _ _ _ 
  · cases h
def psi_may : FuncId → Option FSpec := psiCons 30 may_s psi_place
theorem psi_may_ok : PsiFn Try.prog psi_may := psiCons_ok may_s_ok psi_place_ok
def env_rmay : Env := ⟨T, psi_may, pspNil, 108, [], none, true⟩
theorem eok_rmay : PsiOk Try.prog env_rmay := ⟨psi_may_ok, pspNil_ok⟩
theorem rmay_fn (e0 : Int) (e1 : Int) (e2 : Int) (e3 : Int) (e4 : Int) (c : Int)  : Ctr Try.prog 32 false [.g [.pv (.val (.int .i64 e0)), .pv (.val (.int .i64 e1)), .pv (.val (.int .i64 e2)), .pv (.val (.int .i64 e3)), .pv (.val (.int .u32 e4))], int .i64 c] (.x (.c (bv (mayE e0 e1 e2 e3 e4 c)))) := by
  refine Ctr_intro (E := env_rmay) Try.func32 rfl (by decide) rfl rfl (fun M0 W hM0 => ?_)
  refine G_run tOk eok_rmay 60 (fun _ => none) (fun bs => rfl) (fun bs => ?_) (fun bs => ?_)
  · (repeat' apply And.intro) <;> (intros; first | exact trivial | exact rfl | omega | exact u8_lo _ | exact u8_hi _ | exact u8_in64 _ | exact u8_in63 _ | (simp only [inR, IntKind.bits]; omega) | (simp [inR, IntKind.bits]; done) | (simp [inR, IntKind.bits] at * <;> omega) | (simp_all; done) | skip)
  refine G_cond rfl rfl (fun h => ?_) (fun h => ?_)
  · refine G_run tOk eok_rmay 60 (fun _ => none) (fun bs => rfl) (fun bs => ?_) (fun bs => ?_)
    · (repeat' apply And.intro) <;> (intros; first | exact trivial | exact rfl | omega | exact u8_lo _ | exact u8_hi _ | exact u8_in64 _ | exact u8_in63 _ | (simp only [inR, IntKind.bits]; omega) | (simp [inR, IntKind.bits]; done) | (simp [inR, IntKind.bits] at * <;> omega) | (simp_all; done) | skip)
    have hb : mayE e0 e1 e2 e3 e4 c = false := by simp at h; simp [mayE, h]
    exact G_ret tOk hM0 rfl rfl ⟨trivial, trivial⟩ hb.symm
  have hc : 0 ≤ c ∧ c ≤ 6 := by simp at h; omega
  have hcn : ¬ (c < 0 ∨ 6 < c) := by omega
  clear h
  have hp := pow_c hc
  refine G_run tOk eok_rmay 60 (fun _ => none) (fun bs => rfl) (fun bs => ?_) (fun bs => ?_)
  · (repeat' apply And.intro) <;> (intros; first | exact trivial | exact rfl | omega | exact u8_lo _ | exact u8_hi _ | exact u8_in64 _ | exact u8_in63 _ | (simp only [inR, IntKind.bits]; omega) | (simp [inR, IntKind.bits]; done) | (simp [inR, IntKind.bits] at * <;> omega) | (simp_all; done) | skip)
  by_cases k0 : e0 = 0
  · refine G_thn rfl rfl (by simp [k0]) ?_
    refine G_run tOk eok_rmay 60 (fun _ => none) (fun bs => rfl) (fun bs => ?_) (fun bs => ?_)
    · (repeat' apply And.intro) <;> (intros; first | exact trivial | exact rfl | omega | exact u8_lo _ | exact u8_hi _ | exact u8_in64 _ | exact u8_in63 _ | (simp only [inR, IntKind.bits]; omega) | (simp [inR, IntKind.bits]; done) | (simp [inR, IntKind.bits] at * <;> omega) | (simp_all; done) | skip)
    refine G_thn rfl rfl (by simp [k0]) ?_
    refine G_run tOk eok_rmay 60 (fun _ => none) (fun bs => rfl) (fun bs => ?_) (fun bs => ?_)
    · (repeat' apply And.intro) <;> (intros; first | exact trivial | exact rfl | omega | exact u8_lo _ | exact u8_hi _ | exact u8_in64 _ | exact u8_in63 _ | (simp only [inR, IntKind.bits]; omega) | (simp [inR, IntKind.bits]; done) | (simp [inR, IntKind.bits] at * <;> omega) | (simp_all; done) | skip)
    refine G_ret tOk hM0 rfl rfl ⟨trivial, trivial⟩ ?_
    conv => whnf
    simp [mayE, hcn, k0, and_assoc, Bool.and_assoc]
  refine G_els rfl rfl (by simp [k0]) ?_
  refine G_run tOk eok_rmay 60 (fun _ => none) (fun bs => rfl) (fun bs => ?_) (fun bs => ?_)
  · (repeat' apply And.intro) <;> (intros; first | exact trivial | exact rfl | omega | exact u8_lo _ | exact u8_hi _ | exact u8_in64 _ | exact u8_in63 _ | (simp only [inR, IntKind.bits]; omega) | (simp [inR, IntKind.bits]; done) | (simp [inR, IntKind.bits] at * <;> omega) | (simp_all; done) | skip)
  by_cases k1 : e0 = 1
  · refine G_thn rfl rfl (by simp [k1]) ?_
    refine G_run tOk eok_rmay 60 (fun _ => none) (fun bs => rfl) (fun bs => ?_) (fun bs => ?_)
    · (repeat' apply And.intro) <;> (intros; first | exact trivial | exact rfl | omega | exact u8_lo _ | exact u8_hi _ | exact u8_in64 _ | exact u8_in63 _ | (simp only [inR, IntKind.bits]; omega) | (simp [inR, IntKind.bits]; done) | (simp [inR, IntKind.bits] at * <;> omega) | (simp_all; done) | skip)
    refine G_ret tOk hM0 rfl rfl ⟨trivial, trivial⟩ ?_
    conv => whnf
    simp [mayE, hcn, k1, and_assoc, Bool.and_assoc]
  refine G_els rfl rfl (by simp [k1]) ?_
  refine G_run tOk eok_rmay 60 (fun _ => none) (fun bs => rfl) (fun bs => ?_) (fun bs => ?_)
  · (repeat' apply And.intro) <;> (intros; first | exact trivial | exact rfl | omega | exact u8_lo _ | exact u8_hi _ | exact u8_in64 _ | exact u8_in63 _ | (simp only [inR, IntKind.bits]; omega) | (simp [inR, IntKind.bits]; done) | (simp [inR, IntKind.bits] at * <;> omega) | (simp_all; done) | skip)
  by_cases k2 : e0 = 2
  · refine G_thn rfl rfl (by simp [k2]) ?_
    refine G_run tOk eok_rmay 60 (fun _ => none) (fun bs => rfl) (fun bs => ?_) (fun bs => ?_)
    · (repeat' apply And.intro) <;> (intros; first | exact trivial | exact rfl | omega | exact u8_lo _ | exact u8_hi _ | exact u8_in64 _ | exact u8_in63 _ | (simp only [inR, IntKind.bits]; omega) | (simp [inR, IntKind.bits]; done) | (simp [inR, IntKind.bits] at * <;> omega) | (simp_all; done) | skip)
    refine G_ret tOk hM0 rfl rfl ⟨trivial, trivial⟩ ?_
    conv => whnf
    simp [mayE, hcn, k2]
    rw [Bool.eq_iff_iff]; simp; omega
  refine G_els rfl rfl (by simp [k2]) ?_
  refine G_run tOk eok_rmay 60 (fun _ => none) (fun bs => rfl) (fun bs => ?_) (fun bs => ?_)
  · (repeat' apply And.intro) <;> (intros; first | exact trivial | exact rfl | omega | exact u8_lo _ | exact u8_hi _ | exact u8_in64 _ | exact u8_in63 _ | (simp only [inR, IntKind.bits]; omega) | (simp [inR, IntKind.bits]; done) | (simp [inR, IntKind.bits] at * <;> omega) | (simp_all; done) | skip)
  by_cases k3 : e0 = 3
  · refine G_thn rfl rfl (by simp [k3]) ?_
    refine G_run tOk eok_rmay 60 (fun _ => none) (fun bs => rfl) (fun bs => ?_) (fun bs => ?_)
    · (repeat' apply And.intro) <;> (intros; first | exact trivial | exact rfl | omega | exact u8_lo _ | exact u8_hi _ | exact u8_in64 _ | exact u8_in63 _ | (simp only [inR, IntKind.bits]; omega) | (simp [inR, IntKind.bits]; done) | (simp [inR, IntKind.bits] at * <;> omega) | (simp_all; done) | skip)
    refine G_ret tOk hM0 rfl rfl ⟨trivial, trivial⟩ ?_
    conv => whnf
    simp [mayE, hcn, k3]
    rw [Bool.eq_iff_iff]; simp; omega
  refine G_els rfl rfl (by simp [k3]) ?_
  refine G_run tOk eok_rmay 60 (fun _ => none) (fun bs => rfl) (fun bs => ?_) (fun bs => ?_)
  · (repeat' apply And.intro) <;> (intros; first | exact trivial | exact rfl | omega | exact u8_lo _ | exact u8_hi _ | exact u8_in64 _ | exact u8_in63 _ | (simp only [inR, IntKind.bits]; omega) | (simp [inR, IntKind.bits]; done) | (simp [inR, IntKind.bits] at * <;> omega) | (simp_all; done) | skip)
  refine G_ret tOk hM0 rfl rfl ⟨trivial, trivial⟩ ?_
  conv => whnf
  simp [mayE, hcn, k0, k1, k2, k3]

def rmay_s : FSpec
  | [.g [.pv (.val (.int .i64 e0)), .pv (.val (.int .i64 e1)), .pv (.val (.int .i64 e2)), .pv (.val (.int .i64 e3)), .pv (.val (.int .u32 e4))], .c (.pv (.val (.int .i64 c)))] => some (True, false, .x (.c (bv (mayE e0 e1 e2 e3 e4 c))))
  | _ => none
theorem rmay_s_ok : SpecOk Try.prog 32 rmay_s := by
  intro args pre sh rv h hp; unfold rmay_s at h; split at h
  · cases h; exact rmay_fn _ _ _ _ _ _ 
  · cases h
def psi_rmay : FuncId → Option FSpec := psiCons 32 rmay_s psi_may
theorem psi_rmay_ok : PsiFn Try.prog psi_rmay := psiCons_ok rmay_s_ok psi_may_ok
theorem may_facts {k st ct sz sm c : Int} (h : mayE k st ct sz sm c = true) : (0 ≤ k ∧ k ≤ 3) ∧ (0 ≤ st ∧ st ≤ 65536) ∧ (0 ≤ ct ∧ ct ≤ 64) ∧ (0 ≤ sz ∧ sz ≤ 1024) ∧ (0 ≤ c ∧ c ≤ 6) := by
  unfold mayE at h
  split at h
  · cases h
  · rename_i hc
    have hp := pow_c (c := c) (by omega)
    split at h
    · simp at h; omega
    · split at h
      · simp at h; omega
      · split at h
        · simp at h; omega
        · cases h
theorem putL_le (l : List UInt8) (n : Int) (b : Bool) (v : Int) : (putL l n b v).length ≤ l.length + n.toNat := by
  unfold putL; split
  · simp [putB]
  · simp
def entE (k st ct sz sm c : Int) : Int := if mayE k st ct sz sm c = true then 0 else 1
def headL (k ct : Int) : List UInt8 := putL [UInt8.ofNat k.toNat, 0] 2 false ct
def accL (l : List UInt8) (ns : List Int) : Nat → List UInt8
  | 0 => l
  | i + 1 => putL (accL l ns i) 4 false (ns.getD i 0)
theorem accL_len (l : List UInt8) (ns : List Int) (i : Nat) : (accL l ns i).length ≤ l.length + 4 * i := by
  induction i with
  | zero => simp [accL]
  | succ i ih => have := putL_le (accL l ns i) 4 false (ns.getD i 0); simp only [accL]; omega
def entL (k st ct sz sm c : Int) : List UInt8 := if mayE k st ct sz sm c = true then accL (headL k ct) [st, sz, sm] 3 else []
theorem entL_len (k st ct sz sm c : Int) : (entL k st ct sz sm c).length ≤ 16 := by
  unfold entL; split
  · have h1 := accL_len (headL k ct) [st, sz, sm] 3
    have h2 := putL_le [UInt8.ofNat k.toNat, 0] 2 false ct
    simp only [headL] at h1 ⊢
    simp at h2; omega
  · simp

def env_eput : Env := ⟨T, psi_rmay, pspNil, 47, [15], none, true⟩
theorem eok_eput : PsiOk Try.prog env_eput := ⟨psi_rmay_ok, pspNil_ok⟩
theorem eput_fn (e0 : Int) (e1 : Int) (e2 : Int) (e3 : Int) (e4 : Int) (c : Int) (h4 : inR .u32 e4) : Ctr Try.prog 39 false [.g [.pv (.val (.int .i64 e0)), .pv (.val (.int .i64 e1)), .pv (.val (.int .i64 e2)), .pv (.val (.int .i64 e3)), .pv (.val (.int .u32 e4))], int .i64 c] (.ot 5 .byt (entL e0 e1 e2 e3 e4 c) [.c (i64 (entE e0 e1 e2 e3 e4 c))]) := by
  refine Ctr_intro (E := env_eput) Try.func39 rfl (by decide) rfl rfl (fun M0 W hM0 => ?_)
  simp only [inR] at h4
  refine G_run tOk eok_eput 60 (fun _ => none) (fun bs => rfl) (fun bs => ?_) (fun bs => ?_)
  · (repeat' apply And.intro) <;> (intros; first | exact trivial | exact rfl | omega | exact u8_lo _ | exact u8_hi _ | exact u8_in64 _ | exact u8_in63 _ | (simp only [inR, IntKind.bits]; omega) | (simp [inR, IntKind.bits]; done) | (simp [inR, IntKind.bits] at * <;> omega) | (simp_all; done) | skip)
  refine G_cond rfl rfl (fun h => ?_) (fun h => ?_)
  · refine G_run tOk eok_eput 60 (fun _ => none) (fun bs => rfl) (fun bs => ?_) (fun bs => ?_)
    · (repeat' apply And.intro) <;> (intros; first | exact trivial | exact rfl | omega | exact u8_lo _ | exact u8_hi _ | exact u8_in64 _ | exact u8_in63 _ | (simp only [inR, IntKind.bits]; omega) | (simp [inR, IntKind.bits]; done) | (simp [inR, IntKind.bits] at * <;> omega) | (simp_all; done) | skip)
    have hb : mayE e0 e1 e2 e3 e4 c = false := by simpa using h
    exact G_ret tOk hM0 rfl rfl ⟨trivial, trivial, trivial⟩ ⟨(show entL e0 e1 e2 e3 e4 c = [] by simp [entL, hb]), ⟨rfl, by simp [entE, hb]⟩, trivial⟩
  have hb : mayE e0 e1 e2 e3 e4 c = true := by simpa using h
  clear h
  obtain ⟨f1, f2, f3, f4, f5⟩ := may_facts hb
  refine G_run tOk eok_eput 60 (fun _ => none) (fun bs => rfl) (fun bs => ?_) (fun bs => ?_)
  · (repeat' apply And.intro) <;> (intros; first | exact trivial | exact rfl | omega | exact u8_lo _ | exact u8_hi _ | exact u8_in64 _ | exact u8_in63 _ | (simp only [inR, IntKind.bits]; omega) | (simp [inR, IntKind.bits]; done) | (simp [inR, IntKind.bits] at * <;> omega) | (simp_all; done) | skip)
  have hlen := fun i => accL_len (headL e0 e2) [e1, e3, e4] i
  have hh : (headL e0 e2).length ≤ 4 := putL_le _ _ _ _
  refine G_freeze 3 [32] rfl ⟨rfl, trivial⟩ ?_
  refine G_loop (fun x : Nat × Value => [(6, .c (.own 0 x.2)), (32, lst (.ints .i64) [e1, e3, e4]), (33, int .i64 3), (34, int .i64 x.1)]) (fun x => [.own x.2 5 .byt (accL (headL e0 e2) [e1, e3, e4] x.1)])
    (fun x => x.1 ≤ 3) (fun x => 3 - x.1) rfl [2] (0, ?v0) (Nat.zero_le _) ?wk (fun x hx => ?_)
  case wk => (repeat' apply And.intro) <;> (first | exact rfl | exact trivial | omega | refine sigEq ?_ | skip)
  obtain ⟨i, v⟩ := x
  simp only at hx
  have hl := hlen i
  refine G_run tOk eok_eput 60 (fun _ => none) (fun bs => rfl) (fun bs => ?_) (fun bs => ?_)
  · (repeat' apply And.intro) <;> (intros; first | exact trivial | exact rfl | omega | exact u8_lo _ | exact u8_hi _ | exact u8_in64 _ | exact u8_in63 _ | (simp only [inR, IntKind.bits]; omega) | (simp [inR, IntKind.bits]; done) | (simp [inR, IntKind.bits] at * <;> omega) | (simp_all; done) | skip)
  refine G_if rfl rfl (fun hk => ?_) (fun hk => ?_)
  · have hk' : i < 3 := by omega
    have hr : 0 ≤ [e1, e3, e4].getD i 0 ∧ [e1, e3, e4].getD i 0 ≤ 18446744073709551615 := by
      match i, hk' with
      | 0, _ => simp; omega
      | 1, _ => simp; omega
      | 2, _ => simp; omega
    have hl2 : (accL (headL e0 e2) [e1, e3, e4] (i, v).1).length ≤ 1000000 := by simp only; omega
    refine G_run tOk eok_eput 60 (fun _ => none) (fun bs => rfl) (fun bs => ?_) (fun bs => ?_)
    · (repeat' apply And.intro) <;> (intros; first | exact trivial | exact rfl | omega | (simp at hr ⊢; omega) | exact hr.1 | exact hr.2)
    refine G_lp [1] (i + 1, ?v1) ?ok1 ?wk1
    case ok1 => exact ⟨by simp only; omega, by simp only; omega⟩
    case wk1 =>
      (repeat' apply And.intro) <;> (first | exact rfl | exact trivial | omega | refine sigEq ?_ | skip)
  · have hk' : i = 3 := by omega
    subst hk'
    refine G_run tOk eok_eput 60 (fun _ => none) (fun bs => rfl) (fun bs => ?_) (fun bs => ?_)
    · (repeat' apply And.intro) <;> (intros; first | exact trivial | exact rfl | omega | exact u8_lo _ | exact u8_hi _ | exact u8_in64 _ | exact u8_in63 _ | (simp only [inR, IntKind.bits]; omega) | (simp [inR, IntKind.bits]; done) | (simp [inR, IntKind.bits] at * <;> omega) | (simp_all; done) | skip)
    refine G_ret tOk hM0 rfl rfl ⟨trivial, trivial, trivial⟩ ⟨⟨rfl, rfl, rfl, sigEq ?_⟩, ⟨rfl, by simp [entE, hb]⟩, trivial⟩
    simp only [entL, hb, if_true]

def eput_s : FSpec
  | [.g [.pv (.val (.int .i64 e0)), .pv (.val (.int .i64 e1)), .pv (.val (.int .i64 e2)), .pv (.val (.int .i64 e3)), .pv (.val (.int .u32 e4))], .c (.pv (.val (.int .i64 c)))] => some ((inR .u32 e4), false, .ot 5 .byt (entL e0 e1 e2 e3 e4 c) [.c (i64 (entE e0 e1 e2 e3 e4 c))])
  | _ => none
theorem eput_s_ok : SpecOk Try.prog 39 eput_s := by
  intro args pre sh rv h hp; unfold eput_s at h; split at h
  · cases h; have h4 := hp; exact eput_fn _ _ _ _ _ _ h4
  · cases h
def psi_eput : FuncId → Option FSpec := psiCons 39 eput_s psi_rmay
theorem psi_eput_ok : PsiFn Try.prog psi_eput := psiCons_ok eput_s_ok psi_rmay_ok
def env_rnum : Env := ⟨T, psi_eput, pspNil, 18, [], none, true⟩
theorem eok_rnum : PsiOk Try.prog env_rnum := ⟨psi_eput_ok, pspNil_ok⟩
theorem rnum_fn (l : List UInt8) (n : Int) (v : Int) (hl : l.length ≤ 1000000) (hv : 0 ≤ v ∧ v ≤ 9223372036854775807) : Ctr Try.prog 40 false [lst .byt l, int .i64 n, int .i64 v] (.o 5 .byt (putL l n false v)) := by
  refine Ctr_intro (E := env_rnum) Try.func40 rfl (by decide) rfl rfl (fun M0 W hM0 => ?_)
  refine G_run tOk eok_rnum 60 (fun _ => none) (fun bs => rfl) (fun bs => ?_) (fun bs => ?_)
  · (repeat' apply And.intro) <;> (intros; first | exact trivial | exact rfl | omega | exact u8_lo _ | exact u8_hi _ | exact u8_in64 _ | exact u8_in63 _ | (simp only [inR, IntKind.bits]; omega) | (simp [inR, IntKind.bits]; done) | (simp [inR, IntKind.bits] at * <;> omega) | (simp_all; done) | skip)
  exact G_ret tOk hM0 rfl rfl ⟨trivial, trivial⟩ ⟨rfl, rfl, rfl, sigEq rfl⟩

def rnum_s : FSpec
  | [.c (.pv (.lst .byt l)), .c (.pv (.val (.int .i64 n))), .c (.pv (.val (.int .i64 v)))] => some ((l.length ≤ 1000000) ∧ (0 ≤ v ∧ v ≤ 9223372036854775807), false, .o 5 .byt (putL l n false v))
  | _ => none
theorem rnum_s_ok : SpecOk Try.prog 40 rnum_s := by
  intro args pre sh rv h hp; unfold rnum_s at h; split at h
  · cases h; obtain ⟨hl, hv⟩ := hp; exact rnum_fn _ _ _ hl hv
  · cases h
def psi_rnum : FuncId → Option FSpec := psiCons 40 rnum_s psi_eput
theorem psi_rnum_ok : PsiFn Try.prog psi_rnum := psiCons_ok rnum_s_ok psi_eput_ok
def env_rentry : Env := ⟨T, psi_rnum, pspNil, 27, [], none, true⟩
theorem eok_rentry : PsiOk Try.prog env_rentry := ⟨psi_rnum_ok, pspNil_ok⟩
theorem rentry_fn (e0 : Int) (e1 : Int) (e2 : Int) (e3 : Int) (e4 : Int) (c : Int) (h4 : inR .u32 e4) : Ctr Try.prog 41 false [.g [.pv (.val (.int .i64 e0)), .pv (.val (.int .i64 e1)), .pv (.val (.int .i64 e2)), .pv (.val (.int .i64 e3)), .pv (.val (.int .u32 e4))], int .i64 c] (.ot 5 .byt (entL e0 e1 e2 e3 e4 c) [.c (i64 (entE e0 e1 e2 e3 e4 c))]) := by
  refine Ctr_intro (E := env_rentry) Try.func41 rfl (by decide) rfl rfl (fun M0 W hM0 => ?_)
  simp only [inR] at h4
  refine G_run tOk eok_rentry 60 (fun _ => none) (fun bs => rfl) (fun bs => ?_) (fun bs => ?_)
  · (repeat' apply And.intro) <;> (intros; first | exact trivial | exact rfl | omega | exact u8_lo _ | exact u8_hi _ | exact u8_in64 _ | exact u8_in63 _ | (simp only [inR, IntKind.bits]; omega) | (simp [inR, IntKind.bits]; done) | (simp [inR, IntKind.bits] at * <;> omega) | (simp_all; done) | skip)
  refine G_cond rfl rfl (fun h => ?_) (fun h => ?_)
  · refine G_run tOk eok_rentry 60 (fun _ => none) (fun bs => rfl) (fun bs => ?_) (fun bs => ?_)
    · (repeat' apply And.intro) <;> (intros; first | exact trivial | exact rfl | omega | exact u8_lo _ | exact u8_hi _ | exact u8_in64 _ | exact u8_in63 _ | (simp only [inR, IntKind.bits]; omega) | (simp [inR, IntKind.bits]; done) | (simp [inR, IntKind.bits] at * <;> omega) | (simp_all; done) | skip)
    have hb : mayE e0 e1 e2 e3 e4 c = false := by simpa using h
    exact G_ret tOk hM0 rfl rfl ⟨trivial, trivial, trivial⟩ ⟨(show entL e0 e1 e2 e3 e4 c = [] by simp [entL, hb]), ⟨rfl, by simp [entE, hb]⟩, trivial⟩
  have hb : mayE e0 e1 e2 e3 e4 c = true := by simpa using h
  clear h
  obtain ⟨f1, f2, f3, f4, f5⟩ := may_facts hb
  have q1 : (putL [] 1 false e0).length ≤ 1 := putL_le _ _ _ _
  have q2 : (putL (putL [] 1 false e0) 1 false 0).length ≤ 2 := Nat.le_trans (putL_le _ _ _ _) (by simp; omega)
  have q3 : (putL (putL (putL [] 1 false e0) 1 false 0) 2 false e2).length ≤ 4 := Nat.le_trans (putL_le _ _ _ _) (by simp; omega)
  have q4 : (putL (putL (putL (putL [] 1 false e0) 1 false 0) 2 false e2) 4 false e1).length ≤ 8 := Nat.le_trans (putL_le _ _ _ _) (by simp; omega)
  have q5 : (putL (putL (putL (putL (putL [] 1 false e0) 1 false 0) 2 false e2) 4 false e1) 4 false e3).length ≤ 12 := Nat.le_trans (putL_le _ _ _ _) (by simp; omega)
  have e : putL (putL [] 1 false e0) 1 false 0 = [UInt8.ofNat e0.toNat, 0] := by
    have : e0 = 0 ∨ e0 = 1 ∨ e0 = 2 ∨ e0 = 3 := by omega
    rcases this with h | h | h | h <;> subst h <;> rfl
  refine G_run tOk eok_rentry 60 (fun _ => none) (fun bs => rfl) (fun bs => ?_) (fun bs => ?_)
  · (repeat' apply And.intro) <;> (intros; first | exact trivial | exact rfl | omega | exact u8_lo _ | exact u8_hi _ | exact u8_in64 _ | exact u8_in63 _ | (simp only [inR, IntKind.bits]; omega) | (simp [inR, IntKind.bits]; done) | (simp [inR, IntKind.bits] at * <;> omega) | (simp_all; done) | skip)
  refine G_draw tOk eok_rentry rfl (fun _ => none) 16 [0, 1, 3, 7, 0, 16, 63, 0, 128, 511, 0, 1024, 4095, 0, 8192, 24576, 65535, 131071, 262143] [] rfl (by decide +kernel) (fun bs => rfl) (fun bs => ?_) (fun bs => ?_)
  · (repeat' apply And.intro) <;> (intros; first | exact trivial | exact rfl | omega | exact u8_lo _ | exact u8_hi _ | exact u8_in64 _ | exact u8_in63 _ | (simp only [inR, IntKind.bits]; omega) | (simp [inR, IntKind.bits]; done) | (simp [inR, IntKind.bits] at * <;> omega) | (simp_all; done) | skip)
  refine G_run tOk eok_rentry 60 (fun _ => none) (fun bs => rfl) (fun bs => by (repeat' apply And.intro) <;> (intros; first | exact trivial | exact rfl | omega | exact u8_lo _ | exact u8_hi _ | exact u8_in64 _ | exact u8_in63 _ | (simp only [inR, IntKind.bits]; omega) | (simp [inR, IntKind.bits]; done) | (simp [inR, IntKind.bits] at * <;> omega) | (simp_all; done) | skip)) (fun bs => ?_)
  refine G_ret tOk hM0 rfl rfl ⟨trivial, trivial, trivial⟩ ⟨⟨rfl, rfl, rfl, sigEq ?_⟩, ⟨rfl, by simp [entE, hb]⟩, trivial⟩
  simp only [entL, hb, if_true, accL, headL, ← e]; rfl

def rentry_s : FSpec
  | [.g [.pv (.val (.int .i64 e0)), .pv (.val (.int .i64 e1)), .pv (.val (.int .i64 e2)), .pv (.val (.int .i64 e3)), .pv (.val (.int .u32 e4))], .c (.pv (.val (.int .i64 c)))] => some ((inR .u32 e4), false, .ot 5 .byt (entL e0 e1 e2 e3 e4 c) [.c (i64 (entE e0 e1 e2 e3 e4 c))])
  | _ => none
theorem rentry_s_ok : SpecOk Try.prog 41 rentry_s := by
  intro args pre sh rv h hp; unfold rentry_s at h; split at h
  · cases h; have h4 := hp; exact rentry_fn _ _ _ _ _ _ h4
  · cases h
def psi_rentry : FuncId → Option FSpec := psiCons 41 rentry_s psi_rnum
theorem psi_rentry_ok : PsiFn Try.prog psi_rentry := psiCons_ok rentry_s_ok psi_rnum_ok
end Go.Proofs.Ytnmomckmpknbkaa
