import Derived.Test.YtjalmhbmlkamlaaField
import Derived.Test.YtjalmhbmlkamlaaAtom
set_option linter.unusedSimpArgs false
set_option linter.unusedVariables false
namespace Go.Proofs.Ytjalmhbmlkamlaa
open Go.Mt

def getN (f : Nat → UInt8) : Nat → Nat
  | 0 => 0
  | k + 1 => getN f k * 256 + (f k).toNat
theorem getN_lt (f : Nat → UInt8) (k : Nat) : getN f k < 256 ^ k := by
  induction k with
  | zero => simp [getN]
  | succ k ih =>
    have := (f k).toNat_lt
    simp only [getN, Nat.pow_succ]; omega
theorem ior_byte {a b : Nat} (ha : a * 256 < 18446744073709551616) (hb : b < 256) : ior .u64 (IntKind.u64.wrap ((a : Int) * 2 ^ 8)) (b : Int) = ((a * 256 + b : Nat) : Int) := by
  have hw : IntKind.u64.wrap ((a : Int) * 2 ^ 8) = ((a * 256 : Nat) : Int) := by
    rw [show (a : Int) * 2 ^ 8 = ((a * 256 : Nat) : Int) by simp]
    apply wrap_in; simp only [inR]; omega
  rw [hw]
  simp only [ior]
  have h1 : BitVec.ofInt IntKind.u64.bits ((a * 256 : Nat) : Int) = BitVec.ofNat 64 (a * 256) := BitVec.ofInt_natCast ..
  have h2 : BitVec.ofInt IntKind.u64.bits (b : Int) = BitVec.ofNat 64 b := BitVec.ofInt_natCast ..
  rw [h1, h2]
  have h3 : (BitVec.ofNat 64 (a * 256) ||| BitVec.ofNat 64 b).toNat = a * 256 + b := by
    rw [BitVec.toNat_or, BitVec.toNat_ofNat, BitVec.toNat_ofNat, Nat.mod_eq_of_lt (by omega), Nat.mod_eq_of_lt (by omega)]
    have := Nat.two_pow_add_eq_or_of_lt (i := 8) (b := b) (by omega) a
    rw [Nat.mul_comm] at this
    simpa using this.symm
  have key : ∀ n : Nat, n = a * 256 + b → IntKind.u64.wrap (n : Int) = ((a * 256 + b : Nat) : Int) := by
    intro n hn; subst hn; apply wrap_in; simp only [inR]; omega
  exact key _ h3
theorem getW_getN (f : Nat → UInt8) : ∀ k, k ≤ 8 → getW f k = (getN f k : Int) := by
  intro k
  induction k with
  | zero => intro _; rfl
  | succ k ih =>
    intro hk
    have h1 := getN_lt f k
    have h2 : 256 ^ k ≤ 256 ^ 7 := Nat.pow_le_pow_right (by omega) (by omega)
    simp only [getW, ih (by omega), getN]
    exact ior_byte (by omega) (f k).toNat_lt
theorem getV2_lt (l : List UInt8) (at_ : Int) : 0 ≤ getV l at_ 2 false ∧ getV l at_ 2 false ≤ 65535 := by
  unfold getV
  split
  · rw [show (2 : Int).toNat = 2 from rfl, getW_getN _ 2 (by omega)]
    have := getN_lt (selB l at_ 2 false) 2; omega
  · omega

def textE (s : List UInt8) : Int := if s.length ≤ 65535 then 0 else 2
def textL (l s : List UInt8) : List UInt8 := if s.length ≤ 65535 then putL l 2 false s.length ++ s else []

def env_text : Env := ⟨T, psi_rget, psp_atom, 25, []⟩
theorem eok_text : PsiOk Try.prog env_text := ⟨psi_rget_ok, psp_atom_ok⟩
theorem text_fn (l : List UInt8) (s : List UInt8) (hl : l.length ≤ 1000000) (hs : s.length ≤ 1000000) : Ctr Try.prog 16 false [lst .byt l, str s] (.ot 5 .byt (textL l s) [.c (i64 (textE s))]) := by
  refine Ctr_intro (E := env_text) Try.func16 rfl (by decide) rfl rfl (fun M0 W hM0 => ?_)
  refine G_run tOk eok_text 60 (fun _ => none) (fun bs => rfl) (fun bs => ?_) (fun bs => ?_)
  · (repeat' apply And.intro) <;> (intros; first | exact trivial | exact rfl | omega | exact u8_lo _ | exact u8_hi _ | exact u8_in64 _ | exact u8_in63 _ | (simp only [inR, IntKind.bits]; omega) | (simp [inR, IntKind.bits]; done) | (simp [inR, IntKind.bits] at * <;> omega) | (simp_all; done) | skip)
  refine G_if rfl rfl (fun h => ?_) (fun h => ?_)
  · refine G_run tOk eok_text 60 (fun _ => none) (fun bs => rfl) (fun bs => ?_) (fun bs => ?_)
    · (repeat' apply And.intro) <;> (intros; first | exact trivial | exact rfl | omega | exact u8_lo _ | exact u8_hi _ | exact u8_in64 _ | exact u8_in63 _ | (simp only [inR, IntKind.bits]; omega) | (simp [inR, IntKind.bits]; done) | (simp [inR, IntKind.bits] at * <;> omega) | (simp_all; done) | skip)
    have hs2 : ¬ s.length ≤ 65535 := by omega
    exact G_ret tOk hM0 rfl rfl ⟨trivial, trivial, trivial⟩ ⟨(show textL l s = [] by simp [textL, hs2]), ⟨rfl, by simp [textE, hs2]⟩, trivial⟩
  · have hs2 : s.length ≤ 65535 := by omega
    have hpl : (putL l 2 false (0 + s.length)).length ≤ 1000002 := by simp only [putL]; split <;> simp [putB]; omega
    refine G_run tOk eok_text 60 (fun _ => none) (fun bs => rfl) (fun bs => ?_) (fun bs => ?_)
    · (repeat' apply And.intro) <;> (intros; first | exact trivial | exact rfl | omega | exact u8_lo _ | exact u8_hi _ | exact u8_in64 _ | exact u8_in63 _ | (simp only [inR, IntKind.bits]; omega) | (simp [inR, IntKind.bits]; done) | (simp [inR, IntKind.bits] at * <;> omega) | (simp_all; done) | skip)
    refine G_ret tOk hM0 rfl rfl ?_ ?_
    · (repeat' apply And.intro) <;> (intros; first | exact trivial | exact rfl | omega | exact u8_lo _ | exact u8_hi _ | exact u8_in64 _ | exact u8_in63 _ | (simp only [inR, IntKind.bits]; omega) | (simp [inR, IntKind.bits]; done) | (simp [inR, IntKind.bits] at * <;> omega) | (simp_all; done) | skip)
    · refine ⟨⟨rfl, rfl, rfl, sigEq ?_⟩, ⟨rfl, ?_⟩, trivial⟩
      · show putL l 2 false (0 + (s.length : Int)) ++ s = _
        simp [textL, hs2]
      · show putE 2 (0 + (s.length : Int)) = _
        simp [textE, hs2, putE]; omega

def text_s : FSpec
  | [.c (.pv (.lst .byt l)), .c (.pv (.val (.string ⟨⟨s⟩⟩)))] => some ((l.length ≤ 1000000) ∧ (s.length ≤ 1000000), false, .ot 5 .byt (textL l s) [.c (i64 (textE s))])
  | _ => none
theorem text_s_ok : SpecOk Try.prog 16 text_s := by
  intro args pre sh rv h hp; unfold text_s at h; split at h
  · cases h; obtain ⟨hl, hs⟩ := hp; exact text_fn _ _ hl hs
  · cases h
def psi_text : FuncId → Option FSpec := psiCons 16 text_s psi_rget
theorem psi_text_ok : PsiFn Try.prog psi_text := psiCons_ok text_s_ok psi_rget_ok
def env_rtext : Env := ⟨T, psi_text, psp_atom, 26, []⟩
theorem eok_rtext : PsiOk Try.prog env_rtext := ⟨psi_text_ok, psp_atom_ok⟩
theorem rtext_fn (l : List UInt8) (s : List UInt8) (hl : l.length ≤ 1000000) (hs : s.length ≤ 1000000) : Ctr Try.prog 17 false [lst .byt l, str s] (.ot 5 .byt (textL l s) [.c (i64 (textE s))]) := by
  refine Ctr_intro (E := env_rtext) Try.func17 rfl (by decide) rfl rfl (fun M0 W hM0 => ?_)
  refine G_run tOk eok_rtext 60 (fun _ => none) (fun bs => rfl) (fun bs => ?_) (fun bs => ?_)
  · (repeat' apply And.intro) <;> (intros; first | exact trivial | exact rfl | omega | exact u8_lo _ | exact u8_hi _ | exact u8_in64 _ | exact u8_in63 _ | (simp only [inR, IntKind.bits]; omega) | (simp [inR, IntKind.bits]; done) | (simp [inR, IntKind.bits] at * <;> omega) | (simp_all; done) | skip)
  refine G_if rfl rfl (fun h => ?_) (fun h => ?_)
  · refine G_run tOk eok_rtext 60 (fun _ => none) (fun bs => rfl) (fun bs => ?_) (fun bs => ?_)
    · (repeat' apply And.intro) <;> (intros; first | exact trivial | exact rfl | omega | exact u8_lo _ | exact u8_hi _ | exact u8_in64 _ | exact u8_in63 _ | (simp only [inR, IntKind.bits]; omega) | (simp [inR, IntKind.bits]; done) | (simp [inR, IntKind.bits] at * <;> omega) | (simp_all; done) | skip)
    have hs2 : ¬ s.length ≤ 65535 := by omega
    exact G_ret tOk hM0 rfl rfl ⟨trivial, trivial, trivial⟩ ⟨(show textL l s = [] by simp [textL, hs2]), ⟨rfl, by simp [textE, hs2]⟩, trivial⟩
  · have hs2 : s.length ≤ 65535 := by omega
    refine G_run tOk eok_rtext 60 (fun _ => none) (fun bs => rfl) (fun bs => ?_) (fun bs => ?_)
    · (repeat' apply And.intro) <;> (intros; first | exact trivial | exact rfl | omega | exact u8_lo _ | exact u8_hi _ | exact u8_in64 _ | exact u8_in63 _ | (simp only [inR, IntKind.bits]; omega) | (simp [inR, IntKind.bits]; done) | (simp [inR, IntKind.bits] at * <;> omega) | (simp_all; done) | skip)
    refine G_ret tOk hM0 rfl rfl ?_ ?_
    · (repeat' apply And.intro) <;> (intros; first | exact trivial | exact rfl | omega | exact u8_lo _ | exact u8_hi _ | exact u8_in64 _ | exact u8_in63 _ | (simp only [inR, IntKind.bits]; omega) | (simp [inR, IntKind.bits]; done) | (simp [inR, IntKind.bits] at * <;> omega) | (simp_all; done) | skip)
    · refine ⟨⟨rfl, rfl, rfl, sigEq ?_⟩, ⟨rfl, by simp [textE, hs2]⟩, trivial⟩
      have hE : putE 2 (s.length : Int) = 0 := by simp [putE]; omega
      simp only [textL, hs2, putL, hE, if_true]
      simp [putB, List.range_succ, byteAt]

def rtext_s : FSpec
  | [.c (.pv (.lst .byt l)), .c (.pv (.val (.string ⟨⟨s⟩⟩)))] => some ((l.length ≤ 1000000) ∧ (s.length ≤ 1000000), false, .ot 5 .byt (textL l s) [.c (i64 (textE s))])
  | _ => none
theorem rtext_s_ok : SpecOk Try.prog 17 rtext_s := by
  intro args pre sh rv h hp; unfold rtext_s at h; split at h
  · cases h; obtain ⟨hl, hs⟩ := hp; exact rtext_fn _ _ hl hs
  · cases h
def psi_rtext : FuncId → Option FSpec := psiCons 17 rtext_s psi_text
theorem psi_rtext_ok : PsiFn Try.prog psi_rtext := psiCons_ok rtext_s_ok psi_text_ok
def readE (l : List UInt8) (at_ : Int) : Int := if getE l at_ 2 = 0 ∧ thereB l (at_ + 2) (getV l at_ 2 false) = true then 0 else 6
def readS (l : List UInt8) (at_ : Int) : List UInt8 := if readE l at_ = 0 then thereL l (at_ + 2) (getV l at_ 2 false) else []
def readN (l : List UInt8) (at_ : Int) : Int := if readE l at_ = 0 then at_ + 2 + getV l at_ 2 false else 0

def env_read : Env := ⟨T, psi_rtext, psp_atom, 37, []⟩
theorem eok_read : PsiOk Try.prog env_read := ⟨psi_rtext_ok, psp_atom_ok⟩
theorem read_fn (l : List UInt8) (at_ : Int) (hl : l.length ≤ 1000000) : Ctr Try.prog 18 false [lst .byt l, int .i64 at_] (.t [.c (.val (.string ⟨⟨readS l at_⟩⟩)), .c (i64 (readN l at_)), .c (i64 (readE l at_))]) := by
  refine Ctr_intro (E := env_read) Try.func18 rfl (by decide) rfl rfl (fun M0 W hM0 => ?_)
  have hv := getV2_lt l at_
  refine G_run tOk eok_read 60 (fun _ => none) (fun bs => rfl) (fun bs => ?_) (fun bs => ?_)
  · (repeat' apply And.intro) <;> (intros; first | exact trivial | exact rfl | omega | exact u8_lo _ | exact u8_hi _ | exact u8_in64 _ | exact u8_in63 _ | (simp only [inR, IntKind.bits]; omega) | (simp [inR, IntKind.bits]; done) | (simp [inR, IntKind.bits] at * <;> omega) | (simp_all; done) | skip)
  refine G_cond rfl rfl (fun h => ?_) (fun h => ?_)
  · refine G_run tOk eok_read 60 (fun _ => none) (fun bs => rfl) (fun bs => ?_) (fun bs => ?_)
    · (repeat' apply And.intro) <;> (intros; first | exact trivial | exact rfl | omega | exact u8_lo _ | exact u8_hi _ | exact u8_in64 _ | exact u8_in63 _ | (simp only [inR, IntKind.bits]; omega) | (simp [inR, IntKind.bits]; done) | (simp [inR, IntKind.bits] at * <;> omega) | (simp_all; done) | skip)
    have he : readE l at_ = 6 := by simp at h; simp [readE, h]
    exact G_ret tOk hM0 rfl rfl ⟨trivial, trivial, trivial, trivial⟩ ⟨by simp [readS, he]; rfl, ⟨rfl, by simp [readN, he]⟩, ⟨rfl, he.symm⟩, trivial⟩
  have h1 : getE l at_ 2 = 0 := by simpa using h
  have h2 : thereB l at_ 2 = true := by
    simp [getE] at h1; exact h1
  have h3 := h2
  simp [thereB] at h3
  refine G_run tOk eok_read 60 (fun _ => none) (fun bs => rfl) (fun bs => ?_) (fun bs => ?_)
  · (repeat' apply And.intro) <;> (intros; first | exact trivial | exact rfl | omega | exact u8_lo _ | exact u8_hi _ | exact u8_in64 _ | exact u8_in63 _ | (simp only [inR, IntKind.bits]; omega) | (simp [inR, IntKind.bits]; done) | (simp [inR, IntKind.bits] at * <;> omega) | (simp_all; done) | skip)
  refine G_cond rfl rfl (fun h => ?_) (fun h => ?_)
  · refine G_run tOk eok_read 60 (fun _ => none) (fun bs => rfl) (fun bs => ?_) (fun bs => ?_)
    · (repeat' apply And.intro) <;> (intros; first | exact trivial | exact rfl | omega | exact u8_lo _ | exact u8_hi _ | exact u8_in64 _ | exact u8_in63 _ | (simp only [inR, IntKind.bits]; omega) | (simp [inR, IntKind.bits]; done) | (simp [inR, IntKind.bits] at * <;> omega) | (simp_all; done) | skip)
    have he : readE l at_ = 6 := by simp at h; simp [readE, h]
    exact G_ret tOk hM0 rfl rfl ⟨trivial, trivial, trivial, trivial⟩ ⟨by simp [readS, he]; rfl, ⟨rfl, by simp [readN, he]⟩, ⟨rfl, he.symm⟩, trivial⟩
  have h4 : thereB l (at_ + 2) (getV l at_ 2 false) = true := by simpa using h
  have he : readE l at_ = 0 := by simp [readE, h1, h4]
  refine G_run tOk eok_read 60 (fun _ => none) (fun bs => rfl) (fun bs => ?_) (fun bs => ?_)
  · (repeat' apply And.intro) <;> (intros; first | exact trivial | exact rfl | omega | exact u8_lo _ | exact u8_hi _ | exact u8_in64 _ | exact u8_in63 _ | (simp only [inR, IntKind.bits]; omega) | (simp [inR, IntKind.bits]; done) | (simp [inR, IntKind.bits] at * <;> omega) | (simp_all; done) | skip)
  exact G_ret tOk hM0 rfl rfl ⟨trivial, trivial, trivial, trivial⟩ ⟨by simp [readS, he]; rfl, ⟨rfl, by simp [readN, he]⟩, ⟨rfl, he.symm⟩, trivial⟩

def read_s : FSpec
  | [.c (.pv (.lst .byt l)), .c (.pv (.val (.int .i64 at_)))] => some ((l.length ≤ 1000000), false, .t [.c (.val (.string ⟨⟨readS l at_⟩⟩)), .c (i64 (readN l at_)), .c (i64 (readE l at_))])
  | _ => none
theorem read_s_ok : SpecOk Try.prog 18 read_s := by
  intro args pre sh rv h hp; unfold read_s at h; split at h
  · cases h; have hl := hp; exact read_fn _ _ hl
  · cases h
def psi_read : FuncId → Option FSpec := psiCons 18 read_s psi_rtext
theorem psi_read_ok : PsiFn Try.prog psi_read := psiCons_ok read_s_ok psi_rtext_ok
def env_rread : Env := ⟨T, psi_read, psp_atom, 42, []⟩
theorem eok_rread : PsiOk Try.prog env_rread := ⟨psi_read_ok, psp_atom_ok⟩
theorem rread_fn (l : List UInt8) (at_ : Int) (hl : l.length ≤ 1000000) (ha : inR .i64 at_) : Ctr Try.prog 19 false [lst .byt l, int .i64 at_] (.t [.c (.val (.string ⟨⟨readS l at_⟩⟩)), .c (i64 (readN l at_)), .c (i64 (readE l at_))]) := by
  refine Ctr_intro (E := env_rread) Try.func19 rfl (by decide) rfl rfl (fun M0 W hM0 => ?_)
  have hv := getV2_lt l at_
  simp only [inR] at ha
  by_cases h1 : getE l at_ 2 = 0
  · have h2 : thereB l at_ 2 = true := by simp [getE] at h1; exact h1
    have h3 := h2
    simp [thereB] at h3
    refine G_run tOk eok_rread 60 (fun _ => none) (fun bs => rfl) (fun bs => ?_) (fun bs => ?_)
    · (repeat' apply And.intro) <;> (intros; first | exact trivial | exact rfl | omega | exact u8_lo _ | exact u8_hi _ | exact u8_in64 _ | exact u8_in63 _ | (simp only [inR, IntKind.bits]; omega) | (simp [inR, IntKind.bits, h1]; done) | (simp [inR, IntKind.bits, h1] at * <;> omega) | (simp_all; done) | skip)
    refine G_cond rfl rfl (fun h => ?_) (fun h => ?_)
    · refine G_run tOk eok_rread 60 (fun _ => none) (fun bs => rfl) (fun bs => ?_) (fun bs => ?_)
      · (repeat' apply And.intro) <;> (intros; first | exact trivial | exact rfl | omega | exact u8_lo _ | exact u8_hi _ | exact u8_in64 _ | exact u8_in63 _ | (simp only [inR, IntKind.bits]; omega) | (simp [inR, IntKind.bits]; done) | (simp [inR, IntKind.bits] at * <;> omega) | (simp_all; done) | skip)
      simp [h1] at h
      have he : readE l at_ = 6 := by simp [readE, thereB]; omega
      exact G_ret tOk hM0 rfl rfl ⟨trivial, trivial, trivial, trivial⟩ ⟨by simp [readS, he]; rfl, ⟨rfl, by simp [readN, he]⟩, ⟨rfl, he.symm⟩, trivial⟩
    · simp [h1] at h
      have h4 : thereB l (at_ + 2) (getV l at_ 2 false) = true := by simp [thereB]; omega
      have he : readE l at_ = 0 := by simp [readE, h1, h4]
      refine G_run tOk eok_rread 60 (fun _ => none) (fun bs => rfl) (fun bs => ?_) (fun bs => ?_)
      · (repeat' apply And.intro) <;> (intros; first | exact trivial | exact rfl | omega | exact u8_lo _ | exact u8_hi _ | exact u8_in64 _ | exact u8_in63 _ | (simp only [inR, IntKind.bits]; omega) | (simp [inR, IntKind.bits]; done) | (simp [inR, IntKind.bits] at * <;> omega) | (simp_all; done) | skip)
      exact G_ret tOk hM0 rfl rfl ⟨trivial, trivial, trivial, trivial⟩ ⟨by simp [readS, he, thereL, h4]; rfl, ⟨rfl, by simp [readN, he]⟩, ⟨rfl, he.symm⟩, trivial⟩
  · refine G_run tOk eok_rread 60 (fun _ => none) (fun bs => rfl) (fun bs => ?_) (fun bs => ?_)
    · (repeat' apply And.intro) <;> (intros; first | exact trivial | exact rfl | omega | exact u8_lo _ | exact u8_hi _ | exact u8_in64 _ | exact u8_in63 _ | (simp only [inR, IntKind.bits]; omega) | (simp [inR, IntKind.bits, h1]; done) | (simp [inR, IntKind.bits, h1] at * <;> omega) | (simp_all; done) | skip)
    refine G_thn rfl rfl ?_ ?_
    · simp [h1]
    refine G_run tOk eok_rread 60 (fun _ => none) (fun bs => rfl) (fun bs => ?_) (fun bs => ?_)
    · (repeat' apply And.intro) <;> (intros; first | exact trivial | exact rfl | omega | exact u8_lo _ | exact u8_hi _ | exact u8_in64 _ | exact u8_in63 _ | (simp only [inR, IntKind.bits]; omega) | (simp [inR, IntKind.bits]; done) | (simp [inR, IntKind.bits] at * <;> omega) | (simp_all; done) | skip)
    have he : readE l at_ = 6 := by simp [readE, h1]
    exact G_ret tOk hM0 rfl rfl ⟨trivial, trivial, trivial, trivial⟩ ⟨by simp [readS, he]; rfl, ⟨rfl, by simp [readN, he]⟩, ⟨rfl, he.symm⟩, trivial⟩

def rread_s : FSpec
  | [.c (.pv (.lst .byt l)), .c (.pv (.val (.int .i64 at_)))] => some ((l.length ≤ 1000000) ∧ (inR .i64 at_), false, .t [.c (.val (.string ⟨⟨readS l at_⟩⟩)), .c (i64 (readN l at_)), .c (i64 (readE l at_))])
  | _ => none
theorem rread_s_ok : SpecOk Try.prog 19 rread_s := by
  intro args pre sh rv h hp; unfold rread_s at h; split at h
  · cases h; obtain ⟨hl, ha⟩ := hp; exact rread_fn _ _ hl ha
  · cases h
def psi_rread : FuncId → Option FSpec := psiCons 19 rread_s psi_read
theorem psi_rread_ok : PsiFn Try.prog psi_rread := psiCons_ok rread_s_ok psi_read_ok
def env_ftexts : Env := ⟨T, psi_rread, psp_atom, 82, []⟩
theorem eok_ftexts : PsiOk Try.prog env_ftexts := ⟨psi_rread_ok, psp_atom_ok⟩
theorem ftexts_fn (l : List UInt8) (s : List UInt8) (at_ : Int) (ha : inR .i64 at_) : Ctr Try.prog 7 false [lst .byt l, str s, int .i64 at_] (.x (.c (bv true))) := by
  refine Ctr_intro (E := env_ftexts) Try.func7 rfl (by decide) rfl rfl (fun M0 W hM0 => ?_)
  refine G_run tOk eok_ftexts 60 (fun _ => none) (fun bs => rfl) (fun bs => ?_) (fun bs => ?_)
  · (repeat' apply And.intro) <;> (intros; first | exact trivial | exact rfl | omega | exact u8_lo _ | exact u8_hi _ | exact u8_in64 _ | exact u8_in63 _ | (simp only [inR, IntKind.bits]; omega) | (simp [inR, IntKind.bits]; done) | (simp [inR, IntKind.bits] at * <;> omega) | (simp_all; done) | skip)
  refine G_cond rfl rfl (fun h => ?_) (fun h => ?_)
  · refine G_run tOk eok_ftexts 60 (fun _ => none) (fun bs => rfl) (fun bs => ?_) (fun bs => ?_)
    · (repeat' apply And.intro) <;> (intros; first | exact trivial | exact rfl | omega | exact u8_lo _ | exact u8_hi _ | exact u8_in64 _ | exact u8_in63 _ | (simp only [inR, IntKind.bits]; omega) | (simp [inR, IntKind.bits]; done) | (simp [inR, IntKind.bits] at * <;> omega) | (simp_all; done) | skip)
    exact G_ret tOk hM0 rfl rfl ⟨trivial, trivial⟩ rfl
  · have hl2 : l.length ≤ 5000 ∧ s.length ≤ 70000 := by simp at h; omega
    refine G_run tOk eok_ftexts 60 (fun _ => some true) (fun bs => rfl) (fun bs => ?_) (fun bs => ?_)
    · (repeat' apply And.intro) <;> (intros; first | exact trivial | exact rfl | omega | exact u8_lo _ | exact u8_hi _ | exact u8_in64 _ | exact u8_in63 _ | (simp only [inR, IntKind.bits]; omega) | (simp [inR, IntKind.bits]; done) | (simp [inR, IntKind.bits] at * <;> omega) | (simp_all; done) | skip)
    refine G_ret tOk hM0 rfl rfl ⟨trivial, trivial⟩ ?_
    conv => whnf
    simp

def ftexts_s : FSpec
  | [.c (.pv (.lst .byt l)), .c (.pv (.val (.string ⟨⟨s⟩⟩))), .c (.pv (.val (.int .i64 at_)))] => some ((inR .i64 at_), false, .x (.c (bv true)))
  | _ => none
theorem ftexts_s_ok : SpecOk Try.prog 7 ftexts_s := by
  intro args pre sh rv h hp; unfold ftexts_s at h; split at h
  · cases h; have ha := hp; exact ftexts_fn _ _ _ ha
  · cases h
def psi_ftexts : FuncId → Option FSpec := psiCons 7 ftexts_s psi_rread
theorem psi_ftexts_ok : PsiFn Try.prog psi_ftexts := psiCons_ok ftexts_s_ok psi_rread_ok
theorem wrap_nat {a : Nat} (ha : a < 18446744073709551616) : IntKind.u64.wrap (a : Int) = (a : Int) := by
  apply wrap_in; simp only [inR]; omega
theorem ofInt_nat (a : Nat) : BitVec.ofInt IntKind.u64.bits (a : Int) = BitVec.ofNat 64 a := BitVec.ofInt_natCast ..
theorem ior_nat {a b : Nat} (ha : a < 2 ^ 64) (hb : b < 2 ^ 64) : ior .u64 (a : Int) (b : Int) = ((a ||| b : Nat) : Int) := by
  simp only [ior, ofInt_nat]
  have h3 : (BitVec.ofNat 64 a ||| BitVec.ofNat 64 b).toNat = a ||| b := by
    rw [BitVec.toNat_or, BitVec.toNat_ofNat, BitVec.toNat_ofNat, Nat.mod_eq_of_lt ha, Nat.mod_eq_of_lt hb]
  have hl : a ||| b < 2 ^ 64 := Nat.or_lt_two_pow ha hb
  have key : ∀ n : Nat, n = a ||| b → IntKind.u64.wrap (n : Int) = ((a ||| b : Nat) : Int) := by
    intro n hn; subst hn; exact wrap_nat hl
  exact key _ h3
theorem iand_nat {a b : Nat} (ha : a < 2 ^ 64) (hb : b < 2 ^ 64) : iand .u64 (a : Int) (b : Int) = ((a &&& b : Nat) : Int) := by
  simp only [iand, ofInt_nat]
  have h3 : (BitVec.ofNat 64 a &&& BitVec.ofNat 64 b).toNat = a &&& b := by
    rw [BitVec.toNat_and, BitVec.toNat_ofNat, BitVec.toNat_ofNat, Nat.mod_eq_of_lt ha, Nat.mod_eq_of_lt hb]
  have hl : a &&& b < 2 ^ 64 := Nat.lt_of_le_of_lt Nat.and_le_left ha
  have key : ∀ n : Nat, n = a &&& b → IntKind.u64.wrap (n : Int) = ((a &&& b : Nat) : Int) := by
    intro n hn; subst hn; exact wrap_nat hl
  exact key _ h3
theorem pow_u64 {m : Nat} (hm : m ≤ 63) : IntKind.u64.wrap (1 * 2 ^ m) = ((2 ^ m : Nat) : Int) := by
  rw [show (1 : Int) * 2 ^ m = ((2 ^ m : Nat) : Int) by simp]
  exact wrap_nat (Nat.lt_of_le_of_lt (Nat.pow_le_pow_right (by omega) hm) (by decide))
theorem mask_u64 {m : Nat} (hm : m ≤ 63) : IntKind.u64.wrap (IntKind.u64.wrap (1 * 2 ^ m) - 1) = ((2 ^ m - 1 : Nat) : Int) := by
  rw [pow_u64 hm]
  have h1 : 0 < 2 ^ m := Nat.pow_pos (by omega)
  have h2 : 2 ^ m ≤ 2 ^ 63 := Nat.pow_le_pow_right (by omega) hm
  rw [show ((2 ^ m : Nat) : Int) - 1 = ((2 ^ m - 1 : Nat) : Int) by omega]
  exact wrap_nat (by omega)
theorem iand_mask {v : Int} {m : Nat} (hv : 0 ≤ v ∧ v ≤ 18446744073709551615) (hm : m ≤ 63) : iand .u64 v (IntKind.u64.wrap (IntKind.u64.wrap (1 * 2 ^ m) - 1)) = ((v.toNat % 2 ^ m : Nat) : Int) := by
  rw [mask_u64 hm]
  have h2 : 2 ^ m ≤ 2 ^ 63 := Nat.pow_le_pow_right (by omega) hm
  have := iand_nat (a := v.toNat) (b := 2 ^ m - 1) (by omega) (by omega)
  rw [show ((v.toNat : Nat) : Int) = v by omega] at this
  rw [this, Nat.and_two_pow_sub_one_eq_mod]
theorem ior_top {r m : Nat} (hm : m ≤ 62) (hr : r < 2 ^ m) : ior .u64 (IntKind.u64.wrap (1 * 2 ^ m)) (r : Int) = ((2 ^ m + r : Nat) : Int) := by
  rw [pow_u64 (by omega)]
  have h2 : 2 ^ m ≤ 2 ^ 62 := Nat.pow_le_pow_right (by omega) hm
  rw [ior_nat (by omega) (by omega)]
  have := Nat.two_pow_add_eq_or_of_lt hr 1
  rw [Nat.mul_one] at this; rw [this]
theorem putL_len {l : List UInt8} {n : Int} {big : Bool} {v : Int} (h : putE n v = 0) : (putL l n big v).length = l.length + n.toNat := by simp [putL, h, putB]

def env_fwide : Env := ⟨T, psi_ftexts, psp_atom, 103, []⟩
theorem eok_fwide : PsiOk Try.prog env_fwide := ⟨psi_ftexts_ok, psp_atom_ok⟩
theorem fwide_fn (n : Int) (v : Int) (big : Bool) (hn : inR .u8 n) (hv : inR .u64 v) : Ctr Try.prog 5 false [int .u8 n, int .u64 v, bool big] (.x (.c (bv true))) := by
  refine Ctr_intro (E := env_fwide) Try.func5 rfl (by decide) rfl rfl (fun M0 W hM0 => ?_)
  simp only [inR] at hn hv
  have hm : (8 * (1 + n % 7)).toNat ≤ 56 := by omega
  have hW : ior IntKind.u64 (IntKind.u64.wrap (1 * 2 ^ (8 * (1 + n % 7)).toNat)) (iand IntKind.u64 v (IntKind.u64.wrap (IntKind.u64.wrap (1 * 2 ^ (8 * (1 + n % 7)).toNat) - 1))) = ((2 ^ (8 * (1 + n % 7)).toNat + v.toNat % 2 ^ (8 * (1 + n % 7)).toNat : Nat) : Int) := by
    rw [iand_mask hv (by omega), ior_top (by omega) (Nat.mod_lt _ (Nat.pow_pos (by omega)))]
  have hlt : v.toNat % 2 ^ (8 * (1 + n % 7)).toNat < 2 ^ (8 * (1 + n % 7)).toNat := Nat.mod_lt _ (Nat.pow_pos (by omega))
  have hp : 2 ^ (8 * (1 + n % 7)).toNat ≤ 2 ^ 56 := Nat.pow_le_pow_right (by omega) hm
  generalize hw : (2 ^ (8 * (1 + n % 7)).toNat + v.toNat % 2 ^ (8 * (1 + n % 7)).toNat : Nat) = ww at hW
  have hww : 2 ^ (8 * (1 + n % 7)).toNat ≤ ww ∧ ww < 2 ^ (8 * (1 + n % 7)).toNat * 256 := by omega
  have hu : inR .u64 (ww : Int) := by simp only [inR]; omega
  have h6 : putE (1 + n % 7) (ww : Int) = 6 := by
    have : (ww : Int) / 2 ^ (8 * (1 + n % 7)).toNat ≠ 0 := by
      have h1 : (1 : Nat) ≤ ww / 2 ^ (8 * (1 + n % 7)).toNat := (Nat.le_div_iff_mul_le (Nat.pow_pos (by omega))).2 (by omega)
      have h2 : (ww : Int) / 2 ^ (8 * (1 + n % 7)).toNat = ((ww / 2 ^ (8 * (1 + n % 7)).toNat : Nat) : Int) := by simp
      rw [h2]; omega
    simp only [putE]
    rw [if_neg (by omega), if_pos ⟨by omega, this⟩]
  have h0 : putE (1 + n % 7 + 1) (ww : Int) = 0 := by
    have : (ww : Int) / 2 ^ (8 * (1 + n % 7 + 1)).toNat = 0 := by
      have e : (8 * (1 + n % 7 + 1)).toNat = (8 * (1 + n % 7)).toNat + 8 := by omega
      have h2 : (ww : Int) / 2 ^ (8 * (1 + n % 7 + 1)).toNat = ((ww / 2 ^ (8 * (1 + n % 7 + 1)).toNat : Nat) : Int) := by simp
      rw [h2, e, Nat.pow_add, Nat.div_eq_of_lt (by omega)]; rfl
    simp only [putE]
    rw [if_neg (by omega), if_neg (by simp [this])]
  have hLa : (putL [UInt8.ofNat (Int.toNat 7)] (1 + n % 7) big (ww : Int)).length = 0 := by simp [putL, h6]
  have hLb : ((putL [UInt8.ofNat (Int.toNat 7)] (1 + n % 7 + 1) big (ww : Int)).length : Int) = 1 + n % 7 + 2 := by rw [putL_len h0]; simp; omega
  have e1 : putE 0 0 = 1 := rfl
  have e2 : putE 9 0 = 1 := rfl
  have e3 : (putL [] 0 big 0).length = 0 := rfl
  have e4 : (putL [] 9 big 0).length = 0 := rfl
  refine G_run tOk eok_fwide 60 (fun _ => some true) (fun bs => rfl) (fun bs => ?_) (fun bs => ?_)
  · have hb : IntKind.u64.bits = 64 := rfl
    simp only [hW, h6, h0, hb, hLa, hLb, e1, e2, e3, e4]
    (repeat' apply And.intro) <;> (intros; first | exact trivial | exact rfl | omega | exact u8_lo _ | exact u8_hi _ | exact u8_in64 _ | exact u8_in63 _ | (simp only [inR, IntKind.bits]; omega) | (simp [inR, IntKind.bits]; done) | (simp [inR, IntKind.bits] at * <;> omega) | (simp_all; done) | skip)
  refine G_ret tOk hM0 rfl rfl ⟨trivial, trivial⟩ ?_
  conv => whnf
  simp only [hW, h6, h0, hLa, hLb, e1, e2, e3, e4]
  simp
def fwide_s : FSpec
  | [.c (.pv (.val (.int .u8 n))), .c (.pv (.val (.int .u64 v))), .c (.pv (.val (.bool big)))] => some ((inR .u8 n) ∧ (inR .u64 v), false, .x (.c (bv true)))
  | _ => none
theorem fwide_s_ok : SpecOk Try.prog 5 fwide_s := by
  intro args pre sh rv h hp; unfold fwide_s at h; split at h
  · cases h; obtain ⟨hn, hv⟩ := hp; exact fwide_fn _ _ _ hn hv
  · cases h
def psi_fwide : FuncId → Option FSpec := psiCons 5 fwide_s psi_ftexts
theorem psi_fwide_ok : PsiFn Try.prog psi_fwide := psiCons_ok fwide_s_ok psi_ftexts_ok
end Go.Proofs.Ytjalmhbmlkamlaa
