import Derived.Test.YtnmomckmpknbkaaEntC
set_option linter.unusedSimpArgs false
set_option linter.unusedVariables false
namespace Go.Proofs.Ytnmomckmpknbkaa
open Go.Mt

theorem getV_lt (l : List UInt8) (at_ : Int) (n : Nat) (hn : n ≤ 8) : 0 ≤ getV l at_ n false ∧ getV l at_ n false < (256 ^ n : Nat) := by
  unfold getV
  split
  · rw [show ((n : Nat) : Int).toNat = n by simp, getW_getN _ n hn]
    have := getN_lt (selB l at_ n false) n; omega
  · have : 0 < 256 ^ n := Nat.pow_pos (by omega)
    omega
theorem getV4_lt (l : List UInt8) (at_ : Int) : 0 ≤ getV l at_ 4 false ∧ getV l at_ 4 false ≤ 4294967295 := by
  have := getV_lt l at_ 4 (by omega)
  have e : ((256 ^ 4 : Nat) : Int) = 4294967296 := by decide
  rw [e] at this
  have e2 : ((4 : Nat) : Int) = 4 := rfl
  rw [e2] at this; omega
theorem getV2_lt' (l : List UInt8) (at_ : Int) : 0 ≤ getV l at_ 2 false ∧ getV l at_ 2 false ≤ 65535 := getV2_lt l at_
theorem getV1_lt (l : List UInt8) (at_ : Int) : 0 ≤ getV l at_ 1 false ∧ getV l at_ 1 false ≤ 255 := by
  have := getV_lt l at_ 1 (by omega)
  have e : ((256 ^ 1 : Nat) : Int) = 256 := by decide
  rw [e] at this
  have e2 : ((1 : Nat) : Int) = 1 := rfl
  rw [e2] at this; omega

/-- The closure that reads a number. -/
def env_getnum : Env := ⟨T, psi_rentry, pspNil, 17, [], none, true⟩
theorem eok_getnum : PsiOk Try.prog env_getnum := ⟨psi_rentry_ok, pspNil_ok⟩
theorem getnum_fn (at_ : Int) (n : Int) (b : List UInt8) (hb : b.length ≤ 1000000) (hn : n = 2 ∨ n = 4) : Ctr Try.prog 52 false [int .i64 at_, int .i64 n, .c (.cel [.lst .byt b])] (.x (.c (i64 (getV b at_ n false)))) := by
  refine Ctr_intro (E := env_getnum) Try.func52 rfl (by decide) rfl rfl (fun M0 W hM0 => ?_)
  have h2 := getV2_lt' b at_
  have h4 := getV4_lt b at_
  have hv : 0 ≤ getV b at_ n false ∧ getV b at_ n false ≤ 4294967295 := by rcases hn with h | h <;> subst h <;> omega
  refine G_run tOk eok_getnum 60 (fun _ => none) (fun bs => rfl) (fun bs => ?_) (fun bs => ?_)
  · (repeat' apply And.intro) <;> (intros; first | exact trivial | exact rfl | omega | exact u8_lo _ | exact u8_hi _ | exact u8_in64 _ | exact u8_in63 _ | (simp only [inR, IntKind.bits]; omega) | (simp [inR, IntKind.bits]; done) | (simp [inR, IntKind.bits] at * <;> omega) | (simp_all; done) | skip)
  exact G_ret tOk hM0 rfl rfl ⟨trivial, trivial⟩ ⟨rfl, rfl⟩

def getnum_s : FSpec
  | [.c (.pv (.val (.int .i64 at_))), .c (.pv (.val (.int .i64 n))), .c (.cel [.lst .byt b])] => some ((b.length ≤ 1000000) ∧ (n = 2 ∨ n = 4), false, .x (.c (i64 (getV b at_ n false))))
  | _ => none
theorem getnum_s_ok : SpecOk Try.prog 52 getnum_s := by
  intro args pre sh rv h hp; unfold getnum_s at h; split at h
  · cases h; obtain ⟨hb, hn⟩ := hp; exact getnum_fn _ _ _ hb hn
  · cases h
def psi_getnum : FuncId → Option FSpec := psiCons 52 getnum_s psi_rentry
theorem psi_getnum_ok : PsiFn Try.prog psi_getnum := psiCons_ok getnum_s_ok psi_rentry_ok
def env_at_ : Env := ⟨T, psi_getnum, pspNil, 18, [], none, true⟩
theorem eok_at_ : PsiOk Try.prog env_at_ := ⟨psi_getnum_ok, pspNil_ok⟩
theorem at__fn (b : List UInt8) (k : Int) (n : Int) (hb : b.length ≤ 1000000) (hn : n = 1 ∨ n = 2 ∨ n = 4) : Ctr Try.prog 45 false [lst .byt b, int .i64 k, int .i64 n] (.x (.c (i64 (getV b k n false)))) := by
  refine Ctr_intro (E := env_at_) Try.func45 rfl (by decide) rfl rfl (fun M0 W hM0 => ?_)
  have h1 := getV1_lt b k
  have h2 := getV2_lt' b k
  have h4 := getV4_lt b k
  have hv : 0 ≤ getV b k n false ∧ getV b k n false ≤ 4294967295 := by rcases hn with h | h | h <;> subst h <;> omega
  refine G_run tOk eok_at_ 60 (fun _ => none) (fun bs => rfl) (fun bs => ?_) (fun bs => ?_)
  · (repeat' apply And.intro) <;> (intros; first | exact trivial | exact rfl | omega | exact u8_lo _ | exact u8_hi _ | exact u8_in64 _ | exact u8_in63 _ | (simp only [inR, IntKind.bits]; omega) | (simp [inR, IntKind.bits]; done) | (simp [inR, IntKind.bits] at * <;> omega) | (simp_all; done) | skip)
  exact G_ret tOk hM0 rfl rfl ⟨trivial, trivial⟩ ⟨rfl, rfl⟩

/-- The fields as they stand. -/
def at__s : FSpec
  | [.c (.pv (.lst .byt b)), .c (.pv (.val (.int .i64 k))), .c (.pv (.val (.int .i64 n)))] => some ((b.length ≤ 1000000) ∧ (n = 1 ∨ n = 2 ∨ n = 4), false, .x (.c (i64 (getV b k n false))))
  | _ => none
theorem at__s_ok : SpecOk Try.prog 45 at__s := by
  intro args pre sh rv h hp; unfold at__s at h; split at h
  · cases h; obtain ⟨hb, hn⟩ := hp; exact at__fn _ _ _ hb hn
  · cases h
def psi_at_ : FuncId → Option FSpec := psiCons 45 at__s psi_getnum
theorem psi_at__ok : PsiFn Try.prog psi_at_ := psiCons_ok at__s_ok psi_getnum_ok
def gF (b : List UInt8) : Entry := ⟨((b.getD 0 0).toNat : Int), getV b 4 4 false, getV b 2 2 false, getV b 8 4 false, getV b 12 4 false⟩
def gE (b : List UInt8) (c : Int) : Int := if b.length = 16 ∧ (b.getD 1 0).toNat = 0 ∧ mayE (gF b).kind (gF b).start (gF b).count (gF b).size (gF b).sum c = true then 0 else 3
def gX (b : List UInt8) (c : Int) : Entry := if gE b c = 0 then gF b else ⟨0, 0, 0, 0, 0⟩

def env_eget : Env := ⟨T, psi_at_, pspNil, 39, [31], none, true⟩
theorem eok_eget : PsiOk Try.prog env_eget := ⟨psi_at__ok, pspNil_ok⟩
theorem eget_fn (b : List UInt8) (c : Int) (hb : b.length ≤ 1000000) : Ctr Try.prog 43 false [lst .byt b, int .i64 c] (.t [.g [i64 (gX b c).kind, i64 (gX b c).start, i64 (gX b c).count, i64 (gX b c).size, .val (.int .u32 (gX b c).sum)], .c (i64 (gE b c))]) := by
  refine Ctr_intro (E := env_eget) Try.func43 rfl (by decide) rfl rfl (fun M0 W hM0 => ?_)
  refine G_run tOk eok_eget 60 (fun _ => none) (fun bs => rfl) (fun bs => ?_) (fun bs => ?_)
  · (repeat' apply And.intro) <;> (intros; first | exact trivial | exact rfl | omega | exact u8_lo _ | exact u8_hi _ | exact u8_in64 _ | exact u8_in63 _ | (simp only [inR, IntKind.bits]; omega) | (simp [inR, IntKind.bits]; done) | (simp [inR, IntKind.bits] at * <;> omega) | (simp_all; done) | skip)
  refine G_cond rfl rfl (fun h => ?_) (fun h => ?_)
  · refine G_run tOk eok_eget 60 (fun _ => none) (fun bs => rfl) (fun bs => ?_) (fun bs => ?_)
    · (repeat' apply And.intro) <;> (intros; first | exact trivial | exact rfl | omega | exact u8_lo _ | exact u8_hi _ | exact u8_in64 _ | exact u8_in63 _ | (simp only [inR, IntKind.bits]; omega) | (simp [inR, IntKind.bits]; done) | (simp [inR, IntKind.bits] at * <;> omega) | (simp_all; done) | skip)
    have he : gE b c = 3 := by
      unfold gE; rw [if_neg]
      rintro ⟨a1, a2, a3⟩
      simp at h a2
      rcases h with h | h
      · omega
      · exact h a2
    refine G_ret tOk hM0 rfl rfl ⟨rfl, trivial, trivial⟩ ?_
    simp only [gX, he]
    exact ⟨⟨⟨rfl, rfl⟩, ⟨rfl, rfl⟩, ⟨rfl, rfl⟩, ⟨rfl, rfl⟩, ⟨rfl, rfl⟩, trivial⟩, ⟨rfl, rfl⟩, trivial⟩
  have h1 : b.length = 16 := by simp at h; omega
  have h2 : (b.getD 1 0).toNat = 0 := by
    simp at h
    have := h.2
    simp [List.getD]; exact this
  clear h
  have g2 := getV2_lt' b 2
  have g4 := getV4_lt b 4
  have g8 := getV4_lt b 8
  have g12 := getV4_lt b 12
  refine G_run tOk eok_eget 60 (fun _ => none) (fun bs => rfl) (fun bs => ?_) (fun bs => ?_)
  · (repeat' apply And.intro) <;> (intros; first | exact trivial | exact rfl | omega | exact u8_lo _ | exact u8_hi _ | exact u8_in64 _ | exact u8_in63 _ | (simp only [inR, IntKind.bits]; omega) | (simp [inR, IntKind.bits]; done) | (simp [inR, IntKind.bits] at * <;> omega) | (simp_all; done) | skip)
  refine G_draw tOk eok_eget rfl (fun _ => none) 15 [0, 1, 3, 7, 0, 16, 0, 112, 0, 496, 0, 2032, 4080, 8191, 0, 32767] [] rfl (by decide +kernel) (fun bs => rfl) (fun bs => ?_) (fun bs => ?_)
  · (repeat' apply And.intro) <;> (intros; first | exact trivial | exact rfl | omega | exact u8_lo _ | exact u8_hi _ | exact u8_in64 _ | exact u8_in63 _ | (simp only [inR, IntKind.bits]; omega) | (simp [inR, IntKind.bits]; done) | (simp [inR, IntKind.bits] at * <;> omega) | (simp_all; done) | skip)
  refine G_run tOk eok_eget 60 (fun _ => none) (fun bs => rfl) (fun bs => by (repeat' apply And.intro) <;> (intros; first | exact trivial | exact rfl | omega | exact u8_lo _ | exact u8_hi _ | exact u8_in64 _ | exact u8_in63 _ | (simp only [inR, IntKind.bits]; omega) | (simp [inR, IntKind.bits]; done) | (simp [inR, IntKind.bits] at * <;> omega) | (simp_all; done) | skip)) (fun bs => ?_)
  refine G_cond rfl rfl (fun h => ?_) (fun h => ?_)
  · refine G_run tOk eok_eget 60 (fun _ => none) (fun bs => rfl) (fun bs => ?_) (fun bs => ?_)
    · (repeat' apply And.intro) <;> (intros; first | exact trivial | exact rfl | omega | exact u8_lo _ | exact u8_hi _ | exact u8_in64 _ | exact u8_in63 _ | (simp only [inR, IntKind.bits]; omega) | (simp [inR, IntKind.bits]; done) | (simp [inR, IntKind.bits] at * <;> omega) | (simp_all; done) | skip)
    have he : gE b c = 3 := by
      unfold gE; rw [if_neg]
      rintro ⟨a1, a2, a3⟩
      have h' : (!mayE (gF b).kind (gF b).start (gF b).count (gF b).size (gF b).sum c) = true := h
      rw [a3] at h'; cases h'
    refine G_ret tOk hM0 rfl rfl ⟨rfl, trivial, trivial⟩ ?_
    simp only [gX, he]
    exact ⟨⟨⟨rfl, rfl⟩, ⟨rfl, rfl⟩, ⟨rfl, rfl⟩, ⟨rfl, rfl⟩, ⟨rfl, rfl⟩, trivial⟩, ⟨rfl, rfl⟩, trivial⟩
  · refine G_run tOk eok_eget 60 (fun _ => none) (fun bs => rfl) (fun bs => ?_) (fun bs => ?_)
    · (repeat' apply And.intro) <;> (intros; first | exact trivial | exact rfl | omega | exact u8_lo _ | exact u8_hi _ | exact u8_in64 _ | exact u8_in63 _ | (simp only [inR, IntKind.bits]; omega) | (simp [inR, IntKind.bits]; done) | (simp [inR, IntKind.bits] at * <;> omega) | (simp_all; done) | skip)
    have he : gE b c = 0 := by
      unfold gE; rw [if_pos]
      have h' : (!mayE (gF b).kind (gF b).start (gF b).count (gF b).size (gF b).sum c) = false := h
      exact ⟨h1, h2, by simpa using h'⟩
    refine G_ret tOk hM0 rfl rfl ⟨rfl, trivial, trivial⟩ ?_
    simp only [gX, he, if_true]
    exact ⟨⟨⟨rfl, rfl⟩, ⟨rfl, rfl⟩, ⟨rfl, rfl⟩, ⟨rfl, rfl⟩, ⟨rfl, rfl⟩, trivial⟩, ⟨rfl, rfl⟩, trivial⟩

def eget_s : FSpec
  | [.c (.pv (.lst .byt b)), .c (.pv (.val (.int .i64 c)))] => some ((b.length ≤ 1000000), false, .t [.g [i64 (gX b c).kind, i64 (gX b c).start, i64 (gX b c).count, i64 (gX b c).size, .val (.int .u32 (gX b c).sum)], .c (i64 (gE b c))])
  | _ => none
theorem eget_s_ok : SpecOk Try.prog 43 eget_s := by
  intro args pre sh rv h hp; unfold eget_s at h; split at h
  · cases h; have hb := hp; exact eget_fn _ _ hb
  · cases h
def psi_eget : FuncId → Option FSpec := psiCons 43 eget_s psi_at_
theorem psi_eget_ok : PsiFn Try.prog psi_eget := psiCons_ok eget_s_ok psi_at__ok
theorem getV_one (b : List UInt8) (h : b.length = 16) : getV b 0 1 false = ((b.getD 0 0).toNat : Int) := by
  have he : getE b 0 1 = 0 := by simp [getE, thereB, h]
  simp only [getV, he, if_true]
  rw [show (1 : Int).toNat = 1 from rfl, getW_getN _ 1 (by omega)]
  simp [getN, selB]

def env_reget : Env := ⟨T, psi_eget, pspNil, 35, [21], none, true⟩
theorem eok_reget : PsiOk Try.prog env_reget := ⟨psi_eget_ok, pspNil_ok⟩
theorem reget_fn (b : List UInt8) (c : Int) (hb : b.length ≤ 1000000) : Ctr Try.prog 46 false [lst .byt b, int .i64 c] (.t [.g [i64 (gX b c).kind, i64 (gX b c).start, i64 (gX b c).count, i64 (gX b c).size, .val (.int .u32 (gX b c).sum)], .c (i64 (gE b c))]) := by
  refine Ctr_intro (E := env_reget) Try.func46 rfl (by decide) rfl rfl (fun M0 W hM0 => ?_)
  refine G_run tOk eok_reget 60 (fun _ => none) (fun bs => rfl) (fun bs => ?_) (fun bs => ?_)
  · (repeat' apply And.intro) <;> (intros; first | exact trivial | exact rfl | omega | exact u8_lo _ | exact u8_hi _ | exact u8_in64 _ | exact u8_in63 _ | (simp only [inR, IntKind.bits]; omega) | (simp [inR, IntKind.bits]; done) | (simp [inR, IntKind.bits] at * <;> omega) | (simp_all; done) | skip)
  refine G_cond rfl rfl (fun h => ?_) (fun h => ?_)
  · refine G_run tOk eok_reget 60 (fun _ => none) (fun bs => rfl) (fun bs => ?_) (fun bs => ?_)
    · (repeat' apply And.intro) <;> (intros; first | exact trivial | exact rfl | omega | exact u8_lo _ | exact u8_hi _ | exact u8_in64 _ | exact u8_in63 _ | (simp only [inR, IntKind.bits]; omega) | (simp [inR, IntKind.bits]; done) | (simp [inR, IntKind.bits] at * <;> omega) | (simp_all; done) | skip)
    have he : gE b c = 3 := by
      unfold gE; rw [if_neg]
      rintro ⟨a1, a2, a3⟩
      simp at h; omega
    refine G_ret tOk hM0 rfl rfl ⟨rfl, trivial, trivial⟩ ?_
    simp only [gX, he]
    exact ⟨⟨⟨rfl, rfl⟩, ⟨rfl, rfl⟩, ⟨rfl, rfl⟩, ⟨rfl, rfl⟩, ⟨rfl, rfl⟩, trivial⟩, ⟨rfl, rfl⟩, trivial⟩
  have h1 : b.length = 16 := by simp at h; omega
  clear h
  have g1 := getV1_lt b 0
  have g2 := getV2_lt' b 2
  have g4 := getV4_lt b 4
  have g8 := getV4_lt b 8
  have g12 := getV4_lt b 12
  have e1 := getV_one b h1
  refine G_run tOk eok_reget 4 (fun _ => none) (fun bs => rfl) (fun bs => ?_) (fun bs => ?_)
  · (repeat' apply And.intro) <;> (intros; first | exact trivial | exact rfl | omega | exact u8_lo _ | exact u8_hi _ | exact u8_in64 _ | exact u8_in63 _ | (simp only [inR, IntKind.bits]; omega) | (simp [inR, IntKind.bits]; done) | (simp [inR, IntKind.bits] at * <;> omega) | (simp_all; done) | skip)
  by_cases h2 : (b.getD 1 0).toNat = 0
  · refine G_run tOk eok_reget 60 (fun _ => some false) (fun bs => rfl) (fun bs => ?_) (fun bs => ?_)
    · (repeat' apply And.intro) <;> (intros; first | exact trivial | exact rfl | omega | exact u8_lo _ | exact u8_hi _ | exact u8_in64 _ | exact u8_in63 _ | (simp only [inR, IntKind.bits]; omega) | (simp [inR, IntKind.bits]; done) | (simp [inR, IntKind.bits] at * <;> omega) | (simp_all; done) | skip)
      all_goals (simp [List.getD] at h2 ⊢; exact h2)
    refine G_cond rfl rfl (fun h => ?_) (fun h => ?_)
    · refine G_run tOk eok_reget 60 (fun _ => none) (fun bs => rfl) (fun bs => ?_) (fun bs => ?_)
      · (repeat' apply And.intro) <;> (intros; first | exact trivial | exact rfl | omega | exact u8_lo _ | exact u8_hi _ | exact u8_in64 _ | exact u8_in63 _ | (simp only [inR, IntKind.bits]; omega) | (simp [inR, IntKind.bits]; done) | (simp [inR, IntKind.bits] at * <;> omega) | (simp_all; done) | skip)
      have he : gE b c = 3 := by
        unfold gE; rw [if_neg]
        rintro ⟨a1, a2, a3⟩
        have h' : ((!decide (((b.getD 1 0).toNat : Int) = 0)) || !mayE (getV b 0 1 false) (getV b 4 4 false) (getV b 2 2 false) (getV b 8 4 false) (getV b 12 4 false) c) = true := h
        rw [e1] at h'
        simp only [gF] at a3
        rw [a3, h2] at h'
        simp at h'
      refine G_ret tOk hM0 rfl rfl ⟨rfl, trivial, trivial⟩ ?_
      simp only [gX, he]
      exact ⟨⟨⟨rfl, rfl⟩, ⟨rfl, rfl⟩, ⟨rfl, rfl⟩, ⟨rfl, rfl⟩, ⟨rfl, rfl⟩, trivial⟩, ⟨rfl, rfl⟩, trivial⟩
    · refine G_run tOk eok_reget 60 (fun _ => none) (fun bs => rfl) (fun bs => ?_) (fun bs => ?_)
      · (repeat' apply And.intro) <;> (intros; first | exact trivial | exact rfl | omega | exact u8_lo _ | exact u8_hi _ | exact u8_in64 _ | exact u8_in63 _ | (simp only [inR, IntKind.bits]; omega) | (simp [inR, IntKind.bits]; done) | (simp [inR, IntKind.bits] at * <;> omega) | (simp_all; done) | skip)
      have he : gE b c = 0 := by
        unfold gE; rw [if_pos]
        refine ⟨h1, h2, ?_⟩
        have h' : ((!decide (((b.getD 1 0).toNat : Int) = 0)) || !mayE (getV b 0 1 false) (getV b 4 4 false) (getV b 2 2 false) (getV b 8 4 false) (getV b 12 4 false) c) = false := h
        rw [e1] at h'
        simp only [gF]
        simp only [Bool.or_eq_false_iff] at h'
        simpa using h'.2
      refine G_ret tOk hM0 rfl rfl ⟨rfl, trivial, trivial⟩ ?_
      simp only [gX, he, if_true]
      exact ⟨⟨⟨rfl, e1⟩, ⟨rfl, rfl⟩, ⟨rfl, rfl⟩, ⟨rfl, rfl⟩, ⟨rfl, rfl⟩, trivial⟩, ⟨rfl, rfl⟩, trivial⟩
  · refine G_run tOk eok_reget 60 (fun _ => some true) (fun bs => rfl) (fun bs => ?_) (fun bs => ?_)
    · (repeat' apply And.intro) <;> (intros; first | exact trivial | exact rfl | omega | exact u8_lo _ | exact u8_hi _ | exact u8_in64 _ | exact u8_in63 _ | (simp only [inR, IntKind.bits]; omega) | (simp [inR, IntKind.bits]; done) | (simp [inR, IntKind.bits] at * <;> omega) | (simp_all; done) | skip)
      all_goals (simp [List.getD] at h2 ⊢; exact h2)
    refine G_thn rfl rfl rfl ?_
    refine G_run tOk eok_reget 60 (fun _ => none) (fun bs => rfl) (fun bs => ?_) (fun bs => ?_)
    · (repeat' apply And.intro) <;> (intros; first | exact trivial | exact rfl | omega | exact u8_lo _ | exact u8_hi _ | exact u8_in64 _ | exact u8_in63 _ | (simp only [inR, IntKind.bits]; omega) | (simp [inR, IntKind.bits]; done) | (simp [inR, IntKind.bits] at * <;> omega) | (simp_all; done) | skip)
    have he : gE b c = 3 := by
      unfold gE; rw [if_neg]
      rintro ⟨a1, a2, a3⟩
      exact h2 a2
    refine G_ret tOk hM0 rfl rfl ⟨rfl, trivial, trivial⟩ ?_
    simp only [gX, he]
    exact ⟨⟨⟨rfl, rfl⟩, ⟨rfl, rfl⟩, ⟨rfl, rfl⟩, ⟨rfl, rfl⟩, ⟨rfl, rfl⟩, trivial⟩, ⟨rfl, rfl⟩, trivial⟩

def reget_s : FSpec
  | [.c (.pv (.lst .byt b)), .c (.pv (.val (.int .i64 c)))] => some ((b.length ≤ 1000000), false, .t [.g [i64 (gX b c).kind, i64 (gX b c).start, i64 (gX b c).count, i64 (gX b c).size, .val (.int .u32 (gX b c).sum)], .c (i64 (gE b c))])
  | _ => none
theorem reget_s_ok : SpecOk Try.prog 46 reget_s := by
  intro args pre sh rv h hp; unfold reget_s at h; split at h
  · cases h; have hb := hp; exact reget_fn _ _ hb
  · cases h
def psi_reget : FuncId → Option FSpec := psiCons 46 reget_s psi_eget
theorem psi_reget_ok : PsiFn Try.prog psi_reget := psiCons_ok reget_s_ok psi_eget_ok
end Go.Proofs.Ytnmomckmpknbkaa
