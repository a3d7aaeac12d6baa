import Derived.Test.YtfpfmpanmnjjhaaSlot
set_option linter.unusedSimpArgs false
set_option linter.unusedVariables false
namespace Go.Proofs.Ytfpfmpanmnjjhaa
open Go.Mt

theorem u8_lo' (b : UInt8) : (0 : Int) ≤ ((b.toNat : Nat) : Int) := by omega
theorem u8_hi' (b : UInt8) : ((b.toNat : Nat) : Int) ≤ 255 := by have := b.toNat_lt; omega
def slE (sq st ct : Int) : Int := if mayS sq st ct = true then 0 else 1
def slL (sq st ct sm : Int) : List UInt8 := if mayS sq st ct = true then slB sq st ct sm else []
theorem slL_len (sq st ct sm : Int) : (slL sq st ct sm).length ≤ 16 := by
  unfold slL; split
  · have h1 := accL_len [] [sq, st, ct, sm] 4
    simp only [slB]; simp at h1; omega
  · simp
def l16L (L : List UInt8) : List UInt8 := [UInt8.ofNat (Int.toNat ((L.getD 0 0).toNat : Int)), UInt8.ofNat (Int.toNat ((L.getD 1 0).toNat : Int)), UInt8.ofNat (Int.toNat ((L.getD 2 0).toNat : Int)), UInt8.ofNat (Int.toNat ((L.getD 3 0).toNat : Int)),
  UInt8.ofNat (Int.toNat ((L.getD 4 0).toNat : Int)), UInt8.ofNat (Int.toNat ((L.getD 5 0).toNat : Int)), UInt8.ofNat (Int.toNat ((L.getD 6 0).toNat : Int)), UInt8.ofNat (Int.toNat ((L.getD 7 0).toNat : Int)),
  UInt8.ofNat (Int.toNat ((L.getD 8 0).toNat : Int)), UInt8.ofNat (Int.toNat ((L.getD 9 0).toNat : Int)), UInt8.ofNat (Int.toNat ((L.getD 10 0).toNat : Int)), UInt8.ofNat (Int.toNat ((L.getD 11 0).toNat : Int)),
  UInt8.ofNat (Int.toNat ((L.getD 12 0).toNat : Int)), UInt8.ofNat (Int.toNat ((L.getD 13 0).toNat : Int)), UInt8.ofNat (Int.toNat ((L.getD 14 0).toNat : Int)), UInt8.ofNat (Int.toNat ((L.getD 15 0).toNat : Int))]
theorem l16L_eq (L : List UInt8) (h : L.length = 16) : l16L L = L := by
  match L, h with
  | [x0, x1, x2, x3, x4, x5, x6, x7, x8, x9, x10, x11, x12, x13, x14, x15], _ => simp [l16L]

def env_sput : Env := ⟨T, psi_laid, pspNil, 11, []⟩
theorem eok_sput : PsiOk Try.prog env_sput := ⟨psi_laid_ok, pspNil_ok⟩
theorem sput_fn (s0 : Int) (s1 : Int) (s2 : Int) (s3 : Int) (h3 : inR .u32 s3) : Ctr Try.prog 9 false [.g [.pv (.val (.int .i64 s0)), .pv (.val (.int .i64 s1)), .pv (.val (.int .i64 s2)), .pv (.val (.int .u32 s3))]] (.ot 48 .byt (slL s0 s1 s2 s3) [.c (i64 (slE s0 s1 s2))]) := by
  refine Ctr_intro (E := env_sput) Try.func9 rfl (by decide) rfl rfl (fun M0 W hM0 => ?_)
  have h3' := h3
  simp only [inR] at h3'
  refine G_run tOk eok_sput 60 (fun _ => none) (fun bs => rfl) (fun bs => ?_) (fun bs => ?_)
  · (repeat' apply And.intro) <;> (intros; first | exact trivial | exact rfl | omega | exact u8_lo _ | exact u8_hi _ | exact u8_in64 _ | exact u8_in63 _ | (simp only [inR, IntKind.bits]; omega) | (simp [inR, IntKind.bits]; done) | (simp [inR, IntKind.bits] at * <;> omega) | (simp_all; done) | skip)
  refine G_cond rfl rfl (fun h => ?_) (fun h => ?_)
  · refine G_run tOk eok_sput 60 (fun _ => none) (fun bs => rfl) (fun bs => ?_) (fun bs => ?_)
    · (repeat' apply And.intro) <;> (intros; first | exact trivial | exact rfl | omega | exact u8_lo _ | exact u8_hi _ | exact u8_in64 _ | exact u8_in63 _ | (simp only [inR, IntKind.bits]; omega) | (simp [inR, IntKind.bits]; done) | (simp [inR, IntKind.bits] at * <;> omega) | (simp_all; done) | skip)
    have hb : mayS s0 s1 s2 = false := by simpa using h
    exact G_ret tOk hM0 rfl rfl ⟨trivial, trivial, trivial⟩ ⟨(show slL s0 s1 s2 s3 = [] by simp [slL, hb]), ⟨rfl, by simp [slE, hb]⟩, trivial⟩
  have hb : mayS s0 s1 s2 = true := by simpa using h
  have hL := slB_len hb h3'
  have hu : ∀ i : Nat, (0 : Int) ≤ ((slB s0 s1 s2 s3).getD i 0).toNat ∧ (((slB s0 s1 s2 s3).getD i 0).toNat : Int) ≤ 255 := fun i => ⟨u8_lo' _, u8_hi' _⟩
  refine G_run tOk eok_sput 60 (fun _ => none) (fun bs => rfl) (fun bs => ?_) (fun bs => ?_)
  · (repeat' apply And.intro) <;> (intros; first | exact trivial | exact rfl | exact h3'.1 | exact h3'.2 | exact u8_lo' _ | exact u8_hi' _ | exact hb | omega | skip)
  refine G_ret tOk hM0 rfl rfl ⟨trivial, trivial, trivial⟩ ⟨⟨rfl, rfl, rfl, sigEq ?_⟩, ⟨rfl, by simp [slE, hb]⟩, trivial⟩
  have : slL s0 s1 s2 s3 = l16L (slB s0 s1 s2 s3) := by rw [l16L_eq _ hL]; simp [slL, hb]
  rw [this]; rfl
def sput_s : FSpec
  | [.g [.pv (.val (.int .i64 s0)), .pv (.val (.int .i64 s1)), .pv (.val (.int .i64 s2)), .pv (.val (.int .u32 s3))]] => some ((inR .u32 s3), false, .ot 48 .byt (slL s0 s1 s2 s3) [.c (i64 (slE s0 s1 s2))])
  | _ => none
theorem sput_s_ok : SpecOk Try.prog 9 sput_s := by
  intro args pre sh rv h hp; unfold sput_s at h; split at h
  · cases h; have h3 := hp; exact sput_fn _ _ _ _ h3
  · cases h
def psi_sput : FuncId → Option FSpec := psiCons 9 sput_s psi_laid
theorem psi_sput_ok : PsiFn Try.prog psi_sput := psiCons_ok sput_s_ok psi_laid_ok
theorem getV_lt (l : List UInt8) (at_ : Int) (n : Nat) (hn : n ≤ 8) : 0 ≤ getV l at_ n false ∧ getV l at_ n false < (256 ^ n : Nat) := by
  unfold getV
  split
  · rw [show ((n : Nat) : Int).toNat = n by simp, getW_getN _ n hn]
    have := getN_lt (selB l at_ n false) n; omega
  · have : 0 < 256 ^ n := Nat.pow_pos (by omega)
    omega
theorem getV4_lt (l : List UInt8) (at_ : Int) : 0 ≤ getV l at_ 4 false ∧ getV l at_ 4 false ≤ 4294967295 := by
  have := getV_lt l at_ 4 (by omega)
  have e : ((256 ^ 4 : Nat) : Int) = 4294967296 := by decide
  rw [e] at this
  have e2 : ((4 : Nat) : Int) = 4 := rfl
  rw [e2] at this; omega
theorem getN_digit (f : Nat → UInt8) : ∀ n j, j < n → getN f n / 256 ^ (n - 1 - j) % 256 = (f j).toNat := by
  intro n
  induction n with
  | zero => intro j h; omega
  | succ n ih =>
    intro j hj
    have hb := (f n).toNat_lt
    by_cases h : j = n
    · subst h
      simp only [getN, Nat.add_sub_cancel, Nat.sub_self, Nat.pow_zero, Nat.div_one]
      omega
    · have e : n + 1 - 1 - j = (n - 1 - j) + 1 := by omega
      rw [e, Nat.pow_succ, Nat.mul_comm, ← Nat.div_div_eq_div_mul]
      have : getN f (n + 1) / 256 = getN f n := by simp only [getN]; omega
      rw [this]; exact ih j (by omega)
theorem putB_getV (b : List UInt8) (at_ n : Nat) (hn : 1 ≤ n) (h8 : n ≤ 8) (h : at_ + n ≤ b.length) : putB n false (getV b at_ n false) n = (b.drop at_).take n := by
  have he : getE b at_ n = 0 := by
    unfold getE; rw [if_neg (by omega), if_pos]
    simp only [thereB, decide_eq_true_eq]; omega
  have hv : getV b at_ n false = ((getN (selB b at_ n false) n : Nat) : Int) := by
    simp only [getV, he, if_true, Int.toNat_natCast]
    exact getW_getN _ n h8
  rw [hv]
  apply List.ext_getElem
  · simp [putB]; omega
  · intro i h1 h2
    have hi : i < n := by simp [putB] at h1; exact h1
    have hd := getN_digit (selB b at_ n false) n (n - 1 - i) (by omega)
    rw [show n - 1 - (n - 1 - i) = i by omega] at hd
    have hs : selB b at_ n false (n - 1 - i) = b[at_ + i]'(by omega) := by
      simp only [selB]
      rw [show ((at_ : Int) + ((n : Int) - 1 - ((n - 1 - i : Nat) : Int))).toNat = at_ + i by omega]
      simp [List.getD, List.getElem?_eq_getElem (show at_ + i < b.length by omega)]
    rw [hs] at hd
    have hbt := byteAt_nat (getN (selB b at_ n false) n) i
    rw [hd] at hbt
    simp only [putB, List.getElem_map, List.getElem_range, List.getElem_take, List.getElem_drop]
    exact UInt8.toNat_inj.1 hbt

def env_rnum : Env := ⟨T, psi_sput, pspNil, 18, []⟩
theorem eok_rnum : PsiOk Try.prog env_rnum := ⟨psi_sput_ok, pspNil_ok⟩
theorem rnum_fn (l : List UInt8) (n : Int) (v : Int) (hl : l.length ≤ 1000000) (hv : 0 ≤ v ∧ v ≤ 9223372036854775807) : Ctr Try.prog 20 false [lst .byt l, int .i64 n, int .i64 v] (.o 5 .byt (putL l n false v)) := by
  refine Ctr_intro (E := env_rnum) Try.func20 rfl (by decide) rfl rfl (fun M0 W hM0 => ?_)
  refine G_run tOk eok_rnum 60 (fun _ => none) (fun bs => rfl) (fun bs => ?_) (fun bs => ?_)
  · (repeat' apply And.intro) <;> (intros; first | exact trivial | exact rfl | omega | exact u8_lo _ | exact u8_hi _ | exact u8_in64 _ | exact u8_in63 _ | (simp only [inR, IntKind.bits]; omega) | (simp [inR, IntKind.bits]; done) | (simp [inR, IntKind.bits] at * <;> omega) | (simp_all; done) | skip)
  exact G_ret tOk hM0 rfl rfl ⟨trivial, trivial⟩ ⟨rfl, rfl, rfl, sigEq rfl⟩

def rnum_s : FSpec
  | [.c (.pv (.lst .byt l)), .c (.pv (.val (.int .i64 n))), .c (.pv (.val (.int .i64 v)))] => some ((l.length ≤ 1000000) ∧ (0 ≤ v ∧ v ≤ 9223372036854775807), false, .o 5 .byt (putL l n false v))
  | _ => none
theorem rnum_s_ok : SpecOk Try.prog 20 rnum_s := by
  intro args pre sh rv h hp; unfold rnum_s at h; split at h
  · cases h; obtain ⟨hl, hv⟩ := hp; exact rnum_fn _ _ _ hl hv
  · cases h
def psi_rnum : FuncId → Option FSpec := psiCons 20 rnum_s psi_sput
theorem psi_rnum_ok : PsiFn Try.prog psi_rnum := psiCons_ok rnum_s_ok psi_sput_ok
theorem slot_cond (s0 s1 s2 : Int) : (decide (s0 < 1) || decide (2147483648 < s0) || decide (s1 < 2) || decide (65536 < s1) || decide (s2 < 1) || decide (1048576 < s2)) = !mayS s0 s1 s2 := by
  cases hb : mayS s0 s1 s2 with
  | true => have := mayS_iff.1 hb; simp; omega
  | false =>
    have : ¬ ((1 ≤ s0 ∧ s0 ≤ 2147483648) ∧ (2 ≤ s1 ∧ s1 ≤ 65536) ∧ (1 ≤ s2 ∧ s2 ≤ 1048576)) := fun h => by rw [mayS_iff.2 h] at hb; cases hb
    simp; omega
def env_rslot : Env := ⟨T, psi_rnum, pspNil, 45, []⟩
theorem eok_rslot : PsiOk Try.prog env_rslot := ⟨psi_rnum_ok, pspNil_ok⟩
theorem rslot_fn (s0 : Int) (s1 : Int) (s2 : Int) (s3 : Int) (h3 : inR .u32 s3) : Ctr Try.prog 10 false [.g [.pv (.val (.int .i64 s0)), .pv (.val (.int .i64 s1)), .pv (.val (.int .i64 s2)), .pv (.val (.int .u32 s3))]] (.ot 5 .byt (slL s0 s1 s2 s3) [.c (i64 (slE s0 s1 s2))]) := by
  refine Ctr_intro (E := env_rslot) Try.func10 rfl (by decide) rfl rfl (fun M0 W hM0 => ?_)
  simp only [inR] at h3
  refine G_run tOk eok_rslot 60 (fun _ => none) (fun bs => rfl) (fun bs => ?_) (fun bs => ?_)
  · (repeat' apply And.intro) <;> (intros; first | exact trivial | exact rfl | omega | exact u8_lo _ | exact u8_hi _ | exact u8_in64 _ | exact u8_in63 _ | (simp only [inR, IntKind.bits]; omega) | (simp [inR, IntKind.bits]; done) | (simp [inR, IntKind.bits] at * <;> omega) | (simp_all; done) | skip)
  refine G_cond (b := !mayS s0 s1 s2) rfl (by rw [← slot_cond]; rfl) (fun h => ?_) (fun h => ?_)
  · refine G_run tOk eok_rslot 60 (fun _ => none) (fun bs => rfl) (fun bs => ?_) (fun bs => ?_)
    · (repeat' apply And.intro) <;> (intros; first | exact trivial | exact rfl | omega | exact u8_lo _ | exact u8_hi _ | exact u8_in64 _ | exact u8_in63 _ | (simp only [inR, IntKind.bits]; omega) | (simp [inR, IntKind.bits]; done) | (simp [inR, IntKind.bits] at * <;> omega) | (simp_all; done) | skip)
    have hb : mayS s0 s1 s2 = false := by simpa using h
    exact G_ret tOk hM0 rfl rfl ⟨trivial, trivial, trivial⟩ ⟨(show slL s0 s1 s2 s3 = [] by simp [slL, hb]), ⟨rfl, by simp [slE, hb]⟩, trivial⟩
  have hb : mayS s0 s1 s2 = true := by simpa using h
  clear h
  have hms := mayS_iff.1 hb
  have q1 : (putL [] 4 false s0).length ≤ 4 := putL_le _ _ _ _
  have q2 : (putL (putL [] 4 false s0) 4 false s1).length ≤ 8 := Nat.le_trans (putL_le _ _ _ _) (by simp; omega)
  have q3 : (putL (putL (putL [] 4 false s0) 4 false s1) 4 false s2).length ≤ 12 := Nat.le_trans (putL_le _ _ _ _) (by simp; omega)
  refine G_run tOk eok_rslot 60 (fun _ => none) (fun bs => rfl) (fun bs => ?_) (fun bs => ?_)
  · (repeat' apply And.intro) <;> (intros; first | exact trivial | exact rfl | omega | exact u8_lo _ | exact u8_hi _ | exact u8_in64 _ | exact u8_in63 _ | (simp only [inR, IntKind.bits]; omega) | (simp [inR, IntKind.bits]; done) | (simp [inR, IntKind.bits] at * <;> omega) | (simp_all; done) | skip)
  refine G_draw tOk eok_rslot rfl (fun _ => none) 12 [0, 1, 3, 0, 8, 31, 0, 64, 255, 0, 512, 1536, 4095, 8191, 16383] [] rfl (by decide +kernel) (fun bs => rfl) (fun bs => ?_) (fun bs => ?_)
  · (repeat' apply And.intro) <;> (intros; first | exact trivial | exact rfl | omega | exact u8_lo _ | exact u8_hi _ | exact u8_in64 _ | exact u8_in63 _ | (simp only [inR, IntKind.bits]; omega) | (simp [inR, IntKind.bits]; done) | (simp [inR, IntKind.bits] at * <;> omega) | (simp_all; done) | skip)
  refine G_run tOk eok_rslot 60 (fun _ => none) (fun bs => rfl) (fun bs => by (repeat' apply And.intro) <;> (intros; first | exact trivial | exact rfl | omega | exact u8_lo _ | exact u8_hi _ | exact u8_in64 _ | exact u8_in63 _ | (simp only [inR, IntKind.bits]; omega) | (simp [inR, IntKind.bits]; done) | (simp [inR, IntKind.bits] at * <;> omega) | (simp_all; done) | skip)) (fun bs => ?_)
  refine G_ret tOk hM0 rfl rfl ⟨trivial, trivial, trivial⟩ ⟨⟨rfl, rfl, rfl, sigEq ?_⟩, ⟨rfl, by simp [slE, hb]⟩, trivial⟩
  simp only [slL, hb, if_true]; rfl

/-- The closure that reads a number. -/
def rslot_s : FSpec
  | [.g [.pv (.val (.int .i64 s0)), .pv (.val (.int .i64 s1)), .pv (.val (.int .i64 s2)), .pv (.val (.int .u32 s3))]] => some ((inR .u32 s3), false, .ot 5 .byt (slL s0 s1 s2 s3) [.c (i64 (slE s0 s1 s2))])
  | _ => none
theorem rslot_s_ok : SpecOk Try.prog 10 rslot_s := by
  intro args pre sh rv h hp; unfold rslot_s at h; split at h
  · cases h; have h3 := hp; exact rslot_fn _ _ _ _ h3
  · cases h
def psi_rslot : FuncId → Option FSpec := psiCons 10 rslot_s psi_rnum
theorem psi_rslot_ok : PsiFn Try.prog psi_rslot := psiCons_ok rslot_s_ok psi_rnum_ok
def env_getnum : Env := ⟨T, psi_rslot, pspNil, 15, []⟩
theorem eok_getnum : PsiOk Try.prog env_getnum := ⟨psi_rslot_ok, pspNil_ok⟩
theorem getnum_fn (i : Int) (b : List UInt8) (hb : b.length ≤ 1000000) (hi : 0 ≤ i ∧ i ≤ 3) : Ctr Try.prog 21 false [int .i64 i, .c (.cel [.lst .byt b])] (.x (.c (i64 (getV b (i * 4) 4 false)))) := by
  refine Ctr_intro (E := env_getnum) Try.func21 rfl (by decide) rfl rfl (fun M0 W hM0 => ?_)
  have h4 := getV4_lt b (i * 4)
  refine G_run tOk eok_getnum 60 (fun _ => none) (fun bs => rfl) (fun bs => ?_) (fun bs => ?_)
  · (repeat' apply And.intro) <;> (intros; first | exact trivial | exact rfl | omega | exact u8_lo _ | exact u8_hi _ | exact u8_in64 _ | exact u8_in63 _ | (simp only [inR, IntKind.bits]; omega) | (simp [inR, IntKind.bits]; done) | (simp [inR, IntKind.bits] at * <;> omega) | (simp_all; done) | skip)
  exact G_ret tOk hM0 rfl rfl ⟨trivial, trivial⟩ ⟨rfl, rfl⟩

def getnum_s : FSpec
  | [.c (.pv (.val (.int .i64 i))), .c (.cel [.lst .byt b])] => some ((b.length ≤ 1000000) ∧ (0 ≤ i ∧ i ≤ 3), false, .x (.c (i64 (getV b (i * 4) 4 false))))
  | _ => none
theorem getnum_s_ok : SpecOk Try.prog 21 getnum_s := by
  intro args pre sh rv h hp; unfold getnum_s at h; split at h
  · cases h; obtain ⟨hb, hi⟩ := hp; exact getnum_fn _ _ hb hi
  · cases h
def psi_getnum : FuncId → Option FSpec := psiCons 21 getnum_s psi_rslot
theorem psi_getnum_ok : PsiFn Try.prog psi_getnum := psiCons_ok getnum_s_ok psi_rslot_ok
def env_at_ : Env := ⟨T, psi_getnum, pspNil, 18, []⟩
theorem eok_at_ : PsiOk Try.prog env_at_ := ⟨psi_getnum_ok, pspNil_ok⟩
theorem at__fn (b : List UInt8) (k : Int) (n : Int) (hb : b.length ≤ 1000000) (hn : n = 4) : Ctr Try.prog 23 false [lst .byt b, int .i64 k, int .i64 n] (.x (.c (i64 (getV b k n false)))) := by
  refine Ctr_intro (E := env_at_) Try.func23 rfl (by decide) rfl rfl (fun M0 W hM0 => ?_)
  have h4 := getV4_lt b k
  subst hn
  refine G_run tOk eok_at_ 60 (fun _ => none) (fun bs => rfl) (fun bs => ?_) (fun bs => ?_)
  · (repeat' apply And.intro) <;> (intros; first | exact trivial | exact rfl | omega | exact u8_lo _ | exact u8_hi _ | exact u8_in64 _ | exact u8_in63 _ | (simp only [inR, IntKind.bits]; omega) | (simp [inR, IntKind.bits]; done) | (simp [inR, IntKind.bits] at * <;> omega) | (simp_all; done) | skip)
  exact G_ret tOk hM0 rfl rfl ⟨trivial, trivial⟩ ⟨rfl, rfl⟩

/-- The slot as it stands. -/
def at__s : FSpec
  | [.c (.pv (.lst .byt b)), .c (.pv (.val (.int .i64 k))), .c (.pv (.val (.int .i64 n)))] => some ((b.length ≤ 1000000) ∧ (n = 4), false, .x (.c (i64 (getV b k n false))))
  | _ => none
theorem at__s_ok : SpecOk Try.prog 23 at__s := by
  intro args pre sh rv h hp; unfold at__s at h; split at h
  · cases h; obtain ⟨hb, hn⟩ := hp; exact at__fn _ _ _ hb hn
  · cases h
def psi_at_ : FuncId → Option FSpec := psiCons 23 at__s psi_getnum
theorem psi_at__ok : PsiFn Try.prog psi_at_ := psiCons_ok at__s_ok psi_getnum_ok
def gF (b : List UInt8) : Slot := ⟨getV b 0 4 false, getV b 4 4 false, getV b 8 4 false, getV b 12 4 false⟩
def gE (b : List UInt8) : Int := if b.length = 16 ∧ mayS (gF b).seq (gF b).start (gF b).count = true then 0 else 3
def gX (b : List UInt8) : Slot := if gE b = 0 then gF b else ⟨0, 0, 0, 0⟩
theorem enc_gF (b : List UInt8) (hl : b.length = 16) : slB (gF b).seq (gF b).start (gF b).count (gF b).sum = b := by
  have p0 := putB_getV b 0 4 (by omega) (by omega) (by omega)
  have p4 := putB_getV b 4 4 (by omega) (by omega) (by omega)
  have p8 := putB_getV b 8 4 (by omega) (by omega) (by omega)
  have p12 := putB_getV b 12 4 (by omega) (by omega) (by omega)
  have g0 := getV4_lt b 0
  have g4 := getV4_lt b 4
  have g8 := getV4_lt b 8
  have g12 := getV4_lt b 12
  simp only [gF]
  rw [slB_eq g0 g4 g8 g12]
  rw [show (((getV b 0 4 false).toNat : Nat) : Int) = getV b 0 4 false by omega, show (((getV b 4 4 false).toNat : Nat) : Int) = getV b 4 4 false by omega,
    show (((getV b 8 4 false).toNat : Nat) : Int) = getV b 8 4 false by omega, show (((getV b 12 4 false).toNat : Nat) : Int) = getV b 12 4 false by omega]
  have q0 : putB 4 false (getV b 0 4 false) 4 = (b.drop 0).take 4 := p0
  have q4 : putB 4 false (getV b 4 4 false) 4 = (b.drop 4).take 4 := p4
  have q8 : putB 4 false (getV b 8 4 false) 4 = (b.drop 8).take 4 := p8
  have q12 : putB 4 false (getV b 12 4 false) 4 = (b.drop 12).take 4 := p12
  rw [q0, q4, q8, q12]
  match b, hl with
  | [x0, x1, x2, x3, x4, x5, x6, x7, x8, x9, x10, x11, x12, x13, x14, x15], _ => simp

def env_sget : Env := ⟨T, psi_at_, pspNil, 34, [19]⟩
theorem eok_sget : PsiOk Try.prog env_sget := ⟨psi_at__ok, pspNil_ok⟩
theorem sget_fn (b : List UInt8) (hb : b.length ≤ 1000000) : Ctr Try.prog 13 false [lst .byt b] (.t [.g [i64 (gX b).seq, i64 (gX b).start, i64 (gX b).count, .val (.int .u32 (gX b).sum)], .c (i64 (gE b))]) := by
  refine Ctr_intro (E := env_sget) Try.func13 rfl (by decide) rfl rfl (fun M0 W hM0 => ?_)
  refine G_run tOk eok_sget 60 (fun _ => none) (fun bs => rfl) (fun bs => ?_) (fun bs => ?_)
  · (repeat' apply And.intro) <;> (intros; first | exact trivial | exact rfl | omega | exact u8_lo _ | exact u8_hi _ | exact u8_in64 _ | exact u8_in63 _ | (simp only [inR, IntKind.bits]; omega) | (simp [inR, IntKind.bits]; done) | (simp [inR, IntKind.bits] at * <;> omega) | (simp_all; done) | skip)
  refine G_cond rfl rfl (fun h => ?_) (fun h => ?_)
  · refine G_run tOk eok_sget 60 (fun _ => none) (fun bs => rfl) (fun bs => ?_) (fun bs => ?_)
    · (repeat' apply And.intro) <;> (intros; first | exact trivial | exact rfl | omega | exact u8_lo _ | exact u8_hi _ | exact u8_in64 _ | exact u8_in63 _ | (simp only [inR, IntKind.bits]; omega) | (simp [inR, IntKind.bits]; done) | (simp [inR, IntKind.bits] at * <;> omega) | (simp_all; done) | skip)
    have he : gE b = 3 := by
      unfold gE; rw [if_neg]
      rintro ⟨a1, a2⟩
      simp at h; omega
    refine G_ret tOk hM0 rfl rfl ⟨rfl, trivial, trivial⟩ ?_
    simp only [gX, he]
    exact ⟨⟨⟨rfl, rfl⟩, ⟨rfl, rfl⟩, ⟨rfl, rfl⟩, ⟨rfl, rfl⟩, trivial⟩, ⟨rfl, rfl⟩, trivial⟩
  have h1 : b.length = 16 := by simp at h; omega
  clear h
  have g0 := getV4_lt b 0
  have g4 := getV4_lt b 4
  have g8 := getV4_lt b 8
  have g12 := getV4_lt b 12
  have g0' : 0 ≤ getV b (0 * 4) 4 false ∧ getV b (0 * 4) 4 false ≤ 4294967295 := g0
  have g4' : 0 ≤ getV b (1 * 4) 4 false ∧ getV b (1 * 4) 4 false ≤ 4294967295 := g4
  have g8' : 0 ≤ getV b (2 * 4) 4 false ∧ getV b (2 * 4) 4 false ≤ 4294967295 := g8
  have g12' : 0 ≤ getV b (3 * 4) 4 false ∧ getV b (3 * 4) 4 false ≤ 4294967295 := g12
  refine G_run tOk eok_sget 60 (fun _ => none) (fun bs => rfl) (fun bs => ?_) (fun bs => ?_)
  · (repeat' apply And.intro) <;> (intros; first | exact trivial | exact rfl | omega | exact u8_lo _ | exact u8_hi _ | exact u8_in64 _ | exact u8_in63 _ | (simp only [inR, IntKind.bits]; omega) | (simp [inR, IntKind.bits]; done) | (simp [inR, IntKind.bits] at * <;> omega) | (simp_all; done) | skip)
  by_cases hm : mayS (gF b).seq (gF b).start (gF b).count = true
  · have hm' : mayS (getV b (0 * 4) 4 false) (getV b (1 * 4) 4 false) (getV b (2 * 4) 4 false) = true := hm
    have henc : slB (getV b (0 * 4) 4 false) (getV b (1 * 4) 4 false) (getV b (2 * 4) 4 false) (getV b (3 * 4) 4 false) = b := enc_gF b h1
    refine G_draw tOk eok_sget rfl (fun _ => some false) 9 [0, 1, 3, 7, 15, 31, 15, 79, 207, 511, 1023] [] rfl (by decide +kernel) (fun bs => rfl) (fun bs => ?_) (fun bs => ?_)
    · simp only [hm', henc]
      (repeat' apply And.intro) <;> (intros; first | exact trivial | exact rfl | omega | exact u8_lo _ | exact u8_hi _ | exact u8_in64 _ | exact u8_in63 _ | (simp only [inR, IntKind.bits]; omega) | (simp [inR, IntKind.bits]; done) | (simp [inR, IntKind.bits] at * <;> omega) | (simp_all; done) | skip)
    refine G_run tOk eok_sget 60 (fun _ => some false) (fun bs => rfl) (fun bs => by (repeat' apply And.intro) <;> (intros; first | exact trivial | exact rfl | omega | exact u8_lo _ | exact u8_hi _ | exact u8_in64 _ | exact u8_in63 _ | (simp only [inR, IntKind.bits]; omega) | (simp [inR, IntKind.bits]; done) | (simp [inR, IntKind.bits] at * <;> omega) | (simp_all; done) | skip)) (fun bs => ?_)
    refine G_els rfl rfl ?_ ?_
    · simp only [hm', henc]
      simp
    refine G_run tOk eok_sget 60 (fun _ => none) (fun bs => rfl) (fun bs => ?_) (fun bs => ?_)
    · (repeat' apply And.intro) <;> (intros; first | exact trivial | exact rfl | omega | exact u8_lo _ | exact u8_hi _ | exact u8_in64 _ | exact u8_in63 _ | (simp only [inR, IntKind.bits]; omega) | (simp [inR, IntKind.bits]; done) | (simp [inR, IntKind.bits] at * <;> omega) | (simp_all; done) | skip)
    have he : gE b = 0 := by unfold gE; rw [if_pos ⟨h1, hm⟩]
    refine G_ret tOk hM0 rfl rfl ⟨rfl, trivial, trivial⟩ ?_
    simp only [gX, he, if_true]
    exact ⟨⟨⟨rfl, rfl⟩, ⟨rfl, rfl⟩, ⟨rfl, rfl⟩, ⟨rfl, rfl⟩, trivial⟩, ⟨rfl, rfl⟩, trivial⟩
  · have hm' : mayS (getV b (0 * 4) 4 false) (getV b (1 * 4) 4 false) (getV b (2 * 4) 4 false) = false := by
      have : ¬ mayS (getV b (0 * 4) 4 false) (getV b (1 * 4) 4 false) (getV b (2 * 4) 4 false) = true := hm
      simpa using this
    refine G_draw tOk eok_sget rfl (fun _ => some true) 9 [0, 1, 3, 7, 15, 31, 15, 79, 207, 511, 1023] [] rfl (by decide +kernel) (fun bs => rfl) (fun bs => ?_) (fun bs => ?_)
    · simp only [hm']
      (repeat' apply And.intro) <;> (intros; first | exact trivial | exact rfl | omega | exact u8_lo _ | exact u8_hi _ | exact u8_in64 _ | exact u8_in63 _ | (simp only [inR, IntKind.bits]; omega) | (simp [inR, IntKind.bits]; done) | (simp [inR, IntKind.bits] at * <;> omega) | (simp_all; done) | skip)
    refine G_run tOk eok_sget 60 (fun _ => some true) (fun bs => rfl) (fun bs => by (repeat' apply And.intro) <;> (intros; first | exact trivial | exact rfl | omega | exact u8_lo _ | exact u8_hi _ | exact u8_in64 _ | exact u8_in63 _ | (simp only [inR, IntKind.bits]; omega) | (simp [inR, IntKind.bits]; done) | (simp [inR, IntKind.bits] at * <;> omega) | (simp_all; done) | skip)) (fun bs => ?_)
    refine G_thn rfl rfl ?_ ?_
    · simp only [hm']
    refine G_run tOk eok_sget 60 (fun _ => none) (fun bs => rfl) (fun bs => ?_) (fun bs => ?_)
    · (repeat' apply And.intro) <;> (intros; first | exact trivial | exact rfl | omega | exact u8_lo _ | exact u8_hi _ | exact u8_in64 _ | exact u8_in63 _ | (simp only [inR, IntKind.bits]; omega) | (simp [inR, IntKind.bits]; done) | (simp [inR, IntKind.bits] at * <;> omega) | (simp_all; done) | skip)
    have he : gE b = 3 := by
      unfold gE; rw [if_neg]
      rintro ⟨a1, a2⟩
      exact hm a2
    refine G_ret tOk hM0 rfl rfl ⟨rfl, trivial, trivial⟩ ?_
    simp only [gX, he]
    exact ⟨⟨⟨rfl, rfl⟩, ⟨rfl, rfl⟩, ⟨rfl, rfl⟩, ⟨rfl, rfl⟩, trivial⟩, ⟨rfl, rfl⟩, trivial⟩
def sget_s : FSpec
  | [.c (.pv (.lst .byt b))] => some ((b.length ≤ 1000000), false, .t [.g [i64 (gX b).seq, i64 (gX b).start, i64 (gX b).count, .val (.int .u32 (gX b).sum)], .c (i64 (gE b))])
  | _ => none
theorem sget_s_ok : SpecOk Try.prog 13 sget_s := by
  intro args pre sh rv h hp; unfold sget_s at h; split at h
  · cases h; have hb := hp; exact sget_fn _ hb
  · cases h
def psi_sget : FuncId → Option FSpec := psiCons 13 sget_s psi_at_
theorem psi_sget_ok : PsiFn Try.prog psi_sget := psiCons_ok sget_s_ok psi_at__ok
end Go.Proofs.Ytfpfmpanmnjjhaa
