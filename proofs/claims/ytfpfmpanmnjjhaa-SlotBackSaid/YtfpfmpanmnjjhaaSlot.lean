import Derived.Test.YtfpfmpanmnjjhaaFieldL
set_option linter.unusedSimpArgs false
set_option linter.unusedVariables false
namespace Go.Proofs.Ytfpfmpanmnjjhaa
open Go.Mt

def env_num : Env := ⟨T, psi_rget, pspNil, 4, []⟩
theorem eok_num : PsiOk Try.prog env_num := ⟨psi_rget_ok, pspNil_ok⟩
theorem num_fn (n : Int)  : Ctr Try.prog 11 false [int .i64 n] (.x (.c (i64 n))) := by
  refine Ctr_intro (E := env_num) Try.func11 rfl (by decide) rfl rfl (fun M0 W hM0 => ?_)
  refine G_run tOk eok_num 60 (fun _ => none) (fun bs => rfl) (fun bs => ?_) (fun bs => ?_)
  · (repeat' apply And.intro) <;> (intros; first | exact trivial | exact rfl | omega | exact u8_lo _ | exact u8_hi _ | exact u8_in64 _ | exact u8_in63 _ | (simp only [inR, IntKind.bits]; omega) | (simp [inR, IntKind.bits]; done) | (simp [inR, IntKind.bits] at * <;> omega) | (simp_all; done) | skip)
  exact G_ret tOk hM0 rfl rfl ⟨trivial, trivial⟩ ⟨rfl, rfl⟩

def num_s : FSpec
  | [.c (.pv (.val (.int .i64 n)))] => some (True, false, .x (.c (i64 n)))
  | _ => none
theorem num_s_ok : SpecOk Try.prog 11 num_s := by
  intro args pre sh rv h hp; unfold num_s at h; split at h
  · cases h; exact num_fn _ 
  · cases h
def psi_num : FuncId → Option FSpec := psiCons 11 num_s psi_rget
theorem psi_num_ok : PsiFn Try.prog psi_num := psiCons_ok num_s_ok psi_rget_ok
def mayS (sq st ct : Int) : Bool := decide (1 ≤ sq) && decide (sq ≤ 2147483648) && decide (2 ≤ st) && decide (st ≤ 65536) && decide (1 ≤ ct) && decide (ct ≤ 1048576)
theorem mayS_iff {sq st ct : Int} : mayS sq st ct = true ↔ (1 ≤ sq ∧ sq ≤ 2147483648) ∧ (2 ≤ st ∧ st ≤ 65536) ∧ (1 ≤ ct ∧ ct ≤ 1048576) := by
  simp [mayS, and_assoc]

def env_may : Env := ⟨T, psi_num, pspNil, 31, []⟩
theorem eok_may : PsiOk Try.prog env_may := ⟨psi_num_ok, pspNil_ok⟩
theorem may_fn (s0 : Int) (s1 : Int) (s2 : Int) (s3 : Int)  : Ctr Try.prog 18 false [.g [.pv (.val (.int .i64 s0)), .pv (.val (.int .i64 s1)), .pv (.val (.int .i64 s2)), .pv (.val (.int .u32 s3))]] (.x (.c (bv (mayS s0 s1 s2)))) := by
  refine Ctr_intro (E := env_may) Try.func18 rfl (by decide) rfl rfl (fun M0 W hM0 => ?_)
  refine G_run tOk eok_may 60 (fun _ => none) (fun bs => rfl) (fun bs => ?_) (fun bs => ?_)
  · (repeat' apply And.intro) <;> (intros; first | exact trivial | exact rfl | omega | exact u8_lo _ | exact u8_hi _ | exact u8_in64 _ | exact u8_in63 _ | (simp only [inR, IntKind.bits]; omega) | (simp [inR, IntKind.bits]; done) | (simp [inR, IntKind.bits] at * <;> omega) | (simp_all; done) | skip)
  refine G_ret tOk hM0 rfl rfl ⟨trivial, trivial⟩ ?_
  conv => whnf
  rfl

def may_s : FSpec
  | [.g [.pv (.val (.int .i64 s0)), .pv (.val (.int .i64 s1)), .pv (.val (.int .i64 s2)), .pv (.val (.int .u32 s3))]] => some (True, false, .x (.c (bv (mayS s0 s1 s2))))
  | _ => none
theorem may_s_ok : SpecOk Try.prog 18 may_s := by
  intro args pre sh rv h hp; unfold may_s at h; split at h
  · cases h; exact may_fn _ _ _ _ 
  · cases h
def psi_may : FuncId → Option FSpec := psiCons 18 may_s psi_num
theorem psi_may_ok : PsiFn Try.prog psi_may := psiCons_ok may_s_ok psi_num_ok
theorem putL_le (l : List UInt8) (n : Int) (b : Bool) (v : Int) : (putL l n b v).length ≤ l.length + n.toNat := by
  unfold putL; split
  · simp [putB]
  · simp
theorem putL_ok (l : List UInt8) (n : Nat) (v : Int) (h1 : 1 ≤ n) (h8 : n ≤ 8) (h0 : 0 ≤ v) (hv : v < (256 ^ n : Nat)) : putL l n false v = l ++ putB n false (v.toNat : Nat) n := by
  have e : v = ((v.toNat : Nat) : Int) := by omega
  have he := putE_ok n v.toNat (by omega) (by omega) (by simp only [Int.toNat_natCast]; omega)
  rw [e]
  simp only [putL, he, if_true, Int.toNat_natCast]
theorem putL4 (l : List UInt8) (v : Int) (h : 0 ≤ v) (h2 : v ≤ 4294967295) : putL l 4 false v = l ++ putB 4 false (v.toNat : Nat) 4 := by
  have e4 : ((256 ^ 4 : Nat) : Int) = 4294967296 := by decide
  exact putL_ok l 4 v (by omega) (by omega) h (by omega)
def accL (l : List UInt8) (ns : List Int) : Nat → List UInt8
  | 0 => l
  | i + 1 => putL (accL l ns i) 4 false (ns.getD i 0)
theorem accL_len (l : List UInt8) (ns : List Int) (i : Nat) : (accL l ns i).length ≤ l.length + 4 * i := by
  induction i with
  | zero => simp [accL]
  | succ i ih => have := putL_le (accL l ns i) 4 false (ns.getD i 0); simp only [accL]; omega
/-- A slot's bytes. -/
def slB (sq st ct sm : Int) : List UInt8 := accL [] [sq, st, ct, sm] 4
theorem slB_eq {sq st ct sm : Int} (h0 : 0 ≤ sq ∧ sq ≤ 4294967295) (h1 : 0 ≤ st ∧ st ≤ 4294967295) (h2 : 0 ≤ ct ∧ ct ≤ 4294967295) (h3 : 0 ≤ sm ∧ sm ≤ 4294967295) :
    slB sq st ct sm = putB 4 false (sq.toNat : Nat) 4 ++ putB 4 false (st.toNat : Nat) 4 ++ putB 4 false (ct.toNat : Nat) 4 ++ putB 4 false (sm.toNat : Nat) 4 := by
  simp only [slB, accL, List.getD_cons_zero, List.getD_cons_succ]
  rw [putL4 _ sq h0.1 h0.2, putL4 _ st h1.1 h1.2, putL4 _ ct h2.1 h2.2, putL4 _ sm h3.1 h3.2, List.nil_append]
theorem slB_len {sq st ct sm : Int} (h : mayS sq st ct = true) (h3 : 0 ≤ sm ∧ sm ≤ 4294967295) : (slB sq st ct sm).length = 16 := by
  rw [mayS_iff] at h
  rw [slB_eq (by omega) (by omega) (by omega) h3]; simp [putB]
theorem l16 (L : List UInt8) (h : L.length = 16) : (celB L 0 16) = L.map (fun x => .val (.int .u8 (x.toNat : Int))) := by
  match L, h with
  | [x0, x1, x2, x3, x4, x5, x6, x7, x8, x9, x10, x11, x12, x13, x14, x15], _ => rfl

def env_laid : Env := ⟨T, psi_may, pspNil, 34, []⟩
theorem eok_laid : PsiOk Try.prog env_laid := ⟨psi_may_ok, pspNil_ok⟩
theorem laid_fn (s0 : Int) (s1 : Int) (s2 : Int) (s3 : Int) (hm : mayS s0 s1 s2 = true) (h3 : inR .u32 s3) : Ctr Try.prog 19 false [.g [.pv (.val (.int .i64 s0)), .pv (.val (.int .i64 s1)), .pv (.val (.int .i64 s2)), .pv (.val (.int .u32 s3))]] (.x (.g (celB (slB s0 s1 s2 s3) 0 16))) := by
  refine Ctr_intro (E := env_laid) Try.func19 rfl (by decide) rfl rfl (fun M0 W hM0 => ?_)
  simp only [inR] at h3
  have hL := slB_len hm h3
  have hms := mayS_iff.1 hm
  have hlen := fun i => accL_len [] [s0, s1, s2, s3] i
  refine G_run tOk eok_laid 60 (fun _ => none) (fun bs => rfl) (fun bs => ?_) (fun bs => ?_)
  · (repeat' apply And.intro) <;> (intros; first | exact trivial | exact rfl | omega | exact u8_lo _ | exact u8_hi _ | exact u8_in64 _ | exact u8_in63 _ | (simp only [inR, IntKind.bits]; omega) | (simp [inR, IntKind.bits]; done) | (simp [inR, IntKind.bits] at * <;> omega) | (simp_all; done) | skip)
  refine G_freeze 2 [16] rfl ⟨rfl, trivial⟩ ?_
  refine G_own 3 5 rfl ?_
  refine G_loop (fun x : Nat × Nat × Nat × Value => [(1, .c (.ptr 0 x.2.1 0)), (2, .c (.ptr 1 x.2.2.1 0)), (3, .c (.own 2 x.2.2.2)), (16, lst (.ints .i64) [s0, s1, s2, s3]), (17, int .i64 4), (18, int .i64 x.1)])
    (fun x => [.blk x.2.1 24 [.pv (i64 s0), .pv (i64 s1), .pv (i64 s2), .pv (.val (.int .u32 s3))], .blk x.2.2.1 48 (List.replicate 16 (.pv (.val (.int .u8 0)))), .own x.2.2.2 5 .byt (accL [] [s0, s1, s2, s3] x.1)])
    (fun x => x.1 ≤ 4) (fun x => 4 - x.1) rfl [0, 1, 3] (0, ?b0, ?b1, ?v0) (Nat.zero_le _) ?wk (fun x hx => ?_)
  case wk => (repeat' apply And.intro) <;> (first | exact rfl | exact trivial | omega | refine sigEq ?_ | skip)
  obtain ⟨i, b0, b1, v⟩ := x
  simp only at hx
  dsimp only
  have hl := hlen i
  refine G_run tOk eok_laid 60 (fun _ => none) (fun bs => rfl) (fun bs => ?_) (fun bs => ?_)
  · (repeat' apply And.intro) <;> (intros; first | exact trivial | exact rfl | omega | exact u8_lo _ | exact u8_hi _ | exact u8_in64 _ | exact u8_in63 _ | (simp only [inR, IntKind.bits]; omega) | (simp [inR, IntKind.bits]; done) | (simp [inR, IntKind.bits] at * <;> omega) | (simp_all; done) | skip)
  refine G_if rfl rfl (fun hk => ?_) (fun hk => ?_)
  · have hk' : i < 4 := by omega
    have hr : 0 ≤ [s0, s1, s2, s3].getD i 0 ∧ [s0, s1, s2, s3].getD i 0 ≤ 18446744073709551615 := by
      match i, hk' with
      | 0, _ => simp; omega
      | 1, _ => simp; omega
      | 2, _ => simp; omega
      | 3, _ => simp; omega
    have hl2 : (accL [] [s0, s1, s2, s3] i).length ≤ 1000000 := by simp at hl; omega
    refine G_run tOk eok_laid 60 (fun _ => none) (fun bs => rfl) (fun bs => ?_) (fun bs => ?_)
    · (repeat' apply And.intro) <;> (intros; first | exact trivial | exact rfl | omega | (simp at hr ⊢; omega) | exact hr.1 | exact hr.2)
    refine G_lp [0, 1, 3] (i + 1, ?b2, ?b3, ?v1) ?ok1 ?wk1
    case ok1 => exact ⟨by simp only; omega, by simp only; omega⟩
    case wk1 =>
      (repeat' apply And.intro) <;> (first | exact rfl | exact trivial | omega | refine sigEq ?_ | skip)
  · have hk' : i = 4 := by omega
    subst hk'
    have e : ∀ z : List UInt8, z.length = 16 → (accL [] [s0, s1, s2, s3] 4).take z.length ++ z.drop (accL [] [s0, s1, s2, s3] 4).length = slB s0 s1 s2 s3 := by
      intro z hz
      have hL' : (accL [] [s0, s1, s2, s3] 4).length = 16 := hL
      rw [hz, hL', List.drop_eq_nil_of_le (by omega), List.append_nil, List.take_of_length_le (by omega)]; rfl
    refine G_run tOk eok_laid 60 (fun _ => none) (fun bs => rfl) (fun bs => ?_) (fun bs => ?_)
    · simp only [e _ (show [UInt8.ofNat (Int.toNat 0), UInt8.ofNat (Int.toNat 0), UInt8.ofNat (Int.toNat 0), UInt8.ofNat (Int.toNat 0), UInt8.ofNat (Int.toNat 0), UInt8.ofNat (Int.toNat 0), UInt8.ofNat (Int.toNat 0), UInt8.ofNat (Int.toNat 0), UInt8.ofNat (Int.toNat 0), UInt8.ofNat (Int.toNat 0), UInt8.ofNat (Int.toNat 0), UInt8.ofNat (Int.toNat 0), UInt8.ofNat (Int.toNat 0), UInt8.ofNat (Int.toNat 0), UInt8.ofNat (Int.toNat 0), UInt8.ofNat (Int.toNat 0)].length = 16 from rfl)]
      (repeat' apply And.intro) <;> (intros; first | exact trivial | exact rfl | omega | skip)
    refine G_ret tOk hM0 rfl rfl ⟨rfl, trivial⟩ ?_
    have e' := e [UInt8.ofNat (Int.toNat 0), UInt8.ofNat (Int.toNat 0), UInt8.ofNat (Int.toNat 0), UInt8.ofNat (Int.toNat 0), UInt8.ofNat (Int.toNat 0), UInt8.ofNat (Int.toNat 0), UInt8.ofNat (Int.toNat 0), UInt8.ofNat (Int.toNat 0), UInt8.ofNat (Int.toNat 0), UInt8.ofNat (Int.toNat 0), UInt8.ofNat (Int.toNat 0), UInt8.ofNat (Int.toNat 0), UInt8.ofNat (Int.toNat 0), UInt8.ofNat (Int.toNat 0), UInt8.ofNat (Int.toNat 0), UInt8.ofNat (Int.toNat 0)] rfl
    rw [← e']
    (repeat' apply And.intro) <;> first | exact trivial | exact rfl
def laid_s : FSpec
  | [.g [.pv (.val (.int .i64 s0)), .pv (.val (.int .i64 s1)), .pv (.val (.int .i64 s2)), .pv (.val (.int .u32 s3))]] => some ((mayS s0 s1 s2 = true) ∧ (inR .u32 s3), false, .x (.g (celB (slB s0 s1 s2 s3) 0 16)))
  | _ => none
theorem laid_s_ok : SpecOk Try.prog 19 laid_s := by
  intro args pre sh rv h hp; unfold laid_s at h; split at h
  · cases h; obtain ⟨hm, h3⟩ := hp; exact laid_fn _ _ _ _ hm h3
  · cases h
def psi_laid : FuncId → Option FSpec := psiCons 19 laid_s psi_may
theorem psi_laid_ok : PsiFn Try.prog psi_laid := psiCons_ok laid_s_ok psi_may_ok
end Go.Proofs.Ytfpfmpanmnjjhaa
