import Derived.Test.YtnmomckmpknbkaaTb
import Derived.Test.YtnmomckmpknbkaaMtQ4
set_option linter.unusedSimpArgs false
set_option linter.unusedVariables false
namespace Go.Proofs.Ytnmomckmpknbkaa
open Go.Mt

def thereB (l : List UInt8) (at_ n : Int) : Bool := decide (0 ≤ at_ ∧ at_ ≤ l.length ∧ n ≤ l.length - at_)
def thereL (l : List UInt8) (at_ n : Int) : List UInt8 := match thereB l at_ n with
  | true => (l.take (at_ + n).toNat).drop at_.toNat
  | false => []

def env_there : Env := ⟨T, psiNil, pspNil, 33, [], none, true⟩
theorem eok_there : PsiOk Try.prog env_there := ⟨psiNil_ok, pspNil_ok⟩
theorem there_fn (l : List UInt8) (at_ : Int) (n : Int) (hl : l.length ≤ 1000000) (h0 : 0 ≤ n) (hn : n ≤ 1000000) : Ctr Try.prog 51 true [lst .byt l, int .i64 at_, int .i64 n] (.t [.c (.lst .byt (thereL l at_ n)), .c (bv (thereB l at_ n))]) := by
  refine Ctr_intro (E := env_there) Try.func51 rfl (by decide) rfl rfl (fun M0 W hM0 => ?_)
  refine G_run tOk eok_there 60 (fun _ => none) (fun bs => rfl) (fun bs => ?_) (fun bs => ?_)
  · (repeat' apply And.intro) <;> (intros; first | exact trivial | exact rfl | omega | exact u8_lo _ | exact u8_hi _ | exact u8_in64 _ | exact u8_in63 _ | (simp only [inR, IntKind.bits]; omega) | (simp [inR, IntKind.bits]; done) | (simp [inR, IntKind.bits] at * <;> omega) | (simp_all; done) | skip)
  refine G_cond rfl rfl (fun h => ?_) (fun h => ?_)
  · have hb : thereB l at_ n = false := by simp at h; simp [thereB]; omega
    refine G_run tOk eok_there 60 (fun _ => none) (fun bs => rfl) (fun bs => ?_) (fun bs => ?_)
    · (repeat' apply And.intro) <;> (intros; first | exact trivial | exact rfl | omega | exact u8_lo _ | exact u8_hi _ | exact u8_in64 _ | exact u8_in63 _ | (simp only [inR, IntKind.bits]; omega) | (simp [inR, IntKind.bits]; done) | (simp [inR, IntKind.bits] at * <;> omega) | (simp_all; done) | skip)
    exact G_ret tOk hM0 rfl rfl ⟨trivial, trivial, trivial⟩ ⟨⟨rfl, by simp [thereL, hb]⟩, hb.symm, trivial⟩
  · have hb : thereB l at_ n = true := by simp at h; simp [thereB]; omega
    refine G_run tOk eok_there 60 (fun _ => none) (fun bs => rfl) (fun bs => ?_) (fun bs => ?_)
    · (repeat' apply And.intro) <;> (intros; first | exact trivial | exact rfl | omega | exact u8_lo _ | exact u8_hi _ | exact u8_in64 _ | exact u8_in63 _ | (simp only [inR, IntKind.bits]; omega) | (simp [inR, IntKind.bits]; done) | (simp [inR, IntKind.bits] at * <;> omega) | (simp_all; done) | skip)
    exact G_ret tOk hM0 rfl rfl ⟨trivial, trivial, trivial⟩ ⟨by simp only [thereL, hb]; rfl, hb.symm, trivial⟩

def there_s : FSpec
  | [.c (.pv (.lst .byt l)), .c (.pv (.val (.int .i64 at_))), .c (.pv (.val (.int .i64 n)))] => some ((l.length ≤ 1000000) ∧ (0 ≤ n) ∧ (n ≤ 1000000), true, .t [.c (.lst .byt (thereL l at_ n)), .c (bv (thereB l at_ n))])
  | _ => none
theorem there_s_ok : SpecOk Try.prog 51 there_s := by
  intro args pre sh rv h hp; unfold there_s at h; split at h
  · cases h; obtain ⟨hl, h0, hn⟩ := hp; exact there_fn _ _ _ hl h0 hn
  · cases h
def psi_there : FuncId → Option FSpec := psiCons 51 there_s psiNil
theorem psi_there_ok : PsiFn Try.prog psi_there := psiCons_ok there_s_ok psiNil_ok
def putE (n v : Int) : Int := if n < 1 ∨ 8 < n then 1 else if n < 8 ∧ v / 2 ^ (8 * n).toNat ≠ 0 then 6 else 0
def byteAt (v k : Int) : UInt8 := UInt8.ofNat (IntKind.u8.wrap (v / 2 ^ (8 * k).toNat)).toNat
def putB (n : Int) (big : Bool) (v : Int) (k : Nat) : List UInt8 := (List.range k).map fun i : Nat => byteAt v (match big with | true => n - 1 - i | false => i)
theorem putB_succ (n : Int) (big : Bool) (v : Int) (k : Nat) : putB n big v (k + 1) = putB n big v k ++ [byteAt v (match big with | true => n - 1 - k | false => k)] := by
  simp [putB, List.range_succ]
def putL (l : List UInt8) (n : Int) (big : Bool) (v : Int) : List UInt8 := if putE n v = 0 then l ++ putB n big v n.toNat else []

def env_put : Env := ⟨T, psi_there, pspNil, 57, [], none, true⟩
theorem eok_put : PsiOk Try.prog env_put := ⟨psi_there_ok, pspNil_ok⟩
theorem put_fn (l : List UInt8) (n : Int) (big : Bool) (v : Int) (hl : l.length ≤ 1000000) (hv : inR .u64 v) : Ctr Try.prog 38 false [lst .byt l, int .i64 n, bool big, int .u64 v] (.ot 5 .byt (putL l n big v) [.c (i64 (putE n v))]) := by
  refine Ctr_intro (E := env_put) Try.func38 rfl (by decide) rfl rfl (fun M0 W hM0 => ?_)
  simp only [inR] at hv
  refine G_run tOk eok_put 60 (fun _ => none) (fun bs => rfl) (fun bs => ?_) (fun bs => ?_)
  · (repeat' apply And.intro) <;> (intros; first | exact trivial | exact rfl | omega | exact u8_lo _ | exact u8_hi _ | exact u8_in64 _ | exact u8_in63 _ | (simp only [inR, IntKind.bits]; omega) | (simp [inR, IntKind.bits]; done) | (simp [inR, IntKind.bits] at * <;> omega) | (simp_all; done) | skip)
  refine G_cond rfl rfl (fun h => ?_) (fun h => ?_)
  · refine G_run tOk eok_put 60 (fun _ => none) (fun bs => rfl) (fun bs => ?_) (fun bs => ?_)
    · (repeat' apply And.intro) <;> (intros; first | exact trivial | exact rfl | omega | exact u8_lo _ | exact u8_hi _ | exact u8_in64 _ | exact u8_in63 _ | (simp only [inR, IntKind.bits]; omega) | (simp [inR, IntKind.bits]; done) | (simp [inR, IntKind.bits] at * <;> omega) | (simp_all; done) | skip)
    have he : putE n v = 1 := by simp at h; simp [putE, h]
    exact G_ret tOk hM0 rfl rfl ⟨trivial, trivial, trivial⟩ ⟨(show putL l n big v = [] by simp [putL, he]), ⟨rfl, he.symm⟩, trivial⟩
  · refine G_run tOk eok_put 60 (fun _ => none) (fun bs => rfl) (fun bs => ?_) (fun bs => ?_)
    · (repeat' apply And.intro) <;> (intros; first | exact trivial | exact rfl | omega | exact u8_lo _ | exact u8_hi _ | exact u8_in64 _ | exact u8_in63 _ | (simp only [inR, IntKind.bits]; omega) | (simp [inR, IntKind.bits]; done) | (simp [inR, IntKind.bits] at * <;> omega) | (simp_all; done) | skip)
    refine G_cond rfl rfl (fun h2 => ?_) (fun h2 => ?_)
    · refine G_run tOk eok_put 60 (fun _ => none) (fun bs => rfl) (fun bs => ?_) (fun bs => ?_)
      · (repeat' apply And.intro) <;> (intros; first | exact trivial | exact rfl | omega | exact u8_lo _ | exact u8_hi _ | exact u8_in64 _ | exact u8_in63 _ | (simp only [inR, IntKind.bits]; omega) | (simp [inR, IntKind.bits]; done) | (simp [inR, IntKind.bits] at * <;> omega) | (simp_all; done) | skip)
      have he : putE n v = 6 := by simp at h h2; simp [putE, h2]; omega
      exact G_ret tOk hM0 rfl rfl ⟨trivial, trivial, trivial⟩ ⟨(show putL l n big v = [] by simp [putL, he]), ⟨rfl, he.symm⟩, trivial⟩
    · have he : putE n v = 0 := by simp at h h2; simp [putE]; omega
      have h1 : 1 ≤ n ∧ n ≤ 8 := by simp at h; omega
      clear h h2
      refine G_run tOk eok_put 60 (fun _ => none) (fun bs => rfl) (fun bs => ?_) (fun bs => ?_)
      · (repeat' apply And.intro) <;> (intros; first | exact trivial | exact rfl | omega | exact u8_lo _ | exact u8_hi _ | exact u8_in64 _ | exact u8_in63 _ | (simp only [inR, IntKind.bits]; omega) | (simp [inR, IntKind.bits]; done) | (simp [inR, IntKind.bits] at * <;> omega) | (simp_all; done) | skip)
      refine G_loop (fun x : Nat × Value => [(1, int .i64 n), (2, bool big), (3, int .u64 v), (37, int .i64 n), (38, int .i64 x.1), (10, .c (.own 0 x.2))]) (fun x => [.own x.2 5 .byt (l ++ putB n big v x.1)])
        (fun x => x.1 ≤ n.toNat) (fun x => n.toNat - x.1) rfl [1] (0, ?vv) (Nat.zero_le _) ?wk (fun x hx => ?_)
      case wk =>
        (repeat' apply And.intro) <;> (first | exact rfl | exact trivial | omega | refine sigEq ?_ | skip)
        simp [putB]
      obtain ⟨k, vv⟩ := x
      simp only at hx
      have hlen : (l ++ putB n big v k).length ≤ 1000008 := by simp [putB]; omega
      refine G_run tOk eok_put 60 (fun _ => none) (fun bs => rfl) (fun bs => ?_) (fun bs => ?_)
      · (repeat' apply And.intro) <;> (intros; first | exact trivial | exact rfl | omega | exact u8_lo _ | exact u8_hi _ | exact u8_in64 _ | exact u8_in63 _ | (simp only [inR, IntKind.bits]; omega) | (simp [inR, IntKind.bits]; done) | (simp [inR, IntKind.bits] at * <;> omega) | (simp_all; done) | skip)
      refine G_if rfl rfl (fun hk => ?_) (fun hk => ?_)
      · have hk' : (k : Int) < n := hk
        refine G_run tOk eok_put 60 (fun _ => none) (fun bs => rfl) (fun bs => ?_) (fun bs => ?_)
        · (repeat' apply And.intro) <;> (intros; first | exact trivial | exact rfl | omega | exact u8_lo _ | exact u8_hi _ | exact u8_in64 _ | exact u8_in63 _ | (simp only [inR, IntKind.bits]; omega) | (simp [inR, IntKind.bits]; done) | (simp [inR, IntKind.bits] at * <;> omega) | (simp_all; done) | skip)
        cases big with
        | true =>
          refine G_thn rfl rfl rfl ?_
          refine G_run tOk eok_put 60 (fun _ => none) (fun bs => rfl) (fun bs => ?_) (fun bs => ?_)
          · (repeat' apply And.intro) <;> (intros; first | exact trivial | exact rfl | omega | exact u8_lo _ | exact u8_hi _ | exact u8_in64 _ | exact u8_in63 _ | (simp only [inR, IntKind.bits]; omega) | (simp [inR, IntKind.bits, putB]; done) | (simp [inR, IntKind.bits, putB] at * <;> omega) | (simp_all; done) | skip)
          refine G_lp [2] (k + 1, ?v2) ?ok2 ?wk2
          case ok2 => exact ⟨by simp only; omega, by simp only; omega⟩
          case wk2 =>
            (repeat' apply And.intro) <;> (first | exact rfl | exact trivial | omega | refine sigEq ?_ | skip)
            simp only [putB_succ, List.append_assoc]; rfl
        | false =>
          refine G_els rfl rfl rfl ?_
          refine G_run tOk eok_put 60 (fun _ => none) (fun bs => rfl) (fun bs => ?_) (fun bs => ?_)
          · (repeat' apply And.intro) <;> (intros; first | exact trivial | exact rfl | omega | exact u8_lo _ | exact u8_hi _ | exact u8_in64 _ | exact u8_in63 _ | (simp only [inR, IntKind.bits]; omega) | (simp [inR, IntKind.bits, putB]; done) | (simp [inR, IntKind.bits, putB] at * <;> omega) | (simp_all; done) | skip)
          refine G_lp [2] (k + 1, ?v3) ?ok3 ?wk3
          case ok3 => exact ⟨by simp only; omega, by simp only; omega⟩
          case wk3 =>
            (repeat' apply And.intro) <;> (first | exact rfl | exact trivial | omega | refine sigEq ?_ | skip)
            simp only [putB_succ, List.append_assoc]; rfl
      · refine G_run tOk eok_put 60 (fun _ => none) (fun bs => rfl) (fun bs => ?_) (fun bs => ?_)
        · (repeat' apply And.intro) <;> (intros; first | exact trivial | exact rfl | omega | exact u8_lo _ | exact u8_hi _ | exact u8_in64 _ | exact u8_in63 _ | (simp only [inR, IntKind.bits]; omega) | (simp [inR, IntKind.bits]; done) | (simp [inR, IntKind.bits] at * <;> omega) | (simp_all; done) | skip)
        have hk' : ¬ (k : Int) < n := hk
        have hkn : k = n.toNat := by omega
        refine G_ret tOk hM0 rfl rfl ?_ ?_
        · (repeat' apply And.intro) <;> (intros; first | exact trivial | exact rfl | omega | exact u8_lo _ | exact u8_hi _ | exact u8_in64 _ | exact u8_in63 _ | (simp only [inR, IntKind.bits]; omega) | (simp [inR, IntKind.bits]; done) | (simp [inR, IntKind.bits] at * <;> omega) | (simp_all; done) | skip)
        · refine ⟨⟨rfl, rfl, rfl, sigEq ?_⟩, ⟨rfl, he.symm⟩, trivial⟩
          show l ++ putB n big v k = _
          rw [hkn]; simp [putL, he]

def put_s : FSpec
  | [.c (.pv (.lst .byt l)), .c (.pv (.val (.int .i64 n))), .c (.pv (.val (.bool big))), .c (.pv (.val (.int .u64 v)))] => some ((l.length ≤ 1000000) ∧ (inR .u64 v), false, .ot 5 .byt (putL l n big v) [.c (i64 (putE n v))])
  | _ => none
theorem put_s_ok : SpecOk Try.prog 38 put_s := by
  intro args pre sh rv h hp; unfold put_s at h; split at h
  · cases h; obtain ⟨hl, hv⟩ := hp; exact put_fn _ _ _ _ hl hv
  · cases h
def psi_put : FuncId → Option FSpec := psiCons 38 put_s psi_there
theorem psi_put_ok : PsiFn Try.prog psi_put := psiCons_ok put_s_ok psi_there_ok
def env_rput : Env := ⟨T, psi_put, pspNil, 53, [], none, true⟩
theorem eok_rput : PsiOk Try.prog env_rput := ⟨psi_put_ok, pspNil_ok⟩
theorem rput_fn (l : List UInt8) (n : Int) (big : Bool) (v : Int) (hl : l.length ≤ 1000000) (hv : inR .u64 v) : Ctr Try.prog 50 false [lst .byt l, int .i64 n, bool big, int .u64 v] (.ot 5 .byt (putL l n big v) [.c (i64 (putE n v))]) := by
  refine Ctr_intro (E := env_rput) Try.func50 rfl (by decide) rfl rfl (fun M0 W hM0 => ?_)
  simp only [inR] at hv
  refine G_run tOk eok_rput 60 (fun _ => none) (fun bs => rfl) (fun bs => ?_) (fun bs => ?_)
  · (repeat' apply And.intro) <;> (intros; first | exact trivial | exact rfl | omega | exact u8_lo _ | exact u8_hi _ | exact u8_in64 _ | exact u8_in63 _ | (simp only [inR, IntKind.bits]; omega) | (simp [inR, IntKind.bits]; done) | (simp [inR, IntKind.bits] at * <;> omega) | (simp_all; done) | skip)
  refine G_cond rfl rfl (fun h => ?_) (fun h => ?_)
  · refine G_run tOk eok_rput 60 (fun _ => none) (fun bs => rfl) (fun bs => ?_) (fun bs => ?_)
    · (repeat' apply And.intro) <;> (intros; first | exact trivial | exact rfl | omega | exact u8_lo _ | exact u8_hi _ | exact u8_in64 _ | exact u8_in63 _ | (simp only [inR, IntKind.bits]; omega) | (simp [inR, IntKind.bits]; done) | (simp [inR, IntKind.bits] at * <;> omega) | (simp_all; done) | skip)
    have he : putE n v = 1 := by simp at h; simp [putE, h]
    exact G_ret tOk hM0 rfl rfl ⟨trivial, trivial, trivial⟩ ⟨(show putL l n big v = [] by simp [putL, he]), ⟨rfl, he.symm⟩, trivial⟩
  · refine G_run tOk eok_rput 60 (fun _ => none) (fun bs => rfl) (fun bs => ?_) (fun bs => ?_)
    · (repeat' apply And.intro) <;> (intros; first | exact trivial | exact rfl | omega | exact u8_lo _ | exact u8_hi _ | exact u8_in64 _ | exact u8_in63 _ | (simp only [inR, IntKind.bits]; omega) | (simp [inR, IntKind.bits]; done) | (simp [inR, IntKind.bits] at * <;> omega) | (simp_all; done) | skip)
    refine G_cond rfl rfl (fun h2 => ?_) (fun h2 => ?_)
    · refine G_run tOk eok_rput 60 (fun _ => none) (fun bs => rfl) (fun bs => ?_) (fun bs => ?_)
      · (repeat' apply And.intro) <;> (intros; first | exact trivial | exact rfl | omega | exact u8_lo _ | exact u8_hi _ | exact u8_in64 _ | exact u8_in63 _ | (simp only [inR, IntKind.bits]; omega) | (simp [inR, IntKind.bits]; done) | (simp [inR, IntKind.bits] at * <;> omega) | (simp_all; done) | skip)
      have he : putE n v = 6 := by simp at h h2; simp [putE, h2]; omega
      exact G_ret tOk hM0 rfl rfl ⟨trivial, trivial, trivial⟩ ⟨(show putL l n big v = [] by simp [putL, he]), ⟨rfl, he.symm⟩, trivial⟩
    · have he : putE n v = 0 := by simp at h h2; simp [putE]; omega
      have h1 : 1 ≤ n ∧ n ≤ 8 := by simp at h; omega
      clear h h2
      refine G_run tOk eok_rput 60 (fun _ => none) (fun bs => rfl) (fun bs => ?_) (fun bs => ?_)
      · (repeat' apply And.intro) <;> (intros; first | exact trivial | exact rfl | omega | exact u8_lo _ | exact u8_hi _ | exact u8_in64 _ | exact u8_in63 _ | (simp only [inR, IntKind.bits]; omega) | (simp [inR, IntKind.bits]; done) | (simp [inR, IntKind.bits] at * <;> omega) | (simp_all; done) | skip)
      refine G_loop (fun x : Nat × Value => [(1, int .i64 n), (2, bool big), (3, int .u64 v), (11, int .i64 x.1), (10, .c (.own 0 x.2))]) (fun x => [.own x.2 5 .byt (l ++ putB n big v x.1)])
        (fun x => x.1 ≤ n.toNat) (fun x => n.toNat - x.1) rfl [1] (0, ?vv) (Nat.zero_le _) ?wk (fun x hx => ?_)
      case wk =>
        (repeat' apply And.intro) <;> (first | exact rfl | exact trivial | omega | refine sigEq ?_ | skip)
        simp [putB]
      obtain ⟨k, vv⟩ := x
      simp only at hx
      have hlen : (l ++ putB n big v k).length ≤ 1000008 := by simp [putB]; omega
      refine G_run tOk eok_rput 60 (fun _ => none) (fun bs => rfl) (fun bs => ?_) (fun bs => ?_)
      · (repeat' apply And.intro) <;> (intros; first | exact trivial | exact rfl | omega | exact u8_lo _ | exact u8_hi _ | exact u8_in64 _ | exact u8_in63 _ | (simp only [inR, IntKind.bits]; omega) | (simp [inR, IntKind.bits]; done) | (simp [inR, IntKind.bits] at * <;> omega) | (simp_all; done) | skip)
      refine G_if rfl rfl (fun hk => ?_) (fun hk => ?_)
      · have hk' : (k : Int) < n := hk
        refine G_run tOk eok_rput 60 (fun _ => none) (fun bs => rfl) (fun bs => ?_) (fun bs => ?_)
        · (repeat' apply And.intro) <;> (intros; first | exact trivial | exact rfl | omega | exact u8_lo _ | exact u8_hi _ | exact u8_in64 _ | exact u8_in63 _ | (simp only [inR, IntKind.bits]; omega) | (simp [inR, IntKind.bits]; done) | (simp [inR, IntKind.bits] at * <;> omega) | (simp_all; done) | skip)
        cases big with
        | true =>
          refine G_thn rfl rfl rfl ?_
          refine G_run tOk eok_rput 60 (fun _ => none) (fun bs => rfl) (fun bs => ?_) (fun bs => ?_)
          · (repeat' apply And.intro) <;> (intros; first | exact trivial | exact rfl | omega | exact u8_lo _ | exact u8_hi _ | exact u8_in64 _ | exact u8_in63 _ | (simp only [inR, IntKind.bits]; omega) | (simp [inR, IntKind.bits, putB]; done) | (simp [inR, IntKind.bits, putB] at * <;> omega) | (simp_all; done) | skip)
          refine G_lp [2] (k + 1, ?v2) ?ok2 ?wk2
          case ok2 => exact ⟨by simp only; omega, by simp only; omega⟩
          case wk2 =>
            (repeat' apply And.intro) <;> (first | exact rfl | exact trivial | omega | refine sigEq ?_ | skip)
            simp only [putB_succ, List.append_assoc]; rfl
        | false =>
          refine G_els rfl rfl rfl ?_
          refine G_run tOk eok_rput 60 (fun _ => none) (fun bs => rfl) (fun bs => ?_) (fun bs => ?_)
          · (repeat' apply And.intro) <;> (intros; first | exact trivial | exact rfl | omega | exact u8_lo _ | exact u8_hi _ | exact u8_in64 _ | exact u8_in63 _ | (simp only [inR, IntKind.bits]; omega) | (simp [inR, IntKind.bits, putB]; done) | (simp [inR, IntKind.bits, putB] at * <;> omega) | (simp_all; done) | skip)
          refine G_lp [2] (k + 1, ?v3) ?ok3 ?wk3
          case ok3 => exact ⟨by simp only; omega, by simp only; omega⟩
          case wk3 =>
            (repeat' apply And.intro) <;> (first | exact rfl | exact trivial | omega | refine sigEq ?_ | skip)
            simp only [putB_succ, List.append_assoc]; rfl
      · refine G_run tOk eok_rput 60 (fun _ => none) (fun bs => rfl) (fun bs => ?_) (fun bs => ?_)
        · (repeat' apply And.intro) <;> (intros; first | exact trivial | exact rfl | omega | exact u8_lo _ | exact u8_hi _ | exact u8_in64 _ | exact u8_in63 _ | (simp only [inR, IntKind.bits]; omega) | (simp [inR, IntKind.bits]; done) | (simp [inR, IntKind.bits] at * <;> omega) | (simp_all; done) | skip)
        have hk' : ¬ (k : Int) < n := hk
        have hkn : k = n.toNat := by omega
        refine G_ret tOk hM0 rfl rfl ?_ ?_
        · (repeat' apply And.intro) <;> (intros; first | exact trivial | exact rfl | omega | exact u8_lo _ | exact u8_hi _ | exact u8_in64 _ | exact u8_in63 _ | (simp only [inR, IntKind.bits]; omega) | (simp [inR, IntKind.bits]; done) | (simp [inR, IntKind.bits] at * <;> omega) | (simp_all; done) | skip)
        · refine ⟨⟨rfl, rfl, rfl, sigEq ?_⟩, ⟨rfl, he.symm⟩, trivial⟩
          show l ++ putB n big v k = _
          rw [hkn]; simp [putL, he]

def rput_s : FSpec
  | [.c (.pv (.lst .byt l)), .c (.pv (.val (.int .i64 n))), .c (.pv (.val (.bool big))), .c (.pv (.val (.int .u64 v)))] => some ((l.length ≤ 1000000) ∧ (inR .u64 v), false, .ot 5 .byt (putL l n big v) [.c (i64 (putE n v))])
  | _ => none
theorem rput_s_ok : SpecOk Try.prog 50 rput_s := by
  intro args pre sh rv h hp; unfold rput_s at h; split at h
  · cases h; obtain ⟨hl, hv⟩ := hp; exact rput_fn _ _ _ _ hl hv
  · cases h
def psi_rput : FuncId → Option FSpec := psiCons 50 rput_s psi_put
theorem psi_rput_ok : PsiFn Try.prog psi_rput := psiCons_ok rput_s_ok psi_put_ok
theorem getD_app {α : Type} (l m : List α) (x : Nat) (d : α) : (l ++ m).getD ((l.length : Int) + x).toNat d = m.getD x d := by
  have : ((l.length : Int) + x).toNat = l.length + x := by omega
  rw [this]; simp [List.getD, List.getElem?_append_right (show l.length ≤ l.length + x by omega)]

def getE (l : List UInt8) (at_ n : Int) : Int := if n < 1 ∨ 8 < n then 1 else if thereB l at_ n then 0 else 6
def selB (l : List UInt8) (at_ n : Int) (big : Bool) (i : Nat) : UInt8 := l.getD (at_ + (match big with | true => (i : Int) | false => n - 1 - i)).toNat 0
def getW (f : Nat → UInt8) : Nat → Int
  | 0 => 0
  | k + 1 => ior .u64 (IntKind.u64.wrap (getW f k * 2 ^ 8)) ((f k).toNat : Int)
def getV (l : List UInt8) (at_ n : Int) (big : Bool) : Int := if getE l at_ n = 0 then getW (selB l at_ n big) n.toNat else 0
theorem there_getD {l : List UInt8} {at_ n k : Int} (hb : thereB l at_ n = true) (h0 : 0 ≤ k) (hk : k < n) : (thereL l at_ n).getD k.toNat 0 = l.getD (at_ + k).toNat 0 := by
  have hb' := hb
  simp [thereB] at hb'
  simp only [thereL, hb, List.getD, List.getElem?_drop, List.getElem?_take]
  have e : at_.toNat + k.toNat = (at_ + k).toNat := by omega
  rw [e, if_pos (by omega)]
theorem there_len {l : List UInt8} {at_ n : Int} (hb : thereB l at_ n = true) (h : 0 ≤ n) : ((thereL l at_ n).length : Int) = n := by
  have hb' := hb
  simp [thereB] at hb'
  simp only [thereL, hb, List.length_drop, List.length_take]
  omega

def env_get : Env := ⟨T, psi_rput, pspNil, 50, [], none, true⟩
theorem eok_get : PsiOk Try.prog env_get := ⟨psi_rput_ok, pspNil_ok⟩
theorem get_fn (l : List UInt8) (at_ : Int) (n : Int) (big : Bool) (hl : l.length ≤ 1000000) : Ctr Try.prog 42 false [lst .byt l, int .i64 at_, int .i64 n, bool big] (.t [.c (.val (.int .u64 (getV l at_ n big))), .c (i64 (getE l at_ n))]) := by
  refine Ctr_intro (E := env_get) Try.func42 rfl (by decide) rfl rfl (fun M0 W hM0 => ?_)
  refine G_run tOk eok_get 60 (fun _ => none) (fun bs => rfl) (fun bs => ?_) (fun bs => ?_)
  · (repeat' apply And.intro) <;> (intros; first | exact trivial | exact rfl | omega | exact u8_lo _ | exact u8_hi _ | exact u8_in64 _ | exact u8_in63 _ | (simp only [inR, IntKind.bits]; omega) | (simp [inR, IntKind.bits]; done) | (simp [inR, IntKind.bits] at * <;> omega) | (simp_all; done) | skip)
  refine G_cond rfl rfl (fun h => ?_) (fun h => ?_)
  · refine G_run tOk eok_get 60 (fun _ => none) (fun bs => rfl) (fun bs => ?_) (fun bs => ?_)
    · (repeat' apply And.intro) <;> (intros; first | exact trivial | exact rfl | omega | exact u8_lo _ | exact u8_hi _ | exact u8_in64 _ | exact u8_in63 _ | (simp only [inR, IntKind.bits]; omega) | (simp [inR, IntKind.bits]; done) | (simp [inR, IntKind.bits] at * <;> omega) | (simp_all; done) | skip)
    have he : getE l at_ n = 1 := by simp at h; simp [getE, h]
    exact G_ret tOk hM0 rfl rfl ⟨trivial, trivial, trivial⟩ ⟨⟨rfl, by simp [getV, he]⟩, ⟨rfl, he.symm⟩, trivial⟩
  have h1 : 1 ≤ n ∧ n ≤ 8 := by simp at h; omega
  clear h
  refine G_run tOk eok_get 60 (fun _ => none) (fun bs => rfl) (fun bs => ?_) (fun bs => ?_)
  · (repeat' apply And.intro) <;> (intros; first | exact trivial | exact rfl | omega | exact u8_lo _ | exact u8_hi _ | exact u8_in64 _ | exact u8_in63 _ | (simp only [inR, IntKind.bits]; omega) | (simp [inR, IntKind.bits]; done) | (simp [inR, IntKind.bits] at * <;> omega) | (simp_all; done) | skip)
  refine G_cond rfl rfl (fun h => ?_) (fun h => ?_)
  · refine G_run tOk eok_get 60 (fun _ => none) (fun bs => rfl) (fun bs => ?_) (fun bs => ?_)
    · (repeat' apply And.intro) <;> (intros; first | exact trivial | exact rfl | omega | exact u8_lo _ | exact u8_hi _ | exact u8_in64 _ | exact u8_in63 _ | (simp only [inR, IntKind.bits]; omega) | (simp [inR, IntKind.bits]; done) | (simp [inR, IntKind.bits] at * <;> omega) | (simp_all; done) | skip)
    have hb : thereB l at_ n = false := by simpa using h
    have he : getE l at_ n = 6 := by simp [getE, hb]; omega
    exact G_ret tOk hM0 rfl rfl ⟨trivial, trivial, trivial⟩ ⟨⟨rfl, by simp [getV, he]⟩, ⟨rfl, he.symm⟩, trivial⟩
  have hb : thereB l at_ n = true := by simpa using h
  have he : getE l at_ n = 0 := by simp [getE, hb]; omega
  have hlen := there_len hb (by omega)
  refine G_run tOk eok_get 60 (fun _ => none) (fun bs => rfl) (fun bs => ?_) (fun bs => ?_)
  · (repeat' apply And.intro) <;> (intros; first | exact trivial | exact rfl | omega | exact u8_lo _ | exact u8_hi _ | exact u8_in64 _ | exact u8_in63 _ | (simp only [inR, IntKind.bits]; omega) | (simp [inR, IntKind.bits]; done) | (simp [inR, IntKind.bits] at * <;> omega) | (simp_all; done) | skip)
  refine G_loop (fun x : Nat => [(2, int .i64 n), (3, bool big), (10, lst .byt (thereL l at_ n)), (30, int .i64 n), (31, int .i64 x), (12, int .u64 (getW (selB l at_ n big) x))]) (fun x => [])
    (fun x => x ≤ n.toNat) (fun x => n.toNat - x) rfl [] 0 (Nat.zero_le _) ?wk (fun x hx => ?_)
  case wk => (repeat' apply And.intro) <;> (first | exact rfl | exact trivial | omega | refine sigEq ?_ | skip)
  have hx' : x ≤ n.toNat := hx
  refine G_run tOk eok_get 60 (fun _ => none) (fun bs => rfl) (fun bs => ?_) (fun bs => ?_)
  · (repeat' apply And.intro) <;> (intros; first | exact trivial | exact rfl | omega | exact u8_lo _ | exact u8_hi _ | exact u8_in64 _ | exact u8_in63 _ | (simp only [inR, IntKind.bits]; omega) | (simp [inR, IntKind.bits]; done) | (simp [inR, IntKind.bits] at * <;> omega) | (simp_all; done) | skip)
  refine G_if rfl rfl (fun hk => ?_) (fun hk => ?_)
  · have hk' : (x : Int) < n := hk
    refine G_run tOk eok_get 60 (fun _ => none) (fun bs => rfl) (fun bs => ?_) (fun bs => ?_)
    · (repeat' apply And.intro) <;> (intros; first | exact trivial | exact rfl | omega | exact u8_lo _ | exact u8_hi _ | exact u8_in64 _ | exact u8_in63 _ | (simp only [inR, IntKind.bits]; omega) | (simp [inR, IntKind.bits]; done) | (simp [inR, IntKind.bits] at * <;> omega) | (simp_all; done) | skip)
    cases big with
    | true =>
      refine G_thn rfl rfl rfl ?_
      refine G_run tOk eok_get 60 (fun _ => none) (fun bs => rfl) (fun bs => ?_) (fun bs => ?_)
      · (repeat' apply And.intro) <;> (intros; first | exact trivial | exact rfl | omega | exact u8_lo _ | exact u8_hi _ | exact u8_in64 _ | exact u8_in63 _ | (simp only [inR, IntKind.bits]; omega) | (simp [inR, IntKind.bits]; done) | (simp [inR, IntKind.bits] at * <;> omega) | (simp_all; done) | skip)
      refine G_lp [] (x + 1) ?ok2 ?wk2
      case ok2 => exact ⟨by omega, by omega⟩
      case wk2 =>
        (repeat' apply And.intro) <;> (first | exact rfl | exact trivial | omega | refine sigEq ?_ | skip)
        conv => whnf
        simp only [getW, selB, ← there_getD hb (show (0 : Int) ≤ x by omega) hk']
        rfl
    | false =>
      refine G_els rfl rfl rfl ?_
      refine G_run tOk eok_get 60 (fun _ => none) (fun bs => rfl) (fun bs => ?_) (fun bs => ?_)
      · (repeat' apply And.intro) <;> (intros; first | exact trivial | exact rfl | omega | exact u8_lo _ | exact u8_hi _ | exact u8_in64 _ | exact u8_in63 _ | (simp only [inR, IntKind.bits]; omega) | (simp [inR, IntKind.bits]; done) | (simp [inR, IntKind.bits] at * <;> omega) | (simp_all; done) | skip)
      refine G_lp [] (x + 1) ?ok3 ?wk3
      case ok3 => exact ⟨by omega, by omega⟩
      case wk3 =>
        (repeat' apply And.intro) <;> (first | exact rfl | exact trivial | omega | refine sigEq ?_ | skip)
        conv => whnf
        simp only [getW, selB, ← there_getD hb (show (0 : Int) ≤ n - 1 - x by omega) (by omega)]
        rfl
  · refine G_run tOk eok_get 60 (fun _ => none) (fun bs => rfl) (fun bs => ?_) (fun bs => ?_)
    · (repeat' apply And.intro) <;> (intros; first | exact trivial | exact rfl | omega | exact u8_lo _ | exact u8_hi _ | exact u8_in64 _ | exact u8_in63 _ | (simp only [inR, IntKind.bits]; omega) | (simp [inR, IntKind.bits]; done) | (simp [inR, IntKind.bits] at * <;> omega) | (simp_all; done) | skip)
    have hk' : ¬ (x : Int) < n := hk
    have hxn : x = n.toNat := by omega
    exact G_ret tOk hM0 rfl rfl ⟨trivial, trivial, trivial⟩ ⟨⟨rfl, by simp [getV, he, hxn]⟩, ⟨rfl, he.symm⟩, trivial⟩

def get_s : FSpec
  | [.c (.pv (.lst .byt l)), .c (.pv (.val (.int .i64 at_))), .c (.pv (.val (.int .i64 n))), .c (.pv (.val (.bool big)))] => some ((l.length ≤ 1000000), false, .t [.c (.val (.int .u64 (getV l at_ n big))), .c (i64 (getE l at_ n))])
  | _ => none
theorem get_s_ok : SpecOk Try.prog 42 get_s := by
  intro args pre sh rv h hp; unfold get_s at h; split at h
  · cases h; have hl := hp; exact get_fn _ _ _ _ hl
  · cases h
def psi_get : FuncId → Option FSpec := psiCons 42 get_s psi_rput
theorem psi_get_ok : PsiFn Try.prog psi_get := psiCons_ok get_s_ok psi_rput_ok
def env_rget : Env := ⟨T, psi_get, pspNil, 58, [], none, true⟩
theorem eok_rget : PsiOk Try.prog env_rget := ⟨psi_get_ok, pspNil_ok⟩
theorem rget_fn (l : List UInt8) (at_ : Int) (n : Int) (big : Bool) (hl : l.length ≤ 1000000) : Ctr Try.prog 44 false [lst .byt l, int .i64 at_, int .i64 n, bool big] (.t [.c (.val (.int .u64 (getV l at_ n big))), .c (i64 (getE l at_ n))]) := by
  refine Ctr_intro (E := env_rget) Try.func44 rfl (by decide) rfl rfl (fun M0 W hM0 => ?_)
  refine G_run tOk eok_rget 60 (fun _ => none) (fun bs => rfl) (fun bs => ?_) (fun bs => ?_)
  · (repeat' apply And.intro) <;> (intros; first | exact trivial | exact rfl | omega | exact u8_lo _ | exact u8_hi _ | exact u8_in64 _ | exact u8_in63 _ | (simp only [inR, IntKind.bits]; omega) | (simp [inR, IntKind.bits]; done) | (simp [inR, IntKind.bits] at * <;> omega) | (simp_all; done) | skip)
  refine G_cond rfl rfl (fun h => ?_) (fun h => ?_)
  · refine G_run tOk eok_rget 60 (fun _ => none) (fun bs => rfl) (fun bs => ?_) (fun bs => ?_)
    · (repeat' apply And.intro) <;> (intros; first | exact trivial | exact rfl | omega | exact u8_lo _ | exact u8_hi _ | exact u8_in64 _ | exact u8_in63 _ | (simp only [inR, IntKind.bits]; omega) | (simp [inR, IntKind.bits]; done) | (simp [inR, IntKind.bits] at * <;> omega) | (simp_all; done) | skip)
    have he : getE l at_ n = 1 := by simp at h; simp [getE, h]
    exact G_ret tOk hM0 rfl rfl ⟨trivial, trivial, trivial⟩ ⟨⟨rfl, by simp [getV, he]⟩, ⟨rfl, he.symm⟩, trivial⟩
  have h1 : 1 ≤ n ∧ n ≤ 8 := by simp at h; omega
  clear h
  refine G_run tOk eok_rget 60 (fun _ => none) (fun bs => rfl) (fun bs => ?_) (fun bs => ?_)
  · (repeat' apply And.intro) <;> (intros; first | exact trivial | exact rfl | omega | exact u8_lo _ | exact u8_hi _ | exact u8_in64 _ | exact u8_in63 _ | (simp only [inR, IntKind.bits]; omega) | (simp [inR, IntKind.bits]; done) | (simp [inR, IntKind.bits] at * <;> omega) | (simp_all; done) | skip)
  refine G_cond rfl rfl (fun h => ?_) (fun h => ?_)
  · refine G_run tOk eok_rget 60 (fun _ => none) (fun bs => rfl) (fun bs => ?_) (fun bs => ?_)
    · (repeat' apply And.intro) <;> (intros; first | exact trivial | exact rfl | omega | exact u8_lo _ | exact u8_hi _ | exact u8_in64 _ | exact u8_in63 _ | (simp only [inR, IntKind.bits]; omega) | (simp [inR, IntKind.bits]; done) | (simp [inR, IntKind.bits] at * <;> omega) | (simp_all; done) | skip)
    have hb : thereB l at_ n = false := by simp at h; simp [thereB]; omega
    have he : getE l at_ n = 6 := by simp [getE, hb]; omega
    exact G_ret tOk hM0 rfl rfl ⟨trivial, trivial, trivial⟩ ⟨⟨rfl, by simp [getV, he]⟩, ⟨rfl, he.symm⟩, trivial⟩
  have hb : thereB l at_ n = true := by simp at h; simp [thereB]; omega
  have he : getE l at_ n = 0 := by simp [getE, hb]; omega
  have hb' := hb
  simp [thereB] at hb'
  refine G_run tOk eok_rget 60 (fun _ => none) (fun bs => rfl) (fun bs => ?_) (fun bs => ?_)
  · (repeat' apply And.intro) <;> (intros; first | exact trivial | exact rfl | omega | exact u8_lo _ | exact u8_hi _ | exact u8_in64 _ | exact u8_in63 _ | (simp only [inR, IntKind.bits]; omega) | (simp [inR, IntKind.bits]; done) | (simp [inR, IntKind.bits] at * <;> omega) | (simp_all; done) | skip)
  refine G_loop (fun x : Nat => [(0, lst .byt l), (1, int .i64 at_), (2, int .i64 n), (3, bool big), (11, int .i64 x), (10, int .u64 (getW (selB l at_ n big) x))]) (fun x => [])
    (fun x => x ≤ n.toNat) (fun x => n.toNat - x) rfl [] 0 (Nat.zero_le _) ?wk (fun x hx => ?_)
  case wk => (repeat' apply And.intro) <;> (first | exact rfl | exact trivial | omega | refine sigEq ?_ | skip)
  have hx' : x ≤ n.toNat := hx
  refine G_run tOk eok_rget 60 (fun _ => none) (fun bs => rfl) (fun bs => ?_) (fun bs => ?_)
  · (repeat' apply And.intro) <;> (intros; first | exact trivial | exact rfl | omega | exact u8_lo _ | exact u8_hi _ | exact u8_in64 _ | exact u8_in63 _ | (simp only [inR, IntKind.bits]; omega) | (simp [inR, IntKind.bits]; done) | (simp [inR, IntKind.bits] at * <;> omega) | (simp_all; done) | skip)
  refine G_if rfl rfl (fun hk => ?_) (fun hk => ?_)
  · have hk' : (x : Int) < n := hk
    refine G_run tOk eok_rget 60 (fun _ => none) (fun bs => rfl) (fun bs => ?_) (fun bs => ?_)
    · (repeat' apply And.intro) <;> (intros; first | exact trivial | exact rfl | omega | exact u8_lo _ | exact u8_hi _ | exact u8_in64 _ | exact u8_in63 _ | (simp only [inR, IntKind.bits]; omega) | (simp [inR, IntKind.bits]; done) | (simp [inR, IntKind.bits] at * <;> omega) | (simp_all; done) | skip)
    cases big with
    | true =>
      refine G_els rfl rfl rfl ?_
      refine G_run tOk eok_rget 60 (fun _ => none) (fun bs => rfl) (fun bs => ?_) (fun bs => ?_)
      · (repeat' apply And.intro) <;> (intros; first | exact trivial | exact rfl | omega | exact u8_lo _ | exact u8_hi _ | exact u8_in64 _ | exact u8_in63 _ | (simp only [inR, IntKind.bits]; omega) | (simp [inR, IntKind.bits]; done) | (simp [inR, IntKind.bits] at * <;> omega) | (simp_all; done) | skip)
      refine G_lp [] (x + 1) ?ok2 ?wk2
      case ok2 => exact ⟨by omega, by omega⟩
      case wk2 => (repeat' apply And.intro) <;> (first | exact rfl | exact trivial | omega | refine sigEq ?_ | skip)
    | false =>
      refine G_thn rfl rfl rfl ?_
      refine G_run tOk eok_rget 60 (fun _ => none) (fun bs => rfl) (fun bs => ?_) (fun bs => ?_)
      · (repeat' apply And.intro) <;> (intros; first | exact trivial | exact rfl | omega | exact u8_lo _ | exact u8_hi _ | exact u8_in64 _ | exact u8_in63 _ | (simp only [inR, IntKind.bits]; omega) | (simp [inR, IntKind.bits]; done) | (simp [inR, IntKind.bits] at * <;> omega) | (simp_all; done) | skip)
      refine G_lp [] (x + 1) ?ok3 ?wk3
      case ok3 => exact ⟨by omega, by omega⟩
      case wk3 => (repeat' apply And.intro) <;> (first | exact rfl | exact trivial | omega | refine sigEq ?_ | skip)
  · refine G_run tOk eok_rget 60 (fun _ => none) (fun bs => rfl) (fun bs => ?_) (fun bs => ?_)
    · (repeat' apply And.intro) <;> (intros; first | exact trivial | exact rfl | omega | exact u8_lo _ | exact u8_hi _ | exact u8_in64 _ | exact u8_in63 _ | (simp only [inR, IntKind.bits]; omega) | (simp [inR, IntKind.bits]; done) | (simp [inR, IntKind.bits] at * <;> omega) | (simp_all; done) | skip)
    have hk' : ¬ (x : Int) < n := hk
    have hxn : x = n.toNat := by omega
    exact G_ret tOk hM0 rfl rfl ⟨trivial, trivial, trivial⟩ ⟨⟨rfl, by simp [getV, he, hxn]⟩, ⟨rfl, he.symm⟩, trivial⟩

def rget_s : FSpec
  | [.c (.pv (.lst .byt l)), .c (.pv (.val (.int .i64 at_))), .c (.pv (.val (.int .i64 n))), .c (.pv (.val (.bool big)))] => some ((l.length ≤ 1000000), false, .t [.c (.val (.int .u64 (getV l at_ n big))), .c (i64 (getE l at_ n))])
  | _ => none
theorem rget_s_ok : SpecOk Try.prog 44 rget_s := by
  intro args pre sh rv h hp; unfold rget_s at h; split at h
  · cases h; have hl := hp; exact rget_fn _ _ _ _ hl
  · cases h
def psi_rget : FuncId → Option FSpec := psiCons 44 rget_s psi_get
theorem psi_rget_ok : PsiFn Try.prog psi_rget := psiCons_ok rget_s_ok psi_get_ok
end Go.Proofs.Ytnmomckmpknbkaa
