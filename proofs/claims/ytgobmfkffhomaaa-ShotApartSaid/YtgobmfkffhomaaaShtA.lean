import Derived.Test.YtgobmfkffhomaaaNameA
set_option linter.unusedSimpArgs false
set_option linter.unusedVariables false
namespace Go.Proofs.Ytgobmfkffhomaaa
open Go.Mt

theorem set_getD {α : Type} (l : List α) (i : Nat) (d : α) : l.set i (l.getD i d) = l := by
  by_cases h : i < l.length
  · simp [List.getD, List.getElem?_eq_getElem h]
  · rw [List.set_eq_of_length_le (by omega)]

def env_mclone : Env := ⟨T, psi_rname, pspNil, pscNil, 8, [], none, true⟩
theorem eok_mclone : PsiOk Try.prog env_mclone := ⟨psi_rname_ok, pspNil_ok, pscNil_ok⟩
theorem mclone_fn (l : List Bitmap) (hl : l.length ≤ 1000000) : Ctr Try.prog 49 true [lst .bms l] (.o 51 .bms l) := by
  refine Ctr_intro (E := env_mclone) Try.func49 rfl (by decide) rfl rfl (fun M0 W hM0 => ?_)
  refine G_run tOk eok_mclone 60 (fun _ => none) (fun bs => rfl) (fun bs => ?_) (fun bs => ?_)
  · (repeat' apply And.intro) <;> (intros; first | exact trivial | exact rfl | omega | exact u8_lo _ | exact u8_hi _ | exact u8_in64 _ | exact u8_in63 _ | (simp only [inR, IntKind.bits]; omega) | (simp [inR, IntKind.bits]; done) | (simp [inR, IntKind.bits] at * <;> omega) | (simp_all; done) | (with_reducible assumption) | skip)
  refine G_cond rfl rfl (fun h => ?_) (fun h => ?_)
  · have e := nilB_nil h
    subst e
    refine G_run tOk eok_mclone 60 (fun _ => none) (fun bs => rfl) (fun bs => ?_) (fun bs => ?_)
    · (repeat' apply And.intro) <;> (intros; first | exact trivial | exact rfl | omega | exact u8_lo _ | exact u8_hi _ | exact u8_in64 _ | exact u8_in63 _ | (simp only [inR, IntKind.bits]; omega) | (simp [inR, IntKind.bits]; done) | (simp [inR, IntKind.bits] at * <;> omega) | (simp_all; done) | (with_reducible assumption) | skip)
    exact G_ret tOk hM0 rfl rfl ⟨trivial, trivial⟩ rfl
  · refine G_run tOk eok_mclone 60 (fun _ => none) (fun bs => rfl) (fun bs => ?_) (fun bs => ?_)
    · (repeat' apply And.intro) <;> (intros; first | exact trivial | exact rfl | omega | exact u8_lo _ | exact u8_hi _ | exact u8_in64 _ | exact u8_in63 _ | (simp only [inR, IntKind.bits]; omega) | (simp [inR, IntKind.bits]; done) | (simp [inR, IntKind.bits] at * <;> omega) | (simp_all; done) | (with_reducible assumption) | skip)
    exact G_ret tOk hM0 rfl rfl ⟨trivial, trivial⟩ ⟨rfl, rfl, rfl, sigEq (List.nil_append l)⟩

def mclone_s : FSpec
  | [.c (.pv (.lst .bms l))] => some ((l.length ≤ 1000000), true, .o 51 .bms l)
  | _ => none
theorem mclone_s_ok : SpecOk Try.prog 49 mclone_s := by
  intro args pre sh rv h hp; unfold mclone_s at h; split at h
  · cases h; have hl := hp; exact mclone_fn _ hl
  · cases h
def psi_mclone : FuncId → Option FSpec := psiCons 49 mclone_s psi_rname
theorem psi_mclone_ok : PsiFn Try.prog psi_mclone := psiCons_ok mclone_s_ok psi_rname_ok
def env_sclone : Env := ⟨T, psi_mclone, pspNil, pscNil, 8, [], none, true⟩
theorem eok_sclone : PsiOk Try.prog env_sclone := ⟨psi_mclone_ok, pspNil_ok, pscNil_ok⟩
theorem sclone_fn (l : List Span) (hl : l.length ≤ 1000000) : Ctr Try.prog 50 false [lst .spn l] (.o 48 .spn l) := by
  refine Ctr_intro (E := env_sclone) Try.func50 rfl (by decide) rfl rfl (fun M0 W hM0 => ?_)
  refine G_run tOk eok_sclone 60 (fun _ => none) (fun bs => rfl) (fun bs => ?_) (fun bs => ?_)
  · (repeat' apply And.intro) <;> (intros; first | exact trivial | exact rfl | omega | exact u8_lo _ | exact u8_hi _ | exact u8_in64 _ | exact u8_in63 _ | (simp only [inR, IntKind.bits]; omega) | (simp [inR, IntKind.bits]; done) | (simp [inR, IntKind.bits] at * <;> omega) | (simp_all; done) | (with_reducible assumption) | skip)
  refine G_cond rfl rfl (fun h => ?_) (fun h => ?_)
  · have e := nilB_nil h
    subst e
    refine G_run tOk eok_sclone 60 (fun _ => none) (fun bs => rfl) (fun bs => ?_) (fun bs => ?_)
    · (repeat' apply And.intro) <;> (intros; first | exact trivial | exact rfl | omega | exact u8_lo _ | exact u8_hi _ | exact u8_in64 _ | exact u8_in63 _ | (simp only [inR, IntKind.bits]; omega) | (simp [inR, IntKind.bits]; done) | (simp [inR, IntKind.bits] at * <;> omega) | (simp_all; done) | (with_reducible assumption) | skip)
    exact G_ret tOk hM0 rfl rfl ⟨trivial, trivial⟩ rfl
  · refine G_run tOk eok_sclone 60 (fun _ => none) (fun bs => rfl) (fun bs => ?_) (fun bs => ?_)
    · (repeat' apply And.intro) <;> (intros; first | exact trivial | exact rfl | omega | exact u8_lo _ | exact u8_hi _ | exact u8_in64 _ | exact u8_in63 _ | (simp only [inR, IntKind.bits]; omega) | (simp [inR, IntKind.bits]; done) | (simp [inR, IntKind.bits] at * <;> omega) | (simp_all; done) | (with_reducible assumption) | skip)
    exact G_ret tOk hM0 rfl rfl ⟨trivial, trivial⟩ ⟨rfl, rfl, rfl, sigEq (List.nil_append l)⟩

/-- Lists of bitmaps of a size that is gone through. -/
structure BmOk (l : List Bitmap) : Prop where
  len : l.length ≤ 1000
  each : ∀ b ∈ l, b.l.length ≤ 100000
def sclone_s : FSpec
  | [.c (.pv (.lst .spn l))] => some ((l.length ≤ 1000000), false, .o 48 .spn l)
  | _ => none
theorem sclone_s_ok : SpecOk Try.prog 50 sclone_s := by
  intro args pre sh rv h hp; unfold sclone_s at h; split at h
  · cases h; have hl := hp; exact sclone_fn _ hl
  · cases h
def psi_sclone : FuncId → Option FSpec := psiCons 50 sclone_s psi_mclone
theorem psi_sclone_ok : PsiFn Try.prog psi_sclone := psiCons_ok sclone_s_ok psi_mclone_ok
theorem BmOk.get {l : List Bitmap} (h : BmOk l) (i : Nat) : (l.getD i LK.bms.dft).l.length ≤ 100000 := by
  by_cases hi : i < l.length
  · simp only [List.getD, List.getElem?_eq_getElem hi, Option.getD_some]; exact h.each _ (List.getElem_mem hi)
  · simp only [List.getD, List.getElem?_eq_none (Nat.le_of_not_lt hi), Option.getD_none]; exact Nat.zero_le _

def env_rcopy : Env := ⟨T, psi_sclone, pspNil, pscNil, 26, [], none, true⟩
theorem eok_rcopy : PsiOk Try.prog env_rcopy := ⟨psi_sclone_ok, pspNil_ok, pscNil_ok⟩
theorem rcopy_fn (l : List Bitmap) (hl : BmOk l) : Ctr Try.prog 40 true [lst .bms l] (.o 51 .bms l) := by
  refine Ctr_intro (E := env_rcopy) Try.func40 rfl (by decide) rfl rfl (fun M0 W hM0 => ?_)
  have hll := hl.len
  refine G_run tOk eok_rcopy 60 (fun _ => none) (fun bs => rfl) (fun bs => ?_) (fun bs => ?_)
  · (repeat' apply And.intro) <;> (intros; first | exact trivial | exact rfl | omega | exact u8_lo _ | exact u8_hi _ | exact u8_in64 _ | exact u8_in63 _ | (simp only [inR, IntKind.bits]; omega) | (simp [inR, IntKind.bits]; done) | (simp [inR, IntKind.bits] at * <;> omega) | (simp_all; done) | (with_reducible assumption) | skip)
  refine G_own 3 51 rfl ?_
  refine G_loop (fun x : Nat × Value => [(0, lst .bms l), (3, .c (.own 0 x.2)), (4, int .i64 x.1)]) (fun x => [.own x.2 51 .bms (l.take x.1)]) (fun x => x.1 ≤ l.length) (fun x => l.length - x.1) rfl [0] (0, ?v0) (Nat.zero_le _) ?wk (fun x hx => ?_)
  case wk => (repeat' apply And.intro) <;> (first | exact rfl | exact trivial | omega | refine sigEq ?_ | skip)
  obtain ⟨i, v⟩ := x
  simp only at hx ⊢
  refine G_run tOk eok_rcopy 60 (fun _ => none) (fun bs => rfl) (fun bs => ?_) (fun bs => ?_)
  · (repeat' apply And.intro) <;> (intros; first | exact trivial | exact rfl | omega | exact u8_lo _ | exact u8_hi _ | exact u8_in64 _ | exact u8_in63 _ | (simp only [inR, IntKind.bits]; omega) | (simp [inR, IntKind.bits]; done) | (simp [inR, IntKind.bits] at * <;> omega) | (simp_all; done) | (with_reducible assumption) | skip)
  refine G_if rfl rfl (fun hk => ?_) (fun hk => ?_)
  · have hk' : i < l.length := by omega
    have hb := hl.get i
    have ht : (l.take i).length ≤ 1000 := by simp; omega
    refine G_run tOk eok_rcopy 10 (fun _ => none) (fun bs => rfl) (fun bs => ?_) (fun bs => ?_)
    · (repeat' apply And.intro) <;> (intros; first | exact trivial | exact rfl | omega | exact u8_lo _ | exact u8_hi _ | exact u8_in64 _ | exact u8_in63 _ | (simp only [inR, IntKind.bits]; omega) | (simp [inR, IntKind.bits]; done) | (simp [inR, IntKind.bits] at * <;> omega) | (simp_all; done) | (with_reducible assumption) | skip)
    refine G_freezeC 1 2 3 rfl rfl rfl ?_
    refine G_run tOk eok_rcopy 60 (fun _ => none) (fun bs => rfl) (fun bs => ?_) (fun bs => ?_)
    · (repeat' apply And.intro) <;> (intros; first | exact trivial | exact rfl | omega | exact u8_lo _ | exact u8_hi _ | exact u8_in64 _ | exact u8_in63 _ | (simp only [inR, IntKind.bits]; omega) | (simp [inR, IntKind.bits]; done) | (simp [inR, IntKind.bits] at * <;> omega) | (simp_all; done) | (with_reducible assumption) | skip)
    refine G_lp [5] (i + 1, ?v1) ?ok ?wk1
    case ok => exact ⟨hk', by simp only; omega⟩
    case wk1 =>
      (repeat' apply And.intro) <;> (first | exact rfl | exact trivial | omega | refine sigEq ?_ | skip)
      all_goals first | (simp only [List.nil_append]; exact (take_succ_getD hk').symm) | skip
  · have hk' : i = l.length := by omega
    subst hk'
    refine G_run tOk eok_rcopy 60 (fun _ => none) (fun bs => rfl) (fun bs => ?_) (fun bs => ?_)
    · (repeat' apply And.intro) <;> (intros; first | exact trivial | exact rfl | omega | exact u8_lo _ | exact u8_hi _ | exact u8_in64 _ | exact u8_in63 _ | (simp only [inR, IntKind.bits]; omega) | (simp [inR, IntKind.bits]; done) | (simp [inR, IntKind.bits] at * <;> omega) | (simp_all; done) | (with_reducible assumption) | skip)
    exact G_ret tOk hM0 rfl rfl ⟨trivial, trivial⟩ ⟨rfl, rfl, rfl, sigEq (List.take_length)⟩
def rcopy_s : FSpec
  | [.c (.pv (.lst .bms l))] => some ((BmOk l), true, .o 51 .bms l)
  | _ => none
theorem rcopy_s_ok : SpecOk Try.prog 40 rcopy_s := by
  intro args pre sh rv h hp; unfold rcopy_s at h; split at h
  · cases h; have hl := hp; exact rcopy_fn _ hl
  · cases h
def psi_rcopy : FuncId → Option FSpec := psiCons 40 rcopy_s psi_sclone
theorem psi_rcopy_ok : PsiFn Try.prog psi_rcopy := psiCons_ok rcopy_s_ok psi_sclone_ok
end Go.Proofs.Ytgobmfkffhomaaa
