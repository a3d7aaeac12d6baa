import Derived.Test.YtnmomckmpknbkaaTabZ
set_option linter.unusedSimpArgs false
set_option linter.unusedVariables false
namespace Go.Proofs.Ytnmomckmpknbkaa
open Go.Mt

theorem setT_or (t : List (List Entry)) (i : Int) (e : Entry) : setT t i e = t ∨ ∃ c : Int, rightT (setT t i e) 4096 c = true := by
  by_cases ha : anyN t e 7 = true
  · obtain ⟨c, h1, h2⟩ := any_both ha
    exact .inr ⟨c, right_set h2 h1 i⟩
  · left; unfold setT; rw [if_pos (.inr (.inr (by simpa using ha)))]
theorem cutT_or (t : List (List Entry)) (n : Int) : cutT t n = t ∨ ∃ c : Int, rightT (cutT t n) 4096 c = true := by
  unfold cutT
  cases ha : anyN t entZ 7 with
  | false => exact .inl rfl
  | true =>
    obtain ⟨c, hc⟩ := any_ok ha
    exact .inr ⟨c, (cutN_ok hc _ _).1⟩
def Sm (t : List (List Entry)) : Prop := t.length ≤ 6000 ∧ ∀ i, (leaf t i).length ≤ 1000000000
theorem sm_of {t u : List (List Entry)} (ht : Sm t) (h : u = t ∨ ∃ c : Int, rightT u 4096 c = true) : Sm u := by
  rcases h with rfl | ⟨c, h⟩
  · exact ht
  · exact ⟨Nat.le_trans (right_len h) (by decide), fun i => Nat.le_trans (right_leaf h i) (by decide)⟩

def env_ftsets : Env := ⟨T, psi_rcut, pspNil, 45, [], none, true⟩
theorem eok_ftsets : PsiOk Try.prog env_ftsets := ⟨psi_rcut_ok, pspNil_ok⟩
theorem ftsets_fn (t0 : List (List Entry)) (i : Int) (n : Int) (e0 : Int) (e1 : Int) (e2 : Int) (e3 : Int) (e4 : Int) (hl : t0.length ≤ 9223372036854775807) (hn : inR .i64 n) : Ctr Try.prog 7 false [.g [.pv (.lst .tbl t0)], int .i64 i, int .i64 n, .g [.pv (.val (.int .i64 e0)), .pv (.val (.int .i64 e1)), .pv (.val (.int .i64 e2)), .pv (.val (.int .i64 e3)), .pv (.val (.int .u32 e4))]] (.x (.c (bv true))) := by
  refine Ctr_intro (E := env_ftsets) Try.func7 rfl (by decide) rfl rfl (fun M0 W hM0 => ?_)
  have hn' : n ≤ 9223372036854775807 := hn.2
  refine G_run tOk eok_ftsets 60 (fun _ => none) (fun bs => rfl) (fun bs => ?_) (fun bs => ?_)
  · (repeat' apply And.intro) <;> (intros; first | exact trivial | exact rfl | omega | exact u8_lo _ | exact u8_hi _ | exact u8_in64 _ | exact u8_in63 _ | (simp only [inR, IntKind.bits]; omega) | (simp [inR, IntKind.bits]; done) | (simp [inR, IntKind.bits] at * <;> omega) | (simp_all; done) | skip)
  refine G_cond (b := greatB t0) rfl rfl (fun h => ?_) (fun h => ?_)
  · refine G_run tOk eok_ftsets 60 (fun _ => none) (fun bs => rfl) (fun bs => ?_) (fun bs => ?_)
    · (repeat' apply And.intro) <;> (intros; first | exact trivial | exact rfl | omega | exact u8_lo _ | exact u8_hi _ | exact u8_in64 _ | exact u8_in63 _ | (simp only [inR, IntKind.bits]; omega) | (simp [inR, IntKind.bits]; done) | (simp [inR, IntKind.bits] at * <;> omega) | (simp_all; done) | skip)
    exact G_ret tOk hM0 rfl rfl ⟨trivial, trivial⟩ rfl
  obtain ⟨h1, h2⟩ := great_len h
  have hT : Sm t0 := ⟨h1, fun i => Nat.le_trans (h2 i) (by decide)⟩
  have hA : Sm (setT t0 i ⟨e0, e1, e2, e3, e4⟩) := sm_of hT (setT_or _ _ _)
  have hC : Sm (cutT t0 n) := sm_of hT (cutT_or _ _)
  obtain ⟨a1, a2⟩ := hT
  obtain ⟨b1, b2⟩ := hA
  obtain ⟨c1, c2⟩ := hC
  refine G_run tOk eok_ftsets 60 (fun _ => none) (fun bs => rfl) (fun bs => ?_) (fun bs => ?_)
  · (repeat' apply And.intro) <;> (intros; first | exact trivial | exact rfl | omega | exact u8_lo _ | exact u8_hi _ | exact u8_in64 _ | exact u8_in63 _ | (simp only [inR, IntKind.bits]; omega) | (simp [inR, IntKind.bits, a2]; done) | (simp [inR, IntKind.bits, a2] at * <;> omega) | (simp_all; done) | skip)
  refine G_nx 3 rfl ?_
  refine G_draw tOk eok_ftsets rfl (fun _ => none) 9 [0, 0, 0, 7, 0, 0, 63, 0, 0, 511, 1023] [] rfl (by decide +kernel) (fun bs => rfl) (fun bs => ?_) (fun bs => ?_)
  · (repeat' apply And.intro) <;> (intros; first | exact trivial | exact rfl | omega | exact a2 _ | exact b2 _ | exact c2 _ | (simp; done) | skip)
  refine G_run tOk eok_ftsets 60 (fun _ => none) (fun bs => rfl) (fun bs => ?_) (fun bs => ?_)
  · (repeat' apply And.intro) <;> (intros; first | exact trivial | exact rfl | omega | exact u8_lo _ | exact u8_hi _ | exact u8_in64 _ | exact u8_in63 _ | (simp only [inR, IntKind.bits]; omega) | (simp [inR, IntKind.bits]; done) | (simp [inR, IntKind.bits] at * <;> omega) | (simp_all; done) | skip)
  refine G_nx 12 rfl ?_
  refine G_draw tOk eok_ftsets rfl (fun _ => some true) 16 [0, 0, 0, 0, 14, 31, 63, 127, 127, 127, 895, 2047, 4095, 8191, 16383, 16383, 65535, 131071, 262143, 524287, 1048575, 2097151] [] rfl (by decide +kernel) (fun bs => rfl) (fun bs => ?_) (fun bs => ?_)
  · (repeat' apply And.intro) <;> (intros; first | exact trivial | exact rfl | omega | exact a2 _ | exact b2 _ | exact c2 _ | (simp; done) | skip)
  refine G_run tOk eok_ftsets 60 (fun _ => some true) (fun bs => rfl) (fun bs => ?_) (fun bs => ?_)
  · (repeat' apply And.intro) <;> (intros; first | exact trivial | exact rfl | omega | exact u8_lo _ | exact u8_hi _ | exact u8_in64 _ | exact u8_in63 _ | (simp only [inR, IntKind.bits]; omega) | (simp [inR, IntKind.bits]; done) | (simp [inR, IntKind.bits] at * <;> omega) | (simp_all; done) | skip)
  refine G_ret tOk hM0 rfl rfl ⟨trivial, trivial⟩ ?_
  conv => whnf
  simp
def ftsets_s : FSpec
  | [.g [.pv (.lst .tbl t0)], .c (.pv (.val (.int .i64 i))), .c (.pv (.val (.int .i64 n))), .g [.pv (.val (.int .i64 e0)), .pv (.val (.int .i64 e1)), .pv (.val (.int .i64 e2)), .pv (.val (.int .i64 e3)), .pv (.val (.int .u32 e4))]] => some ((t0.length ≤ 9223372036854775807) ∧ (inR .i64 n), false, .x (.c (bv true)))
  | _ => none
theorem ftsets_s_ok : SpecOk Try.prog 7 ftsets_s := by
  intro args pre sh rv h hp; unfold ftsets_s at h; split at h
  · cases h; obtain ⟨hl, hn⟩ := hp; exact ftsets_fn _ _ _ _ _ _ _ _ hl hn
  · cases h
def psi_ftsets : FuncId → Option FSpec := psiCons 7 ftsets_s psi_rcut
theorem psi_ftsets_ok : PsiFn Try.prog psi_ftsets := psiCons_ok ftsets_s_ok psi_rcut_ok
end Go.Proofs.Ytnmomckmpknbkaa
