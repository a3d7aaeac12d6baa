import Derived.Test.YtgobmfkffhomaaaShtG
set_option linter.unusedSimpArgs false
set_option linter.unusedVariables false
namespace Go.Proofs.Ytgobmfkffhomaaa
open Go.Mt

def env_hdel : Env := ⟨T, psi_splace, pspNil, pscNil, 33, [], none, false⟩
theorem eok_hdel : PsiOk Try.prog env_hdel := ⟨psi_splace_ok, pspNil_ok, pscNil_ok⟩
theorem hdel (v : Value) (l : List Shot) (i j : Int) (hi : 0 ≤ i) (hij : i ≤ j) (hj : j ≤ l.length) (hl : l.length ≤ 1000000) : CtrH Try.prog 30 [.c (.own 0 v), int .i64 i, int .i64 j] [.own v 40 .sht l] (fun _ => True) (fun u : Value => .c (.own 0 u)) (fun u => [.own u 40 .sht (l.take i.toNat ++ l.drop j.toNat)]) := by
  refine CtrH_intro (E := env_hdel) Try.func30 rfl (by decide) rfl rfl (fun M0 W hM0 => ?_)
  refine G_unown 0 rfl (fun e1 e2 => ?_) (fun b cap e hc hm => ?_)
  · subst e1 e2
    have h0 : i = 0 := by simp at hj; omega
    have h1 : j = 0 := by simp at hj; omega
    subst h0 h1
    refine G_slot 0 (y := pv (.val (.slice none 0 0))) rfl (fun M v h => by rw [h.own_inv]; exact .c (.pv (.val rfl))) ?_
    refine G_run tOk eok_hdel 60 (fun _ => none) (fun bs => rfl) (fun bs => ?_) (fun bs => ?_)
    · (repeat' apply And.intro) <;> (intros; first | exact trivial | exact rfl | omega | exact u8_lo _ | exact u8_hi _ | exact u8_in64 _ | exact u8_in63 _ | (simp only [inR, IntKind.bits]; omega) | (simp [inR, IntKind.bits]; done) | (simp [inR, IntKind.bits] at * <;> omega) | (simp_all; done) | (with_reducible assumption) | skip)
    refine G_thn rfl rfl rfl ?_
    refine G_run tOk eok_hdel 60 (fun _ => none) (fun bs => rfl) (fun bs => ?_) (fun bs => ?_)
    · (repeat' apply And.intro) <;> (intros; first | exact trivial | exact rfl | omega | exact u8_lo _ | exact u8_hi _ | exact u8_in64 _ | exact u8_in63 _ | (simp only [inR, IntKind.bits]; omega) | (simp [inR, IntKind.bits]; done) | (simp [inR, IntKind.bits] at * <;> omega) | (simp_all; done) | (with_reducible assumption) | skip)
    refine G_link 6 0 rfl rfl rfl ?_
    refine G_retH rfl tOk rfl rfl ⟨trivial, trivial⟩ (.slice none 0 0) trivial [0] id rfl (by decide) rfl
  · subst e
    refine G_slot 0 (y := pv (.val (.slice (some ⟨b, 0, none⟩) l.length cap))) rfl (fun M v h => by rw [h.own_inv]; exact .c (.pv (.val rfl))) ?_
    refine G_run tOk eok_hdel 60 (fun _ => none) (fun bs => rfl) (fun bs => ?_) (fun bs => ?_)
    · (repeat' apply And.intro) <;> (intros; first | exact trivial | exact rfl | omega | exact u8_lo _ | exact u8_hi _ | exact u8_in64 _ | exact u8_in63 _ | (simp only [inR, IntKind.bits]; omega) | (simp [inR, IntKind.bits]; done) | (simp [inR, IntKind.bits] at * <;> omega) | (simp_all; done) | (with_reducible assumption) | skip)
    refine G_if rfl rfl (fun hk => ?_) (fun hk => ?_)
    · subst hk
      refine G_run tOk eok_hdel 60 (fun _ => none) (fun bs => rfl) (fun bs => ?_) (fun bs => ?_)
      · (repeat' apply And.intro) <;> (intros; first | exact trivial | exact rfl | omega | exact u8_lo _ | exact u8_hi _ | exact u8_in64 _ | exact u8_in63 _ | (simp only [inR, IntKind.bits]; omega) | (simp [inR, IntKind.bits]; done) | (simp [inR, IntKind.bits] at * <;> omega) | (simp_all; done) | (with_reducible assumption) | skip)
      refine G_link 6 0 rfl rfl rfl ?_
      refine G_retH rfl tOk rfl rfl ⟨trivial, trivial⟩ (.slice (some ⟨b, 0, none⟩) l.length cap) trivial [0] id rfl (by decide) ?_
      simp only [List.take_append_drop]
      rfl
    · refine G_run tOk eok_hdel 60 (fun _ => none) (fun bs => rfl) (fun bs => ?_) (fun bs => ?_)
      · (repeat' apply And.intro) <;> (intros; first | exact trivial | exact rfl | omega | exact u8_lo _ | exact u8_hi _ | exact u8_in64 _ | exact u8_in63 _ | (simp only [inR, IntKind.bits]; omega) | (simp [inR, IntKind.bits]; done) | (simp [inR, IntKind.bits] at * <;> omega) | (simp_all; done) | (with_reducible assumption) | skip)
      refine G_draw tOk eok_hdel rfl (fun _ => none) 6 [0, 0, 3, 0, 0, 24, 63, 127] [] rfl (by decide +kernel) (fun bs => rfl) (fun bs => ?_) (fun bs => ?_)
      · (repeat' apply And.intro) <;> (intros; first | exact trivial | exact rfl | omega | exact u8_lo _ | exact u8_hi _ | exact u8_in64 _ | exact u8_in63 _ | (simp only [inR, IntKind.bits]; omega) | (simp [inR, IntKind.bits]; done) | (simp [inR, IntKind.bits] at * <;> omega) | (simp_all; done) | (with_reducible assumption) | skip)
      have e1 : (i.toNat) ≤ j.toNat := by omega
      have e2 : (j.toNat) ≤ l.length := by omega
      refine G_appRaw 0 (i0 := i.toNat) (j := j.toNat) tOk rfl rfl rfl rfl rfl rfl rfl rfl rfl rfl e1 e2 rfl ?_
      refine G_run tOk eok_hdel 60 (fun _ => none) (fun bs => rfl) (fun bs => ?_) (fun bs => ?_)
      · (repeat' apply And.intro) <;> (intros; first | exact trivial | exact rfl | omega | exact u8_lo _ | exact u8_hi _ | exact u8_in64 _ | exact u8_in63 _ | (simp only [inR, IntKind.bits]; omega) | (simp [inR, IntKind.bits]; done) | (simp [inR, IntKind.bits] at * <;> omega) | (simp_all; done) | (with_reducible assumption) | skip)
      refine G_clearRaw 0 (lo := i.toNat + (l.length - j.toNat)) (hi := l.length) tOk rfl rfl rfl rfl rfl rfl rfl rfl rfl ?_ hc rfl ?_
      · simp; omega
      refine G_run tOk eok_hdel 60 (fun _ => none) (fun bs => rfl) (fun bs => ?_) (fun bs => ?_)
      · (repeat' apply And.intro) <;> (intros; first | exact trivial | exact rfl | omega | exact u8_lo _ | exact u8_hi _ | exact u8_in64 _ | exact u8_in63 _ | (simp only [inR, IntKind.bits]; omega) | (simp [inR, IntKind.bits]; done) | (simp [inR, IntKind.bits] at * <;> omega) | (simp_all; done) | (with_reducible assumption) | skip)
      refine G_link 6 0 rfl rfl rfl ?_
      refine G_retH rfl tOk rfl rfl ⟨trivial, trivial⟩ _ trivial [0] id rfl (by decide) rfl
def hdel_c : CSpec := fun x xs => match x, xs with
  | ⟨.sht, l⟩, [.c (.pv (.val (.int .i64 i))), .c (.pv (.val (.int .i64 j)))] => some (((0 ≤ i ∧ i ≤ j) ∧ j ≤ l.length) ∧ l.length ≤ 1000000, ⟨.sht, l.take i.toNat ++ l.drop j.toNat⟩)
  | _, _ => none
theorem hdel_cok : CSpecOk Try.prog 30 40 hdel_c := by
  intro k l xs pre k' l' h hp v
  unfold hdel_c at h
  split at h
  · rename_i x xs l0 i j hx
    cases hx
    cases h
    exact hdel v _ _ _ hp.1.1.1 hp.1.1.2 hp.1.2 hp.2
  · cases h
def psc_del : FuncId → Option (TypeId × CSpec) := pscCons 30 40 hdel_c pscNil
theorem psc_del_ok : PsiCo Try.prog psc_del := pscCons_ok hdel_cok pscNil_ok
end Go.Proofs.Ytgobmfkffhomaaa
