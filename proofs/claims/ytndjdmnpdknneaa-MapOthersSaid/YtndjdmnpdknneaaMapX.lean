import Derived.Test.YtndjdmnpdknneaaMapW
set_option linter.unusedSimpArgs false
set_option linter.unusedVariables false
namespace Go.Proofs.Ytndjdmnpdknneaa
open Go.Mt

theorem leafF_two {c c' : Nat → List Span} {Lh : List BmH} {k : Nat} (hc : ∀ j, j ≠ k → c' j = c j) (hk : k < Lh.length) (nm : List UInt8) (on : Bool) (u : Value) (j : Nat) :
    leafF c' (Lh.set k ⟨nm, on, .v u⟩) j = if j = k then some (.own u 38 .spn (c' k)) else leafF c Lh j := by
  rw [leafF_set hk]
  by_cases h : j = k
  · rw [if_pos h, if_pos h]
  · rw [if_neg h, if_neg h]
    unfold leafF
    split
    · rw [hc j h]
    · rfl

def env_turnedCH : Env := ⟨T, psi_vo, pspNil, psc_del, 23, [], none, false⟩
theorem eok_turnedCH : PsiOk Try.prog env_turnedCH := ⟨psi_vo_ok, pspNil_ok, psc_del_ok⟩
theorem turnedCH (l : List Bitmap) (nm : List UInt8) (k : Nat) (hl : BmOk l) (hk : plc l nm = k) (hkl : k < l.length) : CtrF Try.prog 33 [lst .bms l, str nm, .c (.clo 35 [])] [] (fun x : Value × List BmH => OwnH (l.set k (fClr (l.getD k LK.bms.dft))) x.2 l.length) (fun x => .t [.c (.own 0 x.1), int .i64 0]) (fun x => [.own x.1 43 .bmh x.2]) (fun x => leafF (fun i => ((l.set k (fClr (l.getD k LK.bms.dft))).getD i LK.bms.dft).l) x.2) := by
  refine CtrF_intro (E := env_turnedCH) Try.func33 rfl (by decide) rfl rfl (fun M0 W hM0 => ?_)
  have hll := hl.len
  refine G_run tOk eok_turnedCH 60 (fun _ => none) (fun bs => rfl) (fun bs => ?_) (fun bs => ?_)
  · (repeat' apply And.intro) <;> (intros; first | exact trivial | exact rfl | omega | exact u8_lo _ | exact u8_hi _ | exact u8_in64 _ | exact u8_in63 _ | (simp only [inR, IntKind.bits]; omega) | (simp [inR, IntKind.bits]; done) | (simp [inR, IntKind.bits] at * <;> omega) | (simp_all; done) | (with_reducible assumption) | skip)
  rw [hk]
  refine G_els rfl rfl (by simp) ?_
  refine G_run tOk eok_turnedCH 60 (fun _ => none) (fun bs => rfl) (fun bs => ?_) (fun bs => ?_)
  · (repeat' apply And.intro) <;> (intros; first | exact trivial | exact rfl | omega | exact u8_lo _ | exact u8_hi _ | exact u8_in64 _ | exact u8_in63 _ | (simp only [inR, IntKind.bits]; omega) | (simp [inR, IntKind.bits]; done) | (simp [inR, IntKind.bits] at * <;> omega) | (simp_all; done) | (with_reducible assumption) | skip)
  refine G_nx 0 rfl ?_
  refine G_callF [] id (mownH l hl) (fun x => leafF_own) rfl trivial rfl rfl rfl rfl (by decide) rfl (fun x => rfl) (fun x => rfl) (fun x hO => ?_)
  obtain ⟨v, Lh⟩ := x
  dsimp only at hO ⊢
  have hLl := hO.len
  have hkL : k < Lh.length := by omega
  obtain ⟨u, hu⟩ := hO.own k hkl hkl
  refine G_run tOk eok_turnedCH 60 (fun _ => none) (fun bs => rfl) (fun bs => ?_) (fun bs => ?_)
  · (repeat' apply And.intro) <;> (intros; first | exact trivial | exact rfl | omega | exact u8_lo _ | exact u8_hi _ | exact u8_in64 _ | exact u8_in63 _ | (simp only [inR, IntKind.bits]; omega) | (simp [inR, IntKind.bits]; done) | (simp [inR, IntKind.bits] at * <;> omega) | (simp_all; done) | (with_reducible assumption) | skip)
  refine G_nx 1 rfl ?_
  refine G_callH [0] id (cclH v Lh k hkL) rfl trivial rfl rfl rfl rfl (by decide) rfl rfl (fun x => rfl) (fun x _ => ?_)
  refine G_newnil 38 .spn ?_
  refine G_run tOk eok_turnedCH 60 (fun _ => none) (fun bs => rfl) (fun bs => ?_) (fun bs => ?_)
  · (repeat' apply And.intro) <;> (intros; first | exact trivial | exact rfl | omega | exact u8_lo _ | exact u8_hi _ | exact u8_in64 _ | exact u8_in63 _ | (simp only [inR, IntKind.bits]; omega) | (simp [inR, IntKind.bits]; done) | (simp [inR, IntKind.bits] at * <;> omega) | (simp_all; done) | (with_reducible assumption) | skip)
  refine G_retF rfl tOk rfl rfl ⟨trivial, trivial, trivial⟩ (v, Lh.set k ⟨(Lh.getD k LK.bmh.dft).name, (Lh.getD k LK.bmh.dft).on, .v (.slice none 0 0)⟩) ?ok [0] (fun i => if i = k then 2 else i + 40) id rfl (by decide) rfl (fun j y h => ⟨y, ?fam, (leafF_own _ _ h _).symm⟩) (fun j y h => ?dis) (fun j j' y z h1 h2 e => ?inj)
  case inj =>
    by_cases e1 : j = k <;> by_cases e2 : j' = k <;> simp only [e1, e2, if_true, if_false] at e ⊢ <;> omega
  case dis =>
    by_cases e : j = k
    · simp only [if_pos e]; rfl
    · simp only [if_neg e]; rfl
  case ok => exact hO.turn hkl (u := .slice none 0 0) (by rw [hu])
  case fam =>
    have hf := leafF_two (c := fun i => (l.getD i LK.bms.dft).l) (c' := fun i => ((l.set k (fClr (l.getD k LK.bms.dft))).getD i LK.bms.dft).l) (Lh := Lh) (fun j hj => by rw [getD_set_other _ _ hj]) hkL (Lh.getD k LK.bmh.dft).name (Lh.getD k LK.bmh.dft).on (.slice none 0 0) j
    have h' := hf.symm.trans h
    by_cases e : j = k
    · rw [if_pos e] at h' ⊢
      rw [getD_set_self _ _ hkl] at h'
      exact h'
    · rw [if_neg e] at h' ⊢
      exact h'

def env_mclearH : Env := ⟨T, psi_vo, pspNil, psc_del, 11, [], none, false⟩
theorem eok_mclearH : PsiOk Try.prog env_mclearH := ⟨psi_vo_ok, pspNil_ok, psc_del_ok⟩
theorem mclearH (l : List Bitmap) (nm : List UInt8) (k : Nat) (hl : BmOk l) (hk : plc l nm = k) (hkl : k < l.length) : CtrF Try.prog 13 [lst .bms l, str nm] [] (fun x : Value × List BmH => OwnH (l.set k (fClr (l.getD k LK.bms.dft))) x.2 l.length) (fun x => .t [.c (.own 0 x.1), int .i64 0]) (fun x => [.own x.1 43 .bmh x.2]) (fun x => leafF (fun i => ((l.set k (fClr (l.getD k LK.bms.dft))).getD i LK.bms.dft).l) x.2) := by
  refine CtrF_intro (E := env_mclearH) Try.func13 rfl (by decide) rfl rfl (fun M0 W hM0 => ?_)
  have hll := hl.len
  refine G_run tOk eok_mclearH 60 (fun _ => none) (fun bs => rfl) (fun bs => ?_) (fun bs => ?_)
  · (repeat' apply And.intro) <;> (intros; first | exact trivial | exact rfl | omega | exact u8_lo _ | exact u8_hi _ | exact u8_in64 _ | exact u8_in63 _ | (simp only [inR, IntKind.bits]; omega) | (simp [inR, IntKind.bits]; done) | (simp [inR, IntKind.bits] at * <;> omega) | (simp_all; done) | (with_reducible assumption) | skip)
  refine G_nx 0 rfl ?_
  refine G_callF [] id (turnedCH l nm k hl hk hkl) (fun x => leafF_own) rfl trivial rfl rfl rfl rfl (by decide) rfl (fun x => rfl) (fun x => rfl) (fun x hO => ?_)
  obtain ⟨v, Lh⟩ := x
  dsimp only at hO ⊢
  refine G_run tOk eok_mclearH 60 (fun _ => none) (fun bs => rfl) (fun bs => ?_) (fun bs => ?_)
  · (repeat' apply And.intro) <;> (intros; first | exact trivial | exact rfl | omega | exact u8_lo _ | exact u8_hi _ | exact u8_in64 _ | exact u8_in63 _ | (simp only [inR, IntKind.bits]; omega) | (simp [inR, IntKind.bits]; done) | (simp [inR, IntKind.bits] at * <;> omega) | (simp_all; done) | (with_reducible assumption) | skip)
  refine G_retF rfl tOk rfl rfl ⟨trivial, trivial, trivial⟩ (v, Lh) hO [0] (fun i => i + 40) id rfl (by decide) rfl (fun j y h => ⟨y, h, (leafF_own _ _ h _).symm⟩) (fun j y h => rfl) (fun j j' y z h1 h2 e => ?inj)
  case inj => omega
end Go.Proofs.Ytndjdmnpdknneaa
