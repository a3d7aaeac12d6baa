import Derived.Test.YtndjdmnpdknneaaMapV
set_option linter.unusedSimpArgs false
set_option linter.unusedVariables false
namespace Go.Proofs.Ytndjdmnpdknneaa
open Go.Mt
def psi_vo := psiOff 32 psi_fsizes
theorem psi_vo_ok : PsiFn Try.prog psi_vo := psiOff_ok psi_fsizes_ok

def env_tclH : Env := ⟨T, psi_vo, pspNil, psc_del, 7, [], none, false⟩
theorem eok_tclH : PsiOk Try.prog env_tclH := ⟨psi_vo_ok, pspNil_ok, psc_del_ok⟩
theorem tclH (v : Value) (l : List BmH) (i : Nat) (on : Bool) (hi : i < l.length) : CtrH (X := Unit) Try.prog 34 [.c (.oel 0 v i 3 0), .c (.cel [bv on])] [.own v 43 .bmh l] (fun _ => True) (fun _ => .t []) (fun _ => [.own v 43 .bmh (l.set i ⟨(l.getD i LK.bmh.dft).name, on, (l.getD i LK.bmh.dft).sp⟩)]) := by
  refine CtrH_intro (E := env_tclH) Try.func34 rfl (by decide) rfl rfl (fun M0 W hM0 => ?_)
  have e1 : TS.of (l.getD i LK.bmh.dft).sp.pv = (l.getD i LK.bmh.dft).sp := TS.of_pv _
  refine G_run tOk eok_tclH 60 (fun _ => none) (fun bs => rfl) (fun bs => ?_) (fun bs => ?_)
  · exact ⟨⟨trivial, trivial, trivial, trivial, ⟨⟨⟨rfl, rfl⟩, hi⟩, TS.ok_pv _⟩, trivial⟩, trivial⟩
  refine G_endH rfl tOk rfl trivial () trivial [0] id rfl (by decide) ?_
  simp only [e1]; rfl

theorem leafF_one {c c' : Nat → List Span} {Lh : List BmH} {k : Nat} {x : BmH} (hc : ∀ j, (leafF c Lh j).isSome → c' j = c j) (hk : k < Lh.length) (hx : x.sp = (Lh.getD k LK.bmh.dft).sp) (j : Nat) : leafF c' (Lh.set k x) j = leafF c Lh j := by
  have hg : Lh[k]? = some (Lh.getD k LK.bmh.dft) := by simp [List.getD, List.getElem?_eq_getElem hk]
  have key : ∀ j, leafF c' Lh j = leafF c Lh j := by
    intro j
    have := hc j
    unfold leafF at this ⊢
    split
    · rename_i u e; simp only [e] at this; rw [this rfl]
    · rfl
  by_cases h : j = k
  · subst h
    rw [← key]
    unfold leafF
    rw [List.getElem?_set_self hk, hg]
    obtain ⟨n, o, s⟩ := x
    simp only at hx; subst hx
    generalize Lh.getD j LK.bmh.dft = q
    obtain ⟨n', o', s'⟩ := q
    cases s' <;> rfl
  · rw [← key]
    unfold leafF
    rw [List.getElem?_set_ne (fun e => h e.symm)]

theorem OwnH.turn {l : List Bitmap} {Lh : List BmH} {k : Nat} (h : OwnH l Lh l.length) (hk : k < l.length) {y : Bitmap} {x : BmH} {u : Value} (hx : x = ⟨y.name, y.on, .v u⟩) : OwnH (l.set k y) (Lh.set k x) l.length := by
  subst hx
  refine ⟨by simp [h.len], fun j h1 h2 => by simp at h2; omega, fun j h1 h2 => ?_⟩
  by_cases e : j = k
  · subst e; exact ⟨u, by rw [getD_set_self _ _ (by rw [h.len]; exact hk), getD_set_self _ _ hk]⟩
  · rw [getD_set_other _ _ e, getD_set_other _ _ e]; exact h.own j h1 h1
theorem setL_same {l : List Bitmap} {k : Nat} {y : Bitmap} (hy : y.l = (l.getD k LK.bms.dft).l) (j : Nat) : ((l.set k y).getD j LK.bms.dft).l = (l.getD j LK.bms.dft).l := by
  by_cases e : j = k
  · subst e
    by_cases hj : j < l.length
    · rw [getD_set_self _ _ hj, hy]
    · rw [List.set_eq_of_length_le (by omega)]
  · rw [getD_set_other _ _ e]

def env_turnedTH : Env := ⟨T, psi_vo, pspNil, psc_del, 23, [], none, false⟩
theorem eok_turnedTH : PsiOk Try.prog env_turnedTH := ⟨psi_vo_ok, pspNil_ok, psc_del_ok⟩
theorem turnedTH (l : List Bitmap) (nm : List UInt8) (on : Bool) (k : Nat) (hl : BmOk l) (hk : plc l nm = k) (hkl : k < l.length) : CtrF Try.prog 33 [lst .bms l, str nm, .c (.clo 34 [.cel [bv on]])] [] (fun x : Value × List BmH => OwnH (l.set k (fOn on (l.getD k LK.bms.dft))) x.2 l.length) (fun x => .t [.c (.own 0 x.1), int .i64 0]) (fun x => [.own x.1 43 .bmh x.2]) (fun x => leafF (fun i => ((l.set k (fOn on (l.getD k LK.bms.dft))).getD i LK.bms.dft).l) x.2) := by
  refine CtrF_intro (E := env_turnedTH) Try.func33 rfl (by decide) rfl rfl (fun M0 W hM0 => ?_)
  have hll := hl.len
  refine G_run tOk eok_turnedTH 60 (fun _ => none) (fun bs => rfl) (fun bs => ?_) (fun bs => ?_)
  · (repeat' apply And.intro) <;> (intros; first | exact trivial | exact rfl | omega | exact u8_lo _ | exact u8_hi _ | exact u8_in64 _ | exact u8_in63 _ | (simp only [inR, IntKind.bits]; omega) | (simp [inR, IntKind.bits]; done) | (simp [inR, IntKind.bits] at * <;> omega) | (simp_all; done) | (with_reducible assumption) | skip)
  rw [hk]
  refine G_els rfl rfl (by simp) ?_
  refine G_run tOk eok_turnedTH 60 (fun _ => none) (fun bs => rfl) (fun bs => ?_) (fun bs => ?_)
  · (repeat' apply And.intro) <;> (intros; first | exact trivial | exact rfl | omega | exact u8_lo _ | exact u8_hi _ | exact u8_in64 _ | exact u8_in63 _ | (simp only [inR, IntKind.bits]; omega) | (simp [inR, IntKind.bits]; done) | (simp [inR, IntKind.bits] at * <;> omega) | (simp_all; done) | (with_reducible assumption) | skip)
  refine G_nx 0 rfl ?_
  refine G_callF [] id (mownH l hl) (fun x => leafF_own) rfl trivial rfl rfl rfl rfl (by decide) rfl (fun x => rfl) (fun x => rfl) (fun x hO => ?_)
  obtain ⟨v, Lh⟩ := x
  dsimp only at hO ⊢
  have hLl := hO.len
  obtain ⟨u, hu⟩ := hO.own k hkl hkl
  refine G_run tOk eok_turnedTH 60 (fun _ => none) (fun bs => rfl) (fun bs => ?_) (fun bs => ?_)
  · (repeat' apply And.intro) <;> (intros; first | exact trivial | exact rfl | omega | exact u8_lo _ | exact u8_hi _ | exact u8_in64 _ | exact u8_in63 _ | (simp only [inR, IntKind.bits]; omega) | (simp [inR, IntKind.bits]; done) | (simp [inR, IntKind.bits] at * <;> omega) | (simp_all; done) | (with_reducible assumption) | skip)
  refine G_nx 1 rfl ?_
  refine G_callH [0] id (tclH v Lh k on (by omega)) rfl trivial rfl rfl rfl rfl (by decide) rfl rfl (fun x => rfl) (fun x _ => ?_)
  refine G_run tOk eok_turnedTH 60 (fun _ => none) (fun bs => rfl) (fun bs => ?_) (fun bs => ?_)
  · (repeat' apply And.intro) <;> (intros; first | exact trivial | exact rfl | omega | exact u8_lo _ | exact u8_hi _ | exact u8_in64 _ | exact u8_in63 _ | (simp only [inR, IntKind.bits]; omega) | (simp [inR, IntKind.bits]; done) | (simp [inR, IntKind.bits] at * <;> omega) | (simp_all; done) | (with_reducible assumption) | skip)
  refine G_retF rfl tOk rfl rfl ⟨trivial, trivial, trivial⟩ (v, Lh.set k ⟨(Lh.getD k LK.bmh.dft).name, on, (Lh.getD k LK.bmh.dft).sp⟩) ?ok [0] (fun i => i + 40) id rfl (by decide) rfl (fun j y h => ⟨y, ?fam, (leafF_own _ _ h _).symm⟩) (fun j y h => rfl) (fun j j' y z h1 h2 e => ?inj)
  case inj => omega
  case ok => exact hO.turn hkl (u := u) (by rw [hu])
  case fam =>
    have hf : leafF (fun i => ((l.set k (fOn on (l.getD k LK.bms.dft))).getD i LK.bms.dft).l) (Lh.set k ⟨(Lh.getD k LK.bmh.dft).name, on, (Lh.getD k LK.bmh.dft).sp⟩) j = leafF (fun i => (l.getD i LK.bms.dft).l) Lh j :=
      leafF_one (x := ⟨(Lh.getD k LK.bmh.dft).name, on, (Lh.getD k LK.bmh.dft).sp⟩) (fun j _ => setL_same (y := fOn on (l.getD k LK.bms.dft)) rfl j) (show k < Lh.length by omega) rfl j
    exact hf.symm.trans h

def env_mturnH : Env := ⟨T, psi_vo, pspNil, psc_del, 14, [], none, false⟩
theorem eok_mturnH : PsiOk Try.prog env_mturnH := ⟨psi_vo_ok, pspNil_ok, psc_del_ok⟩
theorem mturnH (l : List Bitmap) (nm : List UInt8) (on : Bool) (k : Nat) (hl : BmOk l) (hk : plc l nm = k) (hkl : k < l.length) : CtrF Try.prog 12 [lst .bms l, str nm, bool on] [] (fun x : Value × List BmH => OwnH (l.set k (fOn on (l.getD k LK.bms.dft))) x.2 l.length) (fun x => .t [.c (.own 0 x.1), int .i64 0]) (fun x => [.own x.1 43 .bmh x.2]) (fun x => leafF (fun i => ((l.set k (fOn on (l.getD k LK.bms.dft))).getD i LK.bms.dft).l) x.2) := by
  refine CtrF_intro (E := env_mturnH) Try.func12 rfl (by decide) rfl rfl (fun M0 W hM0 => ?_)
  have hll := hl.len
  refine G_run tOk eok_mturnH 60 (fun _ => none) (fun bs => rfl) (fun bs => ?_) (fun bs => ?_)
  · (repeat' apply And.intro) <;> (intros; first | exact trivial | exact rfl | omega | exact u8_lo _ | exact u8_hi _ | exact u8_in64 _ | exact u8_in63 _ | (simp only [inR, IntKind.bits]; omega) | (simp [inR, IntKind.bits]; done) | (simp [inR, IntKind.bits] at * <;> omega) | (simp_all; done) | (with_reducible assumption) | skip)
  refine G_freezeB 10 0 (ys := [bv on]) rfl rfl ?_
  refine G_nx 1 rfl ?_
  refine G_callF [] id (turnedTH l nm on k hl hk hkl) (fun x => leafF_own) rfl trivial rfl rfl rfl rfl (by decide) rfl (fun x => rfl) (fun x => rfl) (fun x hO => ?_)
  obtain ⟨v, Lh⟩ := x
  dsimp only at hO ⊢
  refine G_run tOk eok_mturnH 60 (fun _ => none) (fun bs => rfl) (fun bs => ?_) (fun bs => ?_)
  · (repeat' apply And.intro) <;> (intros; first | exact trivial | exact rfl | omega | exact u8_lo _ | exact u8_hi _ | exact u8_in64 _ | exact u8_in63 _ | (simp only [inR, IntKind.bits]; omega) | (simp [inR, IntKind.bits]; done) | (simp [inR, IntKind.bits] at * <;> omega) | (simp_all; done) | (with_reducible assumption) | skip)
  refine G_retF rfl tOk rfl rfl ⟨trivial, trivial, trivial⟩ (v, Lh) hO [1] (fun i => i + 40) (fun _ => 0) rfl (by decide) rfl (fun j y h => ⟨y, h, (leafF_own _ _ h _).symm⟩) (fun j y h => rfl) (fun j j' y z h1 h2 e => ?inj)
  case inj => omega

/-! ### cleared -/
def env_cclH : Env := ⟨T, psi_vo, pspNil, psc_del, 5, [], none, false⟩
theorem eok_cclH : PsiOk Try.prog env_cclH := ⟨psi_vo_ok, pspNil_ok, psc_del_ok⟩
theorem cclH (v : Value) (l : List BmH) (i : Nat) (hi : i < l.length) : CtrH (X := Unit) Try.prog 35 [.c (.oel 0 v i 3 0)] [.own v 43 .bmh l] (fun _ => True) (fun _ => .t []) (fun _ => [.own v 43 .bmh (l.set i ⟨(l.getD i LK.bmh.dft).name, (l.getD i LK.bmh.dft).on, .v (.slice none 0 0)⟩)]) := by
  refine CtrH_intro (E := env_cclH) Try.func35 rfl (by decide) rfl rfl (fun M0 W hM0 => ?_)
  refine G_run tOk eok_cclH 60 (fun _ => none) (fun bs => rfl) (fun bs => ?_) (fun bs => ?_)
  · exact ⟨⟨trivial, trivial, trivial, ⟨⟨⟨rfl, rfl⟩, hi⟩, .inr ⟨_, rfl⟩⟩, trivial⟩, trivial⟩
  refine G_endH rfl tOk rfl trivial () trivial [0] id rfl (by decide) rfl
end Go.Proofs.Ytndjdmnpdknneaa
