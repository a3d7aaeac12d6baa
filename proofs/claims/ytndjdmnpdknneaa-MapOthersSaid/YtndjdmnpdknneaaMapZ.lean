import Derived.Test.YtndjdmnpdknneaaMapY
set_option linter.unusedSimpArgs false
set_option linter.unusedVariables false
namespace Go.Proofs.Ytndjdmnpdknneaa
open Go.Mt

theorem leafF_at {c : Nat → List Span} {Lh : List BmH} {k : Nat} (hk : k < Lh.length) {nm : List UInt8} {on : Bool} {u : Value} (h : Lh.getD k LK.bmh.dft = ⟨nm, on, .v u⟩) : leafF c Lh k = some (.own u 38 .spn (c k)) := by
  have hg : Lh[k]? = some (Lh.getD k LK.bmh.dft) := by simp [List.getD, List.getElem?_eq_getElem hk]
  unfold leafF
  rw [hg, h]

def env_turnedMH : Env := ⟨T, psi_vo, pspNil, psc_del, 23, [], none, false⟩
theorem eok_turnedMH : PsiOk Try.prog env_turnedMH := ⟨psi_vo_ok, pspNil_ok, psc_del_ok⟩
theorem turnedMH (l : List Bitmap) (nm : List UInt8) (m : List Span) (k : Nat) (hl : BmOk l) (hm : m.length ≤ 100000) (hk : plc l nm = k) (hkl : k < l.length) : CtrF Try.prog 33 [lst .bms l, str nm, .c (.clo 36 [.cel [.lst .spn m]])] [] (fun x : Value × List BmH => OwnH (l.set k (fMrg m (l.getD k LK.bms.dft))) x.2 l.length) (fun x => .t [.c (.own 0 x.1), int .i64 0]) (fun x => [.own x.1 43 .bmh x.2]) (fun x => leafF (fun i => ((l.set k (fMrg m (l.getD k LK.bms.dft))).getD i LK.bms.dft).l) x.2) := by
  refine CtrF_intro (E := env_turnedMH) Try.func33 rfl (by decide) rfl rfl (fun M0 W hM0 => ?_)
  have hll := hl.len
  refine G_run tOk eok_turnedMH 60 (fun _ => none) (fun bs => rfl) (fun bs => ?_) (fun bs => ?_)
  · (repeat' apply And.intro) <;> (intros; first | exact trivial | exact rfl | omega | exact u8_lo _ | exact u8_hi _ | exact u8_in64 _ | exact u8_in63 _ | (simp only [inR, IntKind.bits]; omega) | (simp [inR, IntKind.bits]; done) | (simp [inR, IntKind.bits] at * <;> omega) | (simp_all; done) | (with_reducible assumption) | skip)
  rw [hk]
  refine G_els rfl rfl (by simp) ?_
  refine G_run tOk eok_turnedMH 60 (fun _ => none) (fun bs => rfl) (fun bs => ?_) (fun bs => ?_)
  · (repeat' apply And.intro) <;> (intros; first | exact trivial | exact rfl | omega | exact u8_lo _ | exact u8_hi _ | exact u8_in64 _ | exact u8_in63 _ | (simp only [inR, IntKind.bits]; omega) | (simp [inR, IntKind.bits]; done) | (simp [inR, IntKind.bits] at * <;> omega) | (simp_all; done) | (with_reducible assumption) | skip)
  refine G_nx 0 rfl ?_
  refine G_callF [] id (mownH l hl) (fun x => leafF_own) rfl trivial rfl rfl rfl rfl (by decide) rfl (fun x => rfl) (fun x => rfl) (fun x hO => ?_)
  obtain ⟨v, Lh⟩ := x
  dsimp only at hO ⊢
  have hLl := hO.len
  have hkL : k < Lh.length := by omega
  obtain ⟨u, hu⟩ := hO.own k hkl hkl
  refine G_run tOk eok_turnedMH 60 (fun _ => none) (fun bs => rfl) (fun bs => ?_) (fun bs => ?_)
  · (repeat' apply And.intro) <;> (intros; first | exact trivial | exact rfl | omega | exact u8_lo _ | exact u8_hi _ | exact u8_in64 _ | exact u8_in63 _ | (simp only [inR, IntKind.bits]; omega) | (simp [inR, IntKind.bits]; done) | (simp [inR, IntKind.bits] at * <;> omega) | (simp_all; done) | (with_reducible assumption) | skip)
  refine G_nx 1 rfl ?_
  refine G_moveH (k + 40) (leafF_at (c := fun i => (l.getD i LK.bms.dft).l) hkL hu) ?_
  refine G_nx 2 rfl ?_
  refine G_callH [0, 1] id (mclH v Lh k u (l.getD k LK.bms.dft).l m _ _ hkL hu (hl.get k) hm) rfl trivial rfl rfl rfl rfl (by decide) rfl rfl (fun x => rfl) (fun u' _ => ?_)
  refine G_run tOk eok_turnedMH 60 (fun _ => none) (fun bs => rfl) (fun bs => ?_) (fun bs => ?_)
  · (repeat' apply And.intro) <;> (intros; first | exact trivial | exact rfl | omega | exact u8_lo _ | exact u8_hi _ | exact u8_in64 _ | exact u8_in63 _ | (simp only [inR, IntKind.bits]; omega) | (simp [inR, IntKind.bits]; done) | (simp [inR, IntKind.bits] at * <;> omega) | (simp_all; done) | (with_reducible assumption) | skip)
  refine G_retF rfl tOk rfl rfl ⟨trivial, trivial, trivial⟩ (v, Lh.set k ⟨(l.getD k LK.bms.dft).name, (l.getD k LK.bms.dft).on, .v u'⟩) ?ok [0] (fun i => if i = k then 1 else i + 40) id rfl (by decide) rfl (fun j y h => ⟨y, ?fam, (leafF_own _ _ h _).symm⟩) (fun j y h => ?dis) (fun j j' y z h1 h2 e => ?inj)
  case inj =>
    by_cases e1 : j = k <;> by_cases e2 : j' = k <;> simp only [e1, e2, if_true, if_false] at e ⊢ <;> omega
  case dis =>
    by_cases e : j = k
    · simp only [if_pos e]; rfl
    · simp only [if_neg e]; rfl
  case ok => exact hO.turn hkl (u := u') rfl
  case fam =>
    have hf := leafF_two (c := fun i => (l.getD i LK.bms.dft).l) (c' := fun i => ((l.set k (fMrg m (l.getD k LK.bms.dft))).getD i LK.bms.dft).l) (Lh := Lh) (fun j hj => by rw [getD_set_other _ _ hj]) hkL (l.getD k LK.bms.dft).name (l.getD k LK.bms.dft).on u' j
    have h' := hf.symm.trans h
    by_cases e : j = k
    · rw [if_pos e] at h' ⊢
      rw [getD_set_self _ _ hkl] at h'
      exact h'
    · rw [if_neg e] at h' ⊢
      have e40 : j + 40 ≠ k + 40 := by omega
      show updH (callHF (fun _ => none) [] 0 [.own v 43 .bmh Lh] (leafF (fun i => (l.getD i LK.bms.dft).l) Lh)) (k + 40) none (j + 40) = some y
      rw [updH_ne _ _ e40]
      exact h'

def env_mmergeH : Env := ⟨T, psi_vo, pspNil, psc_del, 32, [], none, false⟩
theorem eok_mmergeH : PsiOk Try.prog env_mmergeH := ⟨psi_vo_ok, pspNil_ok, psc_del_ok⟩
theorem mmergeH (l : List Bitmap) (nm ot : List UInt8) (k q : Nat) (hl : BmOk l) (hk : plc l nm = k) (hkl : k < l.length) (hq : plc l ot = q) (hql : q < l.length) : CtrF Try.prog 14 [lst .bms l, str nm, str ot] [] (fun x : Value × List BmH => OwnH (l.set k (fMrg (l.getD q LK.bms.dft).l (l.getD k LK.bms.dft))) x.2 l.length) (fun x => .t [.c (.own 0 x.1), int .i64 0]) (fun x => [.own x.1 43 .bmh x.2]) (fun x => leafF (fun i => ((l.set k (fMrg (l.getD q LK.bms.dft).l (l.getD k LK.bms.dft))).getD i LK.bms.dft).l) x.2) := by
  refine CtrF_intro (E := env_mmergeH) Try.func14 rfl (by decide) rfl rfl (fun M0 W hM0 => ?_)
  have hll := hl.len
  have hqg := hl.get q
  refine G_run tOk eok_mmergeH 60 (fun _ => none) (fun bs => rfl) (fun bs => ?_) (fun bs => ?_)
  · (repeat' apply And.intro) <;> (intros; first | exact trivial | exact rfl | omega | exact u8_lo _ | exact u8_hi _ | exact u8_in64 _ | exact u8_in63 _ | (simp only [inR, IntKind.bits]; omega) | (simp [inR, IntKind.bits]; done) | (simp [inR, IntKind.bits] at * <;> omega) | (simp_all; done) | (with_reducible assumption) | skip)
  rw [hk, hq]
  refine G_els rfl rfl (by simp) ?_
  refine G_run tOk eok_mmergeH 60 (fun _ => none) (fun bs => rfl) (fun bs => ?_) (fun bs => ?_)
  · (repeat' apply And.intro) <;> (intros; first | exact trivial | exact rfl | omega | exact u8_lo _ | exact u8_hi _ | exact u8_in64 _ | exact u8_in63 _ | (simp only [inR, IntKind.bits]; omega) | (simp [inR, IntKind.bits]; done) | (simp [inR, IntKind.bits] at * <;> omega) | (simp_all; done) | (with_reducible assumption) | skip)
  refine G_freezeB 28 0 (ys := [.lst .spn (l.getD q LK.bms.dft).l]) rfl rfl ?_
  refine G_nx 1 rfl ?_
  refine G_callF [] id (turnedMH l nm (l.getD q LK.bms.dft).l k hl hqg hk hkl) (fun x => leafF_own) rfl trivial rfl rfl rfl rfl (by decide) rfl (fun x => rfl) (fun x => rfl) (fun x hO => ?_)
  obtain ⟨v, Lh⟩ := x
  dsimp only at hO ⊢
  refine G_run tOk eok_mmergeH 60 (fun _ => none) (fun bs => rfl) (fun bs => ?_) (fun bs => ?_)
  · (repeat' apply And.intro) <;> (intros; first | exact trivial | exact rfl | omega | exact u8_lo _ | exact u8_hi _ | exact u8_in64 _ | exact u8_in63 _ | (simp only [inR, IntKind.bits]; omega) | (simp [inR, IntKind.bits]; done) | (simp [inR, IntKind.bits] at * <;> omega) | (simp_all; done) | (with_reducible assumption) | skip)
  refine G_retF rfl tOk rfl rfl ⟨trivial, trivial, trivial⟩ (v, Lh) hO [1] (fun i => i + 40) (fun _ => 0) rfl (by decide) rfl (fun j y h => ⟨y, h, (leafF_own _ _ h _).symm⟩) (fun j y h => rfl) (fun j j' y z h1 h2 e => ?inj)
  case inj => omega
end Go.Proofs.Ytndjdmnpdknneaa
