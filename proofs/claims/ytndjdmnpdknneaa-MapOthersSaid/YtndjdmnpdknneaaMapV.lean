import Derived.Test.YtndjdmnpdknneaaMapT
import Derived.Test.YtndjdmnpdknneaaMtQ4
set_option linter.unusedSimpArgs false
set_option linter.unusedVariables false
namespace Go.Proofs.Ytndjdmnpdknneaa
open Go.Mt

/-- The leaves that names know. -/
def leafF (c : Nat → List Span) (Lh : List BmH) (i : Nat) : Option HB := match Lh[i]? with
  | some ⟨_, _, .v u⟩ => some (.own u 38 .spn (c i))
  | _ => none
theorem leafF_own {c : Nat → List Span} {Lh : List BmH} : OwnF (leafF c Lh) := by
  intro i y h ρ
  unfold leafF at h
  split at h
  · cases h; rfl
  · cases h
theorem leafF_set {c : Nat → List Span} {Lh : List BmH} {i : Nat} (hi : i < Lh.length) (nm : List UInt8) (on : Bool) (u : Value) (j : Nat) : leafF c (Lh.set i ⟨nm, on, .v u⟩) j = if j = i then some (.own u 38 .spn (c i)) else leafF c Lh j := by
  unfold leafF
  rw [List.getElem?_set]
  by_cases h : j = i
  · subst h; rw [if_pos rfl, if_pos hi, if_pos rfl]
  · rw [if_neg (fun e => h e.symm), if_neg h]
theorem leafF_stay {c : Nat → List Span} (l : List Bitmap) (i : Nat) : leafF c (l.map stayH) i = none := by
  unfold leafF
  rw [List.getElem?_map]
  cases l[i]? <;> rfl
/-- So many of them with leaves of their own. -/
structure OwnH (l : List Bitmap) (Lh : List BmH) (i : Nat) : Prop where
  len : Lh.length = l.length
  old : ∀ j, i ≤ j → j < l.length → Lh.getD j LK.bmh.dft = stayH (l.getD j LK.bms.dft)
  own : ∀ j, j < i → j < l.length → ∃ u, Lh.getD j LK.bmh.dft = ⟨(l.getD j LK.bms.dft).name, (l.getD j LK.bms.dft).on, .v u⟩
theorem getD_set_other {α : Type} {l : List α} {i j : Nat} (x d : α) (h : j ≠ i) : (l.set i x).getD j d = l.getD j d := by
  simp only [List.getD, List.getElem?_set]
  rw [if_neg (fun e => h e.symm)]
theorem OwnH.start (l : List Bitmap) : OwnH l (l.map stayH) 0 := ⟨by simp, fun j _ hj => by simp [List.getD, List.getElem?_map, List.getElem?_eq_getElem hj], fun j h => by omega⟩
theorem OwnH.step {l : List Bitmap} {Lh : List BmH} {i : Nat} (h : OwnH l Lh i) (hi : i < l.length) {x : BmH} {u : Value} (hx : x = ⟨(l.getD i LK.bms.dft).name, (l.getD i LK.bms.dft).on, .v u⟩) : OwnH l (Lh.set i x) (i + 1) := by
  subst hx
  refine ⟨by rw [List.length_set]; exact h.len, fun j h1 h2 => ?_, fun j h1 h2 => ?_⟩
  · rw [getD_set_other _ _ (by omega)]; exact h.old j (by omega) h2
  · by_cases e : j = i
    · subst e; exact ⟨u, getD_set_self _ _ (by rw [h.len]; exact hi)⟩
    · rw [getD_set_other _ _ e]; exact h.own j (by omega) h2

def env_mownH : Env := ⟨T, psi_mclone, pspNil, pscNil, 24, [], none, false⟩
theorem eok_mownH : PsiOk Try.prog env_mownH := ⟨psi_mclone_ok, pspNil_ok, pscNil_ok⟩
theorem mownH (l : List Bitmap) (hl : BmOk l) : CtrF Try.prog 32 [lst .bms l] [] (fun x : Value × List BmH => OwnH l x.2 l.length) (fun x => .c (.own 0 x.1)) (fun x => [.own x.1 43 .bmh x.2]) (fun x => leafF (fun i => (l.getD i LK.bms.dft).l) x.2) := by
  refine CtrF_intro (E := env_mownH) Try.func32 rfl (by decide) rfl rfl (fun M0 W hM0 => ?_)
  have hll := hl.len
  refine G_run tOk eok_mownH 60 (fun _ => none) (fun bs => rfl) (fun bs => ?_) (fun bs => ?_)
  · (repeat' apply And.intro) <;> (intros; first | exact trivial | exact rfl | omega | exact u8_lo _ | exact u8_hi _ | exact u8_in64 _ | exact u8_in63 _ | (simp only [inR, IntKind.bits]; omega) | (simp [inR, IntKind.bits]; done) | (simp [inR, IntKind.bits] at * <;> omega) | (simp_all; done) | (with_reducible assumption) | skip)
  refine G_bmsH 0 rfl ?_
  refine G_loopF (fun x : Nat × Value × List BmH => [(3, .c (.own 0 x.2.1)), (8, int .i64 l.length), (9, int .i64 x.1)]) (fun x => [.own x.2.1 43 .bmh x.2.2]) (fun x => leafF (fun i => (l.getD i LK.bms.dft).l) x.2.2) (fun x => x.1 ≤ l.length ∧ OwnH l x.2.2 x.1) (fun x => l.length - x.1) rfl [0] (fun i => i + 40) (0, ?v0, l.map stayH) ⟨Nat.zero_le _, OwnH.start l⟩ ⟨?wk, fun i y h => ?_, fun i y h => rfl, fun i j y z h _ e => ?_⟩ (fun x hx => ?_)
  case wk => (repeat' apply And.intro) <;> (first | exact rfl | exact trivial | omega | refine sigEq ?_ | skip)
  · simp only [leafF_stay] at h; cases h
  · omega
  obtain ⟨i, v, Lh⟩ := x
  obtain ⟨hx, hO⟩ := hx
  simp only at hx hO ⊢
  refine G_run tOk eok_mownH 60 (fun _ => none) (fun bs => rfl) (fun bs => ?_) (fun bs => ?_)
  · (repeat' apply And.intro) <;> (intros; first | exact trivial | exact rfl | omega | exact u8_lo _ | exact u8_hi _ | exact u8_in64 _ | exact u8_in63 _ | (simp only [inR, IntKind.bits]; omega) | (simp [inR, IntKind.bits]; done) | (simp [inR, IntKind.bits] at * <;> omega) | (simp_all; done) | (with_reducible assumption) | skip)
  refine G_if rfl rfl (fun hk => ?_) (fun hk => ?_)
  · have hk' : i < l.length := by omega
    have hb := hl.get i
    have hol := hO.len
    have hget := hO.old i (Nat.le_refl _) hk'
    refine G_run tOk eok_mownH 60 (fun _ => none) (fun bs => rfl) (fun bs => ?_) (fun bs => ?_)
    · (repeat' apply And.intro) <;> (intros; first | exact trivial | exact rfl | omega | exact u8_lo _ | exact u8_hi _ | exact u8_in64 _ | exact u8_in63 _ | (simp only [inR, IntKind.bits]; omega) | (simp [inR, IntKind.bits]; done) | (simp [inR, IntKind.bits] at * <;> omega) | (simp_all; done) | (with_reducible assumption) | skip)
    refine G_callH [] id (Ctr.toH (sclone_fn (l.getD i LK.bms.dft).l (by omega))) rfl trivial rfl rfl rfl ?hr (by decide) rfl rfl (fun x => rfl) (fun u _ => ?_)
    case hr =>
      show [renA id (A.c (C.pv (Lh.getD i LK.bmh.dft).sp.pv))] = _
      rw [hget]; rfl
    refine G_run tOk eok_mownH 60 (fun _ => none) (fun bs => rfl) (fun bs => ?_) (fun bs => ?_)
    · (repeat' apply And.intro) <;> (intros; first | exact trivial | exact rfl | omega | exact u8_lo _ | exact u8_hi _ | exact u8_in64 _ | exact u8_in63 _ | (simp only [inR, IntKind.bits]; omega) | (simp [inR, IntKind.bits]; done) | (simp [inR, IntKind.bits] at * <;> omega) | (simp_all; done) | (with_reducible assumption) | skip)
    have hset := leafF_set (c := fun i => (l.getD i LK.bms.dft).l) (Lh := Lh) (i := i) (by omega) (l.getD i LK.bms.dft).name (l.getD i LK.bms.dft).on u
    refine G_lpF [0] (fun j => if j = i then 1 else j + 40) (i + 1, v, Lh.set i ⟨(l.getD i LK.bms.dft).name, (l.getD i LK.bms.dft).on, .v u⟩) ⟨⟨hk', hO.step hk' rfl⟩, by simp only; omega⟩ ⟨?wk1, fun j y h => ?_, fun j y h => ?_, fun j j' y z h1 h2 e => ?_⟩
    case wk1 =>
      (repeat' apply And.intro) <;> (first | exact rfl | exact trivial | omega | refine sigEq ?_ | skip)
      all_goals (show Lh.set i ⟨(Lh.getD i LK.bmh.dft).name, (Lh.getD i LK.bmh.dft).on, .v u⟩ = _; rw [hget]; rfl)
    · simp only [hset] at h
      by_cases e : j = i
      · rw [if_pos e] at h ⊢; exact h
      · rw [if_neg e] at h ⊢; exact h
    · by_cases e : j = i
      · simp only [if_pos e]; rfl
      · simp only [if_neg e]; rfl
    · by_cases e1 : j = i <;> by_cases e2 : j' = i <;> simp only [e1, e2, if_true, if_false] at e ⊢ <;> omega
  · have hk' : i = l.length := by omega
    subst hk'
    refine G_run tOk eok_mownH 60 (fun _ => none) (fun bs => rfl) (fun bs => ?_) (fun bs => ?_)
    · (repeat' apply And.intro) <;> (intros; first | exact trivial | exact rfl | omega | exact u8_lo _ | exact u8_hi _ | exact u8_in64 _ | exact u8_in63 _ | (simp only [inR, IntKind.bits]; omega) | (simp [inR, IntKind.bits]; done) | (simp [inR, IntKind.bits] at * <;> omega) | (simp_all; done) | (with_reducible assumption) | skip)
    refine G_retF rfl tOk rfl rfl ⟨trivial, trivial⟩ (v, Lh) hO [0] (fun i => i + 40) id rfl (by decide) rfl (fun j y h => ⟨y, h, (leafF_own _ _ h _).symm⟩) (fun j y h => rfl) (fun j j' y z h1 h2 e => ?_)
    omega
end Go.Proofs.Ytndjdmnpdknneaa
