/-
  Mt, part R: rules: tests, cuts, loops, what is forgotten, what is handed back.
-/
import Derived.Test.YtnmomckmpknbkaaMtQ
set_option linter.unusedSimpArgs false
set_option linter.unusedVariables false
namespace Go.Mt
open Go.RowKit

/-! ### one state for another -/
def simV : Value → Value → Prop
  | .int k n, .int k' m => ikeq k k' = true ∧ n = m
  | .bool a, .bool b => a = b
  | .string ⟨⟨a⟩⟩, .string ⟨⟨b⟩⟩ => a = b
  | a, b => a = b
def simPV : PV → PV → Prop
  | .val a, .val b => simV a b
  | .nil k, .lst k' l => lkeq k k' = true ∧ l = []
  | x, y => x = y
def simC : C → C → Prop
  | .pv x, .pv y => simPV x y
  | .ptr _ b o, .ptr _ b' o' => b = b' ∧ o = o'
  | .own _ v, .own _ v' => v = v'
  | x, y => x = y
def simCs : List C → List C → Prop
  | [], [] => True
  | x :: xs, y :: ys => simC x y ∧ simCs xs ys
  | _, _ => False
def simA : A → A → Prop
  | .c x, .c y => simC x y
  | .g xs, .g ys => simCs xs ys
  | x, y => x = y
def simH : HB → HB → Prop
  | .blk b ty cs, .blk b' ty' cs' => b = b' ∧ ty = ty' ∧ simCs cs cs'
  | .own v ty k l, .own v' ty' k' l' => v = v' ∧ ty = ty' ∧ (⟨k, l⟩ : (k : LK) × List k.T) = ⟨k', l'⟩
  | _, _ => False
theorem sigEq {k : LK} {l l' : List k.T} (h : l = l') : (⟨k, l⟩ : (k : LK) × List k.T) = ⟨k, l'⟩ := by rw [h]
def wkF (st : St) : List (Nat × A) → Prop
  | [] => True
  | (s, x) :: r => (match st.f s with
    | some (.u y) => simA y x
    | _ => False) ∧ wkF st r
def wkH (st : St) : List Nat → List HB → Prop
  | [], [] => True
  | n :: ns, x :: xs => (match st.H n with
    | some y => simH y x
    | none => False) ∧ wkH st ns xs
  | _, _ => False
def nodupB : List Nat → Bool
  | [] => true
  | x :: l => !memN x l && nodupB l
def look (s : Nat) : List (Nat × A) → Option A
  | [] => none
  | (s', x) :: r => match Nat.beq s s' with
    | true => some x
    | false => look s r
/-- A state off lists: slots, blocks of one's own (their names are their places). -/
def mk (fs : List (Nat × A)) (hs : List HB) : St := ⟨fun s => match look s fs with
  | some x => some (.u x)
  | none => none, fun n => nth hs n, len hs⟩
/-- What is known of 'st' is enough for the lists. -/
def Wk (st : St) (ns : List Nat) (fs : List (Nat × A)) (hs : List HB) : Prop := nodupB ns = true ∧ wkF st fs ∧ wkH st ns hs

section
variable {P : Program} {E : Env} {B : Nat} {W : World} {M0 M : Mem} {Q : Exit → Act → World → Prop} {k : List Itm} {st : St} {a : Act} {w : World} {N : Nat} {mrk : Bool}

theorem simV_ok {u v : Value} (h : simV u v) : u = v := by
  unfold simV at h
  split at h
  · obtain ⟨h1, h2⟩ := h; rw [ikeq_eq h1, h2]
  · rw [h]
  · rw [h]
  · exact h
theorem lkeq_eq {k k' : LK} (h : lkeq k k' = true) : k = k' := by
  unfold lkeq at h
  split at h <;> first | rfl | (rw [ikeq_eq h]) | cases h
theorem simPV_ok {x y : PV} (h : simPV x y) {v : Value} (r : R M x v) : R M y v := by
  unfold simPV at h
  split at h
  · rw [← simV_ok h]; exact r
  · obtain ⟨h1, rfl⟩ := h
    have := lkeq_eq h1; subst this
    exact r.nil_lst
  · rw [← h]; exact r
theorem simC_ok {x y : C} (h : simC x y) {v : Value} (r : RC M x v) : RC M y v := by
  unfold simC at h
  split at h
  · cases r with | pv r => exact .pv (simPV_ok h r)
  · obtain ⟨rfl, rfl⟩ := h; cases r; exact .ptr
  · subst h; cases r with | own r => exact .own r
  · rw [← h]; exact r
theorem simCs_ok : ∀ {xs ys : List C}, simCs xs ys → ∀ {us : List Value}, RCs M xs us → RCs M ys us := by
  intro xs
  induction xs with
  | nil => intro ys h us r; cases ys with
    | nil => exact r
    | cons => cases h
  | cons x xs ih =>
    intro ys h us r
    cases ys with
    | nil => cases h
    | cons y ys =>
      obtain ⟨h1, h2⟩ := h
      cases us with
      | nil => have := r.1; simp at this
      | cons u us =>
        have hr : RCs M xs us := ⟨by simpa using r.1, fun j c u' a b => r.2 (j + 1) c u' (by simpa using a) (by simpa using b)⟩
        have := ih h2 hr
        refine ⟨by simpa using this.1, fun j c u' a b => ?_⟩
        cases j with
        | zero => simp at a b; subst a b; exact simC_ok h1 (r.2 0 x u rfl rfl)
        | succ j => exact this.2 j c u' (by simpa using a) (by simpa using b)
theorem simA_ok {x y : A} (h : simA x y) {v : Value} (r : RA M x v) : RA M y v := by
  unfold simA at h
  split at h
  · cases r with | c r => exact .c (simC_ok h r)
  · cases r with | g r => exact .g (simCs_ok h r)
  · rw [← h]; exact r
theorem simH_ok {x y : HB} (h : simH x y) (r : HBok M B w x) : HBok M B w y ∧ y.block = x.block := by
  unfold simH at h
  split at h
  · obtain ⟨rfl, rfl, h⟩ := h
    obtain ⟨r1, r2, us, r3, r4⟩ := r
    exact ⟨⟨r1, r2, us, r3, simCs_ok h r4⟩, rfl⟩
  · obtain ⟨rfl, rfl, h⟩ := h
    cases h; exact ⟨r, rfl⟩
  · cases h

theorem wkF_ok : ∀ {fs : List (Nat × A)}, wkF st fs → ∀ s x, look s fs = some x → ∃ y, st.f s = some (.u y) ∧ simA y x := by
  intro fs
  induction fs with
  | nil => intro _ s x h; cases h
  | cons p fs ih =>
    intro h s x hl
    obtain ⟨s', x'⟩ := p
    obtain ⟨h1, h2⟩ := h
    simp only [look] at hl
    split at hl
    · rename_i hb; rw [Nat.beq_eq] at hb; subst hb; cases hl
      split at h1
      · rename_i y hy; exact ⟨y, hy, h1⟩
      · cases h1
    · exact ih h2 s x hl

theorem wkH_ok : ∀ {ns : List Nat} {hs : List HB}, wkH st ns hs → ns.length = hs.length ∧ ∀ (n : Nat) (x : HB), hs[n]? = some x → ∃ m y, ns[n]? = some m ∧ st.H m = some y ∧ simH y x := by
  intro ns
  induction ns with
  | nil => intro hs h; cases hs with
    | nil => exact ⟨rfl, by simp⟩
    | cons => cases h
  | cons m ns ih =>
    intro hs h
    cases hs with
    | nil => cases h
    | cons x hs =>
      obtain ⟨h1, h2⟩ := h
      obtain ⟨i1, i2⟩ := ih h2
      refine ⟨by simp [i1], fun n y hn => ?_⟩
      cases n with
      | zero =>
        simp at hn; subst hn
        split at h1
        · rename_i z hz; exact ⟨m, z, rfl, hz, h1⟩
        · cases h1
      | succ n => simpa using i2 n y (by simpa using hn)

theorem memN_mem {d : Nat} : ∀ {l : List Nat}, d ∈ l → memN d l = true := by
  intro l
  induction l with
  | nil => intro h; cases h
  | cons x l ih =>
    intro h
    rcases List.mem_cons.1 h with rfl | h
    · simp [memN]
    · simp [memN, ih h]
theorem nodupB_inj : ∀ {l : List Nat}, nodupB l = true → ∀ (n n' m : Nat), l[n]? = some m → l[n']? = some m → n = n' := by
  intro l
  induction l with
  | nil => intro _ n n' m h; simp at h
  | cons x l ih =>
    intro h n n' m h1 h2
    simp only [nodupB, Bool.and_eq_true, Bool.not_eq_true'] at h
    have hx : ∀ (q : Nat), l[q]? = some x → False := fun q hq => by
      have := memN_mem (List.mem_of_getElem? hq)
      rw [this] at h; cases h.1
    cases n with
    | zero =>
      cases n' with
      | zero => rfl
      | succ n' => simp at h1; subst h1; exact (hx n' (by simpa using h2)).elim
    | succ n =>
      cases n' with
      | zero => simp at h2; subst h2; exact (hx n (by simpa using h1)).elim
      | succ n' => rw [ih h.2 n n' m (by simpa using h1) (by simpa using h2)]

theorem Wk.sat {ns : List Nat} {fs : List (Nat × A)} {hs : List HB} (h : Wk st ns fs hs) {ops rs i} (hS : Sat N mrk B W M0 ops rs i st M a w) : Sat N mrk B W M0 [] [] 0 (mk fs hs) M a w := by
  obtain ⟨h1, h2, h3⟩ := h
  obtain ⟨g1, g2⟩ := wkH_ok h3
  have hH : ∀ n x, (mk fs hs).H n = some x → ∃ m y, ns[n]? = some m ∧ st.H m = some y ∧ simH y x := by
    intro n x hn
    simp only [mk, nth_eq] at hn
    exact g2 n x hn
  refine ⟨⟨hS.h.below, hS.h.base, hS.h.mem, fun n x hn => ?_, fun n n' x x' b hnn e1 e2 hb => ?_⟩, hS.old, hS.d, hS.n, fun s e he => ?_, fun s j b x hx => ?_⟩
  · obtain ⟨m, y, q1, q2, q3⟩ := hH n x hn
    exact (simH_ok q3 (hS.h.ok m y q2)).1
  · obtain ⟨m, y, q1, q2, q3⟩ := hH n x e1
    obtain ⟨m', y', q1', q2', q3'⟩ := hH n' x' e2
    have b1 := (simH_ok q3 (hS.h.ok m y q2)).2
    have b2 := (simH_ok q3' (hS.h.ok m' y' q2')).2
    rw [b1] at hb; rw [b2]
    refine hS.h.inj m m' y y' b (fun e => hnn ?_) q2 q2' hb
    subst e
    exact nodupB_inj h1 n n' m q1 q1'
  · simp only [mk] at he
    split at he
    · rename_i x hx; cases he
      obtain ⟨y, q1, q2⟩ := wkF_ok h2 s x hx
      obtain ⟨v, v1, v2⟩ := hS.f s _ q1
      exact ⟨v, v1, simA_ok q2 v2⟩
    · cases he
  · simp only [mk] at hx
    split at hx <;> cases hx

/-! ### rules -/
theorem G_run (hT : TbOk P E.T) (hΨ : PsiOk P E) (n : Nat) (kn : Nat → Option Bool) {k' : (Nat → Nat → Value) → List Itm} {st' : (Nat → Nat → Value) → St} {ob : (Nat → Nat → Value) → Prop}
    (h : ∀ bs, run E kn n k st bs = .mk (k' bs) (st' bs) (ob bs)) (ho : ∀ bs, ob bs) (hk : ∀ bs, G P E B W M0 Q (k' bs) (st' bs)) : G P E B W M0 Q k st :=
  run_ok hT hΨ n k st (kn := kn) fun bs => by rw [h bs]; exact ⟨ho bs, hk bs⟩

theorem G_cond {c : Code} {o : Operand} {b : Bool} (hc : cnd c = some o) (hv : rdG st.f [] o = some (bool b)) (ht : b = true → G P E B W M0 Q (.code (thn c) :: k) st) (hf : b = false → G P E B W M0 Q (.code (els c) :: k) st) :
    G P E B W M0 Q (.code c :: k) st := by
  intro M a w hS
  unfold cnd at hc
  split at hc
  · rename_i o' x y; cases hc
    simp only [after]
    have hval := (rdG_ok hS (Γ := []) (by simp) _ _ hv).val_inv
    refine wpIn_cond_split hval (fun h => ?_) (fun h => ?_)
    · exact ht h M a w hS
    · exact hf h M a w hS
  · cases hc
theorem G_if {c : Code} {o : Operand} {p : Prop} [Decidable p] (hc : cnd c = some o) (hv : rdG st.f [] o = some (bool (decide p))) (ht : p → G P E B W M0 Q (.code (thn c) :: k) st) (hf : ¬ p → G P E B W M0 Q (.code (els c) :: k) st) :
    G P E B W M0 Q (.code c :: k) st :=
  G_cond hc hv (fun h => ht (of_decide_eq_true h)) (fun h => hf (of_decide_eq_false h))

theorem G_thn {c : Code} {o : Operand} {b : Bool} (hc : cnd c = some o) (hv : rdG st.f [] o = some (bool b)) (hb : b = true) (ht : G P E B W M0 Q (.code (thn c) :: k) st) : G P E B W M0 Q (.code c :: k) st :=
  G_cond hc hv (fun _ => ht) (fun h => by rw [hb] at h; cases h)
theorem G_els {c : Code} {o : Operand} {b : Bool} (hc : cnd c = some o) (hv : rdG st.f [] o = some (bool b)) (hb : b = false) (hf : G P E B W M0 Q (.code (els c) :: k) st) : G P E B W M0 Q (.code c :: k) st :=
  G_cond hc hv (fun h => by rw [hb] at h; cases h) (fun _ => hf)

theorem G_wk {ns : List Nat} {fs : List (Nat × A)} {hs : List HB} (h0 : hdI k = 0) (h : Wk st ns fs hs) (hk : G P E B W M0 Q k (mk fs hs)) : G P E B W M0 Q k st :=
  fun M a w hS => hk M a w ((h.sat hS).hd h0)

/-- What a round, or a way, must come to. -/
def LJ {X : Type} (E : Env) (B : Nat) (W : World) (M0 : Mem) (F : X → List (Nat × A)) (H : X → List HB) (ok : X → Prop) : Act → World → Prop :=
  fun a w => ∃ x M, ok x ∧ Sat E.N E.mrk B W M0 [] [] 0 (mk (F x) (H x)) M a w

theorem G_lp {X : Type} {F : X → List (Nat × A)} {H : X → List HB} {ok : X → Prop} (ns : List Nat) (x : X) (hx : ok x) (h : Wk st ns (F x) (H x)) : G P E B W M0 Q (.lp (LJ E B W M0 F H ok) :: k) st :=
  fun M a w hS => ⟨x, M, hx, h.sat hS⟩

theorem after_mono {ro : Option Nat} {J : Act → World → Prop} (hJ : ∀ a w, J a w → after ro P Q k .normal a w) : ∀ (e : Exit) (a : Act) (w : World), after ro P Q (.lp J :: k) e a w → after ro P Q k e a w := by
  intro e a w h
  cases e with
  | normal => exact hJ a w h
  | _ => exact h

/-- Ways that meet again behind the head. -/
theorem G_cut {X : Type} (F : X → List (Nat × A)) (H : X → List HB) (ok : X → Prop) {c : Code} (h0 : hdI k = 0) (h1 : G P E B W M0 Q (.code c :: .lp (LJ E B W M0 F H ok) :: k) st) (h2 : ∀ x, ok x → G P E B W M0 Q k (mk (F x) (H x))) :
    G P E B W M0 Q (.code c :: k) st := by
  intro M a w hS
  have := h1 M a w hS
  simp only [after] at this ⊢
  refine wpIn_mono this (after_mono fun a w hJ => ?_)
  obtain ⟨x, M', hx, hS'⟩ := hJ
  exact h2 x hx M' a w (hS'.hd h0)

theorem exists_min (p : Nat → Prop) (h : ∃ n, p n) : ∃ n, p n ∧ ∀ m, p m → n ≤ m := by
  obtain ⟨n, hn⟩ := h
  induction n using Nat.strongRecOn with
  | _ n ih =>
    by_cases hex : ∃ m, m < n ∧ p m
    · obtain ⟨m, h1, h2⟩ := hex; exact ih m h1 h2
    · exact ⟨n, hn, fun m hm => Nat.le_of_not_lt fun hlt => hex ⟨m, hlt, hm⟩⟩

def isLoop : Code → Bool | .loop _ => true | _ => false
/-- A loop: its state at each round's head, a measure. -/
theorem G_loop {X : Type} (F : X → List (Nat × A)) (H : X → List HB) (ok : X → Prop) (μ : X → Nat) {c : Code} (hc : isLoop c = true) (ns : List Nat) (x0 : X) (hx0 : ok x0) (hw : Wk st ns (F x0) (H x0))
    (body : ∀ x, ok x → G P E B W M0 Q (.code (bod c) :: .lp (LJ E B W M0 F H (fun y => ok y ∧ μ y < μ x)) :: k) (mk (F x) (H x))) : G P E B W M0 Q (.code c :: k) st := by
  intro M a w hS
  cases c <;> simp only [isLoop, Bool.false_eq_true] at hc
  rename_i c
  simp only [after]
  -- the state at a round's head, the least measure that it has
  let I : Act → World → Prop := fun a w => ∃ x M, ok x ∧ Sat E.N E.mrk B W M0 [] [] 0 (mk (F x) (H x)) M a w
  have hI0 : I a w := ⟨x0, M, hx0, hw.sat hS⟩
  let p : Act → World → Nat → Prop := fun a w n => ∃ x M, ok x ∧ μ x = n ∧ Sat E.N E.mrk B W M0 [] [] 0 (mk (F x) (H x)) M a w
  let ν : Act → World → Nat := fun a w => open Classical in if h : ∃ n, p a w n then Classical.choose (exists_min (p a w) h) else 0
  have hν0 : ∀ a w (h : ∃ n, p a w n), p a w (ν a w) ∧ ∀ m, p a w m → ν a w ≤ m := by
    intro a w h
    simp only [ν, dif_pos h]
    exact Classical.choose_spec (exists_min (p a w) h)
  have hν : ∀ a w, I a w → ∃ x M, ok x ∧ μ x = ν a w ∧ Sat E.N E.mrk B W M0 [] [] 0 (mk (F x) (H x)) M a w :=
    fun a w ⟨x, M, h1, h2⟩ => (hν0 a w ⟨_, x, M, h1, rfl, h2⟩).1
  have hle : ∀ a w x M, ok x → Sat E.N E.mrk B W M0 [] [] 0 (mk (F x) (H x)) M a w → ν a w ≤ μ x :=
    fun a w x M h1 h2 => (hν0 a w ⟨_, x, M, h1, rfl, h2⟩).2 _ ⟨x, M, h1, rfl, h2⟩
  refine wpIn_loop I ν hI0 fun a w hI => ?_
  obtain ⟨x, M, h1, h2, h3⟩ := hν a w hI
  have := body x h1 M a w h3
  simp only [after, bod] at this
  refine wpIn_mono this fun e a' w' q => ?_
  cases e with
  | normal =>
    obtain ⟨y, M', ⟨y1, y2⟩, y3⟩ := q
    exact ⟨⟨y, M', y1, y3⟩, Nat.lt_of_le_of_lt (hle _ _ y M' y1 y3) (by rw [← h2]; exact y2)⟩
  | _ => exact q

/-- A slice of one's own that nothing turns any more. -/
def allOwn (st : St) (n : Nat) (v : Value) : List Nat → Prop
  | [] => True
  | s :: ss => (match st.f s with
    | some (.u (.c (.own _ v'))) => v' = v
    | _ => False) ∧ allOwn st n v ss
def updAll (f : Nat → Option Ent) (x : A) : List Nat → Nat → Option Ent
  | [], s => f s
  | d :: ds, s => match Nat.beq s d with
    | true => some (.u x)
    | false => updAll f x ds s
theorem updAll_ok {f : Nat → Option Ent} {x : A} : ∀ {ss : List Nat} {s : Nat} {e : Ent}, updAll f x ss s = some e → (s ∈ ss ∧ e = .u x) ∨ f s = some e := by
  intro ss
  induction ss with
  | nil => intro s e h; exact .inr h
  | cons d ss ih =>
    intro s e h
    simp only [updAll] at h
    split at h
    · rename_i hb; rw [Nat.beq_eq] at hb; subst hb; cases h
      exact .inl ⟨List.mem_cons_self, rfl⟩
    · rcases ih h with ⟨h1, h2⟩ | h
      · exact .inl ⟨List.mem_cons_of_mem _ h1, h2⟩
      · exact .inr h
theorem allOwn_ok {n : Nat} {v : Value} : ∀ {ss : List Nat}, allOwn st n v ss → ∀ s ∈ ss, ∃ m, st.f s = some (.u (.c (.own m v))) := by
  intro ss
  induction ss with
  | nil => intro _ s h; cases h
  | cons d ss ih =>
    intro h s hs
    obtain ⟨h1, h2⟩ := h
    rcases List.mem_cons.1 hs with rfl | hs
    · split at h1
      · rename_i m v' hf; subst h1; exact ⟨m, hf⟩
      · cases h1
    · exact ih h2 s hs
theorem G_freeze (n : Nat) (ss : List Nat) {v : Value} {ty : TypeId} {lk : LK} {l : List lk.T} (hn : st.H n = some (.own v ty lk l)) (hs : allOwn st n v ss)
    (hk : G P E B W M0 Q k ⟨updAll st.f (lst lk l) ss, updH st.H n none, st.nx⟩) : G P E B W M0 Q k st := by
  intro M a w hS
  obtain ⟨M', h1, h2, h3⟩ := hS.h.freeze hn (H' := updH st.H n none) (fun m x hm => by
    by_cases e : m = n
    · subst e; rw [updH_same] at hm; cases hm
    · rw [updH_ne _ _ e] at hm; exact ⟨e, hm⟩)
  refine hk M' a w ⟨h2, fun k o e hk => hS.old k o (h1.2 k o e hk) hk, hS.d.mono h1.1 rfl, hS.n, fun s e he => ?_, fun s j b x hx => ?_⟩
  · rcases updAll_ok he with ⟨q1, rfl⟩ | q
    · obtain ⟨m, hm⟩ := allOwn_ok hs s q1
      obtain ⟨u, u1, u2⟩ := hS.f s _ hm
      have := RA.own_inv u2; subst this
      exact ⟨_, u1, .c (.pv h3)⟩
    · obtain ⟨u, u1, u2⟩ := hS.f s _ q
      exact ⟨u, u1, u2.mono h1.1⟩
  · rcases updAll_ok hx with ⟨_, e⟩ | q
    · cases e
    · exact hS.g s j b x q

/-- A nil slice made one's own. -/
theorem G_own (s : Nat) (ty : TypeId) {lk : LK} (hs : st.f s = some (.u (pv (.nil lk))))
    (hk : G P E B W M0 Q k ⟨updF st.f s (some (.u (.c (.own st.nx (.slice none 0 0))))), updH st.H st.nx (some (.own (.slice none 0 0) ty lk [])), st.nx + 1⟩) : G P E B W M0 Q k st := by
  intro M a w hS
  refine hk M a w ⟨hS.h.newOwn (row := none) (grownBy_refl w none) (by simp) (OwnSl.nil _ _ _ _ _) (by simp [Value.ownBlock]) st.nx (fun m x hm hx => ⟨hx, by simp⟩), hS.old, hS.d, hS.n, fun s' e he => ?_, fun s' j b x hx => ?_⟩
  · simp only [updF] at he
    split at he
    · rename_i hb; rw [Nat.beq_eq] at hb; subst hb; cases he
      obtain ⟨u, u1, u2⟩ := hS.f _ _ hs
      have := RA.nil_inv u2; subst this
      exact ⟨_, u1, .c (.own rfl)⟩
    · exact hS.f s' e he
  · simp only [updF] at hx
    split at hx
    · cases hx
    · exact hS.g s' j b x hx
end
end Go.Mt
