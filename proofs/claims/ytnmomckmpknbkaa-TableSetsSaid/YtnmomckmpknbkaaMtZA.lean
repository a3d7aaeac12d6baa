/-
  Mt, part ZA: what a row tells of any argument, by its type.
-/
import Derived.Test.YtnmomckmpknbkaaMtV
import Derived.OpenShut
import Derived.WalkKit
set_option linter.unusedSimpArgs false
set_option linter.unusedVariables false
namespace Go.Mt
open Go.RowKit Go.ChangeShapes Go.WideShapes

/-- A cell of type 't' reads as something good. -/
def Rd (P : Program) (t : TypeId) (good : PV → Prop) : Prop := ∀ (H : Type) (enc : TypeId × Value → H) (w : World) (fuel : Nat) (cs : List Value) (x : DataW H × List MemPlace),
  DataW.trod enc P w 0 (fun _ => true) true fuel t cs = some x → ∃ (y : PV) (c : Value), cs = [c] ∧ R (Mem.all w) y c ∧ good y
/-- So many cells. -/
def Rds (P : Program) (t : TypeId) (n : Nat) (good : List PV → Prop) : Prop := ∀ (H : Type) (enc : TypeId × Value → H) (w : World) (fuel : Nat) (cs : List Value) (x : DataW H × List MemPlace),
  DataW.trod enc P w 0 (fun _ => true) true fuel t cs = some x → ∃ (ys : List PV), good ys ∧ ys.length = n ∧ cs.length = n ∧ ∀ (j : Nat) (y : PV), ys[j]? = some y → ∃ c, cs[j]? = some c ∧ R (Mem.all w) y c

section
variable {P : Program} {t e : TypeId}

theorem rd_int {k : IntKind} (ht : P.underlying t = some (.int k)) : Rd P t (fun y => ∃ n, y = .val (.int k n) ∧ inR k n) := by
  intro H enc w fuel cs x h
  obtain ⟨n, rfl, _, hw⟩ := DataW.trod_int ht h
  exact ⟨_, _, rfl, .val rfl, n, rfl, wf_inR hw⟩
theorem rd_bool (ht : P.underlying t = some .bool) : Rd P t (fun y => ∃ b, y = .val (.bool b)) := by
  intro H enc w fuel cs x h
  obtain ⟨b, rfl, _⟩ := DataW.trod_bool ht h
  exact ⟨_, _, rfl, .val rfl, b, rfl⟩
theorem rd_str (ht : P.underlying t = some .string) : Rd P t (fun y => ∃ s : List UInt8, y = .val (.string ⟨⟨s⟩⟩) ∧ s.length ≤ maxLen) := by
  intro H enc w fuel cs x h
  obtain ⟨s, rfl, _, hw⟩ := DataW.trod_string ht h
  obtain ⟨⟨s⟩⟩ := s
  exact ⟨_, _, rfl, .val rfl, s, rfl, hw⟩

def fldsB (P : Program) : Nat → List Field → Bool
  | _, [] => true
  | j, f :: fs => Nat.beq f.offset j && Nat.beq (P.cellsOf f.type) 1 && fldsB P (j + 1) fs
theorem fldsB_ok : ∀ {fs : List Field} {j : Nat}, fldsB P j fs = true → ∀ (i : Nat) (f : Field), fs[i]? = some f → f.offset = j + i ∧ P.cellsOf f.type = 1 := by
  intro fs
  induction fs with
  | nil => intro j _ i f h; simp at h
  | cons g fs ih =>
    intro j h i f hi
    simp only [fldsB, Bool.and_eq_true, Nat.beq_eq] at h
    cases i with
    | zero => simp at hi; subst hi; exact ⟨h.1.1, h.1.2⟩
    | succ i => have := ih h.2 i f (by simpa using hi); exact ⟨by omega, this.2⟩
def strB (P : Program) (t : TypeId) (fs : Array Field) (n : Nat) : Bool := fldsB P 0 fs.toList && Nat.beq fs.size n && Nat.beq (P.cellsOf t) n
/-- What the fields ask, one behind the other. -/
def goods : List (TypeId × (PV → Prop)) → List PV → Prop
  | [], [] => True
  | (_, g) :: gs, y :: ys => g y ∧ goods gs ys
  | _, _ => False
def rdAllF (P : Program) : List Field → List (TypeId × (PV → Prop)) → Prop
  | [], [] => True
  | f :: fs, (t, g) :: gs => f.type = t ∧ Rd P t g ∧ rdAllF P fs gs
  | _, _ => False
theorem rdAllF_of : ∀ {fl : List Field} {gs : List (TypeId × (PV → Prop))}, fl.map (·.type) = gs.map (·.1) → (∀ p ∈ gs, Rd P p.1 p.2) → rdAllF P fl gs := by
  intro fl
  induction fl with
  | nil => intro gs h _; cases gs with
    | nil => exact trivial
    | cons => simp at h
  | cons f fl ih =>
    intro gs h hr
    cases gs with
    | nil => simp at h
    | cons g gs =>
      simp only [List.map_cons, List.cons.injEq] at h
      exact ⟨h.1, hr g (by simp), ih h.2 (fun p hp => hr p (by simp [hp]))⟩
theorem rds_struct {fs : Array Field} {n : Nat} {gs : List (TypeId × (PV → Prop))} (ht : P.underlying t = some (.struct fs)) (hb : strB P t fs n = true) (hr : rdAllF P fs.toList gs) : Rds P t n (goods gs) := by
  intro H enc w fuel cs x h
  obtain ⟨xs, m, _, _, hl, _, hf⟩ := DataW.trod_struct ht h
  simp only [strB, Bool.and_eq_true, Nat.beq_eq] at hb
  obtain ⟨⟨hb1, hb2⟩, hb3⟩ := hb
  have key : ∀ (fl : List Field) (gs : List (TypeId × (PV → Prop))) (j : Nat), rdAllF P fl gs → (∀ (i : Nat) (f : Field), fl[i]? = some f → f.offset = j + i ∧ P.cellsOf f.type = 1 ∧ DataW.trod enc P w 0 (fun _ => true) true m f.type ((cs.drop (j + i)).take 1) = xs[j + i]?) → (j + fl.length ≤ xs.length) →
      ∃ ys : List PV, goods gs ys ∧ ys.length = fl.length ∧ ∀ (i : Nat) (y : PV), ys[i]? = some y → ∃ c, cs[j + i]? = some c ∧ R (Mem.all w) y c := by
    intro fl
    induction fl with
    | nil =>
      intro gs j hr _ _
      cases gs with
      | nil => exact ⟨[], trivial, rfl, by simp⟩
      | cons => cases hr
    | cons f fl ih =>
      intro gs j hr hh hle
      cases gs with
      | nil => cases hr
      | cons g gs =>
        obtain ⟨tt, g⟩ := g
        obtain ⟨rfl, r1, r2⟩ := hr
        obtain ⟨o1, o2, o3⟩ := hh 0 f rfl
        simp only [Nat.add_zero] at o3
        have hj : j < xs.length := by simp at hle; omega
        rw [List.getElem?_eq_getElem hj] at o3
        obtain ⟨y, c, hc, hR, hg⟩ := r1 _ enc w m _ _ o3
        obtain ⟨ys, q1, q2, q3⟩ := ih gs (j + 1) r2 (fun i f' hf' => by
          have := hh (i + 1) f' (by simpa using hf')
          rwa [show j + (i + 1) = j + 1 + i from by omega] at this) (by simp at hle; omega)
        refine ⟨y :: ys, ⟨hg, q1⟩, by simp [q2], fun i z hz => ?_⟩
        cases i with
        | zero =>
          simp at hz; subst hz
          have := congrArg (fun l => l[0]?) hc
          simp [List.getElem?_take] at this
          exact ⟨c, by simpa using this, hR⟩
        | succ i =>
          obtain ⟨c', e1, e2⟩ := q3 i z (by simpa using hz)
          exact ⟨c', by rw [show j + (i + 1) = j + 1 + i from by omega]; exact e1, e2⟩
  obtain ⟨ys, q1, q2, q3⟩ := key fs.toList gs 0 hr (fun i f hi => by
    obtain ⟨o1, o2⟩ := fldsB_ok hb1 i f hi
    refine ⟨o1, o2, ?_⟩
    have := hf i f (by simpa using hi)
    rw [o1, o2] at this
    simpa using this) (by simp; omega)
  refine ⟨ys, q1, by rw [q2]; simpa using hb2, by rw [hl, hb3], fun j y hy => by simpa using q3 j y hy⟩
theorem rds_one {g : PV → Prop} {g' : List PV → Prop} (h : Rd P t g) (hg : ∀ y, g y → g' [y]) : Rds P t 1 g' := by
  intro H enc w fuel cs x hx
  obtain ⟨y, c, rfl, hR, hy⟩ := h _ enc w fuel cs x hx
  refine ⟨[y], hg y hy, rfl, rfl, fun j z hz => ?_⟩
  cases j with
  | zero => simp at hz; subst hz; exact ⟨c, rfl, hR⟩
  | succ j => simp at hz
theorem rd_one {g : PV → Prop} {g' : List PV → Prop} (h : Rds P t 1 g') (hg : ∀ y, g' [y] → g y) : Rd P t g := by
  intro H enc w fuel cs x hx
  obtain ⟨ys, h1, h2, h3, h4⟩ := h _ enc w fuel cs x hx
  match ys, cs, h2, h3, h1, h4 with
  | [y], [c], _, _, h1, h4 =>
    obtain ⟨c', e1, e2⟩ := h4 0 y rfl
    simp at e1; subst e1
    exact ⟨y, c, rfl, e2, hg y h1⟩
theorem Rd.imp {g g' : PV → Prop} (h : Rd P t g) (hg : ∀ y, g y → g' y) : Rd P t g' := by
  intro H enc w fuel cs x hx
  obtain ⟨y, c, h1, h2, h3⟩ := h _ enc w fuel cs x hx
  exact ⟨y, c, h1, h2, hg y h3⟩
theorem Rds.imp {n : Nat} {g g' : List PV → Prop} (h : Rds P t n g) (hg : ∀ y, g y → g' y) : Rds P t n g' := by
  intro H enc w fuel cs x hx
  obtain ⟨ys, h1, h2⟩ := h _ enc w fuel cs x hx
  exact ⟨ys, hg ys h1, h2⟩

theorem rd_slc {k : LK} {g : k.T → Prop} (ht : P.underlying t = some (.slice e)) (hc : P.cellsOf e = k.sz) (he : Rds P e k.sz (fun ys => ∃ x : k.T, k.enc x = ys ∧ g x)) :
    Rd P t (fun y => ∃ l : List k.T, y = .lst k l ∧ l.length ≤ maxLen ∧ ∀ x ∈ l, g x) := by
  intro H enc w fuel cs x h
  rcases DataW.trod_slice ht h with ⟨rfl, _⟩ | ⟨a, len, cap, elems, rest, n, _, rfl, _, hb, hl, hm, hlen, hel, _, _⟩
  · exact ⟨_, _, rfl, R.lst_nil _ _, [], rfl, by simp, by simp⟩
  · have each : ∀ i, i < len → ∃ (x : k.T), g x ∧ ∀ (j : Nat) (y : PV), (k.enc x)[j]? = some y → ∃ u, w.cell? (a.add (i * k.sz + j)) = some u ∧ R (Mem.all w) y u := by
      intro i hi
      have h1 := hel i hi
      rw [List.getElem?_eq_getElem (by omega), Option.bind_eq_some_iff, hc] at h1
      obtain ⟨cs', q1, q2⟩ := h1
      obtain ⟨_, q3, q4⟩ := World.cells?_some q1
      obtain ⟨ys, ⟨x, rfl, hg⟩, r2, r3, r4⟩ := he _ enc w n cs' _ q2
      refine ⟨x, hg, fun j y hy => ?_⟩
      obtain ⟨u, u1, u2⟩ := r4 j y hy
      have hj := enc_lt hy
      refine ⟨u, ?_, u2⟩
      have := q4 j hj
      rw [u1] at this
      rw [← this]
      congr 1
      unfold Addr.add
      by_cases hj0 : j = 0 <;> by_cases hi0 : i * k.sz = 0 <;> simp [hj0, hi0, Nat.add_assoc]
    let f : Nat → k.T := fun i => if h : i < len then Classical.choose (each i h) else k.dft
    have hf : ∀ i, i < len → g (f i) ∧ ∀ (j : Nat) (y : PV), (k.enc (f i))[j]? = some y → ∃ u, w.cell? (a.add (i * k.sz + j)) = some u ∧ R (Mem.all w) y u := by
      intro i hi
      simp only [f, dif_pos hi]
      exact Classical.choose_spec (each i hi)
    have hlf : ((List.range len).map f).length = len := by simp
    have hget : ∀ (i : Nat) (x : k.T), ((List.range len).map f)[i]? = some x → i < len ∧ x = f i := by
      intro i x hx
      have hi : i < len := by have := (List.getElem?_eq_some_iff.1 hx).1; simpa using this
      simp [hi] at hx
      exact ⟨hi, hx.symm⟩
    have hnone : 0 < len → a = ⟨a.block, a.off, none⟩ := by
      intro h0
      obtain ⟨_, h2⟩ := hf 0 h0
      have hsz := LK.sz_pos k
      have hl' : 0 < (k.enc (f 0)).length := by rw [LK.enc_len]; exact hsz
      obtain ⟨u, u1, _⟩ := h2 0 _ (List.getElem?_eq_getElem hl')
      have := (cell_none u1).1
      simpa [Addr.add] using this
    refine ⟨.lst k ((List.range len).map f), _, rfl, R.lst_mk (b := a.block) (o := a.off) hlf hl hm (fun hne => ?_) (by simp) (fun i x j y e1 e2 => ?_), (List.range len).map f, rfl, by rw [hlf]; omega, fun x hx => ?_⟩
    · have : 0 < len := by
        rcases Nat.eq_zero_or_pos len with e | e
        · subst e; exact absurd rfl hne
        · exact e
      rw [← hnone this]
    · obtain ⟨hi, rfl⟩ := hget i x e1
      obtain ⟨u, u1, u2⟩ := (hf i hi).2 j y e2
      refine ⟨u, ?_, u2⟩
      have := cell_add (hnone (by omega)) u1
      rwa [← Nat.add_assoc] at this
    · obtain ⟨i, hi, rfl⟩ := List.mem_map.1 hx
      exact (hf i (List.mem_range.1 hi)).1

/-! ### an argument -/
variable {H : Type} {enc : TypeId × Value → H} {W : World} {v : Value} {d : DataW H} {ps : List MemPlace}
theorem arg_pv {g : PV → Prop} (hr : Rd P t g) (hv : v.cells = #[v]) (h : DataW.Trod enc P W 0 (fun _ => true) true t v d ps) : ∃ y, RA (Mem.all W) (pv y) v ∧ g y := by
  obtain ⟨fuel, hf⟩ := h
  rw [hv] at hf
  obtain ⟨y, c, hc, hR, hg⟩ := hr _ enc W fuel _ _ hf
  simp at hc; subst hc
  exact ⟨y, .c (.pv hR), hg⟩
theorem arg_g {n : Nat} {g : List PV → Prop} {fs : Array Field} (hs : P.underlying t = some (.struct fs)) (hr : Rds P t n g) {r : Reach} {b0 : Nat} (hv : Value.okWide P W r b0 t v) (h : DataW.Trod enc P W 0 (fun _ => true) true t v d ps) :
    ∃ ys, RA (Mem.all W) (.g (ys.map .pv)) v ∧ g ys := by
  obtain ⟨cs, rfl, _⟩ := okWide_struct hs hv
  obtain ⟨fuel, hf⟩ := h
  obtain ⟨ys, h1, h2, h3, h4⟩ := hr _ enc W fuel _ _ hf
  refine ⟨ys, .g ⟨by simp at h3 ⊢; simp [Value.cells] at h3; omega, fun j c u e1 e2 => ?_⟩, h1⟩
  rw [List.getElem?_map] at e1
  cases hy : ys[j]? with
  | none => rw [hy] at e1; cases e1
  | some y =>
    rw [hy] at e1; cases e1
    obtain ⟨c', q1, q2⟩ := h4 j y hy
    simp only [Value.cells] at q1
    rw [q1] at e2; cases e2
    exact .pv q2
theorem arg_int {k : IntKind} (ht : P.underlying t = some (.int k)) {r : Reach} {b0 : Nat} (hv : Value.okWide P W r b0 t v) (h : DataW.Trod enc P W 0 (fun _ => true) true t v d ps) : ∃ n, RA (Mem.all W) (int k n) v ∧ inR k n := by
  obtain ⟨n, rfl⟩ := okWide_int ht hv
  obtain ⟨y, r, n', rfl, hn⟩ := arg_pv (rd_int ht) rfl h
  exact ⟨n', r, hn⟩
theorem arg_bool (ht : P.underlying t = some .bool) {r : Reach} {b0 : Nat} (hv : Value.okWide P W r b0 t v) (h : DataW.Trod enc P W 0 (fun _ => true) true t v d ps) : ∃ b, RA (Mem.all W) (bool b) v := by
  obtain ⟨n, rfl⟩ := okWide_bool ht hv
  obtain ⟨y, r, n', rfl⟩ := arg_pv (rd_bool ht) rfl h
  exact ⟨n', r⟩
theorem arg_str (ht : P.underlying t = some .string) {r : Reach} {b0 : Nat} (hv : Value.okWide P W r b0 t v) (h : DataW.Trod enc P W 0 (fun _ => true) true t v d ps) : ∃ s : List UInt8, RA (Mem.all W) (str s) v ∧ s.length ≤ maxLen := by
  obtain ⟨n, rfl⟩ := okWide_string ht hv
  obtain ⟨y, r, s, rfl, hs⟩ := arg_pv (rd_str ht) rfl h
  exact ⟨s, r, hs⟩
theorem arg_slc {k : LK} {g : k.T → Prop} (ht : P.underlying t = some (.slice e)) (hc : P.cellsOf e = k.sz) (he : Rds P e k.sz (fun ys => ∃ x : k.T, k.enc x = ys ∧ g x)) {r : Reach} {b0 : Nat} (hv : Value.okWide P W r b0 t v) (h : DataW.Trod enc P W 0 (fun _ => true) true t v d ps) :
    ∃ l : List k.T, RA (Mem.all W) (lst k l) v ∧ l.length ≤ maxLen ∧ ∀ x ∈ l, g x := by
  obtain ⟨a, n, c, rfl⟩ := okWide_slice ht hv
  obtain ⟨y, r, l, rfl, hl⟩ := arg_pv (rd_slc ht hc he) rfl h
  exact ⟨l, r, hl⟩

/-! ### elements -/
theorem rds_byt (ht : P.underlying e = some (.int .u8)) : Rds P e (LK.sz .byt) (fun ys => ∃ x : UInt8, LK.enc .byt x = ys ∧ True) :=
  rds_one (rd_int ht) (fun y ⟨n, hy, hn⟩ => by
    subst hy
    simp only [inR] at hn
    refine ⟨UInt8.ofNat n.toNat, ?_, trivial⟩
    have : ((UInt8.ofNat n.toNat).toNat : Int) = n := by rw [UInt8.toNat_ofNat']; omega
    simp [LK.enc]; omega)
theorem rds_ints {k : IntKind} (ht : P.underlying e = some (.int k)) : Rds P e (LK.sz (.ints k)) (fun ys => ∃ x : Int, LK.enc (.ints k) x = ys ∧ inR k x) :=
  rds_one (rd_int ht) (fun y ⟨n, hy, hn⟩ => ⟨n, by subst hy; rfl, hn⟩)
def SpanIn (x : Span) : Prop := inR .i64 x.fr ∧ inR .i64 x.to
def EntryIn (x : Entry) : Prop := inR .i64 x.kind ∧ inR .i64 x.start ∧ inR .i64 x.count ∧ inR .i64 x.size ∧ inR .u32 x.sum
abbrev gI (k : IntKind) : PV → Prop := fun y => ∃ n, y = .val (.int k n) ∧ inR k n
theorem rds_ints_struct {ks : List IntKind} {fs : Array Field} {ts : List TypeId} (ht : P.underlying e = some (.struct fs)) (hb : strB P e fs ks.length = true) (hf : fs.toList.map (·.type) = ts) (hl : ts.length = ks.length) (hi : ∀ p ∈ ts.zip ks, P.underlying p.1 = some (.int p.2)) :
    Rds P e ks.length (fun ys => ∃ ns : List Int, ns.length = ks.length ∧ ys = List.zipWith (fun k n => .val (.int k n)) ks ns ∧ ∀ p ∈ ks.zip ns, inR p.1 p.2) := by
  have hr : rdAllF P fs.toList ((ts.zip ks).map fun p => (p.1, gI p.2)) := by
    refine rdAllF_of ?_ fun p hp => ?_
    · rw [hf, List.map_map]
      have : ((fun p : TypeId × (PV → Prop) => p.1) ∘ fun p : TypeId × IntKind => (p.1, gI p.2)) = Prod.fst := rfl
      rw [this, List.map_fst_zip (by omega)]
    · obtain ⟨q, hq, rfl⟩ := List.mem_map.1 hp
      exact rd_int (hi q hq)
  refine Rds.imp (rds_struct ht hb hr) fun ys h => ?_
  clear ht hb hr hf hi
  induction ks generalizing ts ys with
  | nil =>
    match ts, ys, h with
    | [], [], _ => exact ⟨[], rfl, rfl, by simp⟩
    | _ :: _, [], _ => exact ⟨[], rfl, rfl, by simp⟩
  | cons k ks ih =>
    match ts, hl, ys, h with
    | tt :: ts, hl, y :: ys, ⟨⟨n, hn, wn⟩, h⟩ =>
      obtain ⟨ns, q1, q2, q3⟩ := ih (by simpa using hl) ys h
      refine ⟨n :: ns, by simp [q1], by simp [hn, q2], fun p hp => ?_⟩
      simp only [List.zip_cons_cons, List.mem_cons] at hp
      rcases hp with rfl | hp
      · exact wn
      · exact q3 p hp
theorem rds_spn {fs : Array Field} {t0 t1 : TypeId} (ht : P.underlying e = some (.struct fs)) (hb : strB P e fs 2 = true) (hf : fs.toList.map (·.type) = [t0, t1]) (h0 : P.underlying t0 = some (.int .i64)) (h1 : P.underlying t1 = some (.int .i64)) :
    Rds P e (LK.sz .spn) (fun ys => ∃ x : Span, LK.enc .spn x = ys ∧ SpanIn x) := by
  refine Rds.imp (rds_ints_struct (ks := [.i64, .i64]) ht hb hf rfl (by simp [h0, h1])) fun ys ⟨ns, q1, q2, q3⟩ => ?_
  match ns, q1, q2, q3 with
  | [a, b], _, q2, q3 => simp at q3; exact ⟨⟨a, b⟩, by rw [q2]; rfl, q3⟩
theorem rds_ent {fs : Array Field} {t0 t1 t2 t3 t4 : TypeId} (ht : P.underlying e = some (.struct fs)) (hb : strB P e fs 5 = true) (hf : fs.toList.map (·.type) = [t0, t1, t2, t3, t4]) (h0 : P.underlying t0 = some (.int .i64)) (h1 : P.underlying t1 = some (.int .i64)) (h2 : P.underlying t2 = some (.int .i64)) (h3 : P.underlying t3 = some (.int .i64)) (h4 : P.underlying t4 = some (.int .u32)) :
    Rds P e (LK.sz .ent) (fun ys => ∃ x : Entry, LK.enc .ent x = ys ∧ EntryIn x) := by
  refine Rds.imp (rds_ints_struct (ks := [.i64, .i64, .i64, .i64, .u32]) ht hb hf rfl (by simp [h0, h1, h2, h3, h4])) fun ys ⟨ns, q1, q2, q3⟩ => ?_
  match ns, q1, q2, q3 with
  | [a, b, c, d, f], _, q2, q3 => simp at q3; exact ⟨⟨a, b, c, d, f⟩, by rw [q2]; rfl, q3⟩
theorem rds_slt {fs : Array Field} {t0 t1 t2 t3 : TypeId} (ht : P.underlying e = some (.struct fs)) (hb : strB P e fs 4 = true) (hf : fs.toList.map (·.type) = [t0, t1, t2, t3]) (h0 : P.underlying t0 = some (.int .i64)) (h1 : P.underlying t1 = some (.int .i64)) (h2 : P.underlying t2 = some (.int .i64)) (h3 : P.underlying t3 = some (.int .u32)) :
    Rds P e (LK.sz .slt) (fun ys => ∃ x : Slot, LK.enc .slt x = ys ∧ (inR .i64 x.seq ∧ inR .i64 x.start ∧ inR .i64 x.count ∧ inR .u32 x.sum)) := by
  refine Rds.imp (rds_ints_struct (ks := [.i64, .i64, .i64, .u32]) ht hb hf rfl (by simp [h0, h1, h2, h3])) fun ys ⟨ns, q1, q2, q3⟩ => ?_
  match ns, q1, q2, q3 with
  | [a, b, c, d], _, q2, q3 => simp at q3; exact ⟨⟨a, b, c, d⟩, by rw [q2]; rfl, q3⟩
end
end Go.Mt
