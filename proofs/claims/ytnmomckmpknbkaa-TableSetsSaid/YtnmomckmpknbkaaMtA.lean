/-
  Mt, part A: pure values, what stands for them in memory.
-/
import Derived.WalkKit
import Derived.Below
namespace Go.Mt
open Go.RowKit

structure Span where
  fr : Int
  to : Int
  deriving DecidableEq, Inhabited
structure Piece where
  cl : Int
  at_ : Int
  n : Int
  deriving DecidableEq, Inhabited
structure Entry where
  kind : Int
  start : Int
  count : Int
  size : Int
  sum : Int
  deriving DecidableEq, Inhabited
structure Slot where
  seq : Int
  start : Int
  count : Int
  sum : Int
  deriving DecidableEq, Inhabited
structure Rcd where
  at_ : Int
  data : List UInt8
  deriving DecidableEq, Inhabited
structure Bitmap where
  name : List UInt8
  on : Bool
  l : List Span
  deriving DecidableEq, Inhabited
structure Shot where
  name : List UInt8
  size : Int
  t : List (List Entry)
  deriving DecidableEq, Inhabited
structure Known where
  finger : Int
  e : Entry
  deriving DecidableEq, Inhabited

/-- A leaf of a table: what it reads as, or the slice itself, of which a name knows. -/
inductive TE where
  | l (x : List Entry)
  | v (u : Value)
/-- Kinds of lists. -/
inductive LK where
  | byt | ints (k : IntKind) | spn | pcs | ent | slt | rcd | tbl | bms | sht | knw | bls | tbh
  deriving DecidableEq

abbrev LK.T : LK → Type
  | .byt => UInt8 | .ints _ => Int | .spn => Span | .pcs => Piece | .ent => Entry | .slt => Slot | .rcd => Rcd | .tbl => List Entry | .bms => Bitmap | .sht => Shot | .knw => Known | .bls => Bool | .tbh => TE
def LK.dft : (k : LK) → k.T
  | .byt => 0 | .ints _ => 0 | .spn => ⟨0, 0⟩ | .pcs => ⟨0, 0, 0⟩ | .ent => ⟨0, 0, 0, 0, 0⟩ | .slt => ⟨0, 0, 0, 0⟩ | .rcd => ⟨0, []⟩ | .tbl => [] | .bms => ⟨[], false, []⟩ | .sht => ⟨[], 0, []⟩ | .knw => ⟨0, ⟨0, 0, 0, 0, 0⟩⟩ | .bls => false | .tbh => .l []
def LK.sz : LK → Nat
  | .byt => 1 | .ints _ => 1 | .spn => 2 | .pcs => 3 | .ent => 5 | .slt => 4 | .rcd => 2 | .tbl => 1 | .bms => 3 | .sht => 3 | .knw => 6 | .bls => 1 | .tbh => 1

/-- Pure values of one cell. -/
inductive PV where
  | val (v : Value)
  | nil (k : LK)
  | lst (k : LK) (l : List k.T)

def iv (k : IntKind) (n : Int) : PV := .val (.int k n)
abbrev i64 (n : Int) : PV := .val (.int .i64 n)
abbrev sv (s : List UInt8) : PV := .val (.string ⟨s.toArray⟩)
abbrev bv (b : Bool) : PV := .val (.bool b)

def TE.pv : TE → PV
  | .l x => .lst .ent x
  | .v u => .val u
def LK.enc : (k : LK) → k.T → List PV
  | .byt, b => [.val (.int .u8 b.toNat)]
  | .ints k, n => [.val (.int k n)]
  | .spn, s => [i64 s.fr, i64 s.to]
  | .pcs, s => [i64 s.cl, i64 s.at_, i64 s.n]
  | .ent, e => [i64 e.kind, i64 e.start, i64 e.count, i64 e.size, .val (.int .u32 e.sum)]
  | .slt, e => [i64 e.seq, i64 e.start, i64 e.count, .val (.int .u32 e.sum)]
  | .rcd, r => [i64 r.at_, .lst .byt r.data]
  | .tbl, l => [.lst .ent l]
  | .bms, b => [sv b.name, bv b.on, .lst .spn b.l]
  | .sht, s => [sv s.name, i64 s.size, .lst .tbl s.t]
  | .knw, s => [.val (.int .u64 s.finger), i64 s.e.kind, i64 s.e.start, i64 s.e.count, i64 s.e.size, .val (.int .u32 s.e.sum)]
  | .bls, b => [bv b]
  | .tbh, e => [e.pv]

theorem LK.enc_len (k : LK) (x : k.T) : (k.enc x).length = k.sz := by cases k <;> rfl
theorem LK.sz_pos (k : LK) : 0 < k.sz := by cases k <;> simp [LK.sz]

/-- What does not change: a part of the heap. -/
abbrev Mem := Nat → Option Obj
def Mem.le (M M' : Mem) : Prop := ∀ k o, M k = some o → M' k = some o
def Mem.cell (M : Mem) (b o : Nat) : Option Value := match M b with
  | some (.cells cs _ _) => cs[o]?
  | _ => none
def Mem.on (M : Mem) (w : World) : Prop := ∀ k o, M k = some o → w.heap[k]? = some o
theorem Mem.le_refl (M : Mem) : M.le M := fun _ _ h => h
theorem Mem.le_trans {A B C : Mem} (h : A.le B) (h' : B.le C) : A.le C := fun k o e => h' k o (h k o e)
theorem Mem.cell_le {M M' : Mem} (h : M.le M') {b o : Nat} {v : Value} (e : M.cell b o = some v) : M'.cell b o = some v := by
  unfold Mem.cell at *
  cases hb : M b with
  | none => simp [hb] at e
  | some x => rw [hb] at e; rw [h b x hb]; exact e
theorem Mem.cell_on {M : Mem} {w : World} (h : M.on w) {b o : Nat} {v : Value} (e : M.cell b o = some v) : w.cell? ⟨b, o, none⟩ = some v := by
  unfold Mem.cell at e
  cases hb : M b with
  | none => simp [hb] at e
  | some x =>
    rw [hb] at e
    have := h b x hb
    cases x <;> simp at e
    simp [World.cell?, this, e]

/-- x stands for v, over what does not change. -/
inductive R (M : Mem) : PV → Value → Prop
  | val {v : Value} (h : v.oneCell' = true) : R M (.val v) v
  | nil {k : LK} : R M (.nil k) (.slice none 0 0)
  | lst {k : LK} {l : List k.T} {a : Option Addr} {c : Nat} (hc : l.length ≤ c) (hm : c ≤ maxLen) (b o : Nat) (us : Nat → Nat → Value)
      (ha : l ≠ [] → a = some ⟨b, o, none⟩) (hn : a = none → c = 0)
      (hcell : ∀ i x j y, l[i]? = some x → (k.enc x)[j]? = some y → M.cell b (o + i * k.sz + j) = some (us i j))
      (hR : ∀ i x j y, l[i]? = some x → (k.enc x)[j]? = some y → R M y (us i j)) :
      R M (.lst k l) (.slice a l.length c)

theorem R.mono {M M' : Mem} (h : M.le M') {x : PV} {v : Value} (r : R M x v) : R M' x v := by
  induction r with
  | val h => exact .val h
  | nil => exact .nil
  | lst hc hm b o us ha hn hcell hR ih => exact .lst hc hm b o us ha hn (fun i x j y h1 h2 => Mem.cell_le h (hcell i x j y h1 h2)) ih

theorem R.one {M : Mem} {x : PV} {v : Value} (r : R M x v) : v.oneCell' = true := by
  cases r with
  | val h => exact h
  | nil => rfl
  | lst => rfl

theorem R.val_eq {M : Mem} {u v : Value} (r : R M (.val u) v) : v = u := by cases r; rfl

theorem R.lst_nil (M : Mem) (k : LK) : R M (.lst k []) (.slice none 0 0) :=
  .lst (Nat.zero_le _) (Nat.zero_le _) 0 0 (fun _ _ => .bool false) (by simp) (by simp) (by simp) (by simp)

/-- What a slice reads as. -/
theorem R.lst_inv {M : Mem} {k : LK} {l : List k.T} {v : Value} (r : R M (.lst k l) v) : ∃ a c b o, v = .slice a l.length c ∧ l.length ≤ c ∧ c ≤ maxLen ∧ (l ≠ [] → a = some ⟨b, o, none⟩) ∧ (a = none → c = 0) ∧
    ∀ i x j y, l[i]? = some x → (k.enc x)[j]? = some y → ∃ u, M.cell b (o + i * k.sz + j) = some u ∧ R M y u := by
  cases r with
  | lst hc hm b o us ha hn hcell hR => exact ⟨_, _, b, o, rfl, hc, hm, ha, hn, fun i x j y h1 h2 => ⟨_, hcell i x j y h1 h2, hR i x j y h1 h2⟩⟩

theorem R.lst_mk {M : Mem} {k : LK} {l : List k.T} {a : Option Addr} {n c : Nat} {b o : Nat} (hl : l.length = n) (hc : n ≤ c) (hm : c ≤ maxLen)
    (ha : l ≠ [] → a = some ⟨b, o, none⟩) (hn : a = none → c = 0) (h : ∀ i x j y, l[i]? = some x → (k.enc x)[j]? = some y → ∃ u, M.cell b (o + i * k.sz + j) = some u ∧ R M y u) : R M (.lst k l) (.slice a n c) := by
  subst hl
  refine .lst hc hm b o (fun i j => (M.cell b (o + i * k.sz + j)).getD undef) ha hn ?_ ?_
  · intro i x j y h1 h2; obtain ⟨u, hu, _⟩ := h i x j y h1 h2; simp [hu]
  · intro i x j y h1 h2; obtain ⟨u, hu, hr⟩ := h i x j y h1 h2; simp [hu, hr]

end Go.Mt
namespace Go
/-- The block that a slice lies in. -/
def Value.blk (v : Value) : Nat := v.ownBlock.getD 0
end Go
namespace Go.Mt
open Go.RowKit

/-- Cells of a frame and of blocks of one's own: a name is a literal, a block's number a variable. -/
inductive C where
  | pv (x : PV)
  | ptr (n b o : Nat)
  | own (n : Nat) (v : Value)
  | cel (cs : List PV)
  | oel (n : Nat) (v : Value) (i sz o : Nat)
  | clo (f : Nat) (caps : List C)

inductive RC (M : Mem) : C → Value → Prop
  | pv {x : PV} {v : Value} (h : R M x v) : RC M (.pv x) v
  | ptr {n b o : Nat} : RC M (.ptr n b o) (.pointer (some ⟨b, o, none⟩))
  | own {n : Nat} {v : Value} (h : v.oneCell' = true) : RC M (.own n v) v
  | cel {cs : List PV} (b o : Nat) (us : Nat → Value) (hc : ∀ j y, cs[j]? = some y → M.cell b (o + j) = some (us j)) (hR : ∀ j y, cs[j]? = some y → R M y (us j)) : RC M (.cel cs) (.pointer (some ⟨b, o, none⟩))
  | oel {n : Nat} {v : Value} {i sz o : Nat} : RC M (.oel n v i sz o) (.pointer (some ⟨v.blk, i * sz + o, none⟩))
  | clo {f : Nat} {caps : List C} {us : Array Value} (hs : us.size = caps.length) (h : ∀ (j : Nat) (c : C) (u : Value), caps[j]? = some c → us[j]? = some u → RC M c u) : RC M (.clo f caps) (.func (.func f) #[] us)

theorem RC.mono {M M' : Mem} (h : M.le M') {x : C} {v : Value} (r : RC M x v) : RC M' x v := by
  induction r with
  | pv r => exact .pv (r.mono h)
  | ptr => exact .ptr
  | own h => exact .own h
  | cel b o us hc hR => exact .cel b o us (fun j y e => Mem.cell_le h (hc j y e)) (fun j y e => (hR j y e).mono h)
  | oel => exact .oel
  | clo hs _ ih => exact .clo hs ih

theorem RC.one {M : Mem} {x : C} {v : Value} (r : RC M x v) : v.oneCell' = true := by
  cases r with
  | pv r => exact r.one
  | own h => exact h
  | _ => rfl

/-- What a slot holds. -/
inductive A where
  | c (x : C)
  | g (xs : List C)
  | t (xs : List A)

/-- Cell by cell. -/
def RCs (M : Mem) (xs : List C) (us : List Value) : Prop := us.length = xs.length ∧ ∀ (j : Nat) (c : C) (u : Value), xs[j]? = some c → us[j]? = some u → RC M c u
theorem RCs.mono {M M' : Mem} (h : M.le M') {xs : List C} {us : List Value} (r : RCs M xs us) : RCs M' xs us := ⟨r.1, fun j c u a b => (r.2 j c u a b).mono h⟩

inductive RA (M : Mem) : A → Value → Prop
  | c {x : C} {v : Value} (h : RC M x v) : RA M (.c x) v
  | g {xs : List C} {us : Array Value} (h : RCs M xs us.toList) : RA M (.g xs) (.agg us)
  | t {xs : List A} {us : Array Value} (hs : us.size = xs.length) (h : ∀ (j : Nat) (c : A) (u : Value), xs[j]? = some c → us[j]? = some u → RA M c u) : RA M (.t xs) (.tuple us)

theorem RA.mono {M M' : Mem} (h : M.le M') {x : A} {v : Value} (r : RA M x v) : RA M' x v := by
  induction r with
  | c r => exact .c (r.mono h)
  | g r => exact .g (r.mono h)
  | t hs _ ih => exact .t hs ih

abbrev pv (x : PV) : A := .c (.pv x)
abbrev int (k : IntKind) (n : Int) : A := .c (.pv (.val (.int k n)))
abbrev bool (b : Bool) : A := .c (.pv (.val (.bool b)))
abbrev str (s : List UInt8) : A := .c (.pv (.val (.string ⟨s.toArray⟩)))
abbrev lst (k : LK) (l : List k.T) : A := .c (.pv (.lst k l))

theorem RA.val_inv {M : Mem} {u v : Value} (r : RA M (.c (.pv (.val u))) v) : v = u := by
  cases r with | c r => cases r with | pv r => exact r.val_eq

/-- Blocks of one's own. -/
inductive HB where
  | blk (b : Nat) (ty : TypeId) (cs : List C)
  | own (v : Value) (ty : TypeId) (k : LK) (l : List k.T)

def HB.block : HB → Option Nat
  | .blk b _ _ => some b
  | .own v _ _ _ => v.ownBlock

/-- A slice of one's own: nil, or from the head of a block on, which nothing else knows. -/
def OwnSl (M : Mem) (B : Nat) (w : World) (v : Value) (ty : TypeId) (k : LK) (l : List k.T) : Prop :=
  (v = .slice none 0 0 ∧ l = []) ∨
  ∃ b cap us, v = .slice (some ⟨b, 0, none⟩) l.length cap ∧ B ≤ b ∧ M b = none ∧ w.heap[b]? = some (.cells us ty (0, 0)) ∧ l.length ≤ cap ∧ cap ≤ maxLen ∧ us.size = cap * k.sz ∧
    ∀ i x j y, l[i]? = some x → (k.enc x)[j]? = some y → ∃ u, us[i * k.sz + j]? = some u ∧ R M y u

def HBok (M : Mem) (B : Nat) (w : World) : HB → Prop
  | .blk b ty cs => B ≤ b ∧ M b = none ∧ ∃ us : Array Value, w.heap[b]? = some (.cells us ty (0, 0)) ∧ RCs M cs us.toList
  | .own v ty k l => OwnSl M B w v ty k l

structure SatH (B : Nat) (W : World) (H : Nat → Option HB) (M : Mem) (w : World) : Prop where
  below : Below B W w
  base : B ≤ w.heap.size
  mem : M.on w
  ok : ∀ n x, H n = some x → HBok M B w x
  inj : ∀ n n' x x' b, n ≠ n' → H n = some x → H n' = some x' → x.block = some b → x'.block ≠ some b

end Go.Mt
