/-
  This claim's own program library, part 1: the letters MtA to MtJ.
-/
import Derived.WalkKit
import Derived.Below
import Derived.Laws.StructEq
import Derived.ChangeKeysEq
import Derived.Laws.Cover3
import Derived.Laws.IdiomCopy
import Derived.Laws.CopyRow
import Derived.Deep.AppendSrc
/-
  Mt, part A: pure values, what stands for them in memory.
-/
namespace Go.Mt
open Go.RowKit

structure Span where
  fr : Int
  to : Int
  deriving DecidableEq, Inhabited
structure Piece where
  cl : Int
  at_ : Int
  n : Int
  deriving DecidableEq, Inhabited
structure Entry where
  kind : Int
  start : Int
  count : Int
  size : Int
  sum : Int
  deriving DecidableEq, Inhabited
structure Slot where
  seq : Int
  start : Int
  count : Int
  sum : Int
  deriving DecidableEq, Inhabited
structure Rcd where
  at_ : Int
  data : List UInt8
  deriving DecidableEq, Inhabited
structure Bitmap where
  name : List UInt8
  on : Bool
  l : List Span
  deriving DecidableEq, Inhabited
structure Shot where
  name : List UInt8
  size : Int
  t : List (List Entry)
  deriving DecidableEq, Inhabited
structure Known where
  finger : Int
  e : Entry
  deriving DecidableEq, Inhabited

/-- A leaf of a table: what it reads as, or the slice itself, of which a name knows. -/
inductive TE where
  | l (x : List Entry)
  | v (u : Value)
/-- Kinds of lists. -/
inductive LK where
  | byt | ints (k : IntKind) | spn | pcs | ent | slt | rcd | tbl | bms | sht | knw | bls | tbh
  deriving DecidableEq

abbrev LK.T : LK → Type
  | .byt => UInt8 | .ints _ => Int | .spn => Span | .pcs => Piece | .ent => Entry | .slt => Slot | .rcd => Rcd | .tbl => List Entry | .bms => Bitmap | .sht => Shot | .knw => Known | .bls => Bool | .tbh => TE
def LK.dft : (k : LK) → k.T
  | .byt => 0 | .ints _ => 0 | .spn => ⟨0, 0⟩ | .pcs => ⟨0, 0, 0⟩ | .ent => ⟨0, 0, 0, 0, 0⟩ | .slt => ⟨0, 0, 0, 0⟩ | .rcd => ⟨0, []⟩ | .tbl => [] | .bms => ⟨[], false, []⟩ | .sht => ⟨[], 0, []⟩ | .knw => ⟨0, ⟨0, 0, 0, 0, 0⟩⟩ | .bls => false | .tbh => .l []
def LK.sz : LK → Nat
  | .byt => 1 | .ints _ => 1 | .spn => 2 | .pcs => 3 | .ent => 5 | .slt => 4 | .rcd => 2 | .tbl => 1 | .bms => 3 | .sht => 3 | .knw => 6 | .bls => 1 | .tbh => 1

/-- Pure values of one cell. -/
inductive PV where
  | val (v : Value)
  | nil (k : LK)
  | lst (k : LK) (l : List k.T)

def iv (k : IntKind) (n : Int) : PV := .val (.int k n)
abbrev i64 (n : Int) : PV := .val (.int .i64 n)
abbrev sv (s : List UInt8) : PV := .val (.string ⟨s.toArray⟩)
abbrev bv (b : Bool) : PV := .val (.bool b)

def TE.pv : TE → PV
  | .l x => .lst .ent x
  | .v u => .val u
def LK.enc : (k : LK) → k.T → List PV
  | .byt, b => [.val (.int .u8 b.toNat)]
  | .ints k, n => [.val (.int k n)]
  | .spn, s => [i64 s.fr, i64 s.to]
  | .pcs, s => [i64 s.cl, i64 s.at_, i64 s.n]
  | .ent, e => [i64 e.kind, i64 e.start, i64 e.count, i64 e.size, .val (.int .u32 e.sum)]
  | .slt, e => [i64 e.seq, i64 e.start, i64 e.count, .val (.int .u32 e.sum)]
  | .rcd, r => [i64 r.at_, .lst .byt r.data]
  | .tbl, l => [.lst .ent l]
  | .bms, b => [sv b.name, bv b.on, .lst .spn b.l]
  | .sht, s => [sv s.name, i64 s.size, .lst .tbl s.t]
  | .knw, s => [.val (.int .u64 s.finger), i64 s.e.kind, i64 s.e.start, i64 s.e.count, i64 s.e.size, .val (.int .u32 s.e.sum)]
  | .bls, b => [bv b]
  | .tbh, e => [e.pv]

theorem LK.enc_len (k : LK) (x : k.T) : (k.enc x).length = k.sz := by cases k <;> rfl
theorem LK.sz_pos (k : LK) : 0 < k.sz := by cases k <;> simp [LK.sz]

/-- What does not change: a part of the heap. -/
abbrev Mem := Nat → Option Obj
def Mem.le (M M' : Mem) : Prop := ∀ k o, M k = some o → M' k = some o
def Mem.cell (M : Mem) (b o : Nat) : Option Value := match M b with
  | some (.cells cs _ _) => cs[o]?
  | _ => none
def Mem.on (M : Mem) (w : World) : Prop := ∀ k o, M k = some o → w.heap[k]? = some o
theorem Mem.le_refl (M : Mem) : M.le M := fun _ _ h => h
theorem Mem.le_trans {A B C : Mem} (h : A.le B) (h' : B.le C) : A.le C := fun k o e => h' k o (h k o e)
theorem Mem.cell_le {M M' : Mem} (h : M.le M') {b o : Nat} {v : Value} (e : M.cell b o = some v) : M'.cell b o = some v := by
  unfold Mem.cell at *
  cases hb : M b with
  | none => simp [hb] at e
  | some x => rw [hb] at e; rw [h b x hb]; exact e
theorem Mem.cell_on {M : Mem} {w : World} (h : M.on w) {b o : Nat} {v : Value} (e : M.cell b o = some v) : w.cell? ⟨b, o, none⟩ = some v := by
  unfold Mem.cell at e
  cases hb : M b with
  | none => simp [hb] at e
  | some x =>
    rw [hb] at e
    have := h b x hb
    cases x <;> simp at e
    simp [World.cell?, this, e]

/-- x stands for v, over what does not change. -/
inductive R (M : Mem) : PV → Value → Prop
  | val {v : Value} (h : v.oneCell' = true) : R M (.val v) v
  | nil {k : LK} : R M (.nil k) (.slice none 0 0)
  | lst {k : LK} {l : List k.T} {a : Option Addr} {c : Nat} (hc : l.length ≤ c) (hm : c ≤ maxLen) (b o : Nat) (us : Nat → Nat → Value)
      (ha : l ≠ [] → a = some ⟨b, o, none⟩) (hn : a = none → c = 0)
      (hcell : ∀ i x j y, l[i]? = some x → (k.enc x)[j]? = some y → M.cell b (o + i * k.sz + j) = some (us i j))
      (hR : ∀ i x j y, l[i]? = some x → (k.enc x)[j]? = some y → R M y (us i j)) :
      R M (.lst k l) (.slice a l.length c)

theorem R.mono {M M' : Mem} (h : M.le M') {x : PV} {v : Value} (r : R M x v) : R M' x v := by
  induction r with
  | val h => exact .val h
  | nil => exact .nil
  | lst hc hm b o us ha hn hcell hR ih => exact .lst hc hm b o us ha hn (fun i x j y h1 h2 => Mem.cell_le h (hcell i x j y h1 h2)) ih

theorem R.one {M : Mem} {x : PV} {v : Value} (r : R M x v) : v.oneCell' = true := by
  cases r with
  | val h => exact h
  | nil => rfl
  | lst => rfl

theorem R.val_eq {M : Mem} {u v : Value} (r : R M (.val u) v) : v = u := by cases r; rfl

theorem R.lst_nil (M : Mem) (k : LK) : R M (.lst k []) (.slice none 0 0) :=
  .lst (Nat.zero_le _) (Nat.zero_le _) 0 0 (fun _ _ => .bool false) (by simp) (by simp) (by simp) (by simp)

/-- What a slice reads as. -/
theorem R.lst_inv {M : Mem} {k : LK} {l : List k.T} {v : Value} (r : R M (.lst k l) v) : ∃ a c b o, v = .slice a l.length c ∧ l.length ≤ c ∧ c ≤ maxLen ∧ (l ≠ [] → a = some ⟨b, o, none⟩) ∧ (a = none → c = 0) ∧
    ∀ i x j y, l[i]? = some x → (k.enc x)[j]? = some y → ∃ u, M.cell b (o + i * k.sz + j) = some u ∧ R M y u := by
  cases r with
  | lst hc hm b o us ha hn hcell hR => exact ⟨_, _, b, o, rfl, hc, hm, ha, hn, fun i x j y h1 h2 => ⟨_, hcell i x j y h1 h2, hR i x j y h1 h2⟩⟩

theorem R.lst_mk {M : Mem} {k : LK} {l : List k.T} {a : Option Addr} {n c : Nat} {b o : Nat} (hl : l.length = n) (hc : n ≤ c) (hm : c ≤ maxLen)
    (ha : l ≠ [] → a = some ⟨b, o, none⟩) (hn : a = none → c = 0) (h : ∀ i x j y, l[i]? = some x → (k.enc x)[j]? = some y → ∃ u, M.cell b (o + i * k.sz + j) = some u ∧ R M y u) : R M (.lst k l) (.slice a n c) := by
  subst hl
  refine .lst hc hm b o (fun i j => (M.cell b (o + i * k.sz + j)).getD undef) ha hn ?_ ?_
  · intro i x j y h1 h2; obtain ⟨u, hu, _⟩ := h i x j y h1 h2; simp [hu]
  · intro i x j y h1 h2; obtain ⟨u, hu, hr⟩ := h i x j y h1 h2; simp [hu, hr]

end Go.Mt
namespace Go
/-- The block that a slice lies in. -/
def Value.blk (v : Value) : Nat := v.ownBlock.getD 0
end Go
namespace Go.Mt
open Go.RowKit

/-- Cells of a frame and of blocks of one's own: a name is a literal, a block's number a variable. -/
inductive C where
  | pv (x : PV)
  | ptr (n b o : Nat)
  | own (n : Nat) (v : Value)
  | cel (cs : List PV)
  | oel (n : Nat) (v : Value) (i sz o : Nat)
  | clo (f : Nat) (caps : List C)

inductive RC (M : Mem) : C → Value → Prop
  | pv {x : PV} {v : Value} (h : R M x v) : RC M (.pv x) v
  | ptr {n b o : Nat} : RC M (.ptr n b o) (.pointer (some ⟨b, o, none⟩))
  | own {n : Nat} {v : Value} (h : v.oneCell' = true) : RC M (.own n v) v
  | cel {cs : List PV} (b o : Nat) (us : Nat → Value) (hc : ∀ j y, cs[j]? = some y → M.cell b (o + j) = some (us j)) (hR : ∀ j y, cs[j]? = some y → R M y (us j)) : RC M (.cel cs) (.pointer (some ⟨b, o, none⟩))
  | oel {n : Nat} {v : Value} {i sz o : Nat} : RC M (.oel n v i sz o) (.pointer (some ⟨v.blk, i * sz + o, none⟩))
  | clo {f : Nat} {caps : List C} {us : Array Value} (hs : us.size = caps.length) (h : ∀ (j : Nat) (c : C) (u : Value), caps[j]? = some c → us[j]? = some u → RC M c u) : RC M (.clo f caps) (.func (.func f) #[] us)

theorem RC.mono {M M' : Mem} (h : M.le M') {x : C} {v : Value} (r : RC M x v) : RC M' x v := by
  induction r with
  | pv r => exact .pv (r.mono h)
  | ptr => exact .ptr
  | own h => exact .own h
  | cel b o us hc hR => exact .cel b o us (fun j y e => Mem.cell_le h (hc j y e)) (fun j y e => (hR j y e).mono h)
  | oel => exact .oel
  | clo hs _ ih => exact .clo hs ih

theorem RC.one {M : Mem} {x : C} {v : Value} (r : RC M x v) : v.oneCell' = true := by
  cases r with
  | pv r => exact r.one
  | own h => exact h
  | _ => rfl

/-- What a slot holds. -/
inductive A where
  | c (x : C)
  | g (xs : List C)
  | t (xs : List A)

/-- Cell by cell. -/
def RCs (M : Mem) (xs : List C) (us : List Value) : Prop := us.length = xs.length ∧ ∀ (j : Nat) (c : C) (u : Value), xs[j]? = some c → us[j]? = some u → RC M c u
theorem RCs.mono {M M' : Mem} (h : M.le M') {xs : List C} {us : List Value} (r : RCs M xs us) : RCs M' xs us := ⟨r.1, fun j c u a b => (r.2 j c u a b).mono h⟩

inductive RA (M : Mem) : A → Value → Prop
  | c {x : C} {v : Value} (h : RC M x v) : RA M (.c x) v
  | g {xs : List C} {us : Array Value} (h : RCs M xs us.toList) : RA M (.g xs) (.agg us)
  | t {xs : List A} {us : Array Value} (hs : us.size = xs.length) (h : ∀ (j : Nat) (c : A) (u : Value), xs[j]? = some c → us[j]? = some u → RA M c u) : RA M (.t xs) (.tuple us)

theorem RA.mono {M M' : Mem} (h : M.le M') {x : A} {v : Value} (r : RA M x v) : RA M' x v := by
  induction r with
  | c r => exact .c (r.mono h)
  | g r => exact .g (r.mono h)
  | t hs _ ih => exact .t hs ih

abbrev pv (x : PV) : A := .c (.pv x)
abbrev int (k : IntKind) (n : Int) : A := .c (.pv (.val (.int k n)))
abbrev bool (b : Bool) : A := .c (.pv (.val (.bool b)))
abbrev str (s : List UInt8) : A := .c (.pv (.val (.string ⟨s.toArray⟩)))
abbrev lst (k : LK) (l : List k.T) : A := .c (.pv (.lst k l))

theorem RA.val_inv {M : Mem} {u v : Value} (r : RA M (.c (.pv (.val u))) v) : v = u := by
  cases r with | c r => cases r with | pv r => exact r.val_eq

/-- Blocks of one's own. -/
inductive HB where
  | blk (b : Nat) (ty : TypeId) (cs : List C)
  | own (v : Value) (ty : TypeId) (k : LK) (l : List k.T)

def HB.block : HB → Option Nat
  | .blk b _ _ => some b
  | .own v _ _ _ => v.ownBlock

/-- A slice of one's own: nil, or from the head of a block on, which nothing else knows. -/
def OwnSl (M : Mem) (B : Nat) (w : World) (v : Value) (ty : TypeId) (k : LK) (l : List k.T) : Prop :=
  (v = .slice none 0 0 ∧ l = []) ∨
  ∃ b cap us, v = .slice (some ⟨b, 0, none⟩) l.length cap ∧ B ≤ b ∧ M b = none ∧ w.heap[b]? = some (.cells us ty (0, 0)) ∧ l.length ≤ cap ∧ cap ≤ maxLen ∧ us.size = cap * k.sz ∧
    ∀ i x j y, l[i]? = some x → (k.enc x)[j]? = some y → ∃ u, us[i * k.sz + j]? = some u ∧ R M y u

def HBok (M : Mem) (B : Nat) (w : World) : HB → Prop
  | .blk b ty cs => B ≤ b ∧ M b = none ∧ ∃ us : Array Value, w.heap[b]? = some (.cells us ty (0, 0)) ∧ RCs M cs us.toList
  | .own v ty k l => OwnSl M B w v ty k l

structure SatH (B : Nat) (W : World) (H : Nat → Option HB) (M : Mem) (w : World) : Prop where
  below : Below B W w
  base : B ≤ w.heap.size
  mem : M.on w
  ok : ∀ n x, H n = some x → HBok M B w x
  inj : ∀ n n' x x' b, n ≠ n' → H n = some x → H n' = some x' → x.block = some b → x'.block ≠ some b

end Go.Mt

/-
  Mt, part B: the evaluator's pure operations.
-/
set_option linter.unusedSimpArgs false
set_option linter.unusedVariables false
namespace Go.Mt
open Go.RowKit

inductive TK where
  | int (k : IntKind) | bool | str | slc (e : TypeId) (k : LK) | ptr (e : TypeId) | strct (fs : List (Nat × Nat × Bool)) | arr (n : Nat) (e : TypeId) | other
structure TI where
  kind : TK
  size : Nat
  bytes : Nat
  zero : List C
abbrev Tb := Nat → Option TI

def TK.agg : TK → Bool
  | .strct _ | .arr _ _ => true
  | _ => false

def flatFs : Nat → List (Nat × Nat × Bool) → Bool
  | _, [] => true
  | j, (o, s, b) :: l => Nat.beq o j && Nat.beq s 1 && !b && flatFs (j + 1) l
def primZ : List C → Bool
  | [] => true
  | .pv (.val (.int _ _)) :: l | .pv (.val (.bool _)) :: l | .pv (.val (.string _)) :: l => primZ l
  | _ => false
def ikeq' : IntKind → IntKind → Bool
  | a, b => decide (a = b)
/-- A struct's fields as a comparison wants them. -/
def eqFld (P : Program) : Nat → List C → List Field → Bool
  | _, [], [] => true
  | j, .pv (.val (.int k _)) :: zs, f :: fs => Nat.beq f.offset j && decide (f.name ≠ "_") && (match P.underlying f.type with | some (.int k') => ikeq' k k' | _ => false) && eqFld P (j + 1) zs fs
  | j, .pv (.val (.bool _)) :: zs, f :: fs => Nat.beq f.offset j && decide (f.name ≠ "_") && (match P.underlying f.type with | some .bool => true | _ => false) && eqFld P (j + 1) zs fs
  | j, .pv (.val (.string _)) :: zs, f :: fs => Nat.beq f.offset j && decide (f.name ≠ "_") && (match P.underlying f.type with | some .string => true | _ => false) && eqFld P (j + 1) zs fs
  | _, _, _ => false
def allI : List C → Bool
  | [] => true
  | .pv (.val (.int _ _)) :: l => allI l
  | _ => false
def eqab (k : TK) (z : List C) : Bool := match k with
  | .strct fs => flatFs 0 fs && primZ z
  | .arr n _ => allI z && Nat.beq n z.length && Nat.blt 0 n
  | _ => false
def eqOk (P : Program) (t : TypeId) (z : List C) : Bool := match P.underlying t with
  | some (.struct fields) => eqFld P 0 z fields.toList && (!P.stoodInHeld t) && !P.eqGuardType P.depth t
  | some (.array n e) => allI z && Nat.beq n z.length && (match P.underlying e with | some (.int _) => true | _ => false) && (match P.info? e with | some i => Nat.beq i.size 1 | none => false) && !P.eqGuardType P.depth t
  | _ => false
structure TyOk (P : Program) (t : TypeId) (i : TI) : Prop where
  eq : eqab i.kind i.zero = true → eqOk P t i.zero = true
  info : ∃ inf z, P.info? t = some inf ∧ inf.size = i.size ∧ inf.bytes = i.bytes ∧ inf.zero = some z ∧ z.cells.size = i.size ∧ ∀ M, RCs M i.zero z.cells.toList
  und : match i.kind with
    | .int k => P.underlying t = some (.int k)
    | .bool => P.underlying t = some .bool
    | .str => P.underlying t = some .string
    | .slc e k => P.underlying t = some (.slice e) ∧ ∃ inf, P.info? e = some inf ∧ inf.size = k.sz
    | .ptr e => P.underlying t = some (.pointer e)
    | .strct fs => ∃ fields, P.underlying t = some (.struct fields) ∧ fields.size = fs.length ∧
        ∀ (j : Nat) (f : Field) (x : Nat × Nat × Bool), fields[j]? = some f → fs[j]? = some x → f.offset = x.1 ∧ (∃ inf d, P.info? f.type = some inf ∧ inf.size = x.2.1 ∧ P.underlying f.type = some d ∧ (match d with | .struct _ | .array _ _ => true | _ => false) = x.2.2)
    | .arr n e => P.underlying t = some (.array n e) ∧ ∃ inf, P.info? e = some inf
    | .other => (match P.underlying t with | some (.struct _) | some (.array _ _) | none => false | _ => true) = true
def TbOk (P : Program) (T : Tb) : Prop := ∀ t i, T t = some i → TyOk P t i

/-! ### numbers -/
def inR : IntKind → Int → Prop
  | .i8, n => -128 ≤ n ∧ n ≤ 127
  | .i16, n => -32768 ≤ n ∧ n ≤ 32767
  | .i32, n => -2147483648 ≤ n ∧ n ≤ 2147483647
  | .i64, n => -9223372036854775808 ≤ n ∧ n ≤ 9223372036854775807
  | .u8, n => 0 ≤ n ∧ n ≤ 255
  | .u16, n => 0 ≤ n ∧ n ≤ 65535
  | .u32, n => 0 ≤ n ∧ n ≤ 4294967295
  | .u64, n => 0 ≤ n ∧ n ≤ 18446744073709551615
theorem wrap_in {k : IntKind} {n : Int} (h : inR k n) : k.wrap n = n := by
  cases k <;> first | exact IntWalk.i8_in n h | exact IntWalk.i16_in n h | exact IntWalk.i32_in n h | exact IntWalk.i64_in n h | exact IntWalk.u8_in n h | exact IntWalk.u16_in n h | exact IntWalk.u32_in n h | exact IntWalk.u64_in n h
theorem u8_lo (n : Int) : 0 ≤ IntKind.u8.wrap n := by rw [IntKind.wrap_u8]; omega
theorem u8_hi (n : Int) : IntKind.u8.wrap n ≤ 255 := by rw [IntKind.wrap_u8]; omega
def iand (k : IntKind) (a b : Int) : Int := k.wrap ((BitVec.ofInt k.bits a &&& BitVec.ofInt k.bits b).toNat : Int)
def ior (k : IntKind) (a b : Int) : Int := k.wrap ((BitVec.ofInt k.bits a ||| BitVec.ofInt k.bits b).toNat : Int)
def ixor (k : IntKind) (a b : Int) : Int := k.wrap ((BitVec.ofInt k.bits a ^^^ BitVec.ofInt k.bits b).toNat : Int)
def ikeq : IntKind → IntKind → Bool
  | .i8, .i8 | .i16, .i16 | .i32, .i32 | .i64, .i64 | .u8, .u8 | .u16, .u16 | .u32, .u32 | .u64, .u64 => true
  | _, _ => false
theorem ikeq_eq {a b : IntKind} (h : ikeq a b = true) : a = b := by cases a <;> cases b <;> first | rfl | cases h
def isI64 : IntKind → Bool | .i64 => true | _ => false

/-- Is it wrapped? An int is not, unless 'wm' says so; any other kind is, unless 'wm' says so. -/
def wrm (wm : Bool) (k : IntKind) : Bool := match isI64 k with | true => wm | false => !wm
/-- A number that is wrapped, or that must lie in its range. -/
def wrp (wm : Bool) (k : IntKind) (n : Int) : A × Prop := match wm with
  | true => (int k (k.wrap n), True)
  | false => (int k n, inR k n)

def bar (wm : Bool) (k : IntKind) (a b : Int) : BinOp → Option (A × Prop)
  | .add => some (wrp wm k (a + b))
  | .sub => some (wrp wm k (a - b))
  | .mul => some (wrp wm k (a * b))
  | .quo => some (int k (a / b), (0 ≤ a ∧ 0 < b) ∧ inR k (a / b))
  | .rem => some (int k (a % b), 0 ≤ a ∧ 0 < b)
  | .and => some (int k (iand k a b), True)
  | .or => some (int k (ior k a b), True)
  | .xor => some (int k (ixor k a b), True)
  | .eql => some (bool (decide (a = b)), True)
  | .neq => some (bool (!decide (a = b)), True)
  | .lss => some (bool (decide (a < b)), True)
  | .leq => some (bool (decide (a ≤ b)), True)
  | .gtr => some (bool (decide (b < a)), True)
  | .geq => some (bool (decide (b ≤ a)), True)
  | _ => none

def bin (wm : Bool) (op : BinOp) : A → A → Option (A × Prop)
  | .c (.pv (.val (.int k a))), .c (.pv (.val (.int k' b))) =>
    match op with
    | .shl => match wrm wm k with
      | true => some (int k (k.wrap (a * 2 ^ b.toNat)), 0 ≤ b ∧ b ≤ k.bits)
      | false => some (int k (a * 2 ^ b.toNat), (0 ≤ b ∧ b ≤ k.bits) ∧ inR k (a * 2 ^ b.toNat))
    | .shr => some (int k (a / 2 ^ b.toNat), 0 ≤ b ∧ b ≤ k.bits)
    | op => match ikeq k k' with
      | true => bar (wrm wm k) k a b op
      | false => none
  | .c (.pv (.val (.string ⟨⟨s⟩⟩))), .c (.pv (.val (.string ⟨⟨t⟩⟩))) =>
    match op with
    | .eql => some (bool (decide (s = t)), True)
    | .neq => some (bool (!decide (s = t)), True)
    | _ => none
  | _, _ => none

section
variable {P : Program} {w : World}

theorem bar_ok {wm : Bool} {k : IntKind} {a b : Int} {op : BinOp} {x : A} {ob : Prop} (h : bar wm k a b op = some (x, ob)) (hob : ob) (hs : op ≠ .shl ∧ op ≠ .shr) (xT : TypeId) :
    ∃ v, x = .c (.pv (.val v)) ∧ v.oneCell' = true ∧ (Go.binOp op xT (.int k a) (.int k b)).run P w = .ok v w := by
  cases op <;> simp only [bar, Option.some.injEq, reduceCtorEq] at h <;> (try (simp at hs; done))
  case add => cases wm <;> simp only [wrp, Prod.mk.injEq] at h <;> obtain ⟨rfl, rfl⟩ := h <;> refine ⟨_, rfl, rfl, ?_⟩ <;> simp [Go.binOp, Op.intArith] <;> exact wrap_in hob
  case sub => cases wm <;> simp only [wrp, Prod.mk.injEq] at h <;> obtain ⟨rfl, rfl⟩ := h <;> refine ⟨_, rfl, rfl, ?_⟩ <;> simp [Go.binOp, Op.intArith] <;> exact wrap_in hob
  case mul => cases wm <;> simp only [wrp, Prod.mk.injEq] at h <;> obtain ⟨rfl, rfl⟩ := h <;> refine ⟨_, rfl, rfl, ?_⟩ <;> simp [Go.binOp, Op.intArith] <;> exact wrap_in hob
  case quo =>
    simp only [Prod.mk.injEq] at h; obtain ⟨rfl, rfl⟩ := h
    obtain ⟨⟨h0, h1⟩, h2⟩ := hob
    refine ⟨_, rfl, rfl, ?_⟩
    have e : a.tdiv b = a / b := Int.tdiv_eq_ediv_of_nonneg h0
    have hb : b ≠ 0 := by omega
    simp [Go.binOp, Op.intDiv, hb, e, wrap_in h2]
  case rem =>
    simp only [Prod.mk.injEq] at h; obtain ⟨rfl, rfl⟩ := h
    obtain ⟨h0, h1⟩ := hob
    refine ⟨_, rfl, rfl, ?_⟩
    have e : a.tmod b = a % b := Int.tmod_eq_emod_of_nonneg h0
    have hb : b ≠ 0 := by omega
    simp [Go.binOp, Op.intDiv, hb, e]
  all_goals
    simp only [Prod.mk.injEq] at h; obtain ⟨rfl, rfl⟩ := h
    refine ⟨_, rfl, rfl, ?_⟩
    simp [Go.binOp, Op.intBits, Op.intCmp, iand, ior, ixor]
    try (first | rfl | (cases h : decide (a = b) <;> simp_all))

theorem run_eqGuard_plain (op : BinOp) (t : TypeId) (x y : Operand) (a b : Value) (h : (match a, b with | .nilIface, .nilIface => false | .agg _, .agg _ => false | _, _ => true) = true) : (eqGuard op t x y a b).run P w = .ok () w := by
  cases op <;> first
    | rfl
    | (cases a <;> first | rfl | (cases b <;> first | rfl | (cases h)))

theorem bin_ok {wm : Bool} {op : BinOp} {M : Mem} {xa ya : A} {xv yv : Value} (hx : RA M xa xv) (hy : RA M ya yv) {x : A} {ob : Prop} (h : bin wm op xa ya = some (x, ob)) (hob : ob) (xT : TypeId) (ox oy : Operand) :
    ∃ v, x = .c (.pv (.val v)) ∧ v.oneCell' = true ∧ (do eqGuard op xT ox oy xv yv; Go.binOp op xT xv yv : Sem Value).run P w = .ok v w := by
  unfold bin at h
  split at h
  · rename_i k a k' b
    have ex := hx.val_inv; have ey := hy.val_inv
    subst ex ey
    rw [Sem.run_bind, run_eqGuard_plain _ _ _ _ _ _ rfl]
    simp only [Result.andThen_ok]
    split at h
    · cases hw : (wrm wm k) <;> simp only [hw, Option.some.injEq, Prod.mk.injEq] at h <;> obtain ⟨rfl, rfl⟩ := h <;> refine ⟨_, rfl, rfl, ?_⟩
      · obtain ⟨⟨h0, h1⟩, h2⟩ := hob
        have hb : ¬ b < 0 := by omega
        have hm : min b.toNat k.bits = b.toNat := by omega
        simp [Go.binOp, Op.shift, hb, hm, wrap_in h2]
      · obtain ⟨h0, h1⟩ := hob
        have hb : ¬ b < 0 := by omega
        have hm : min b.toNat k.bits = b.toNat := by omega
        simp [Go.binOp, Op.shift, hb, hm]
    · simp only [Option.some.injEq, Prod.mk.injEq] at h; obtain ⟨rfl, rfl⟩ := h
      obtain ⟨h0, h1⟩ := hob
      refine ⟨_, rfl, rfl, ?_⟩
      have hb : ¬ b < 0 := by omega
      have hm : min b.toNat k.bits = b.toNat := by omega
      have hp : (0 : Int) ≤ 2 ^ b.toNat := Int.pow_nonneg (by omega)
      simp [Go.binOp, Op.shift, hb, hm, Int.fdiv_eq_ediv_of_nonneg _ hp]
    · rename_i h1 h2
      split at h
      · rename_i hk; have := ikeq_eq hk; subst this
        exact bar_ok h hob ⟨fun e => h1 e, fun e => h2 e⟩ xT
      · cases h
  · rename_i s t
    have ex := hx.val_inv; have ey := hy.val_inv
    subst ex ey
    rw [Sem.run_bind, run_eqGuard_plain _ _ _ _ _ _ rfl]
    simp only [Result.andThen_ok]
    split at h
    · simp only [Option.some.injEq, Prod.mk.injEq] at h; obtain ⟨rfl, rfl⟩ := h
      exact ⟨_, rfl, rfl, by simp [Go.binOp, Op.stringOp]; (first | rfl | (rw [Bool.eq_iff_iff]; simp))⟩
    · simp only [Option.some.injEq, Prod.mk.injEq] at h; obtain ⟨rfl, rfl⟩ := h
      exact ⟨_, rfl, rfl, by simp [Go.binOp, Op.stringOp]; (first | rfl | (rw [Bool.eq_iff_iff]; simp))⟩
    · cases h
  · cases h
end
end Go.Mt

/-
  Mt, part C: the evaluator's pure operations that look at memory, at structs, at lists.
-/
set_option linter.unusedSimpArgs false
set_option linter.unusedVariables false
namespace Go.Mt
open Go.RowKit

def nth {α : Type} : List α → Nat → Option α
  | [], _ => none
  | x :: _, 0 => some x
  | _ :: l, n + 1 => nth l n
theorem nth_eq {α : Type} (l : List α) (n : Nat) : nth l n = l[n]? := by
  induction l generalizing n with
  | nil => simp [nth]
  | cons x l ih => cases n <;> simp [nth, ih]
def drp {α : Type} : Nat → List α → List α
  | 0, l => l
  | _ + 1, [] => []
  | n + 1, _ :: l => drp n l
theorem drp_eq {α : Type} (n : Nat) (l : List α) : drp n l = l.drop n := by
  induction n generalizing l with
  | zero => simp [drp]
  | succ n ih => cases l <;> simp [drp, ih]
def tke {α : Type} : Nat → List α → List α
  | 0, _ => []
  | _ + 1, [] => []
  | n + 1, x :: l => x :: tke n l
theorem tke_eq {α : Type} (n : Nat) (l : List α) : tke n l = l.take n := by
  induction n generalizing l with
  | zero => simp [tke]
  | succ n ih => cases l <;> simp [tke, ih]
def len {α : Type} : List α → Nat
  | [] => 0
  | _ :: l => len l + 1
theorem len_eq {α : Type} (l : List α) : len l = l.length := by induction l <;> simp [len, *]

/-- A struct or one cell off cells. -/
def ldA (T : Tb) (t : TypeId) (cs : List C) : Option A :=
  match T t with
  | some i => match i.kind.agg with
    | true => match Nat.ble i.size (len cs) with
      | true => some (.g (tke i.size cs))
      | false => none
    | false => match cs with
      | c :: _ => some (.c c)
      | [] => none
  | none => none

def A.cells : A → Option (List C)
  | .c x => some [x]
  | .g xs => some xs
  | .t _ => none

/-- Parts laid over a struct's cells. -/
def fillC (fs : List (Nat × Nat × Bool)) (cs : List C) : List (Nat × A) → Option (List C)
  | [] => some cs
  | (i, a) :: rest => match nth fs i, a.cells with
    | some (off, size, _), some new => match Nat.beq (len new) size && Nat.ble (off + size) (len cs) with
      | true => fillC fs (tke off cs ++ new ++ drp (off + size) cs) rest
      | false => none
    | _, _ => none

def constA (v : Value) : Option A := match v with
  | .bool _ | .int _ _ | .string _ | .nilFunc | .nilIface => some (pv (.val v))
  | .pointer none => some (pv (.val v))
  | _ => none
def rdT (T : Tb) (ty : TypeId) (rd : Operand → Option A) : Operand → Option A
  | .const (.slice none 0 0) => match T ty with
    | some ⟨.slc _ k, _, _, _⟩ => some (pv (.nil k))
    | _ => none
  | .const (.agg cs) => match T ty with
    | some ⟨.strct _, n, _, z⟩ => none
    | _ => none
  | o => rd o

def intOf? : A → Option Int
  | .c (.pv (.val (.int _ n))) => some n
  | _ => none

/-- An index between bounds. -/
def subR (n : Nat) (lo hi mx : Option A) : Option (Int × Int × Prop) :=
  match lo, hi, mx with
  | none, none, none => some (0, n, True)
  | some l, none, none => match intOf? l with | some l => some (l, n, 0 ≤ l ∧ l ≤ n) | none => none
  | none, some h, none => match intOf? h with | some h => some (0, h, 0 ≤ h ∧ h ≤ n) | none => none
  | some l, some h, none => match intOf? l, intOf? h with | some l, some h => some (l, h, (0 ≤ l ∧ l ≤ h) ∧ h ≤ n) | _, _ => none
  | some l, some h, some m => match intOf? l, intOf? h, intOf? m with | some l, some h, some m => some (l, h, (0 ≤ l ∧ l ≤ h) ∧ (h ≤ m ∧ m ≤ n)) | _, _, _ => none
  | _, _, _ => none

def optA (rd : Operand → Option A) : Option Operand → Option (Option A)
  | none => some none
  | some o => match rd o with | some x => some (some x) | none => none

def rdAll (rd : Operand → Option A) : List Operand → Option (List A)
  | [] => some []
  | o :: l => match rd o, rdAll rd l with
    | some x, some xs => some (x :: xs)
    | _, _ => none
def rdParts (T : Tb) (rd : Operand → Option A) : List (Nat × Operand) → Option (List (Nat × A))
  | [] => some []
  | (i, o) :: l => match rd o, rdParts T rd l with
    | some x, some xs => some ((i, x) :: xs)
    | _, _ => none
def cellOf : A → Option C
  | .c x => some x
  | _ => none
def cellsOf : List A → Option (List C)
  | [] => some []
  | a :: l => match cellOf a, cellsOf l with
    | some x, some xs => some (x :: xs)
    | _, _ => none

/-- The list that a cell stands for. -/
def lkOf (H : Nat → Option HB) : A → Option ((k : LK) × List k.T × Prop)
  | .c (.pv (.lst k l)) => some ⟨k, l, True⟩
  | .c (.pv (.nil k)) => some ⟨k, [], True⟩
  | .c (.own n v) => match H n with
    | some (.own v' _ k l) => some ⟨k, l, v = v'⟩
    | _ => none
  | _ => none

def cvw : IntKind → Bool | .i64 | .u64 => false | _ => true
def cnv (T : Tb) (wm : Bool) (dst : TypeId) : A → Option (A × Prop)
  | .c (.pv (.val (.int _ n))) => match T dst with
    | some ⟨.int k, _, _, _⟩ => some (wrp (wm != cvw k) k n)
    | _ => none
  | .c (.pv (.val (.string s))) => match T dst with
    | some ⟨.str, _, _, _⟩ => some (pv (.val (.string s)), True)
    | _ => none
  | _ => none
def cnvB (T : Tb) (H : Nat → Option HB) (dst : TypeId) (x : A) : Option (A × Prop) := match lkOf H x, T dst with
    | some ⟨.byt, l, ob⟩, some ⟨.str, _, _, _⟩ => some (str l, ob)
    | _, _ => none

def noOwn : List (Nat × A) → Bool
  | [] => true
  | (_, .c (.own _ _)) :: _ => false
  | _ :: l => noOwn l
/-- Are a struct's cells those of another one? -/
def eqCs : List C → List C → List C → Option Bool
  | [], [], [] => some true
  | .pv (.val (.int _ _)) :: zs, .pv (.val (.int k a)) :: xs, .pv (.val (.int k' b)) :: ys => match ikeq k k', eqCs zs xs ys with
    | true, some r => some (decide (a = b) && r)
    | _, _ => none
  | .pv (.val (.bool _)) :: zs, .pv (.val (.bool a)) :: xs, .pv (.val (.bool b)) :: ys => match eqCs zs xs ys with
    | some r => some (decide (a = b) && r)
    | _ => none
  | .pv (.val (.string _)) :: zs, .pv (.val (.string ⟨⟨a⟩⟩)) :: xs, .pv (.val (.string ⟨⟨b⟩⟩)) :: ys => match eqCs zs xs ys with
    | some r => some (decide (a = b) && r)
    | _ => none
  | _, _, _ => none
/-- Comparisons that ask the type. -/
def binT (T : Tb) (t : TypeId) (op : BinOp) : A → A → Option (A × Prop)
  | .c (.pv (.val (.bool a))), .c (.pv (.val (.bool b))) => match T t with
    | some ⟨.bool, _, _, _⟩ => match op with
      | .eql => some (bool (decide (a = b)), True)
      | .neq => some (bool (!decide (a = b)), True)
      | _ => none
    | _ => none
  | .g xs, .g ys => match T t with
    | some i => match eqab i.kind i.zero, eqCs i.zero xs ys with
      | true, some r => match op with
        | .eql => some (bool r, True)
        | .neq => some (bool (!r), True)
        | _ => none
      | _, _ => none
    | none => none
  | _, _ => none
/-- So many bytes as cells. -/
def celB (l : List UInt8) : Nat → Nat → List PV
  | _, 0 => []
  | i, m + 1 => .val (.int .u8 (l.getD i 0).toNat) :: celB l (i + 1) m
def pureOp (T : Tb) (H : Nat → Option HB) (wm : Bool) (rd : Operand → Option A) (ty : TypeId) : Op → Option (A × Prop)
  | .move x | .assign x => match rdT T ty rd x with
    | some a => some (a, True)
    | none => none
  | .binOp op t x y _ => match rd x, rd y with
    | some a, some b => match bin wm op a b with
      | some r => some r
      | none => binT T t op a b
    | _, _ => none
  | .unOp op _ x => match op, rd x with
    | .not, some (.c (.pv (.val (.bool b)))) => some (bool (!b), True)
    | _, _ => none
  | .convert src dst x => match T src, rd x with
    | some ⟨.slc e _, _, _, _⟩, some a => match T e with
      | some ⟨.int .u8, _, _, _⟩ => cnvB T H dst a
      | _ => none
    | some _, some a => cnv T wm dst a
    | _, _ => none
  | .extract x i => match rd x with
    | some (.t xs) => match nth xs i with
      | some a => some (a, True)
      | none => none
    | _ => none
  | .field xT x f => match T xT, rd x with
    | some ⟨.strct fs, _, _, _⟩, some (.g cs) => match nth fs f with
      | some (off, size, true) => some (.g (tke size (drp off cs)), True)
      | some (off, _, false) => match drp off cs with
        | c :: _ => some (.c c, True)
        | [] => none
      | none => none
    | _, _ => none
  | .fieldAddr sT x f => match T sT with
    | some ⟨.strct fs, _, _, _⟩ => match nth fs f with
      | some (off, size, _) => match Nat.ble 1 size, rd x with
        | true, some (.c (.ptr n b o)) => some (.c (.ptr n b (o + off)), True)
        | true, some (.c (.cel cs)) => some (.c (.cel (drp off cs)), True)
        | true, some (.c (.oel n v i sz o)) => some (.c (.oel n v i sz (o + off)), True)
        | _, _ => none
      | none => none
    | _ => none
  | .indexAddr t x i => match T t, rd x, rd i with
    | some ⟨.slc _ k', _, _, _⟩, some (.c (.pv (.lst k l))), some (.c (.pv (.val (.int _ i)))) =>
      match Nat.beq k'.sz k.sz with
      | true => some (.c (.cel (k.enc (l.getD i.toNat k.dft))), 0 ≤ i ∧ i < l.length)
      | false => none
    | some ⟨.slc _ k', _, _, _⟩, some (.c (.own n v)), some (.c (.pv (.val (.int _ i)))) => match H n with
      | some (.own v' _ k l) => match Nat.beq k'.sz k.sz with
        | true => some (.c (.oel n v i.toNat k.sz 0), v = v' ∧ 0 ≤ i ∧ i < l.length)
        | false => none
      | _ => none
    | _, _, _ => none
  | .load t x => match rd x with
    | some (.c (.ptr n b o)) => match H n with
      | some (.blk b' _ cs) => match ldA T t (drp o cs) with
        | some a => some (a, b = b')
        | none => none
      | some (.own v' _ .byt l) => match T t with
        | some ⟨.arr N _, _, _, _⟩ => match Nat.beq o 0 && Nat.ble 1 N, ldA T t ((celB l 0 N).map .pv) with
          | true, some a => some (a, b = v'.blk ∧ l.length = N)
          | _, _ => none
        | _ => none
      | _ => none
    | some (.c (.cel cs)) => match ldA T t (cs.map .pv) with
      | some a => some (a, True)
      | none => none
    | some (.c (.oel n v i sz o)) => match H n with
      | some (.own v' _ k l) => match ldA T t ((drp o (k.enc (l.getD i k.dft))).map .pv) with
        | some a => some (a, (v = v' ∧ sz = k.sz) ∧ i < l.length)
        | none => none
      | _ => none
    | _ => none
  | .slice t x lo hi mx => match rd x, optA rd lo, optA rd hi, optA rd mx with
    | some (.c (.pv (.lst k l))), some lo, some hi, some mx => match T t with
      | some ⟨.slc _ k', _, _, _⟩ => match Nat.beq k'.sz k.sz, subR l.length lo hi mx with
        | true, some (lo, hi, ob) => some (lst k ((l.take hi.toNat).drop lo.toNat), ob)
        | _, _ => none
      | _ => none
    | some (.c (.pv (.val (.string ⟨⟨l⟩⟩)))), some lo, some hi, some none => match T t with
      | some ⟨.str, _, _, _⟩ => match subR l.length lo hi none with
        | some (lo, hi, ob) => some (str ((l.take hi.toNat).drop lo.toNat), ob)
        | none => none
      | _ => none
    | _, _, _, _ => none
  | .build t ⟨ps⟩ => match T t with
    | some ⟨.strct fs, _, _, z⟩ => match rdParts T rd ps with
      | some ps => match noOwn ps, fillC fs z ps with
        | true, some cs => some (.g cs, True)
        | _, _ => none
      | none => none
    | _ => none
  | .call ⟨.builtin .len, ⟨[x]⟩, ⟨[t]⟩⟩ => match rd x with
    | some (.c (.pv (.val (.string ⟨⟨l⟩⟩)))) => match T t with
      | some ⟨.str, _, _, _⟩ => some (int .i64 l.length, True)
      | _ => none
    | some a => match lkOf H a, T t with
      | some ⟨_, l, ob⟩, some ⟨.slc _ _, _, _, _⟩ => some (int .i64 l.length, ob)
      | _, _ => none
    | none => none
  | .call ⟨.builtin .min, ⟨[x, y]⟩, _⟩ => match rd x, rd y with
    | some (.c (.pv (.val (.int k a)))), some (.c (.pv (.val (.int k' b)))) => match ikeq k k' with
      | true => some (int k (min a b), True)
      | false => none
    | _, _ => none
  | .call ⟨.builtin .max, ⟨[x, y]⟩, _⟩ => match rd x, rd y with
    | some (.c (.pv (.val (.int k a)))), some (.c (.pv (.val (.int k' b)))) => match ikeq k k' with
      | true => some (int k (max a b), True)
      | false => none
    | _, _ => none
  | .nilCheck x => match rd x with
    | some (.c (.ptr n b o)) => some (.c (.ptr n b o), True)
    | some (.c (.cel cs)) => some (.c (.cel cs), True)
    | some (.c (.oel n v i sz o)) => some (.c (.oel n v i sz o), True)
    | _ => none
  | .makeFunc (.func f) ⟨[]⟩ ⟨caps⟩ => match rdAll rd caps with
    | some l => match cellsOf l with
      | some cs => some (.c (.clo f cs), True)
      | none => none
    | none => none
  | .index t x i => match T t, rd x, rd i with
    | some ⟨.str, _, _, _⟩, some (.c (.pv (.val (.string ⟨⟨l⟩⟩)))), some (.c (.pv (.val (.int _ i)))) =>
      some (int .u8 (l.getD i.toNat 0).toNat, 0 ≤ i ∧ i < l.length)
    | _, _, _ => none
  | .sliceToArrayPointer arr x => match T arr, rd x with
    | some ⟨.arr N _, _, _, _⟩, some (.c (.pv (.lst .byt l))) => match Nat.ble 1 N with
      | true => some (.c (.cel (celB l 0 N)), N ≤ l.length)
      | false => none
    | _, _ => none
  | _ => none
end Go.Mt

/-
  Mt, part D: the evaluator's pure operations say what the machine does.
-/
set_option linter.unusedSimpArgs false
set_option linter.unusedVariables false
namespace Go.Mt
open Go.RowKit
section
variable {P : Program} {T : Tb} {w : World} {M : Mem}

theorem TyOk.isAgg {t : TypeId} {i : TI} (h : TyOk P t i) (w : World) : (Go.isAgg t).run P w = .ok i.kind.agg w := by
  have hu := h.und
  unfold Go.isAgg
  cases hk : i.kind <;> rw [hk] at hu <;> simp only at hu
  case int k => simp [run_underlying hu, TK.agg]
  case bool => simp [run_underlying hu, TK.agg]
  case str => simp [run_underlying hu, TK.agg]
  case slc e k => simp [run_underlying hu.1, TK.agg]
  case ptr e => simp [run_underlying hu, TK.agg]
  case strct fs => obtain ⟨f, hf, _⟩ := hu; simp [run_underlying hf, TK.agg]
  case arr n e => simp [run_underlying hu.1, TK.agg]
  case other =>
    cases hd : P.underlying t with
    | none => simp [hd] at hu
    | some d => cases d <;> simp [hd] at hu <;> simp [run_underlying hd, TK.agg]

theorem TyOk.sizeOf {t : TypeId} {i : TI} (h : TyOk P t i) (w : World) : (Go.sizeOf t).run P w = .ok i.size w := by
  obtain ⟨inf, z, h1, h2, _⟩ := h.info
  simp [Go.sizeOf, typeInfo, h1, h2]

theorem run_typeInfo {t : TypeId} {inf : TypeInfo} (h : P.info? t = some inf) (w : World) : (typeInfo t).run P w = .ok inf w := by simp [typeInfo, h]

theorem ldA_ok (hT : TbOk P T) {t : TypeId} {cs : List C} {x : A} (h : ldA T t cs = some x) {b o : Nat}
    (hc : ∀ (j : Nat) (c : C), cs[j]? = some c → ∃ u, w.cell? ⟨b, o + j, none⟩ = some u ∧ RC M c u) :
    ∃ v, (loadVar t ⟨b, o, none⟩).run P w = .ok v w ∧ RA M x v := by
  unfold ldA at h
  cases ht : T t with
  | none => simp [ht] at h
  | some i =>
    have hi := hT t i ht
    simp only [ht] at h
    cases ha : i.kind.agg with
    | false =>
      simp only [ha] at h
      cases cs with
      | nil => simp at h
      | cons c cs =>
        simp at h; subst h
        obtain ⟨u, hu, hr⟩ := hc 0 c rfl
        simp only [Nat.add_zero] at hu
        refine ⟨u, ?_, .c hr⟩
        simp [loadVar, hi.isAgg, ha, hu]
    | true =>
      simp only [ha] at h
      cases hb : Nat.ble i.size (len cs) with
      | false => simp [hb] at h
      | true =>
        simp only [hb, Option.some.injEq] at h; subst h
        rw [len_eq, Nat.ble_eq] at hb
        have hx : ∀ j, j < i.size → ∃ u, w.cell? ⟨b, o + j, none⟩ = some u ∧ ∀ c, cs[j]? = some c → RC M c u := by
          intro j hj
          have hj' : j < cs.length := by omega
          obtain ⟨u, hu, hr⟩ := hc j cs[j] (List.getElem?_eq_getElem hj')
          exact ⟨u, hu, fun c hc => by rw [List.getElem?_eq_getElem hj'] at hc; cases hc; exact hr⟩
        let f : Nat → Value := fun j => (w.cell? ⟨b, o + j, none⟩).getD undef
        have hl := run_loadCells (P := P) w ⟨b, o, none⟩ i.size f (fun j hj => by
          obtain ⟨u, hu, _⟩ := hx j hj
          rw [Addr.add_lit]; simp [f, hu])
        refine ⟨.agg ((List.range i.size).map f).toArray, by simp [loadVar, hi.isAgg, ha, hi.sizeOf, hl], .g ⟨by simp [tke_eq]; omega, ?_⟩⟩
        intro j c u h1 h2
        rw [tke_eq, List.getElem?_take] at h1
        split at h1
        · rename_i hj
          obtain ⟨u', hu', hr⟩ := hx j hj
          simp [hj, f, hu'] at h2
          subst h2; exact hr c h1
        · cases h1

theorem rdT_ok {ty : TypeId} {rd : Operand → Option A} {ρ : Operand → Value} (hr : ∀ o x, rd o = some x → RA M x (ρ o)) (hc : ∀ v, ρ (.const v) = v) {o : Operand} {x : A} (h : rdT T ty rd o = some x) : RA M x (ρ o) := by
  unfold rdT at h
  split at h
  · split at h
    · simp at h; subst h; rw [hc]; exact .c (.pv .nil)
    · cases h
  · split at h <;> cases h
  · exact hr _ _ h

theorem constA_ok {v : Value} {x : A} (h : constA v = some x) : RA M x v := by
  unfold constA at h
  split at h <;> simp at h <;> subst h <;> exact .c (.pv (.val rfl))

theorem lkOf_ok {B : Nat} {W : World} {H : Nat → Option HB} (hS : SatH B W H M w) {x : A} {v : Value} (hx : RA M x v) {k : LK} {l : List k.T} {ob : Prop} (h : lkOf H x = some ⟨k, l, ob⟩) (hob : ob) :
    ∃ a c b o, v = .slice a l.length c ∧ (l ≠ [] → a = some ⟨b, o, none⟩) ∧ l.length ≤ c ∧ c ≤ maxLen ∧
      ∀ i x j y, l[i]? = some x → (k.enc x)[j]? = some y → ∃ u, w.cell? ⟨b, o + i * k.sz + j, none⟩ = some u ∧ R M y u := by
  unfold lkOf at h
  split at h
  · cases h
    cases hx with | c hx => cases hx with | pv hx =>
    obtain ⟨a, c, b, o, rfl, h1, h2, h3, h4, h5⟩ := hx.lst_inv
    exact ⟨a, c, b, o, rfl, h3, h1, h2, fun i x j y e1 e2 => let ⟨u, hu, hr⟩ := h5 i x j y e1 e2; ⟨u, Mem.cell_on hS.mem hu, hr⟩⟩
  · cases h
    cases hx with | c hx => cases hx with | pv hx =>
    cases hx
    exact ⟨none, 0, 0, 0, rfl, by simp, by simp, by simp, by simp⟩
  · split at h
    · rename_i n v0 v' ty k' l' hn
      cases h
      cases hx with | c hx => cases hx with | own hx1 =>
      subst hob
      rcases hS.ok _ _ hn with ⟨rfl, rfl⟩ | ⟨b, cap, us, rfl, h1, h2, h3, h4, h5, h6, h7⟩
      · exact ⟨none, 0, 0, 0, rfl, by simp, by simp, by simp, by simp⟩
      · refine ⟨_, _, b, 0, rfl, fun _ => rfl, h4, h5, fun i x j y e1 e2 => ?_⟩
        obtain ⟨u, hu, hr⟩ := h7 i x j y e1 e2
        exact ⟨u, by simp [World.cell?, h3, hu], hr⟩
    · cases h
  · cases h

end
end Go.Mt

/-
  Mt, part E: the evaluator's pure operations, all in one.
-/
set_option linter.unusedSimpArgs false
set_option linter.unusedVariables false
namespace Go.Mt
open Go.RowKit
section
variable {P : Program} {T : Tb} {w : World} {M : Mem} {B : Nat} {W : World} {H : Nat → Option HB}

theorem fillC_ok {places : Array (Nat × Nat)} {fs : List (Nat × Nat × Bool)} (hpl : ∀ (i : Nat) x, fs[i]? = some x → places[i]? = some (x.1, x.2.1)) :
    ∀ (ps : List (Nat × A)) (vs : List (Nat × Value)) (cs cs' : List C) (us : Array Value), RCs M cs us.toList →
      (ps.length = vs.length ∧ ∀ (i : Nat) p v, ps[i]? = some p → vs[i]? = some v → p.1 = v.1 ∧ RA M p.2 v.2) → fillC fs cs ps = some cs' →
      ∃ us', Instr.fill (places[·]?) us vs = some us' ∧ RCs M cs' us'.toList := by
  intro ps
  induction ps with
  | nil =>
    intro vs cs cs' us hr hv h
    obtain ⟨hl, _⟩ := hv
    cases vs with
    | nil => simp [fillC] at h; subst h; exact ⟨us, rfl, hr⟩
    | cons => simp at hl
  | cons p ps ih =>
    intro vs cs cs' us hr hv h
    obtain ⟨hl, hv⟩ := hv
    cases vs with
    | nil => simp at hl
    | cons v vs =>
    obtain ⟨i, a⟩ := p
    obtain ⟨i', av⟩ := v
    have h0 := hv 0 _ _ rfl rfl
    simp only at h0
    obtain ⟨rfl, ha⟩ := h0
    simp only [fillC] at h
    split at h
    · rename_i off size bb new hf hn
      split at h
      · rename_i hb
        simp only [Bool.and_eq_true, Nat.beq_eq, Nat.ble_eq, len_eq] at hb
        rw [nth_eq] at hf
        have hp := hpl _ _ hf
        simp only [Instr.fill, hp]
        -- the cells of the new part
        have hnew : RCs M new av.cells.toList := by
          cases ha with
          | c hc =>
            simp [A.cells] at hn; subst hn
            have := hc.one
            have hcs : av.cells = #[av] := by cases av <;> simp [Value.oneCell'] at this <;> rfl
            rw [hcs]
            refine ⟨rfl, fun j c u h1 h2 => ?_⟩
            cases j with
            | zero => simp at h1 h2; subst h1 h2; exact hc
            | succ j => simp at h1
          | g hg => simp [A.cells] at hn; subst hn; exact hg
          | t => simp [A.cells] at hn
        have hsz : av.cells.size = size := by rw [← Array.length_toList, hnew.1, hb.1]
        have hus : us.size = cs.length := by rw [← Array.length_toList, hr.1]
        have hcond : (decide (av.cells.size ≠ size) || decide (off + av.cells.size > us.size)) = false := by
          simp [hsz, hus]; omega
        rw [hcond]
        simp only [Bool.false_eq_true, if_false]
        have key : ∀ (l : List Value) (k : Nat) (us : Array Value), off + k + l.length ≤ us.size →
            ((l.zipIdx k).foldl (fun cs (c, j) => cs.setIfInBounds (off + j) c) us).toList = us.toList.take (off + k) ++ l ++ us.toList.drop (off + k + l.length) := by
          intro l
          induction l with
          | nil => intro k us hk; simp
          | cons x l ih =>
            intro k us hk
            simp only [List.zipIdx_cons, List.foldl_cons]
            rw [ih (k + 1) _ (by simp at hk ⊢; omega)]
            simp only [Array.toList_setIfInBounds]
            have hlt : off + k < us.toList.length := by simp at hk ⊢; omega
            have := list_seg_step us.toList (off + k) x l (by simp at hk ⊢; omega)
            simp only [List.length_cons]
            rw [show off + (k + 1) = off + k + 1 from by omega, show off + k + (l.length + 1) = off + k + (l.length + 1) from rfl]
            exact this
        have hk := key av.cells.toList 0 us (by simp [hsz, hus]; omega)
        have hz : av.cells.zipIdx.foldl (fun cs (x : Value × Nat) => cs.setIfInBounds (off + x.2) x.1) us = ((av.cells.toList.zipIdx 0).foldl (fun cs (c, j) => cs.setIfInBounds (off + j) c) us) := by
          rw [← Array.foldl_toList, Array.toList_zipIdx]
        have hfin := ih vs (tke off cs ++ new ++ drp (off + size) cs) cs' (av.cells.zipIdx.foldl (fun cs (x : Value × Nat) => cs.setIfInBounds (off + x.2) x.1) us) (by
          rw [hz]
          simp only [Nat.add_zero] at hk
          refine ⟨?_, ?_⟩
          · rw [hk]; simp [tke_eq, drp_eq, hb.1, hus, hsz]
          · intro j c u h1 h2
            rw [hk] at h2
            rw [tke_eq, drp_eq] at h1
            rw [List.append_assoc] at h1 h2
            by_cases hj : j < off
            · rw [List.getElem?_append_left (by simp; omega)] at h1 h2
              rw [List.getElem?_take, if_pos hj] at h1 h2
              exact hr.2 j c u h1 h2
            · rw [List.getElem?_append_right (by simp; omega)] at h1 h2
              have e1 : (List.take off cs).length = off := by simp; omega
              have e2 : (List.take off us.toList).length = off := by simp; omega
              rw [e1] at h1; rw [e2] at h2
              by_cases hj2 : j - off < size
              · rw [List.getElem?_append_left (by omega)] at h1
                rw [List.getElem?_append_left (by simp [hsz]; omega)] at h2
                exact hnew.2 _ c u h1 h2
              · rw [List.getElem?_append_right (by omega)] at h1
                rw [List.getElem?_append_right (by simp [hsz]; omega)] at h2
                rw [List.getElem?_drop] at h1 h2
                simp only [Array.length_toList, hsz, hb.1] at h1 h2
                exact hr.2 _ c u h1 h2) ⟨by simpa using hl, fun i p v h1 h2 => hv (i + 1) p v h1 h2⟩ h
        exact hfin
      · cases h
    · cases h

theorem rdAll_ok {rd : Operand → Option A} {ρ : Operand → Value} (hr : ∀ o x, rd o = some x → RA M x (ρ o)) : ∀ (os : List Operand) (xs : List A), rdAll rd os = some xs → os.length = xs.length ∧ ∀ (j : Nat) x, xs[j]? = some x → ∃ o, os[j]? = some o ∧ RA M x (ρ o) := by
  intro os
  induction os with
  | nil => intro xs h; simp [rdAll] at h; subst h; simp
  | cons o os ih =>
    intro xs h
    simp only [rdAll] at h
    split at h
    · rename_i x xs' h1 h2
      simp at h; subst h
      obtain ⟨e, ih⟩ := ih _ h2
      refine ⟨by simp [e], fun j y hj => ?_⟩
      cases j with
      | zero => simp at hj; subst hj; exact ⟨o, rfl, hr _ _ h1⟩
      | succ j => simpa using ih j y (by simpa using hj)
    · cases h

theorem rdParts_ok {rd : Operand → Option A} {ρ : Operand → Value} (hr : ∀ o x, rd o = some x → RA M x (ρ o)) : ∀ (os : List (Nat × Operand)) (xs : List (Nat × A)), rdParts T rd os = some xs →
    xs.length = (os.map fun (i, x) => (i, ρ x)).length ∧ ∀ (i : Nat) p v, xs[i]? = some p → (os.map fun (i, x) => (i, ρ x))[i]? = some v → p.1 = v.1 ∧ RA M p.2 v.2 := by
  intro os
  induction os with
  | nil => intro xs h; simp [rdParts] at h; subst h; simp
  | cons o os ih =>
    obtain ⟨i0, o⟩ := o
    intro xs h
    simp only [rdParts] at h
    split at h
    · rename_i x xs' h1 h2
      simp at h; subst h
      obtain ⟨e, ih⟩ := ih _ h2
      refine ⟨by simp at e ⊢; exact e, fun i p v h3 h4 => ?_⟩
      cases i with
      | zero => simp at h3 h4; subst h3 h4; exact ⟨rfl, hr _ _ h1⟩
      | succ i => exact ih i p v (by simpa using h3) (by simpa using h4)
    · cases h

theorem cellsOf_ok : ∀ (xs : List A) (cs : List C), cellsOf xs = some cs → xs = cs.map .c := by
  intro xs
  induction xs with
  | nil => intro cs h; simp [cellsOf] at h; subst h; rfl
  | cons x xs ih =>
    intro cs h
    simp only [cellsOf] at h
    split at h
    · rename_i c cs' h1 h2
      simp at h; subst h
      cases x <;> simp [cellOf] at h1
      subst h1
      rw [ih _ h2]; rfl
    · cases h

theorem cnv_ok (hT : TbOk P T) {wm : Bool} {src dst : TypeId} {a : A} {v : Value} (ha : RA M a v) {x : A} {ob : Prop} (h : cnv T wm dst a = some (x, ob)) (hob : ob)
    (hsrc : ∃ d, P.underlying src = some d) :
    ∃ u, (Go.convert src dst v).run P w = .ok u w ∧ RA M x u := by
  obtain ⟨ds, hds⟩ := hsrc
  unfold cnv at h
  split at h
  · have := ha.val_inv; subst this
    split at h
    · rename_i n k s1 s2 z hk
      have hu := (hT _ _ hk).und
      simp only at hu
      simp only [Option.some.injEq] at h
      generalize (wm != cvw k) = bb at h
      cases bb <;> simp only [wrp, Prod.mk.injEq] at h <;> obtain ⟨rfl, rfl⟩ := h
      · exact ⟨_, by simp [Go.convert, run_underlying hu, run_underlying hds, Conv.intToInt, wrap_in hob], .c (.pv (.val rfl))⟩
      · exact ⟨_, by simp [Go.convert, run_underlying hu, run_underlying hds, Conv.intToInt], .c (.pv (.val rfl))⟩
    · cases h
  · have := ha.val_inv; subst this
    split at h
    · rename_i s s1 s2 z hk
      have hu := (hT _ _ hk).und
      simp only at hu
      cases h
      exact ⟨_, by simp [Go.convert, run_underlying hu, run_underlying hds], .c (.pv (.val rfl))⟩
    · cases h
  · cases h

theorem cnvB_ok (hT : TbOk P T) (hS : SatH B W H M w) {src dst e : TypeId} {a : A} {v : Value} (ha : RA M a v) {x : A} {ob : Prop} (h : cnvB T H dst a = some (x, ob)) (hob : ob)
    (he1 : P.underlying src = some (.slice e)) (he2 : P.underlying e = some (.int .u8)) :
    ∃ u, (Go.convert src dst v).run P w = .ok u w ∧ RA M x u := by
  unfold cnvB at h
  split at h
  · rename_i l ob' s1 s2 z hl hk
    have hu := (hT _ _ hk).und
    simp only at hu
    cases h
    obtain ⟨ad, c, b, o, rfl, h1, h2, h3, h4⟩ := lkOf_ok hS ha hl hob
    refine ⟨.string ⟨l.toArray⟩, ?_, .c (.pv (.val rfl))⟩
    rw [run_convert_bytes_string w src dst e ad l.length c he1 he2 hu]
    by_cases hne : l = []
    · subst hne
      cases ad with
      | none => simp [Conv.bytesToString]; rfl
      | some ad =>
        have := run_bytesToString (P := P) w ad 0 c [] (by simp [loadCells, loadCellsFrom])
        simp only [List.length_nil]
        rw [this]; rfl
    · have := h1 hne; subst this
      have hcells := run_loadCells (P := P) w ⟨b, o, none⟩ l.length (fun j => .int .u8 ((l.getD j 0).toNat : Int)) (fun j hj => by
        obtain ⟨u, hu, hr⟩ := h4 j l[j] 0 _ (List.getElem?_eq_getElem hj) rfl
        have := hr.val_eq; subst this
        rw [Addr.add_lit]
        simp only [LK.sz, Nat.mul_one, Nat.add_zero] at hu
        rw [hu]
        simp [List.getD, List.getElem?_eq_getElem hj])
      have hmap : (List.range l.length).map (fun j => Value.int .u8 ((l.getD j 0).toNat : Int)) = (l.map fun x => ((x.toNat : Nat) : Int)).map (Value.int .u8) := by
        apply List.ext_getElem?
        intro i
        by_cases hi : i < l.length
        · simp [hi, List.getD]
        · simp [List.getElem?_eq_none (Nat.le_of_not_lt hi)]; omega
      rw [hmap] at hcells
      rw [run_bytesToString w _ l.length c _ hcells]
      congr 2
      have : ∀ (l : List UInt8) (s : ByteArray), (l.map fun x => ((x.toNat : Nat) : Int)).foldl (fun r n => r.push (UInt8.ofNat n.toNat)) s = ⟨(s.data.toList ++ l).toArray⟩ := by
        intro l
        induction l with
        | nil => intro s; simp
        | cons x l ih =>
          intro s
          simp only [List.map_cons, List.foldl_cons, ih]
          simp [ByteArray.push]
      rw [this]; simp
  · cases h

end
end Go.Mt

/-
  Mt, part F: every pure operation of the evaluator is what the machine does.
-/
set_option linter.unusedSimpArgs false
set_option linter.unusedVariables false
namespace Go.Mt
open Go.RowKit
section
variable {P : Program} {T : Tb} {w : World} {M : Mem} {B : Nat} {W : World} {H : Nat → Option HB}

theorem RA.ptr_inv {n b o : Nat} {v : Value} (r : RA M (.c (.ptr n b o)) v) : v = .pointer (some ⟨b, o, none⟩) := by cases r with | c r => cases r; rfl
theorem RA.oel_inv {n i sz o : Nat} {u v : Value} (r : RA M (.c (.oel n u i sz o)) v) : v = .pointer (some ⟨u.blk, i * sz + o, none⟩) := by cases r with | c r => cases r; rfl
theorem RA.own_inv {n : Nat} {u v : Value} (r : RA M (.c (.own n u)) v) : v = u := by cases r with | c r => cases r; rfl
theorem RA.cel_inv {cs : List PV} {v : Value} (r : RA M (.c (.cel cs)) v) : ∃ b o, v = .pointer (some ⟨b, o, none⟩) ∧ ∀ (j : Nat) y, cs[j]? = some y → ∃ u, M.cell b (o + j) = some u ∧ R M y u := by
  cases r with | c r => cases r with | cel b o us hc hR => exact ⟨b, o, rfl, fun j y h => ⟨_, hc j y h, hR j y h⟩⟩
theorem RA.cel_mk {cs : List PV} {b o : Nat} (h : ∀ (j : Nat) y, cs[j]? = some y → ∃ u, M.cell b (o + j) = some u ∧ R M y u) : RA M (.c (.cel cs)) (.pointer (some ⟨b, o, none⟩)) :=
  .c (.cel b o (fun j => (M.cell b (o + j)).getD undef) (fun j y e => by obtain ⟨u, hu, _⟩ := h j y e; simp [hu]) (fun j y e => by obtain ⟨u, hu, hr⟩ := h j y e; simp [hu, hr]))

theorem run_sliceBound_in {k : IntKind} {i : Int} {y : Nat} {code : BoundsCode} (h0 : 0 ≤ i) (h1 : i ≤ y) : (Instr.sliceBound (.int k i) y code).run P w = .ok i.toNat w := by
  simp [Instr.sliceBound, asIntOf, h0, h1]

theorem intOf?_ok {a : A} {n : Int} {v : Value} (h : intOf? a = some n) (r : RA M a v) : ∃ k, v = .int k n := by
  unfold intOf? at h
  split at h
  · cases h; exact ⟨_, r.val_inv⟩
  · cases h

theorem optA_ok {rd : Operand → Option A} {ρ : Operand → Value} (hr : ∀ o x, rd o = some x → RA M x (ρ o)) {o : Option Operand} {x : Option A} (h : optA rd o = some x) :
    (o = none ∧ x = none) ∨ ∃ p a, o = some p ∧ x = some a ∧ RA M a (ρ p) := by
  cases o with
  | none => simp [optA] at h; exact .inl ⟨rfl, h.symm⟩
  | some p =>
    simp only [optA] at h
    split at h
    · rename_i a ha; cases h; exact .inr ⟨p, a, rfl, rfl, hr _ _ ha⟩
    · cases h

/-- The bounds of a slice expression. -/
theorem subR_ok {n : Nat} {rd : Operand → Option A} {ρ : Operand → Value} (hr : ∀ o x, rd o = some x → RA M x (ρ o)) {olo ohi omx : Option Operand} {lo hi mx : Option A}
    (h1 : optA rd olo = some lo) (h2 : optA rd ohi = some hi) (h3 : optA rd omx = some mx) {l h : Int} {ob : Prop} (hs : subR n lo hi mx = some (l, h, ob)) (hob : ob) {sl : Bool} {cap : Nat} (hcap : n ≤ cap) :
    0 ≤ l ∧ l ≤ h ∧ h ≤ n ∧ ∃ m, h.toNat ≤ m ∧ m ≤ cap ∧ (omx = none → m = cap) ∧ (Instr.sliceBounds sl n cap (olo.map ρ) (ohi.map ρ) (omx.map ρ)).run P w = .ok (l.toNat, h.toNat, m) w := by
  rcases optA_ok hr h1 with ⟨rfl, rfl⟩ | ⟨pl, al, rfl, rfl, rl⟩ <;> rcases optA_ok hr h2 with ⟨rfl, rfl⟩ | ⟨ph, ah, rfl, rfl, rh⟩ <;> rcases optA_ok hr h3 with ⟨rfl, rfl⟩ | ⟨pm, am, rfl, rfl, rm⟩ <;> simp only [subR, Option.some.injEq, Prod.mk.injEq, reduceCtorEq] at hs
  · obtain ⟨rfl, rfl, rfl⟩ := hs
    exact ⟨by omega, by omega, by omega, cap, by omega, by omega, fun _ => rfl, by simp [Instr.sliceBounds]⟩
  · split at hs
    · rename_i h' e; simp only [Option.some.injEq, Prod.mk.injEq] at hs; obtain ⟨rfl, rfl, rfl⟩ := hs
      obtain ⟨k, hv⟩ := intOf?_ok e rh
      refine ⟨by omega, by omega, by omega, cap, by omega, by omega, fun _ => rfl, ?_⟩
      simp only [Instr.sliceBounds, Option.map_none, Option.map_some, hv, Sem.run_bind, Sem.run_pure, Result.andThen_ok]
      rw [run_sliceBound_in hob.1 (by omega)]
      simp
    · cases hs
  · split at hs
    · rename_i l' e; simp only [Option.some.injEq, Prod.mk.injEq] at hs; obtain ⟨rfl, rfl, rfl⟩ := hs
      obtain ⟨k, hv⟩ := intOf?_ok e rl
      refine ⟨by omega, by omega, by omega, cap, by omega, by omega, fun _ => rfl, ?_⟩
      simp only [Instr.sliceBounds, Option.map_none, Option.map_some, hv, Sem.run_bind, Sem.run_pure, Result.andThen_ok]
      rw [run_sliceBound_in hob.1 (by omega)]
      simp
    · cases hs
  · split at hs
    · rename_i l' h' e e'; simp only [Option.some.injEq, Prod.mk.injEq] at hs; obtain ⟨rfl, rfl, rfl⟩ := hs
      obtain ⟨k, hv⟩ := intOf?_ok e rl
      obtain ⟨k', hv'⟩ := intOf?_ok e' rh
      refine ⟨by omega, by omega, by omega, cap, by omega, by omega, fun _ => rfl, ?_⟩
      simp only [Instr.sliceBounds, Option.map_none, Option.map_some, hv, hv', Sem.run_bind, Sem.run_pure, Result.andThen_ok]
      rw [run_sliceBound_in (by omega) (by omega)]
      simp only [Result.andThen_ok]
      rw [run_sliceBound_in (by omega) (by omega)]
      simp
    · cases hs
  · split at hs
    · rename_i l' h' m' e e' e''; simp only [Option.some.injEq, Prod.mk.injEq] at hs; obtain ⟨rfl, rfl, rfl⟩ := hs
      obtain ⟨k, hv⟩ := intOf?_ok e rl
      obtain ⟨k', hv'⟩ := intOf?_ok e' rh
      obtain ⟨k'', hv''⟩ := intOf?_ok e'' rm
      refine ⟨by omega, by omega, by omega, m'.toNat, by omega, by omega, by simp, ?_⟩
      simp only [Instr.sliceBounds, Option.map_some, hv, hv', hv'', Sem.run_bind, Sem.run_pure, Result.andThen_ok]
      rw [run_sliceBound_in (by omega) (by omega)]
      simp only [Result.andThen_ok]
      rw [run_sliceBound_in (by omega) (by omega)]
      simp only [Result.andThen_ok]
      rw [run_sliceBound_in (by omega) (by omega)]
      simp
    · cases hs

theorem strct_field {fs : List (Nat × Nat × Bool)} (hT : TbOk P T) {t s1 s2 : Nat} {z} (ht : T t = some ⟨.strct fs, s1, s2, z⟩) {f : Nat} {x} (hf : nth fs f = some x) :
    ∃ fields fd inf d, P.underlying t = some (.struct fields) ∧ fields[f]? = some fd ∧ fd.offset = x.1 ∧ P.info? fd.type = some inf ∧ inf.size = x.2.1 ∧ P.underlying fd.type = some d ∧ (match d with | .struct _ | .array _ _ => true | _ => false) = x.2.2 := by
  have hu := (hT _ _ ht).und
  simp only at hu
  obtain ⟨fields, h1, h2, h3⟩ := hu
  rw [nth_eq] at hf
  have hlt : f < fields.size := by rw [h2]; exact (List.getElem?_eq_some_iff.1 hf).1
  have hfd : fields[f]? = some fields[f] := by simp [hlt]
  obtain ⟨e1, inf, d, e2, e3, e4, e5⟩ := h3 f _ _ hfd hf
  exact ⟨fields, fields[f], inf, d, h1, hfd, e1, e2, e3, e4, e5⟩

theorem run_builtin1 {ρ : Operand → Value} {b : Builtin} {x : Operand} {ts : Array TypeId} {dst : Option Tmp} {ty : TypeId} {pos : String} {after : Array Edge} {guard : Option (Nat × Bool)} {r : Result Value}
    (hb : b = .len) (h : (Builtin.len_ ts ty #[ρ x]).run P w = r) :
    (execOp ρ ⟨dst, .call ⟨.builtin b, #[x], ts⟩, ty, pos, after, guard⟩).run P w = r.andThen fun v w' => .ok (.value v) w' := by
  subst hb
  simp [execOp, resolve, invoke, Go.builtin, h]
theorem run_builtin_min {ρ : Operand → Value} {x y : Operand} {ts : Array TypeId} {dst : Option Tmp} {ty : TypeId} {pos : String} {after : Array Edge} {guard : Option (Nat × Bool)} {r : Result Value}
    (h : (Builtin.min_ ts ty #[ρ x, ρ y]).run P w = r) :
    (execOp ρ ⟨dst, .call ⟨.builtin .min, #[x, y], ts⟩, ty, pos, after, guard⟩).run P w = r.andThen fun v w' => .ok (.value v) w' := by
  simp [execOp, resolve, invoke, Go.builtin, h]
theorem run_builtin_max {ρ : Operand → Value} {x y : Operand} {ts : Array TypeId} {dst : Option Tmp} {ty : TypeId} {pos : String} {after : Array Edge} {guard : Option (Nat × Bool)} {r : Result Value}
    (h : (Builtin.max_ ts ty #[ρ x, ρ y]).run P w = r) :
    (execOp ρ ⟨dst, .call ⟨.builtin .max, #[x, y], ts⟩, ty, pos, after, guard⟩).run P w = r.andThen fun v w' => .ok (.value v) w' := by
  simp [execOp, resolve, invoke, Go.builtin, h]
end
end Go.Mt

/-
  Mt, part G: 'pure_ok'.
-/
set_option linter.unusedSimpArgs false
set_option linter.unusedVariables false
namespace Go.Mt
open Go.RowKit
section
variable {P : Program} {T : Tb} {w : World} {M : Mem} {B : Nat} {W : World} {H : Nat → Option HB}

theorem TyOk.some_und {t : TypeId} {i : TI} (h : TyOk P t i) : ∃ d, P.underlying t = some d := by
  have hu := h.und
  cases hkk : i.kind <;> rw [hkk] at hu <;> simp only at hu
  case strct => obtain ⟨f, hf, _⟩ := hu; exact ⟨_, hf⟩
  case other => cases hd : P.underlying t with
    | none => simp [hd] at hu
    | some d => exact ⟨d, rfl⟩
  case slc => exact ⟨_, hu.1⟩
  case arr => exact ⟨_, hu.1⟩
  all_goals exact ⟨_, hu⟩

theorem run_len_string {t ty : TypeId} (hu : P.underlying t = some .string) (s : ByteArray) : (Builtin.len_ #[t] ty #[.string s]).run P w = .ok (.int .i64 s.size) w := by
  simp [Builtin.len_, run_underlying hu, goInt]

theorem arr_get (us : Array Value) (i : Nat) (h : i < us.size) : ∃ u, us[i]? = some u := ⟨us[i], Array.getElem?_eq_getElem h⟩

def aggT : TypeDesc → Bool
  | .struct _ | .array _ _ => true
  | _ => false
theorem run_part1 {e : TypeId} {d : TypeDesc} (hu : P.underlying e = some d) (hd : aggT d = false) {xs : Array Value} {off : Nat} {v : Value} (hx : xs[off]? = some v) : (part e xs off).run P w = .ok v w := by
  have hi : (Go.isAgg e).run P w = .ok false w := by
    unfold Go.isAgg
    simp only [Sem.run_bind, run_underlying hu, Result.andThen_ok]
    cases d <;> first | rfl | (cases hd)
  simp [part, hi, hx]
theorem RCs.cell {M : Mem} {xs : List C} {c : C} {us : List Value} (h : RCs M (c :: xs) us) : ∃ u us', us = u :: us' ∧ RC M c u ∧ RCs M xs us' := by
  cases us with
  | nil => have := h.1; simp at this
  | cons u us => exact ⟨u, us, rfl, h.2 0 c u rfl rfl, by simpa using h.1, fun j c u' a b => h.2 (j + 1) c u' (by simpa using a) (by simpa using b)⟩
theorem eqFields_ok {M : Mem} (d : Nat) {us vs : Array Value} : ∀ {zs xs ys : List C} {j : Nat} {fs : List Field} {r : Bool}, eqFld P j zs fs = true → eqCs zs xs ys = some r → RCs M xs (us.toList.drop j) → RCs M ys (vs.toList.drop j) → (Op.eqFields (d + 1) us vs fs).run P w = .ok r w := by
  have arr : ∀ {us : Array Value} {j : Nat} {u : Value} {l : List Value}, us.toList.drop j = u :: l → us[j]? = some u ∧ us.toList.drop (j + 1) = l := by
    intro us j u l h
    refine ⟨?_, ?_⟩
    · have := congrArg (fun l => l[0]?) h
      simpa using this
    · have := congrArg List.tail h
      simpa [List.tail_drop] using this
  have key : ∀ {f : Field} {fs : List Field} {zs : List C} {a b : Value} {x y : Bool} {xs ys : List C} {ty : TypeDesc} {j : Nat}, P.underlying f.type = some ty → aggT ty = false → f.offset = j → f.name ≠ "_" →
      RCs M (.pv (.val a) :: xs) (us.toList.drop j) → RCs M (.pv (.val b) :: ys) (vs.toList.drop j) → (Op.equalIn (d + 1) f.type a b).run P w = .ok x w →
      (RCs M xs (us.toList.drop (j + 1)) → RCs M ys (vs.toList.drop (j + 1)) → (Op.eqFields (d + 1) us vs fs).run P w = .ok y w) → (Op.eqFields (d + 1) us vs (f :: fs)).run P w = .ok (x && y) w := by
    intro f fs zs a b x y xs ys ty j e1 e2 e3 e4 h3 h4 e7 ih
    obtain ⟨u, us', g1, g2, g3⟩ := h3.cell
    obtain ⟨v, vs', k1, k2, k3⟩ := h4.cell
    obtain ⟨g4, g5⟩ := arr g1
    obtain ⟨k4, k5⟩ := arr k1
    have hu : u = a := by cases g2 with | pv r => exact r.val_eq
    have hv : v = b := by cases k2 with | pv r => exact r.val_eq
    subst hu hv
    have hi := ih (by rw [g5]; exact g3) (by rw [k5]; exact k3)
    rw [← e3] at g4 k4
    have p1 := run_part1 (w := w) e1 e2 g4
    have p2 := run_part1 (w := w) e1 e2 k4
    simp only [Op.eqFields, if_pos e4, Sem.run_bind, p1, p2, Result.andThen_ok, e7]
    cases x with
    | true => simpa using hi
    | false => simp
  intro zs
  induction zs with
  | nil =>
    intro xs ys j fs r h1 h2 h3 h4
    cases fs with
    | cons => simp [eqFld] at h1
    | nil =>
      match xs, ys, h2 with
      | [], [], h2 => cases h2; simp [Op.eqFields]
  | cons z zs ih =>
    intro xs ys j fs r h1 h2 h3 h4
    cases fs with
    | nil =>
      exfalso
      unfold eqFld at h1
      split at h1 <;> simp_all
    | cons f fs =>
      unfold eqFld at h1
      split at h1
      · rename_i h _; cases h
      · rename_i j' k' n zs' f' fs' hz hf
        cases hz; cases hf
        simp only [Bool.and_eq_true, Nat.beq_eq, decide_eq_true_eq] at h1
        obtain ⟨⟨⟨q1, q2⟩, q3⟩, q4⟩ := h1
        unfold eqCs at h2
        split at h2
        · rename_i hq1 hq2 hq3; first | (cases hq1; done) | (cases hq2; done) | (cases hq3; done)
        · rename_i k a xs' k2 b ys' hz
          cases hz
          split at h2
          · rename_i r' hk hr'; cases h2
            have := ikeq_eq hk; subst this
            split at q3
            · rename_i k'' hu
              have h7 : (Op.equalIn (d + 1) f.type (.int k a) (.int k b)).run P w = .ok (decide (a = b)) w := by
                rw [run_equalIn_int w d f.type k k'' a b hu]; congr 1
              exact key (zs := zs) hu rfl q1 q2 h3 h4 h7 (fun a1 a2 => ih q4 hr' a1 a2)
            · cases q3
          · cases h2
        · rename_i h; cases h
        · rename_i h; cases h
        · cases h2
      · rename_i j' n zs' f' fs' hz hf
        cases hz; cases hf
        simp only [Bool.and_eq_true, Nat.beq_eq, decide_eq_true_eq] at h1
        obtain ⟨⟨⟨q1, q2⟩, q3⟩, q4⟩ := h1
        unfold eqCs at h2
        split at h2
        · rename_i hq1 hq2 hq3; first | (cases hq1; done) | (cases hq2; done) | (cases hq3; done)
        · rename_i h; cases h
        · rename_i a xs' b ys' hz
          cases hz
          split at h2
          · rename_i r' hr'; cases h2
            split at q3
            · rename_i hu
              have h7 : (Op.equalIn (d + 1) f.type (.bool a) (.bool b)).run P w = .ok (decide (a = b)) w := by
                rw [run_equalIn_bool' w d f.type a b hu]; congr 1
              exact key (zs := zs) hu rfl q1 q2 h3 h4 h7 (fun a1 a2 => ih q4 hr' a1 a2)
            · cases q3
          · cases h2
        · rename_i h; cases h
        · cases h2
      · rename_i j' n zs' f' fs' hz hf
        cases hz; cases hf
        simp only [Bool.and_eq_true, Nat.beq_eq, decide_eq_true_eq] at h1
        obtain ⟨⟨⟨q1, q2⟩, q3⟩, q4⟩ := h1
        unfold eqCs at h2
        split at h2
        · rename_i hq1 hq2 hq3; first | (cases hq1; done) | (cases hq2; done) | (cases hq3; done)
        · rename_i h; cases h
        · rename_i h; cases h
        · rename_i a xs' b ys' hz
          cases hz
          split at h2
          · rename_i r' hr'; cases h2
            split at q3
            · rename_i hu
              have h7 : (Op.equalIn (d + 1) f.type (.string ⟨⟨a⟩⟩) (.string ⟨⟨b⟩⟩)).run P w = .ok (decide (a = b)) w := by
                rw [run_equalIn_string w d f.type _ _ hu, ByteArray.toList_eq, ByteArray.toList_eq]; congr 1; rw [Bool.eq_iff_iff]; simp
              exact key (zs := zs) hu rfl q1 q2 h3 h4 h7 (fun a1 a2 => ih q4 hr' a1 a2)
            · cases q3
          · cases h2
        · cases h2
      · cases h1

theorem eqItems_ok {M : Mem} (d : Nat) {e : TypeId} {k' : IntKind} (he : P.underlying e = some (.int k')) {us vs : Array Value} : ∀ {zs xs ys : List C} {j : Nat} {r : Bool}, allI zs = true → eqCs zs xs ys = some r → RCs M xs (us.toList.drop j) → RCs M ys (vs.toList.drop j) → (Op.eqItems (d + 1) e 1 us vs (List.range' j zs.length)).run P w = .ok r w := by
  have arr : ∀ {us : Array Value} {j : Nat} {u : Value} {l : List Value}, us.toList.drop j = u :: l → us[j]? = some u ∧ us.toList.drop (j + 1) = l := by
    intro us j u l h
    refine ⟨?_, ?_⟩
    · have := congrArg (fun l => l[0]?) h
      simpa using this
    · have := congrArg List.tail h
      simpa [List.tail_drop] using this
  intro zs
  induction zs with
  | nil =>
    intro xs ys j r h1 h2 h3 h4
    match xs, ys, h2 with
    | [], [], h2 => cases h2; simp [Op.eqItems]
  | cons z zs ih =>
    intro xs ys j r h1 h2 h3 h4
    unfold allI at h1
    split at h1
    · rename_i h; cases h
    · rename_i kz nz zs' hz
      cases hz
      unfold eqCs at h2
      split at h2
      · rename_i hq1 hq2 hq3; first | (cases hq1; done) | (cases hq2; done) | (cases hq3; done)
      · rename_i k a xs' k2 b ys' hz
        cases hz
        split at h2
        · rename_i r' hk hr'; cases h2
          have := ikeq_eq hk; subst this
          obtain ⟨u, us', g1, g2, g3⟩ := h3.cell
          obtain ⟨v, vs', k1, k2, k3⟩ := h4.cell
          obtain ⟨g4, g5⟩ := arr g1
          obtain ⟨k4, k5⟩ := arr k1
          have hu : u = .int k a := by cases g2 with | pv r => exact r.val_eq
          have hv : v = .int k b := by cases k2 with | pv r => exact r.val_eq
          subst hu hv
          have hi := ih (j := j + 1) h1 hr' (by rw [g5]; exact g3) (by rw [k5]; exact k3)
          have p1 := run_part1 (w := w) he rfl g4
          have p2 := run_part1 (w := w) he rfl k4
          have h7 : (Op.equalIn (d + 1) e (.int k a) (.int k b)).run P w = .ok (decide (a = b)) w := by
            rw [run_equalIn_int w d e k k' a b he]; congr 1
          simp only [List.length_cons, List.range'_succ, Op.eqItems, Nat.mul_one, Sem.run_bind, p1, p2, Result.andThen_ok, h7]
          by_cases hab : a = b
          · simp [hab]; simpa using hi
          · simp [hab]
        · cases h2
      · rename_i h; cases h
      · rename_i h; cases h
      · cases h2
    · cases h1

theorem binT_ok (hT : TbOk P T) {t : TypeId} {op : BinOp} {M : Mem} {xa ya : A} {xv yv : Value} (hx : RA M xa xv) (hy : RA M ya yv) {x : A} {ob : Prop} (h : binT T t op xa ya = some (x, ob)) (hob : ob) (ox oy : Operand) :
    ∃ v, x = .c (.pv (.val v)) ∧ v.oneCell' = true ∧ (do eqGuard op t ox oy xv yv; Go.binOp op t xv yv : Sem Value).run P w = .ok v w := by
  unfold binT at h
  split at h
  · rename_i a b
    have ex := hx.val_inv; have ey := hy.val_inv
    subst ex ey
    split at h
    · rename_i hk
      have hu := (hT _ _ hk).und
      simp only at hu
      have he : (Op.equal t (.bool a) (.bool b)).run P w = .ok (a == b) w := by
        show (Op.equalIn (9999 + 1) t (.bool a) (.bool b)).run P w = _
        rw [Op.equalIn]
        simp [run_underlying hu]
      rw [Sem.run_bind, run_eqGuard_plain _ _ _ _ _ _ rfl]
      simp only [Result.andThen_ok]
      split at h
      · simp only [Option.some.injEq, Prod.mk.injEq] at h; obtain ⟨rfl, rfl⟩ := h
        exact ⟨_, rfl, rfl, by cases a <;> cases b <;> simp [Go.binOp, he]⟩
      · simp only [Option.some.injEq, Prod.mk.injEq] at h; obtain ⟨rfl, rfl⟩ := h
        exact ⟨_, rfl, rfl, by cases a <;> cases b <;> simp [Go.binOp, he]⟩
      · cases h
    · cases h
  · rename_i xs ys
    split at h
    · rename_i i hi
      split at h
      · rename_i r hab hr
        have heq := (hT _ _ hi).eq hab
        unfold eqOk at heq
        split at heq
        · rename_i fields hu
          simp only [Bool.and_eq_true, Bool.not_eq_true'] at heq
          obtain ⟨⟨q1, q2⟩, q3⟩ := heq
          obtain ⟨us, rfl, hus⟩ : ∃ us, xv = .agg us ∧ RCs M xs us.toList := by cases hx with | g h => exact ⟨_, rfl, h⟩
          obtain ⟨vs, rfl, hvs⟩ : ∃ us, yv = .agg us ∧ RCs M ys us.toList := by cases hy with | g h => exact ⟨_, rfl, h⟩
          have hf : P.fieldsOf t = fields := by unfold Program.fieldsOf; rw [hu]
          have he : (Op.equalIn 10000 t (.agg us) (.agg vs)).run P w = .ok r w := by
            rw [show (10000 : Nat) = 9999 + 1 from rfl, run_equalIn_struct w 9999 t us vs (by rw [hf]; exact hu) q2, hf]
            exact eqFields_ok 9998 q1 hr (by simpa using hus) (by simpa using hvs)
          rw [Sem.run_bind, run_eqGuard_agg w op t ox oy us vs q3]
          simp only [Result.andThen_ok]
          split at h
          · simp only [Option.some.injEq, Prod.mk.injEq] at h; obtain ⟨rfl, rfl⟩ := h
            exact ⟨_, rfl, rfl, by rw [run_eql_struct, he]; rfl⟩
          · simp only [Option.some.injEq, Prod.mk.injEq] at h; obtain ⟨rfl, rfl⟩ := h
            exact ⟨_, rfl, rfl, by rw [run_neq_struct, he]; rfl⟩
          · cases h
        · rename_i n e hu
          simp only [Bool.and_eq_true, Bool.not_eq_true', Nat.beq_eq] at heq
          obtain ⟨⟨⟨⟨q1, q2⟩, q3⟩, q4⟩, q5⟩ := heq
          obtain ⟨us, rfl, hus⟩ : ∃ us, xv = .agg us ∧ RCs M xs us.toList := by cases hx with | g h => exact ⟨_, rfl, h⟩
          obtain ⟨vs, rfl, hvs⟩ : ∃ us, yv = .agg us ∧ RCs M ys us.toList := by cases hy with | g h => exact ⟨_, rfl, h⟩
          split at q3
          · rename_i k' hek
            split at q4
            · rename_i ie hie
              rw [Nat.beq_eq] at q4
              have hc : P.cellsOf e = 1 := by simp [Program.cellsOf, hie, q4]
              have he : (Op.equalIn 10000 t (.agg us) (.agg vs)).run P w = .ok r w := by
                rw [show (10000 : Nat) = 9999 + 1 from rfl, run_equalIn_array w 9999 us vs hu hie, hc, List.range_eq_range', q2]
                exact eqItems_ok 9998 hek q1 hr (by simpa using hus) (by simpa using hvs)
              rw [Sem.run_bind, run_eqGuard_agg w op t ox oy us vs q5]
              simp only [Result.andThen_ok]
              split at h
              · simp only [Option.some.injEq, Prod.mk.injEq] at h; obtain ⟨rfl, rfl⟩ := h
                exact ⟨_, rfl, rfl, by rw [run_eql_struct, he]; rfl⟩
              · simp only [Option.some.injEq, Prod.mk.injEq] at h; obtain ⟨rfl, rfl⟩ := h
                exact ⟨_, rfl, rfl, by rw [run_neq_struct, he]; rfl⟩
              · cases h
            · cases q4
          · cases q3
        · cases heq
      · cases h
    · cases h
  · cases h

theorem celB_get {l : List UInt8} : ∀ {m i j : Nat} {y : PV}, (celB l i m)[j]? = some y → j < m ∧ y = .val (.int .u8 (l.getD (i + j) 0).toNat) := by
  intro m
  induction m with
  | zero => intro i j y h; simp [celB] at h
  | succ m ih =>
    intro i j y h
    cases j with
    | zero => simp [celB] at h; exact ⟨by omega, by simp [← h]⟩
    | succ j =>
      obtain ⟨h1, h2⟩ := ih (i := i + 1) (by simpa [celB] using h)
      exact ⟨by omega, by rw [h2, show i + 1 + j = i + (j + 1) from by omega]⟩
set_option maxHeartbeats 1000000 in
theorem pure_ok (hT : TbOk P T) (hS : SatH B W H M w) {rd : Operand → Option A} {ρ : Operand → Value} (hr : ∀ o x, rd o = some x → RA M x (ρ o)) (hc : ∀ v, ρ (.const v) = v) {wm : Bool}
    {dst : Option Tmp} {op : Op} {ty : TypeId} {pos : String} {after : Array Edge} {guard : Option (Nat × Bool)} {x : A} {ob : Prop} (h : pureOp T H wm rd ty op = some (x, ob)) (hob : ob) :
    ∃ v, (execOp ρ ⟨dst, op, ty, pos, after, guard⟩).run P w = .ok (.value v) w ∧ RA M x v := by
  unfold pureOp at h
  split at h
  · -- move
    split at h
    · rename_i a ha; cases h
      exact ⟨_, by simp [execOp], rdT_ok hr hc ha⟩
    · cases h
  · -- assign
    split at h
    · rename_i a ha; cases h
      exact ⟨_, by simp [execOp], rdT_ok hr hc ha⟩
    · cases h
  · -- binOp
    split at h
    · rename_i a b ha hb
      split at h
      · rename_i r hr'; cases h
        obtain ⟨v, rfl, h1, h2⟩ := bin_ok (hr _ _ ha) (hr _ _ hb) hr' hob _ _ _
        exact ⟨v, by simp only [execOp, Sem.run_bind] at h2 ⊢; rw [h2]; rfl, .c (.pv (.val h1))⟩
      · obtain ⟨v, rfl, h1, h2⟩ := binT_ok hT (hr _ _ ha) (hr _ _ hb) h hob _ _
        exact ⟨v, by simp only [execOp, Sem.run_bind] at h2 ⊢; rw [h2]; rfl, .c (.pv (.val h1))⟩
    · cases h
  · -- unOp
    split at h
    · rename_i b hb; cases h
      have := (hr _ _ hb).val_inv
      exact ⟨.bool (!b), by simp [execOp, this, Op.unary], .c (.pv (.val rfl))⟩
    · cases h
  · -- convert
    split at h
    · rename_i e _ s1 s2 z a hk ha
      split at h
      · rename_i s3 s4 z' he
        have hu := (hT _ _ hk).und
        simp only at hu
        obtain ⟨u, h1, h2⟩ := cnvB_ok hT hS (hr _ _ ha) h hob hu.1 ((hT _ _ he).und)
        exact ⟨u, by simp [execOp, h1], h2⟩
      · cases h
    · rename_i i a _ hk ha
      have hd := (hT _ _ hk).some_und
      obtain ⟨u, h1, h2⟩ := cnv_ok hT (hr _ _ ha) h hob hd
      exact ⟨u, by simp only [execOp, Sem.run_bind]; rw [h1]; rfl, h2⟩
    · cases h
  · -- extract
    split at h
    · rename_i xs hx
      split at h
      · rename_i a ha; cases h
        rw [nth_eq] at ha
        have h1 := hr _ _ hx
        generalize hρ : ρ _ = v at h1
        cases h1 with
        | t hs hh =>
          rename_i us
          have hlt := (List.getElem?_eq_some_iff.1 ha).1
          obtain ⟨u, hu⟩ := arr_get us _ (by rw [hs]; exact hlt)
          exact ⟨u, by simp [execOp, hρ, Instr.extract, hu], hh _ _ _ ha hu⟩
      · cases h
    · cases h
  · -- field
    split at h
    · rename_i fs s1 s2 z cs hk hx
      have h1 := hr _ _ hx
      generalize hρ : ρ _ = v at h1
      cases h1 with
      | g hg =>
        rename_i us
        split at h
        · rename_i off size hf; cases h
          obtain ⟨fields, fd, inf, d, e1, e2, e3, e4, e5, e6, e7⟩ := strct_field hT hk hf
          simp only at e3 e5 e7
          refine ⟨.agg (us.extract off (off + size)), ?_, .g ?_⟩
          · simp only [execOp, hρ, Instr.field, Sem.run_bind, run_underlying e1, Result.andThen_ok, e2]
            simp only [asAgg, part, Go.isAgg, Sem.run_bind, Sem.run_pure, Result.andThen_ok, run_underlying e6]
            cases d <;> simp at e7 <;> simp [Go.sizeOf, run_typeInfo e4, e3, e5]
          · refine ⟨?_, fun j c u h1 h2 => ?_⟩
            · have := hg.1
              simp [tke_eq, drp_eq] at this ⊢; omega
            · rw [tke_eq, drp_eq, List.getElem?_take] at h1
              split at h1
              · rename_i hj
                rw [List.getElem?_drop] at h1
                refine hg.2 _ c u h1 ?_
                simp only [Array.toList_extract, List.extract_eq_take_drop] at h2
                rw [List.getElem?_take, if_pos (by omega), List.getElem?_drop] at h2
                exact h2
              · cases h1
        · rename_i off size hf
          split at h
          · rename_i c rest hd; cases h
            obtain ⟨fields, fd, inf, d, e1, e2, e3, e4, e5, e6, e7⟩ := strct_field hT hk hf
            simp only at e3 e5 e7
            rw [drp_eq] at hd
            have hc0 : cs[off]? = some c := by
              have : (cs.drop off)[0]? = some c := by rw [hd]; rfl
              simpa [List.getElem?_drop] using this
            have hlt := (List.getElem?_eq_some_iff.1 hc0).1
            obtain ⟨u, hu⟩ := arr_get us off (by have := hg.1; simp at this; omega)
            refine ⟨u, ?_, .c (hg.2 off c _ hc0 (by simpa using hu))⟩
            simp only [execOp, hρ, Instr.field, Sem.run_bind, run_underlying e1, Result.andThen_ok, e2]
            simp only [asAgg, part, Go.isAgg, Sem.run_bind, Sem.run_pure, Result.andThen_ok, run_underlying e6]
            cases d <;> simp at e7 <;> simp [e3, hu]
          · cases h
        · cases h
    · cases h
  · -- fieldAddr
    rename_i sT xo fi
    split at h
    · rename_i fs s1 s2 z hk
      split at h
      · rename_i off size bb hf
        obtain ⟨fields, fd, inf, d, e1, e2, e3, e4, e5, e6, e7⟩ := strct_field hT hk hf
        simp only at e3 e5 e7
        have main : Nat.ble 1 size = true → ∀ b o, ρ xo = .pointer (some ⟨b, o, none⟩) → (execOp ρ ⟨dst, .fieldAddr sT xo fi, ty, pos, after, guard⟩).run P w = .ok (.value (.pointer (some ⟨b, o + off, none⟩))) w := by
          intro hb b o hv
          rw [Nat.ble_eq] at hb
          have hs : inf.size ≠ 0 := by omega
          simp [execOp, Instr.fieldAt, run_underlying e1, e2, hv, Instr.sureAddr, fieldPlace, Go.sizeOf, run_typeInfo e4, hs, Addr.add_lit, e3]
        split at h
        · rename_i n b o hb hx; cases h
          exact ⟨_, main hb _ _ (hr _ _ hx).ptr_inv, .c .ptr⟩
        · rename_i cs hb hx; cases h
          obtain ⟨b, o, hv, hcell⟩ := (hr _ _ hx).cel_inv
          refine ⟨_, main hb _ _ hv, RA.cel_mk fun j y hj => ?_⟩
          rw [drp_eq, List.getElem?_drop] at hj
          have := hcell _ _ hj
          rwa [← Nat.add_assoc] at this
        · rename_i n u i sz o hb hx; cases h
          refine ⟨_, main hb _ _ (hr _ _ hx).oel_inv, ?_⟩
          rw [Nat.add_assoc]
          exact .c .oel
        · cases h
      · cases h
    · cases h
  · -- indexAddr
    split at h
    · rename_i e k' s1 s2 z k l kk i hk hx hi
      split at h
      · rename_i hb; cases h
        rw [Nat.beq_eq] at hb
        have hu := (hT _ _ hk).und
        simp only at hu
        obtain ⟨hu, inf, hinf, hsz⟩ := hu
        have hiv := (hr _ _ hi).val_inv
        have h1 := hr _ _ hx
        generalize hρ : ρ _ = v at h1
        cases h1 with | c h1 => cases h1 with | pv h1 =>
        obtain ⟨a, c, b, o, rfl, g1, g2, g3, g4, g5⟩ := h1.lst_inv
        have hlt : i.toNat < l.length := by omega
        have := g3 (by intro e; subst e; simp at hlt); subst this
        refine ⟨.pointer (some ⟨b, o + i.toNat * k.sz, none⟩), ?_, RA.cel_mk fun j y hj => ?_⟩
        · simp [execOp, Instr.indexAt, hρ, hiv, asIntOf, run_underlying hu, hob.1, hob.2, Go.sizeOf, run_typeInfo hinf, hsz, hb, Addr.add_lit]
        · rw [List.getD, List.getElem?_eq_getElem hlt] at hj
          exact g5 _ _ _ _ (List.getElem?_eq_getElem hlt) hj
      · cases h
    · rename_i e k' s1 s2 z n u kk i hk hx hi
      split at h
      · rename_i v' ty' k l hn
        split at h
        · rename_i hb; cases h
          rw [Nat.beq_eq] at hb
          obtain ⟨rfl, ho1, ho2⟩ := hob
          have hu := (hT _ _ hk).und
          simp only at hu
          obtain ⟨hu, inf, hinf, hsz⟩ := hu
          have hiv := (hr _ _ hi).val_inv
          have hxv := (hr _ _ hx).own_inv
          rcases hS.ok _ _ hn with ⟨rfl, rfl⟩ | ⟨b, cap, us, rfl, h1, h2, h3, h4, h5, h6, h7⟩
          · simp at ho2; omega
          · refine ⟨.pointer (some ⟨b, i.toNat * k.sz, none⟩), ?_, ?_⟩
            · simp [execOp, Instr.indexAt, hxv, hiv, asIntOf, run_underlying hu, ho1, ho2, Go.sizeOf, run_typeInfo hinf, hsz, hb, Addr.add_lit]
            · exact .c (.oel (M := M) (v := .slice (some ⟨b, 0, none⟩) l.length cap) (o := 0))
        · cases h
      · cases h
    · cases h
  · -- load
    split at h
    · rename_i n b o hx
      split at h
      · rename_i b' ty' cs hn
        split at h
        · rename_i a ha; cases h
          subst hob
          obtain ⟨h1, h2, us, h3, h4⟩ := hS.ok _ _ hn
          obtain ⟨v, g1, g2⟩ := ldA_ok (w := w) (M := M) (b := b) (o := o) hT ha (fun j c hj => by
            rw [drp_eq, List.getElem?_drop] at hj
            have hlt := (List.getElem?_eq_some_iff.1 hj).1
            obtain ⟨u, hu⟩ := arr_get us (o + j) (by have := h4.1; simp at this; omega)
            exact ⟨u, by simp [World.cell?, h3, hu], h4.2 _ c _ hj (by simpa using hu)⟩)
          exact ⟨v, by simp [execOp, Instr.loadAt, (hr _ _ hx).ptr_inv, Instr.sureAddr, g1], g2⟩
        · cases h
      · rename_i v' ty' l hn
        split at h
        · rename_i N e s1 s2 z hk
          split at h
          · rename_i a hN ha; cases h
            obtain ⟨rfl, hlen⟩ := hob
            simp only [Bool.and_eq_true, Nat.beq_eq, Nat.ble_eq] at hN
            obtain ⟨rfl, hN⟩ := hN
            rcases hS.ok _ _ hn with ⟨rfl, rfl⟩ | ⟨b, cap, us, rfl, h1, h2, h3, h4, h5, h6, h7⟩
            · simp at hlen; omega
            · obtain ⟨v, g1, g2⟩ := ldA_ok (w := w) (M := M) (b := b) (o := 0) hT ha (fun j c hj => by
                rw [List.getElem?_map] at hj
                cases hy : (celB l 0 N)[j]? with
                | none => rw [hy] at hj; cases hj
                | some y =>
                  rw [hy] at hj; cases hj
                  obtain ⟨hjN, rfl⟩ := celB_get hy
                  have hjl : j < l.length := by omega
                  obtain ⟨u, hu, hru⟩ := h7 j l[j] 0 (.val (.int .u8 (l[j]).toNat)) (List.getElem?_eq_getElem hjl) rfl
                  simp only [LK.sz, Nat.mul_one, Nat.add_zero] at hu
                  refine ⟨u, by simp [World.cell?, h3, hu], .pv ?_⟩
                  simpa [List.getD, List.getElem?_eq_getElem hjl] using hru)
              exact ⟨v, by simp [execOp, Instr.loadAt, (hr _ _ hx).ptr_inv, Instr.sureAddr, Value.blk, Value.ownBlock, g1], g2⟩
          · cases h
        · cases h
      · cases h
    · rename_i cs hx
      split at h
      · rename_i a ha; cases h
        obtain ⟨b, o, hv, hcell⟩ := (hr _ _ hx).cel_inv
        obtain ⟨v, g1, g2⟩ := ldA_ok (w := w) (M := M) (b := b) (o := o) hT ha (fun j c hj => by
          rw [List.getElem?_map] at hj
          cases hy : cs[j]? with
          | none => simp [hy] at hj
          | some y =>
            simp [hy] at hj; subst hj
            obtain ⟨u, hu, hru⟩ := hcell j y hy
            exact ⟨u, Mem.cell_on hS.mem hu, .pv hru⟩)
        exact ⟨v, by simp [execOp, Instr.loadAt, hv, Instr.sureAddr, g1], g2⟩
      · cases h
    · rename_i n u i sz o hx
      split at h
      · rename_i v' ty' k l hn
        split at h
        · rename_i a ha; cases h
          obtain ⟨⟨rfl, rfl⟩, hlt⟩ := hob
          rcases hS.ok _ _ hn with ⟨rfl, rfl⟩ | ⟨b, cap, us, rfl, h1, h2, h3, h4, h5, h6, h7⟩
          · simp at hlt
          · obtain ⟨v, g1, g2⟩ := ldA_ok (w := w) (M := M) (b := b) (o := i * k.sz + o) hT ha (fun j c hj => by
              rw [drp_eq, List.getElem?_map, List.getElem?_drop] at hj
              cases hy : (k.enc (l.getD i k.dft))[o + j]? with
              | none => rw [hy] at hj; cases hj
              | some y =>
                rw [hy] at hj; simp at hj; subst hj
                rw [List.getD, List.getElem?_eq_getElem hlt] at hy
                obtain ⟨u, hu, hru⟩ := h7 i l[i] (o + j) y (List.getElem?_eq_getElem hlt) hy
                exact ⟨u, by simp [World.cell?, h3, Nat.add_assoc, hu], .pv hru⟩)
            exact ⟨v, by simp [execOp, Instr.loadAt, (hr _ _ hx).oel_inv, Instr.sureAddr, Value.blk, Value.ownBlock, g1], g2⟩
        · cases h
      · cases h
    · cases h
  · -- slice
    split at h
    · rename_i k l lo hi mx hx hlo hhi hmx
      split at h
      · rename_i e k' s1 s2 z hk
        split at h
        · rename_i lo' hi' ob' hb hs; cases h
          rw [Nat.beq_eq] at hb
          have hu := (hT _ _ hk).und
          simp only at hu
          obtain ⟨hu, inf, hinf, hsz⟩ := hu
          have h1 := hr _ _ hx
          generalize hρ : ρ _ = v at h1
          cases h1 with | c h1 => cases h1 with | pv h1 =>
          obtain ⟨a, c, b, o, rfl, g1, g2, g3, g4, g5⟩ := h1.lst_inv
          obtain ⟨q1, q2, q3, m, q4, q5, _, q6⟩ := subR_ok (P := P) (w := w) hr hlo hhi hmx hs hob (sl := true) g1
          have hlen : (((l.take hi'.toNat).drop lo'.toNat)).length = hi'.toNat - lo'.toNat := by simp; omega
          refine ⟨.slice (if m = lo'.toNat then a else a.map (·.add (lo'.toNat * inf.size))) (hi'.toNat - lo'.toNat) (m - lo'.toNat), ?_, ?_⟩
          · simp [execOp, Instr.sliceAt, hρ, run_underlying hu, Instr.slice, q6, Go.sizeOf, run_typeInfo hinf]
          · refine .c (.pv (R.lst_mk (b := b) (o := o + lo'.toNat * k.sz) hlen (by omega) (by omega) ?_ ?_ ?_))
            · intro hne
              have hne' : l ≠ [] := by intro e; subst e; simp at hne
              have hlt : lo'.toNat < hi'.toNat := by
                rcases Nat.lt_or_ge lo'.toNat hi'.toNat with h | h
                · exact h
                · exact absurd (List.length_eq_zero_iff.1 (by rw [hlen]; omega)) hne
              rw [if_neg (by omega), g3 hne']
              simp [Addr.add_lit, hsz, hb]
            · intro hnone
              split at hnone
              · rename_i e; omega
              · cases a with
                | none => have := g4 rfl; omega
                | some a => simp at hnone
            · intro i x j y e1 e2
              rw [List.getElem?_drop, List.getElem?_take] at e1
              split at e1
              · obtain ⟨u, hu, hru⟩ := g5 _ x j y e1 e2
                refine ⟨u, ?_, hru⟩
                rw [← hu]; congr 1; rw [Nat.add_mul]; omega
              · cases e1
        · cases h
      · cases h
    · rename_i l lo hi hx hlo hhi hmx
      split at h
      · rename_i s1 s2 z hk
        split at h
        · rename_i lo' hi' ob' hs; cases h
          have hu := (hT _ _ hk).und
          simp only at hu
          have hv := (hr _ _ hx).val_inv
          rename_i mx0 _ _ _ _ _
          rcases optA_ok hr hmx with ⟨rfl, _⟩ | ⟨_, _, _, e, _⟩
          · obtain ⟨q1, q2, q3, m, q4, q5, q7, q6⟩ := subR_ok (P := P) (w := w) hr hlo hhi (omx := none) rfl hs hob (sl := false) (Nat.le_refl _)
            refine ⟨.string ⟨((l.take hi'.toNat).drop lo'.toNat).toArray⟩, ?_, .c (.pv (.val rfl))⟩
            have hsize : (ByteArray.mk ⟨l⟩).size = l.length := rfl
            have hext : (ByteArray.mk ⟨l⟩).extract lo'.toNat hi'.toNat = ⟨((l.take hi'.toNat).drop lo'.toNat).toArray⟩ := by
              apply ByteArray.ext
              rw [ByteArray.data_extract]
              apply Array.ext'
              simp [List.extract_eq_take_drop, List.drop_take]
            simp only [Option.map_none] at q6
            simp [execOp, Instr.sliceAt, hv, run_underlying hu, Instr.slice, hsize, q6, hext]
          · cases e
        · cases h
      · cases h
    · cases h
  · -- build
    rename_i bt bps
    split at h
    · rename_i fs s1 s2 z hk
      split at h
      · rename_i ps hps
        split at h
        · rename_i cs hno hf; cases h
          obtain ⟨inf, zv, i1, i2, i3, i4, i5, i6⟩ := (hT _ _ hk).info
          have hu := (hT _ _ hk).und
          simp only at hu
          obtain ⟨fields, u1, u2, u3⟩ := hu
          let places : Array (Nat × Nat) := (fs.map fun x => (x.1, x.2.1)).toArray
          have hpl : ∀ (i : Nat) x, fs[i]? = some x → places[i]? = some (x.1, x.2.1) := by
            intro i x hx; simp [places, hx]
          have hmap : (fields.mapM fun f => do pure (f.offset, ← Go.sizeOf f.type) : Sem (Array (Nat × Nat))).run P w = .ok places w := by
            have gen : ∀ (fl : List Field) (xl : List (Nat × Nat × Bool)), fl.length = xl.length → (∀ (j : Nat) f x, fl[j]? = some f → xl[j]? = some x → f.offset = x.1 ∧ ∃ inf, P.info? f.type = some inf ∧ inf.size = x.2.1) →
                (fl.mapM fun f => do pure (f.offset, ← Go.sizeOf f.type) : Sem (List (Nat × Nat))).run P w = .ok (xl.map fun x => (x.1, x.2.1)) w := by
              intro fl
              induction fl with
              | nil => intro xl hl _; cases xl <;> simp at hl; simp
              | cons f fl ih =>
                intro xl hl hh
                cases xl with
                | nil => simp at hl
                | cons x xl =>
                  obtain ⟨e1, inf, e2, e3⟩ := hh 0 f x rfl rfl
                  have := ih xl (by simpa using hl) (fun j f x a b => hh (j + 1) f x (by simpa using a) (by simpa using b))
                  have hs : (Go.sizeOf f.type).run P w = .ok inf.size w := by simp [Go.sizeOf, run_typeInfo e2]
                  rw [List.mapM_cons]
                  simp only [Sem.run_bind]
                  rw [hs]
                  simp only [Result.andThen_ok, Sem.run_pure]
                  rw [this]
                  simp [e1, e3]
            have := gen fields.toList fs (by simpa using u2) (fun j f x a b => by
              obtain ⟨e1, inf, d, e2, e3, _⟩ := u3 j f x (by simpa using a) b
              exact ⟨e1, inf, e2, e3⟩)
            rw [Array.mapM_eq_mapM_toList, Sem.run_map, this]
            rfl
          obtain ⟨hp1, hp2⟩ := rdParts_ok (T := T) hr _ _ hps
          obtain ⟨us', k1, k2⟩ := fillC_ok hpl _ _ z cs zv.cells (i6 M) ⟨hp1, hp2⟩ hf
          refine ⟨.agg us', ?_, .g k2⟩
          have hzero : (zeroValue bt).run P w = .ok zv w := by simp [zeroValue, run_typeInfo i1, i4]
          simp only [execOp, Instr.build, Sem.run_bind, hzero, Result.andThen_ok, run_underlying u1, hmap]
          simp only [List.map_toArray]
          rw [k1]
          rfl
        · cases h
      · cases h
    · cases h
  · -- len
    split at h
    · rename_i l hx
      split at h
      · rename_i s1 s2 z hk; cases h
        have hu := (hT _ _ hk).und
        simp only at hu
        have hv := (hr _ _ hx).val_inv
        refine ⟨.int .i64 l.length, ?_, .c (.pv (.val rfl))⟩
        rw [run_builtin1 rfl (r := .ok (.int .i64 l.length) w)]
        · rfl
        · rw [hv]; exact run_len_string hu _
      · cases h
    · rename_i a _ hx
      split at h
      · rename_i k l ob' e k' s1 s2 z hl hk; cases h
        have hu := (hT _ _ hk).und
        simp only at hu
        obtain ⟨ad, c, b, o, hv, _⟩ := lkOf_ok hS (hr _ _ hx) hl hob
        refine ⟨.int .i64 l.length, ?_, .c (.pv (.val rfl))⟩
        rw [run_builtin1 rfl (r := .ok (.int .i64 l.length) w)]
        · rfl
        · simp [Builtin.len_, hv, run_underlying hu.1, goInt]
      · cases h
    · cases h
  · -- min
    split at h
    · rename_i k a k' b ha hb
      split at h
      · rename_i hk; cases h
        have e1 := (hr _ _ ha).val_inv
        have e2 := (hr _ _ hb).val_inv
        refine ⟨.int k (min a b), ?_, .c (.pv (.val rfl))⟩
        rw [run_builtin_min (r := .ok (.int k (min a b)) w)]
        · rfl
        · have : (if b < a then b else a) = min a b := by omega
          simp [Builtin.min_, e1, e2, Builtin.min2, this]
      · cases h
    · cases h
  · -- max
    split at h
    · rename_i k a k' b ha hb
      split at h
      · rename_i hk; cases h
        have e1 := (hr _ _ ha).val_inv
        have e2 := (hr _ _ hb).val_inv
        refine ⟨.int k (max a b), ?_, .c (.pv (.val rfl))⟩
        rw [run_builtin_max (r := .ok (.int k (max a b)) w)]
        · rfl
        · have : (if a < b then b else a) = max a b := by omega
          simp [Builtin.max_, e1, e2, Builtin.max2, this]
      · cases h
    · cases h
  · -- nilCheck
    split at h
    · rename_i n b o hx; cases h
      have := (hr _ _ hx).ptr_inv
      exact ⟨.pointer (some ⟨b, o, none⟩), by simp [execOp, this], .c .ptr⟩
    · rename_i cs hx; cases h
      obtain ⟨b, o, hv, _⟩ := (hr _ _ hx).cel_inv
      have h1 := hr _ _ hx
      rw [hv] at h1
      exact ⟨.pointer (some ⟨b, o, none⟩), by simp [execOp, hv], h1⟩
    · rename_i n u i sz o hx; cases h
      have := (hr _ _ hx).oel_inv
      exact ⟨_, by simp [execOp, this], .c .oel⟩
    · cases h
  · -- makeFunc
    split at h
    · rename_i f caps _ l hl
      split at h
      · rename_i cs hcs; cases h
        obtain ⟨g1, g2⟩ := rdAll_ok hr _ _ hl
        have := cellsOf_ok _ _ hcs; subst this
        refine ⟨.func (.func f) #[] (caps.map ρ).toArray, by simp [execOp, Instr.makeFunc], .c (.clo (by simpa using g1) ?_)⟩
        intro j c u h1 h2
        obtain ⟨o, e1, e2⟩ := g2 j (.c c) (by simp [h1])
        simp [e1] at h2; subst h2
        cases e2 with | c e2 => exact e2
      · cases h
    · cases h
  · -- index
    split at h
    · rename_i s1 s2 z l kk i hk hx hi
      cases h
      have hu := (hT _ _ hk).und
      simp only at hu
      have e1 := (hr _ _ hx).val_inv
      have e2 := (hr _ _ hi).val_inv
      have hlt : i.toNat < l.length := by omega
      refine ⟨.int .u8 (l.getD i.toNat 0).toNat, ?_, .c (.pv (.val rfl))⟩
      have hget : (ByteArray.mk ⟨l⟩)[i.toNat]? = some (l.getD i.toNat 0) := by
        have : i.toNat < (ByteArray.mk ⟨l⟩).size := hlt
        rw [getElem?_pos (ByteArray.mk ⟨l⟩) i.toNat this]
        simp [List.getD, List.getElem?_eq_getElem hlt]
        rfl
      simp [execOp, Instr.index, e1, e2, asIntOf, run_underlying hu, hob.1, hget]
    · cases h
  · -- sliceToArrayPointer
    split at h
    · rename_i N e s1 s2 z l hk hx
      split at h
      · rename_i hN; cases h
        rw [Nat.ble_eq] at hN
        have hu := (hT _ _ hk).und
        simp only at hu
        obtain ⟨a, c, b, o, hv, g1, g2, g3, g4, g5⟩ := R.lst_inv (by have := hr _ _ hx; cases this with | c h => cases h with | pv h => exact h)
        have hne : l ≠ [] := by intro e; subst e; simp at hob; omega
        have ha := g3 hne
        subst ha
        refine ⟨.pointer (some ⟨b, o, none⟩), ?_, .c (.cel b o (fun j => .int .u8 (l.getD j 0).toNat) (fun j y hj => ?_) (fun j y hj => ?_))⟩
        · simp only [execOp, hv, Sem.run_bind]
          rw [run_arrayAt _ _ _ _ _ _ _ hu.1 hob]; rfl
        · obtain ⟨hjN, rfl⟩ := celB_get hj
          have hjl : j < l.length := by omega
          obtain ⟨u, hu, hru⟩ := g5 j l[j] 0 (.val (.int .u8 (l[j]).toNat)) (List.getElem?_eq_getElem hjl) rfl
          have := hru.val_eq; subst this
          simp only [LK.sz, Nat.mul_one, Nat.add_zero] at hu
          rw [hu]; simp [List.getD, List.getElem?_eq_getElem hjl]
        · obtain ⟨hjN, rfl⟩ := celB_get hj
          simp only [Nat.zero_add]; exact .val rfl
      · cases h
    · cases h
  · cases h
end
end Go.Mt

/-
  Mt, part H: how what is known of memory goes on: a new block, a store, an append, a call.
-/
set_option linter.unusedSimpArgs false
set_option linter.unusedVariables false
namespace Go.Mt
open Go.RowKit
section
variable {P : Program} {T : Tb} {w w' : World} {M F : Mem} {B : Nat} {W : World} {H H' : Nat → Option HB}

def Mem.or (M F : Mem) : Mem := fun k => match F k with
  | some o => some o
  | none => M k
def Fresh (F : Mem) (n : Nat) (w' : World) : Prop := ∀ k o, F k = some o → n ≤ k ∧ w'.heap[k]? = some o
def Mem.all (w : World) : Mem := fun k => w.heap[k]?
theorem Mem.all_on (w : World) : (Mem.all w).on w := fun _ _ h => h
theorem Mem.le_all {M : Mem} {w : World} (h : M.on w) : M.le (Mem.all w) := h
theorem Mem.none_of_size {M : Mem} {w : World} (h : M.on w) {k : Nat} (hk : w.heap.size ≤ k) : M k = none := by
  cases e : M k with
  | none => rfl
  | some o => have := h k o e; rw [Array.getElem?_eq_none hk] at this; cases this
theorem Mem.le_or {M F : Mem} {w w' : World} (h : M.on w) (hF : Fresh F w.heap.size w') : M.le (M.or F) := by
  intro k o e
  unfold Mem.or
  cases hf : F k with
  | none => exact e
  | some o' =>
    have := (hF k o' hf).1
    rw [Mem.none_of_size h this] at e; cases e
/-- M grows by blocks from B on alone. -/
def Mem.ext (B : Nat) (M M' : Mem) : Prop := M.le M' ∧ ∀ k o, M' k = some o → k < B → M k = some o
theorem Mem.ext_refl (B : Nat) (M : Mem) : Mem.ext B M M := ⟨Mem.le_refl _, fun _ _ h _ => h⟩
theorem Mem.ext_or {B : Nat} {M F : Mem} {w w' : World} (h : M.on w) (hB : B ≤ w.heap.size) (hF : Fresh F w.heap.size w') : Mem.ext B M (M.or F) := by
  refine ⟨Mem.le_or h hF, fun k o e hk => ?_⟩
  unfold Mem.or at e
  cases hf : F k with
  | none => simpa [hf] using e
  | some o' => have := (hF k o' hf).1; omega
theorem Mem.or_le {M F : Mem} : F.le (M.or F) := by intro k o e; simp [Mem.or, e]

theorem HB.block_lt {x : HB} (h : HBok M B w x) {b : Nat} (hb : x.block = some b) : B ≤ b ∧ b < w.heap.size ∧ M b = none := by
  cases x with
  | blk b' ty cs =>
    cases hb
    obtain ⟨h1, h2, us, h3, _⟩ := h
    exact ⟨h1, (Array.getElem?_eq_some_iff.1 h3).1, h2⟩
  | own v ty k l =>
    rcases h with ⟨rfl, rfl⟩ | ⟨b', cap, us, rfl, h1, h2, h3, _⟩
    · cases hb
    · cases hb
      exact ⟨h1, (Array.getElem?_eq_some_iff.1 h3).1, h2⟩

/-- A block's facts go on where the block is as it was. -/
theorem HBok.keep {M' : Mem} {x : HB} (h : HBok M B w x) (hM : M.le M') (hMn : ∀ b, x.block = some b → M' b = none) (hb : ∀ b, x.block = some b → w'.heap[b]? = w.heap[b]?) : HBok M' B w' x := by
  cases x with
  | blk b ty cs =>
    obtain ⟨h1, h2, us, h3, h4⟩ := h
    exact ⟨h1, hMn b rfl, us, (hb b rfl).trans h3, h4.mono hM⟩
  | own v ty k l =>
    rcases h with ⟨rfl, rfl⟩ | ⟨b, cap, us, rfl, h1, h2, h3, h4, h5, h6, h7⟩
    · exact .inl ⟨rfl, rfl⟩
    · exact .inr ⟨b, cap, us, rfl, h1, hMn b rfl, (hb b rfl).trans h3, h4, h5, h6, fun i x j y e1 e2 => let ⟨u, hu, hr⟩ := h7 i x j y e1 e2; ⟨u, hu, hr.mono hM⟩⟩

theorem SatH.step (hS : SatH B W H M w) {row : Option Nat} (hg : w.grownBy w' row) (hrow : ∀ b, row = some b → B ≤ b ∧ M b = none) {nn : Nat} {xx : HB}
    (hH : ∀ n x, n ≠ nn → H' n = some x → H n = some x ∧ ∀ b, row = some b → x.block ≠ some b) (hnn : H' nn = some xx) (hx : HBok M B w' xx) (hf : ∀ b, xx.block = some b → w.heap.size ≤ b ∨ row = some b) : SatH B W H' M w' := by
  have hne : ∀ n x b, n ≠ nn → H' n = some x → x.block = some b → xx.block ≠ some b := by
    intro n x b hn hx' hb hb'
    obtain ⟨h1, h2⟩ := hH n x hn hx'
    rcases hf b hb' with h | h
    · have := (HB.block_lt (hS.ok n x h1) hb).2.1; omega
    · exact h2 b h hb
  refine ⟨?_, Nat.le_trans hS.base hg.size, ?_, ?_, ?_⟩
  · exact hS.below.grown hg hS.base (fun k hk => (hrow k hk).1)
  · intro k o e
    have hlt : k < w.heap.size := (Array.getElem?_eq_some_iff.1 (hS.mem k o e)).1
    rw [hg.block k hlt (fun h => by have := (hrow k h.symm).2; rw [e] at this; cases this)]
    exact hS.mem k o e
  · intro n x hx'
    by_cases hn : n = nn
    · subst hn; rw [hnn] at hx'; cases hx'; exact hx
    · obtain ⟨h1, h2⟩ := hH n x hn hx'
      have hok := hS.ok n x h1
      refine hok.keep (Mem.le_refl _) (fun b hb => (HB.block_lt hok hb).2.2) (fun b hb => hg.block b (HB.block_lt hok hb).2.1 (fun h => h2 b h.symm hb))
  · intro n n' x x' b hnn' h1 h2 hb
    by_cases hn : n = nn
    · subst hn; rw [hnn] at h1; cases h1
      exact fun h => hne n' x' b (fun e => hnn' e.symm) h2 h hb
    · by_cases hn' : n' = nn
      · subst hn'; rw [hnn] at h2; cases h2
        exact hne n x b hn h1 hb
      · exact hS.inj n n' x x' b hnn' (hH n x hn h1).1 (hH n' x' hn' h2).1 hb

/-- What is forgotten. -/
theorem SatH.less (hS : SatH B W H M w) (hH : ∀ n x, H' n = some x → H n = some x) : SatH B W H' M w :=
  ⟨hS.below, hS.base, hS.mem, fun n x h => hS.ok n x (hH n x h), fun n n' x x' b hn h1 h2 => hS.inj n n' x x' b hn (hH n x h1) (hH n' x' h2)⟩

/-- Behind a call that turns nothing that was there. -/
theorem SatH.call (hS : SatH B W H M w) (hb : Below w.heap.size w w') (hF : Fresh F w.heap.size w') : SatH B W H (M.or F) w' := by
  have hle := Mem.le_or hS.mem hF
  refine ⟨hS.below.trans (hb.mono hS.base), Nat.le_trans hS.base hb.size, ?_, ?_, hS.inj⟩
  · intro k o e
    unfold Mem.or at e
    cases hf : F k with
    | none =>
      simp only [hf] at e
      have hlt : k < w.heap.size := (Array.getElem?_eq_some_iff.1 (hS.mem k o e)).1
      rw [hb.block k hlt]; exact hS.mem k o e
    | some o' => simp only [hf] at e; cases e; exact (hF k _ hf).2
  · intro n x hx
    have hok := hS.ok n x hx
    refine hok.keep hle (fun b hb' => ?_) (fun b hb' => hb.block b (HB.block_lt hok hb').2.1)
    obtain ⟨_, h2, h3⟩ := HB.block_lt hok hb'
    unfold Mem.or
    cases hf : F b with
    | none => exact h3
    | some o => have := (hF b o hf).1; omega

/-- A block of one's own let go: nothing turns it any more. -/
theorem SatH.freeze (hS : SatH B W H M w) {n : Nat} {v : Value} {ty : TypeId} {k : LK} {l : List k.T} (hn : H n = some (.own v ty k l)) (hH : ∀ m x, H' m = some x → m ≠ n ∧ H m = some x) :
    ∃ M', Mem.ext B M M' ∧ SatH B W H' M' w ∧ R M' (.lst k l) v := by
  rcases hS.ok n _ hn with ⟨rfl, rfl⟩ | ⟨b, cap, us, rfl, h1, h2, h3, h4, h5, h6, h7⟩
  · exact ⟨M, Mem.ext_refl _ _, hS.less (fun m x h => (hH m x h).2), R.lst_nil _ _⟩
  · refine ⟨fun j => if j = b then w.heap[b]? else M j, ?_, ?_, ?_⟩
    · refine ⟨fun j o e => ?_, fun j o e hj => ?_⟩
      · by_cases hj : j = b
        · subst hj; rw [h2] at e; cases e
        · simp [hj, e]
      · have hjb : j ≠ b := by omega
        simpa [hjb] using e
    · have hle : M.le (fun j => if j = b then w.heap[b]? else M j) := by
        intro j o e
        by_cases hj : j = b
        · subst hj; rw [h2] at e; cases e
        · simp [hj, e]
      refine ⟨hS.below, hS.base, ?_, ?_, fun m m' x x' c hm a1 a2 => hS.inj m m' x x' c hm (hH m x a1).2 (hH m' x' a2).2⟩
      · intro j o e
        by_cases hj : j = b
        · subst hj; simpa using e
        · simp only [hj, if_false] at e; exact hS.mem j o e
      · intro m x hx
        obtain ⟨e1, e2⟩ := hH m x hx
        have hok := hS.ok m x e2
        refine hok.keep hle (fun c hc => ?_) (fun c hc => rfl)
        have hcb : c ≠ b := fun e => hS.inj n m _ x b (fun h => e1 h.symm) hn e2 rfl (e ▸ hc)
        simp only [hcb, if_false]; exact (HB.block_lt hok hc).2.2
    · refine R.lst_mk (b := b) (o := 0) rfl h4 h5 (fun _ => rfl) (by simp) (fun i x j y e1 e2 => ?_)
      obtain ⟨u, hu, hr⟩ := h7 i x j y e1 e2
      refine ⟨u, by simp [Mem.cell, h3, hu], hr.mono ?_⟩
      intro j o e
      by_cases hj : j = b
      · subst hj; rw [h2] at e; cases e
      · simp [hj, e]

theorem grownBy_refl (w : World) (row : Option Nat) : w.grownBy w row := ⟨rfl, rfl, rfl, Nat.le_refl _, fun _ _ _ => rfl⟩
theorem grownBy_drew (w : World) (row : Option Nat) : w.grownBy w.drew row := ⟨rfl, rfl, rfl, Nat.le_refl _, fun _ _ _ => rfl⟩
theorem grownBy_setRow (w : World) (g : Nat) (cs : Array Value) : w.grownBy (w.setRow g cs) (some g) := by
  refine ⟨rfl, rfl, rfl, by simp, fun k hk hne => ?_⟩
  simp only [World.setRow, Array.getElem?_modify]
  rw [if_neg (fun e => hne (by rw [e]))]
end
end Go.Mt

/-
  Mt, part I: append, make, a slice's literal, stores: on memory of one's own.
-/
set_option linter.unusedSimpArgs false
set_option linter.unusedVariables false
namespace Go.Mt
open Go.RowKit
section
variable {P : Program} {T : Tb} {w w' : World} {M F : Mem} {B : Nat} {W : World} {H H' : Nat → Option HB}

/-- Cells that stand for a list. -/
def Lies (M : Mem) (k : LK) (l : List k.T) (us : List Value) : Prop :=
  us.length = l.length * k.sz ∧ ∀ i x j y, l[i]? = some x → (k.enc x)[j]? = some y → ∃ u, us[i * k.sz + j]? = some u ∧ R M y u

theorem enc_lt {k : LK} {x : k.T} {j : Nat} {y : PV} (h : (k.enc x)[j]? = some y) : j < k.sz := by
  have := (List.getElem?_eq_some_iff.1 h).1
  rwa [LK.enc_len] at this

theorem Lies.one {k : LK} {l : List k.T} {us : List Value} (h : Lies M k l us) : ∀ u ∈ us, u.oneCell' = true := by
  intro u hu
  obtain ⟨n, hn, rfl⟩ := List.getElem_of_mem hu
  have hsz := LK.sz_pos k
  have hn' : n < l.length * k.sz := by rw [← h.1]; exact hn
  have hi : n / k.sz < l.length := Nat.div_lt_of_lt_mul (by rw [Nat.mul_comm]; exact hn')
  have hj : n % k.sz < (k.enc l[n / k.sz]).length := by rw [LK.enc_len]; exact Nat.mod_lt _ hsz
  obtain ⟨u, h1, h2⟩ := h.2 (n / k.sz) _ (n % k.sz) _ (List.getElem?_eq_getElem hi) (List.getElem?_eq_getElem hj)
  rw [Nat.div_add_mod'] at h1
  rw [List.getElem?_eq_getElem hn] at h1
  cases h1; exact h2.one

theorem Lies.append {k : LK} {l m : List k.T} {us vs : List Value} (h : Lies M k l us) (h' : Lies M k m vs) : Lies M k (l ++ m) (us ++ vs) := by
  refine ⟨by rw [List.length_append, List.length_append, h.1, h'.1, Nat.add_mul], fun i x j y e1 e2 => ?_⟩
  have hj := enc_lt e2
  by_cases hi : i < l.length
  · rw [List.getElem?_append_left hi] at e1
    obtain ⟨u, h1, h2⟩ := h.2 i x j y e1 e2
    refine ⟨u, ?_, h2⟩
    rw [List.getElem?_append_left]
    · exact h1
    · exact (List.getElem?_eq_some_iff.1 h1).1
  · rw [List.getElem?_append_right (by omega)] at e1
    obtain ⟨u, h1, h2⟩ := h'.2 _ x j y e1 e2
    refine ⟨u, ?_, h2⟩
    have hle : l.length * k.sz ≤ i * k.sz := Nat.mul_le_mul_right _ (by omega)
    rw [List.getElem?_append_right (by rw [h.1]; omega), h.1, ← h1]
    congr 1
    rw [Nat.sub_mul]; omega

theorem Lies.mono {k : LK} {l : List k.T} {us : List Value} (h : Lies M k l us) (hM : M.le F) : Lies F k l us :=
  ⟨h.1, fun i x j y e1 e2 => let ⟨u, a, b⟩ := h.2 i x j y e1 e2; ⟨u, a, b.mono hM⟩⟩

theorem OwnSl.nil (M : Mem) (B : Nat) (w : World) (ty : TypeId) (k : LK) : OwnSl M B w (.slice none 0 0) ty k [] := .inl ⟨rfl, rfl⟩

theorem OwnSl.mk {k : LK} {l : List k.T} {b cap : Nat} {us : Array Value} {ty : TypeId} (hB : B ≤ b) (hM : M b = none) (hb : w.heap[b]? = some (.cells us ty (0, 0))) (h1 : l.length ≤ cap) (h2 : cap ≤ maxLen) (h3 : us.size = cap * k.sz)
    (h : Lies M k l (us.toList.take (l.length * k.sz))) : OwnSl M B w (.slice (some ⟨b, 0, none⟩) l.length cap) ty k l := by
  refine .inr ⟨b, cap, us, rfl, hB, hM, hb, h1, h2, h3, fun i x j y e1 e2 => ?_⟩
  obtain ⟨u, hu, hr⟩ := h.2 i x j y e1 e2
  refine ⟨u, ?_, hr⟩
  rw [List.getElem?_take] at hu
  split at hu
  · simpa using hu
  · cases hu

theorem OwnSl.lies {k : LK} {l : List k.T} {b cap : Nat} {us : Array Value} (h1 : l.length ≤ cap) (h3 : us.size = cap * k.sz)
    (h7 : ∀ i x j y, l[i]? = some x → (k.enc x)[j]? = some y → ∃ u, us[i * k.sz + j]? = some u ∧ R M y u) : Lies M k l (us.toList.take (l.length * k.sz)) := by
  have hle : l.length * k.sz ≤ us.size := by rw [h3]; exact Nat.mul_le_mul_right _ h1
  refine ⟨by simp; omega, fun i x j y e1 e2 => ?_⟩
  obtain ⟨u, hu, hr⟩ := h7 i x j y e1 e2
  refine ⟨u, ?_, hr⟩
  have hi := (List.getElem?_eq_some_iff.1 e1).1
  have hj := enc_lt e2
  have : i * k.sz + j < l.length * k.sz := by
    have : (i + 1) * k.sz ≤ l.length * k.sz := Nat.mul_le_mul_right _ hi
    rw [Nat.add_mul] at this; omega
  rw [List.getElem?_take, if_pos this]
  simpa using hu

/-- An append of zero bytes: its second argument is a count. -/
structure SrcZ (P : Program) (tx : TypeId) (x : Value) (n : Nat) (news : List Value) (z : Value) : Prop where
  und : ∃ kd, P.underlying tx = some (.int kd)
  val : ∃ ki, x = .int ki n
  le : n ≤ 1099511627776
  news : news = List.replicate n (.int .u8 0)
  zc : z.cells = #[.int .u8 0]

theorem wrapZ {n : Nat} (h : n ≤ 1099511627776) : IntKind.i64.wrap (n : Int) = n := by
  simp [IntKind.wrap, IntKind.bits, IntKind.signed]; omega
theorem zcZ {z : Value} (h : z.cells = #[.int .u8 0]) (n : Nat) : Builtin.zeroCells z.cells n = (List.replicate n (Value.int .u8 0)).toArray := by
  rw [h]
  apply Array.ext
  · simp [Builtin.zeroCells]
  · intro i h1 h2
    have : i % 1 = 0 := Nat.mod_one i
    simp [Builtin.zeroCells, this]
theorem runZ_nil {t tx ty e : TypeId} {i : TypeInfo} {z x : Value} {news : List Value} (ht : P.underlying t = some (.slice e)) (hi : P.info? e = some i) (hz : i.zero = some z) (h : SrcZ P tx x 0 news z) :
    (Builtin.append_ #[t, tx] ty #[.slice none 0 0, x]).run P w = .ok (.slice none 0 0) w := by
  obtain ⟨kd, hk⟩ := h.und
  obtain ⟨ki, rfl⟩ := h.val
  have hw := wrapZ (n := 0) (by omega)
  simp [Builtin.append_, run_underlying ht, run_underlying hk, Go.sizeOf, typeInfo, hi, asInt, asIntOf] 
  simp [IntKind.wrap, IntKind.bits, IntKind.signed]
theorem runZ_room {t tx ty e : TypeId} {i : TypeInfo} {z x : Value} {n : Nat} {news : List Value} (ht : P.underlying t = some (.slice e)) (hi : P.info? e = some i) (hz : i.zero = some z) (hsz : i.size = 1) (hby : i.bytes ≤ 64) (h : SrcZ P tx x n news z)
    {b sLen sCap : Nat} (hroom : sLen + n ≤ sCap) (hst : (storeCells ⟨b, sLen * 1, none⟩ news).run P w = .ok () w') :
    (Builtin.append_ #[t, tx] ty #[.slice (some ⟨b, 0, none⟩) sLen sCap, x]).run P w = .ok (.slice (some ⟨b, 0, none⟩) (sLen + n) sCap) w' := by
  obtain ⟨kd, hk⟩ := h.und
  obtain ⟨ki, rfl⟩ := h.val
  have hw := wrapZ h.le
  have hle := h.le
  have h0 : ¬ ((n : Int) < 0) := by omega
  have h48 : ¬ ((281474976710656 : Int) < n * i.bytes) := by
    have : (n : Int) * i.bytes ≤ 1099511627776 * 64 := Int.mul_le_mul (by omega) (by omega) (by omega) (by omega)
    omega
  have hnews := h.news
  by_cases hn0 : n = 0
  · subst hn0
    simp at hnews; subst hnews
    simp [Builtin.append_, run_underlying ht, run_underlying hk, Go.sizeOf, typeInfo, hi, hz, asInt, asIntOf, hw, h0, h48, hroom, hsz, Addr.add_lit, IntKind.wrap_i64]
    simp at hst hroom; simp [hroom, hst]
  · have hnz : ¬ (n * 1 = 0) := by omega
    subst hnews
    simp [Builtin.append_, run_underlying ht, run_underlying hk, Go.sizeOf, typeInfo, zeroValue, hi, hz, asInt, asIntOf, hw, h0, h48, hroom, hsz, hn0, zcZ h.zc, Addr.add_lit]
    simp at hst; simp [hst]
theorem runZ_grow {t tx ty e : TypeId} {i : TypeInfo} {z x : Value} {n : Nat} {news : List Value} (ht : P.underlying t = some (.slice e)) (hi : P.info? e = some i) (hz : i.zero = some z) (hsz : i.size = 1) (hby : i.bytes ≤ 64) (h : SrcZ P tx x n news z)
    (base : Option Addr) (sLen sCap : Nat) (olds : List Value)
    (hold : (Builtin.firstCells i.size sLen (.slice base sLen sCap)).run P w.drew = .ok olds.toArray w.drew)
    (hg : sCap < sLen + n) (h63 : ((sLen + n : Nat) : Int) ≤ 9223372036854775807) (hfit : Builtin.nextslicecap (sLen + n) sCap * i.bytes ≤ 281474976710656) :
    (Builtin.append_ #[t, tx] ty #[.slice base sLen sCap, x]).run P w =
      .ok (.slice (some ⟨w.heap.size, 0, none⟩) (sLen + n) (grownCap w (sLen + n) sCap e))
        (w.drew.alloc (.cells ((olds ++ news).toArray ++ Builtin.zeroCells z.cells (grownCap w (sLen + n) sCap e - (sLen + n))) e)) := by
  obtain ⟨kd, hk⟩ := h.und
  obtain ⟨ki, rfl⟩ := h.val
  have hw := wrapZ h.le
  have hle := h.le
  have h0 : ¬ ((n : Int) < 0) := by omega
  have h48 : ¬ ((281474976710656 : Int) < n * i.bytes) := by
    have : (n : Int) * i.bytes ≤ 1099511627776 * 64 := Int.mul_le_mul (by omega) (by omega) (by omega) (by omega)
    omega
  have hnews := h.news
  have hn : ¬ (sLen + n ≤ sCap) := by omega
  have h63' : ¬ (9223372036854775807 < ((sLen : Int) + (n : Int))) := by omega
  have h48' : ¬ (281474976710656 < Builtin.nextslicecap (sLen + n) sCap * i.bytes) := by omega
  rw [hsz] at hold
  by_cases hn0 : n = 0
  · subst hn0
    simp at hnews; subst hnews
    simp [Builtin.append_, run_underlying ht, run_underlying hk, Go.sizeOf, typeInfo, zeroValue, hi, hz, asInt, asIntOf, hw, h0, h48, hn, h63', h48', hsz, Question.forced, hold, newRow, grownCap, IntKind.wrap_i64]
    have q1 : ¬ (9223372036854775807 < (sLen : Int)) := by omega
    have q2 : ¬ (sLen ≤ sCap) := by omega
    have q3 : ¬ (281474976710656 < Builtin.nextslicecap sLen sCap * i.bytes) := by simpa using h48'
    simp [q1, q2, q3, hold]
  · subst hnews
    simp [Builtin.append_, run_underlying ht, run_underlying hk, Go.sizeOf, typeInfo, zeroValue, hi, hz, asInt, asIntOf, hw, h0, h48, hn, h63', h48', hsz, Question.forced, hold, newRow, grownCap, hn0]
    congr 2
    apply Array.ext'
    simp [zcZ h.zc]
/-- What an append's second argument brings: cells of a list, or zero bytes. -/
def Src2 (P : Program) (sz : Nat) (tx : TypeId) (x : Value) (n : Nat) (news : List Value) (w : World) (z : Value) : Prop := Src P sz tx x n news w ∨ SrcZ P tx x n news z

theorem own_append (hb : B ≤ w.heap.size) (hm : M.on w) {v : Value} {ty : TypeId} {k : LK} {l : List k.T} (ho : OwnSl M B w v ty k l) {t tx tr : TypeId} {inf : TypeInfo} {z : Value} (ht : P.underlying t = some (.slice ty)) (hi : P.info? ty = some inf) (hz : inf.zero = some z)
    (hsz : inf.size = k.sz) (hzs : z.cells.size = k.sz) (hby : inf.bytes ≤ 64) {x : Value} {ys : List k.T} {news : List Value} (hs : Src2 P k.sz tx x ys.length news w z) (hl : Lies M k ys news) (hle : l.length + ys.length ≤ 1099511627776) :
    ∃ v' w', (Builtin.append_ #[t, tx] tr #[v, x]).run P w = .ok v' w' ∧ w.grownBy w' v.ownBlock ∧ OwnSl M B w' v' ty k (l ++ ys) ∧ ∀ b, v'.ownBlock = some b → w.heap.size ≤ b ∨ v.ownBlock = some b := by
  have hs2 : Src2 P inf.size tx x ys.length news w z := by rw [hsz]; exact hs
  have hz1 : SrcZ P tx x ys.length news z → inf.size = 1 := fun h => by rw [hsz, ← hzs, h.zc]; rfl
  have h48 : ∀ c, c < l.length + ys.length → Builtin.nextslicecap (l.length + ys.length) c * inf.bytes ≤ 281474976710656 := by
    intro c hc
    refine growslice_fits hc ?_
    calc (l.length + ys.length) * inf.bytes ≤ 1099511627776 * 64 := Nat.mul_le_mul hle hby
      _ ≤ _ := by decide
  have grown : ∀ (old : Nat) (row : Option Nat) (olds : List Value), Lies M k l olds →
      OwnSl M B (w.drew.alloc (.cells ((olds ++ news).toArray ++ Builtin.zeroCells z.cells (grownCap w (l.length + ys.length) old ty - (l.length + ys.length))) ty)) (.slice (some ⟨w.heap.size, 0, none⟩) (l.length + ys.length) (grownCap w (l.length + ys.length) old ty)) ty k (l ++ ys) ∧
      w.grownBy (w.drew.alloc (.cells ((olds ++ news).toArray ++ Builtin.zeroCells z.cells (grownCap w (l.length + ys.length) old ty - (l.length + ys.length))) ty)) row := by
    intro old row olds hold
    have hge := grownCap_ge w (l.length + ys.length) old ty
    have hcm : grownCap w (l.length + ys.length) old ty ≤ maxLen := grownCap_le_maxLen w _ old ty (by simp only [maxLen]; omega)
    have hL := hold.append hl
    rw [show l.length + ys.length = (l ++ ys).length from by simp] at *
    refine ⟨OwnSl.mk hb (Mem.none_of_size hm (Nat.le_refl _)) (heap_alloc_new w.drew _) hge hcm ?_ ?_, ⟨rfl, rfl, rfl, by simp, fun kk hk _ => heap_alloc_old w.drew _ hk⟩⟩
    · rw [Array.size_append, List.size_toArray, hL.1, size_zeroCells, hzs, ← Nat.add_mul]
      congr 1; omega
    · rw [Array.toList_append]
      rw [List.take_append_of_le_length (by simp only [List.toList_toArray]; rw [hL.1]; exact Nat.le_refl _)]
      rw [List.take_of_length_le (by simp only [List.toList_toArray]; rw [hL.1]; exact Nat.le_refl _)]
      exact hL
  rcases ho with ⟨rfl, rfl⟩ | ⟨b, cap, us, rfl, h1, h2, h3, h4, h5, h6, h7⟩
  · by_cases hn : ys.length = 0
    · have : ys = [] := List.eq_nil_of_length_eq_zero hn
      subst this
      have hnews : news = [] := List.eq_nil_of_length_eq_zero (by simpa using hl.1)
      subst hnews
      refine ⟨.slice none 0 0, w, ?_, grownBy_refl _ _, OwnSl.nil _ _ _ _ _, by simp [Value.ownBlock]⟩
      rcases hs2 with hs' | hs'
      case inr => exact runZ_nil ht hi hz hs'
      have hc : (Builtin.firstCells inf.size 0 x).run P w = .ok #[] w := by simpa using hs'.cells
      have hll : ∀ w', (Builtin.lenOf x).run P w' = .ok 0 w' := by simpa using hs'.len
      rcases hs'.kind with ⟨e', hk⟩ | hk <;> simp [Builtin.append_, run_underlying ht, run_underlying hk, Go.sizeOf, typeInfo, hi, hll, hc]
    · have hr : (Builtin.append_ #[t, tx] tr #[.slice none 0 0, x]).run P w = .ok (.slice (some ⟨w.heap.size, 0, none⟩) (0 + ys.length) (grownCap w (0 + ys.length) 0 ty))
          (w.drew.alloc (.cells (([] ++ news).toArray ++ Builtin.zeroCells z.cells (grownCap w (0 + ys.length) 0 ty - (0 + ys.length))) ty)) := by
        rcases hs2 with hs' | hs'
        · exact run_append_grow_src (P := P) w t tx tr ty inf z ht hi hz none 0 0 [] (by simp [Builtin.firstCells]) x ys.length news hs' (by omega) (by simp at hle ⊢; omega) (by have := h48 0 (by simp; omega); simpa using this)
        · exact runZ_grow ht hi hz (hz1 hs') hby hs' none 0 0 [] (by simp [Builtin.firstCells]) (by omega) (by simp at hle ⊢; omega) (by have := h48 0 (by simp; omega); simpa using this)
      obtain ⟨g1, g2⟩ := grown 0 (Value.ownBlock (.slice none 0 0)) [] ⟨by simp, by simp⟩
      simp only [List.length_nil, Nat.zero_add, List.nil_append] at g1 g2 hr
      exact ⟨_, _, hr, g2, g1, fun b hb' => .inl (by simp [Value.ownBlock] at hb'; omega)⟩
  · by_cases hroom : l.length + ys.length ≤ cap
    · have hfit : l.length * k.sz + news.length ≤ us.size := by rw [hl.1, h6, ← Nat.add_mul]; exact Nat.mul_le_mul_right _ hroom
      have hst : (storeCells ⟨b, l.length * k.sz, none⟩ news).run P w = .ok () (w.setRow b (us.toList.take (l.length * k.sz) ++ news ++ us.toList.drop (l.length * k.sz + news.length)).toArray) := by
        have := run_storeCells_at P b (l.length * k.sz) ty news 0 us w h3 (by simpa using hfit) hl.one
        simpa using this
      have hr : (Builtin.append_ #[t, tx] tr #[.slice (some ⟨b, 0, none⟩) l.length cap, x]).run P w = .ok (.slice (some ⟨b, 0, none⟩) (l.length + ys.length) cap) (w.setRow b (us.toList.take (l.length * k.sz) ++ news ++ us.toList.drop (l.length * k.sz + news.length)).toArray) := by
        rcases hs with hs | hs
        · rcases hs.kind with ⟨e', hk⟩ | hk <;> simp [Builtin.append_, run_underlying ht, run_underlying hk, Go.sizeOf, typeInfo, hi, hs.len, hroom, hs.cells, Addr.add_lit, hsz, hst]
        · have h1 := hz1 hs
          have h2 : k.sz = 1 := by rw [← hsz]; exact h1
          exact runZ_room ht hi hz h1 hby hs hroom (by rw [h2] at hst; rw [h2]; exact hst)
      have hold := OwnSl.lies h4 h6 h7 (b := b)
      have hL := hold.append hl
      refine ⟨_, _, hr, grownBy_setRow _ _ _, ?_, fun b' hb' => .inr hb'⟩
      have hlen : l.length + ys.length = (l ++ ys).length := by simp
      rw [hlen]
      refine OwnSl.mk h1 h2 (setRow_heap w b us _ ty _ h3) (by rw [← hlen]; exact hroom) h5 ?_ ?_
      · simp only [List.size_toArray, List.length_append, List.length_take, List.length_drop, Array.length_toList]
        omega
      · rw [List.toList_toArray, List.take_append_of_le_length (by rw [hL.1]; exact Nat.le_refl _), List.take_of_length_le (by rw [hL.1]; exact Nat.le_refl _)]
        exact hL
    · have hold := OwnSl.lies h4 h6 h7 (b := b)
      have hfc : (Builtin.firstCells inf.size l.length (.slice (some ⟨b, 0, none⟩) l.length cap)).run P w.drew = .ok (us.toList.take (l.length * k.sz)).toArray w.drew := by
        have hc := run_firstCells_some (P := P) w.drew k.sz l.length ⟨b, 0, none⟩ l.length cap (us.toList.take (l.length * k.sz)) hold.1 (fun j u hu => by
          rw [List.getElem?_take] at hu
          split at hu
          · rw [Addr.add_lit]
            exact (cell_of_row w.drew b (0 + j) us ty (0, 0) h3).trans (by simpa using hu)
          · cases hu)
        rw [hsz]; exact hc
      have hr : (Builtin.append_ #[t, tx] tr #[.slice (some ⟨b, 0, none⟩) l.length cap, x]).run P w = .ok (.slice (some ⟨w.heap.size, 0, none⟩) (l.length + ys.length) (grownCap w (l.length + ys.length) cap ty))
          (w.drew.alloc (.cells ((us.toList.take (l.length * k.sz) ++ news).toArray ++ Builtin.zeroCells z.cells (grownCap w (l.length + ys.length) cap ty - (l.length + ys.length))) ty)) := by
        rcases hs2 with hs' | hs'
        · exact run_append_grow_src (P := P) w t tx tr ty inf z ht hi hz (some ⟨b, 0, none⟩) l.length cap (us.toList.take (l.length * k.sz)) hfc x ys.length news hs' (by omega) (by omega) (h48 cap (by omega))
        · exact runZ_grow ht hi hz (hz1 hs') hby hs' (some ⟨b, 0, none⟩) l.length cap (us.toList.take (l.length * k.sz)) hfc (by omega) (by omega) (h48 cap (by omega))
      obtain ⟨g1, g2⟩ := grown cap (Value.ownBlock (.slice (some ⟨b, 0, none⟩) l.length cap)) _ hold
      exact ⟨_, _, hr, g2, g1, fun b' hb' => .inl (by simp [Value.ownBlock] at hb'; omega)⟩
end
end Go.Mt

/-
  Mt, part J: states, contracts, operations that turn memory.
-/
set_option linter.unusedSimpArgs false
set_option linter.unusedVariables false
namespace Go
def Value.bn : Value → Nat
  | .pointer (some a) => a.block
  | _ => 0
def Value.comp : Value → Nat → Value
  | .tuple vs, i => vs.getD i undef
  | _, _ => undef
end Go
namespace Go.Mt
open Go.RowKit

/-- An element off its cells. -/
def LK.dec : (k : LK) → List C → Option (k.T × Prop)
  | .byt, [.pv (.val (.int .u8 n))] => some (UInt8.ofNat n.toNat, 0 ≤ n ∧ n ≤ 255)
  | .ints k, [.pv (.val (.int k' n))] => match ikeq k k' with | true => some (n, True) | false => none
  | .spn, [.pv (.val (.int .i64 a)), .pv (.val (.int .i64 b))] => some (⟨a, b⟩, True)
  | .pcs, [.pv (.val (.int .i64 a)), .pv (.val (.int .i64 b)), .pv (.val (.int .i64 c))] => some (⟨a, b, c⟩, True)
  | .ent, [.pv (.val (.int .i64 a)), .pv (.val (.int .i64 b)), .pv (.val (.int .i64 c)), .pv (.val (.int .i64 d)), .pv (.val (.int .u32 e))] => some (⟨a, b, c, d, e⟩, True)
  | .slt, [.pv (.val (.int .i64 a)), .pv (.val (.int .i64 b)), .pv (.val (.int .i64 c)), .pv (.val (.int .u32 e))] => some (⟨a, b, c, e⟩, True)
  | .rcd, [.pv (.val (.int .i64 a)), .pv (.lst .byt l)] => some (⟨a, l⟩, True)
  | .rcd, [.pv (.val (.int .i64 a)), .pv (.nil .byt)] => some (⟨a, []⟩, True)
  | .tbl, [.pv (.lst .ent l)] => some (l, True)
  | .tbl, [.pv (.nil .ent)] => some ([], True)
  | .bms, [.pv (.val (.string ⟨⟨s⟩⟩)), .pv (.val (.bool b)), .pv (.lst .spn l)] => some (⟨s, b, l⟩, True)
  | .bms, [.pv (.val (.string ⟨⟨s⟩⟩)), .pv (.val (.bool b)), .pv (.nil .spn)] => some (⟨s, b, []⟩, True)
  | .sht, [.pv (.val (.string ⟨⟨s⟩⟩)), .pv (.val (.int .i64 n)), .pv (.lst .tbl l)] => some (⟨s, n, l⟩, True)
  | .sht, [.pv (.val (.string ⟨⟨s⟩⟩)), .pv (.val (.int .i64 n)), .pv (.nil .tbl)] => some (⟨s, n, []⟩, True)
  | .knw, [.pv (.val (.int .u64 f)), .pv (.val (.int .i64 a)), .pv (.val (.int .i64 b)), .pv (.val (.int .i64 c)), .pv (.val (.int .i64 d)), .pv (.val (.int .u32 e))] => some (⟨f, a, b, c, d, e⟩, True)
  | .bls, [.pv (.val (.bool b))] => some (b, True)
  | .tbh, [.pv (.lst .ent l)] => some (.l l, True)
  | .tbh, [.pv (.nil .ent)] => some (.l [], True)
  | .tbh, [.own _ v] => some (.v v, True)
  | _, _ => none

section
variable {P : Program} {T : Tb} {w w' : World} {M F : Mem} {B : Nat} {W : World} {H H' : Nat → Option HB}

theorem RCs.at {xs : List C} {us : List Value} (h : RCs M xs us) {j : Nat} {x : PV} (hj : xs[j]? = some (.pv x)) : ∃ u, us[j]? = some u ∧ R M x u := by
  have hlt := (List.getElem?_eq_some_iff.1 hj).1
  have hlt' : j < us.length := by rw [h.1]; exact hlt
  refine ⟨us[j], List.getElem?_eq_getElem hlt', ?_⟩
  have := h.2 j _ _ hj (List.getElem?_eq_getElem hlt')
  cases this with | pv r => exact r

theorem R.nil_lst {k : LK} {v : Value} (h : R M (.nil k) v) : R M (.lst k []) v := by cases h; exact R.lst_nil _ _

theorem cells_eq2 {k : LK} {x : k.T} {cs : List C} {us : List Value} (hr : RCs M cs us) (ys : List PV) (e : cs = ys.map .pv) (hl : ys.length = k.sz)
    (hh : ∀ (j : Nat) (y y' : PV) (v : Value), ys[j]? = some y → (k.enc x)[j]? = some y' → R M y v → R M y' v) : us.length = k.sz ∧ ∀ (j : Nat) (y : PV), (k.enc x)[j]? = some y → ∃ u, us[j]? = some u ∧ R M y u := by
  subst e
  refine ⟨by rw [hr.1]; simpa using hl, fun j y hj => ?_⟩
  have hlt : j < ys.length := by rw [hl]; exact enc_lt hj
  obtain ⟨u, hu, hru⟩ := hr.at (j := j) (x := ys[j]) (by simp [List.getElem?_eq_getElem hlt])
  exact ⟨u, hu, hh j _ _ _ (List.getElem?_eq_getElem hlt) hj hru⟩

theorem cells_eq {k : LK} {x : k.T} {cs : List C} {us : List Value} (hr : RCs M cs us) (e : cs = (k.enc x).map .pv) : us.length = k.sz ∧ ∀ (j : Nat) (y : PV), (k.enc x)[j]? = some y → ∃ u, us[j]? = some u ∧ R M y u :=
  cells_eq2 hr _ e (LK.enc_len _ _) (fun j y y' v h1 h2 h3 => by rw [h1] at h2; cases h2; exact h3)

theorem dec_ok {k : LK} {cs : List C} {x : k.T} {ob : Prop} (h : k.dec cs = some (x, ob)) (hob : ob) {us : List Value} (hr : RCs M cs us) :
    us.length = k.sz ∧ ∀ (j : Nat) (y : PV), (k.enc x)[j]? = some y → ∃ u, us[j]? = some u ∧ R M y u := by
  unfold LK.dec at h
  split at h
  · rename_i n
    cases h
    refine cells_eq hr ?_
    have : ((UInt8.ofNat n.toNat).toNat : Int) = n := by
      rw [UInt8.toNat_ofNat']; omega
    simp [LK.enc]; omega
  · split at h
    · rename_i k' n k'' hk; cases h
      have := ikeq_eq hk; subst this
      exact cells_eq hr rfl
    · cases h
  · cases h; exact cells_eq hr rfl
  · cases h; exact cells_eq hr rfl
  · cases h; exact cells_eq hr rfl
  · cases h; exact cells_eq hr rfl
  · cases h; exact cells_eq hr rfl
  · rename_i a; cases h
    refine cells_eq2 hr [i64 a, .nil .byt] rfl rfl (fun j y y' v h1 h2 h3 => ?_)
    match j, h1, h2 with
    | 0, h1, h2 => simp [LK.enc] at h1 h2; subst h1 h2; exact h3
    | 1, h1, h2 => simp [LK.enc] at h1 h2; subst h1 h2; exact h3.nil_lst
  · cases h; exact cells_eq hr rfl
  · cases h
    refine cells_eq2 hr [.nil .ent] rfl rfl (fun j y y' v h1 h2 h3 => ?_)
    match j, h1, h2 with
    | 0, h1, h2 => simp [LK.enc] at h1 h2; subst h1 h2; exact h3.nil_lst
  · cases h; exact cells_eq hr rfl
  · rename_i s b; cases h
    refine cells_eq2 hr [sv s, bv b, .nil .spn] rfl rfl (fun j y y' v h1 h2 h3 => ?_)
    match j, h1, h2 with
    | 0, h1, h2 => simp [LK.enc] at h1 h2; subst h1 h2; exact h3
    | 1, h1, h2 => simp [LK.enc] at h1 h2; subst h1 h2; exact h3
    | 2, h1, h2 => simp [LK.enc] at h1 h2; subst h1 h2; exact h3.nil_lst
  · cases h; exact cells_eq hr rfl
  · rename_i s n; cases h
    refine cells_eq2 hr [sv s, i64 n, .nil .tbl] rfl rfl (fun j y y' v h1 h2 h3 => ?_)
    match j, h1, h2 with
    | 0, h1, h2 => simp [LK.enc] at h1 h2; subst h1 h2; exact h3
    | 1, h1, h2 => simp [LK.enc] at h1 h2; subst h1 h2; exact h3
    | 2, h1, h2 => simp [LK.enc] at h1 h2; subst h1 h2; exact h3.nil_lst
  · cases h; exact cells_eq hr rfl
  · cases h; exact cells_eq hr rfl
  · cases h; exact cells_eq hr rfl
  · cases h
    refine cells_eq2 hr [.nil .ent] rfl rfl (fun j y y' v h1 h2 h3 => ?_)
    match j, h1, h2 with
    | 0, h1, h2 => simp [LK.enc, TE.pv] at h1 h2; subst h1 h2; exact h3.nil_lst
  · cases h
    have hl : us.length = 1 := hr.1
    refine ⟨hl, fun j y hj => ?_⟩
    have hj0 : j = 0 := by have := enc_lt hj; simp only [LK.sz] at this; omega
    subst hj0
    have hu : us[0]? = some us[0] := List.getElem?_eq_getElem (by omega)
    have hc := hr.2 0 _ _ rfl hu
    cases hc with
    | own ho => simp [LK.enc, TE.pv] at hj; subst hj; exact ⟨_, hu, .val ho⟩
  · cases h
end

/-! ### what a function hands back, contracts -/
inductive RX where
  | c (x : PV)
  | g (xs : List PV)
  | cl (f : Nat) (cs : List PV)   -- a function with one variable that it captured
inductive RV where
  | x (r : RX)
  | o (e : TypeId) (k : LK) (l : List k.T)
  | ot (e : TypeId) (k : LK) (l : List k.T) (rest : List RX)
  | t (rest : List RX)

def RXok (M : Mem) : RX → Value → Prop
  | .c x, v => R M x v
  | .g xs, v => ∃ us : Array Value, v = .agg us ∧ us.size = xs.length ∧ ∀ (j : Nat) (x : PV) (u : Value), xs[j]? = some x → us[j]? = some u → R M x u
  | .cl f cs, v => RC M (.clo f [.cel cs]) v
def RVok (M : Mem) (B : Nat) (w : World) : RV → Value → Prop
  | .x r, v => RXok M r v
  | .o e k l, v => OwnSl M B w v e k l
  | .ot e k l rest, v => ∃ us : Array Value, v = .tuple us ∧ us.size = rest.length + 1 ∧ (∃ u, us[0]? = some u ∧ OwnSl M B w u e k l) ∧ ∀ (j : Nat) (r : RX) (u : Value), rest[j]? = some r → us[j + 1]? = some u → RXok M r u
  | .t rest, v => ∃ us : Array Value, v = .tuple us ∧ us.size = rest.length ∧ ∀ (j : Nat) (r : RX) (u : Value), rest[j]? = some r → us[j]? = some u → RXok M r u
def RAs (M : Mem) (args : List A) (vs : Array Value) : Prop := vs.size = args.length ∧ ∀ (j : Nat) (a : A) (v : Value), args[j]? = some a → vs[j]? = some v → RA M a v

def Enters (P : Program) (f : FuncId) : Prop := ∃ fn, P.funcs[f]? = some fn ∧ fn.body.isNone = false ∧ (fn.name == "runtime.NumGoroutine") = false
def shM (sh : Bool) (M F : Mem) : Mem := match sh with | true => M.or F | false => F
/-- THE CONTRACT: handed what reads as 'args', the function hands back what reads as 'rv', and turns nothing that was there. -/
def Ctr (P : Program) (f : FuncId) (sh : Bool) (args : List A) (rv : RV) : Prop :=
  Enters P f ∧ ∀ (M : Mem) (w : World) (vs : Array Value), M.on w → RAs M args vs →
    Calls P f vs w fun e w' => ∃ v F, e = .returned v ∧ Below w.heap.size w w' ∧ Fresh F w.heap.size w' ∧ RVok (shM sh M F) w.heap.size w' rv v

/-- THE CONTRACT OF A METHOD BEHIND A POINTER to a variable of plain cells: what it hands back, what the cells are then. -/
def CtrP (P : Program) (f : FuncId) (ty : TypeId) (cs : List PV) (args : List A) (r : PV) (cs' : List PV) : Prop :=
  Enters P f ∧ ∀ (M : Mem) (w : World) (b : Nat) (us : Array Value) (vs : List Value), w.heap[b]? = some (.cells us ty (0, 0)) → RCs M (cs.map .pv) us.toList → RAs M args vs.toArray →
    Calls P f (.pointer (some ⟨b, 0, none⟩) :: vs).toArray w fun e w' => ∃ v us', e = .returned v ∧ (∀ M', R M' r v) ∧ (∀ M', RCs M' (cs'.map .pv) us'.toList) ∧ w' = w.setRow b us'
abbrev PSpec := List PV → List A → Option (Prop × PV × List PV)
def PSpecOk (P : Program) (f : FuncId) (ty : TypeId) (s : PSpec) : Prop := ∀ cs args pre r cs', s cs args = some (pre, r, cs') → pre → CtrP P f ty cs args r cs'
abbrev FSpec := List A → Option (Prop × Bool × RV)
def SpecOk (P : Program) (f : FuncId) (s : FSpec) : Prop := ∀ args pre sh rv, s args = some (pre, sh, rv) → pre → Ctr P f sh args rv

/-! ### states -/
inductive Ent where
  | u (x : A)
  | gd (j : Nat) (b : Bool) (x : A)
structure St where
  f : Nat → Option Ent
  H : Nat → Option HB
  nx : Nat
structure Env where
  T : Tb
  Ψ : FuncId → Option FSpec
  Ψp : FuncId → Option (TypeId × PSpec)
  N : Nat
  ws : List Nat
  ro : Option Nat
  mrk : Bool
structure PsiOk (P : Program) (E : Env) : Prop where
  fn : ∀ f s, E.Ψ f = some s → SpecOk P f s
  pt : ∀ f ty s, E.Ψp f = some (ty, s) → PSpecOk P f ty s
def pvsOf : List C → Option (List PV)
  | [] => some []
  | .pv x :: l => match pvsOf l with
    | some xs => some (x :: xs)
    | none => none
  | _ => none

def updF (f : Nat → Option Ent) (d : Nat) (e : Option Ent) : Nat → Option Ent := fun i => match Nat.beq i d with
  | true => e
  | false => f i
def updH (H : Nat → Option HB) (d : Nat) (e : Option HB) : Nat → Option HB := fun i => match Nat.beq i d with
  | true => e
  | false => H i
theorem updH_same (H : Nat → Option HB) (d : Nat) (e : Option HB) : updH H d e d = e := by simp [updH]
theorem updH_ne (H : Nat → Option HB) {d i : Nat} (e : Option HB) (h : i ≠ d) : updH H d e i = H i := by
  unfold updH
  cases hb : Nat.beq i d with
  | true => exact absurd (Nat.eq_of_beq_eq_true hb) h
  | false => rfl

def appL : (k : LK) → List k.T → (k' : LK) → List k'.T → Option (List k.T)
  | .byt, l, .byt, m => some (l ++ m)
  | .ints a, l, .ints b, m => match ikeq a b with | true => some (l ++ m) | false => none
  | .spn, l, .spn, m => some (l ++ m)
  | .pcs, l, .pcs, m => some (l ++ m)
  | .ent, l, .ent, m => some (l ++ m)
  | .slt, l, .slt, m => some (l ++ m)
  | .rcd, l, .rcd, m => some (l ++ m)
  | .tbl, l, .tbl, m => some (l ++ m)
  | .bms, l, .bms, m => some (l ++ m)
  | .sht, l, .sht, m => some (l ++ m)
  | .knw, l, .knw, m => some (l ++ m)
  | .bls, l, .bls, m => some (l ++ m)
  | .tbh, l, .tbh, m => some (l ++ m)
  | _, _, _, _ => none

/-- Arguments with nothing of one's own in them: a slice of one's own is lent. -/
def PV.nrm : PV → PV
  | .nil k => .lst k []
  | x => x
def C.nrm : C → C
  | .pv x => .pv x.nrm
  | c => c
def argC (H : Nat → Option HB) : C → Option (A × Bool × Prop)
  | .own n v => match H n with
    | some (.own v' _ k l) => some (lst k l, true, v = v')
    | _ => none
  | .pv x => some (pv x.nrm, false, True)
  | .ptr n b 0 => match H n with
    | some (.blk b' _ cs) => match pvsOf cs with
      | some ps => some (.c (.cel ps), true, b = b')
      | none => none
    | _ => none
  | .cel cs => some (.c (.cel cs), false, True)
  | .clo f [] => some (.c (.clo f []), false, True)
  | .clo f [.ptr n b 0] => match H n with
    | some (.blk b' _ cs) => match pvsOf cs with
      | some ps => some (.c (.clo f [.cel ps]), true, b = b')
      | none => none
    | _ => none
  | _ => none
def capsA (H : Nat → Option HB) : List C → Option (List A × Bool × Prop)
  | [] => some ([], false, True)
  | c :: cs => match argC H c, capsA H cs with
    | some (a, b, p), some (as, b', p') => some (a :: as, b || b', p ∧ p')
    | _, _ => none
def argA (H : Nat → Option HB) : A → Option (A × Bool × Prop)
  | .c c => argC H c
  | .g xs => some (.g (xs.map C.nrm), false, True)
  | _ => none
def argsA (T : Tb) (H : Nat → Option HB) (rd : Operand → Option A) : List Operand → List TypeId → Option (List A × Bool × Prop)
  | [], _ => some ([], false, True)
  | o :: os, t :: ts => match rdT T t rd o with
    | some a => match argA H a, argsA T H rd os ts with
      | some (a, b, p), some (as, b', p') => some (a :: as, b || b', p ∧ p')
      | _, _ => none
    | none => none
  | _ :: _, [] => none

def instX : RX → A
  | .c x => pv x
  | .g xs => .g (xs.map .pv)
  | .cl f cs => .c (.clo f [.cel cs])
def inst (nx : Nat) (u : Value) : RV → A × Option HB
  | .x r => (instX r, none)
  | .o e k l => (.c (.own nx u), some (.own u e k l))
  | .ot e k l rest => (.t (.c (.own nx (u.comp 0)) :: rest.map instX), some (.own (u.comp 0) e k l))
  | .t rest => (.t (rest.map instX), none)

structure HR where
  x : A
  ob : Prop
  H : Nat → Option HB
  nx : Nat

/-- Elements of a slice's literal, in their order. -/
def decAll (k : LK) (T : Tb) (e : TypeId) (rd : Operand → Option A) : Nat → List (Nat × Operand) → Option (List k.T × Prop)
  | _, [] => some ([], True)
  | i, (j, o) :: l => match Nat.beq i j, rdT T e rd o with
    | true, some a => match a.cells with
      | some cs => match k.dec cs, decAll k T e rd (i + 1) l with
        | some (x, ob), some (xs, ob') => some (x :: xs, ob ∧ ob')
        | _, _ => none
      | none => none
    | _, _ => none

def lkeq : LK → LK → Bool
  | .byt, .byt | .spn, .spn | .pcs, .pcs | .ent, .ent | .slt, .slt | .rcd, .rcd | .tbl, .tbl | .bms, .bms | .sht, .sht | .knw, .knw | .bls, .bls | .tbh, .tbh => true
  | .ints a, .ints b => ikeq a b
  | _, _ => false

/-- What an append's second argument brings. -/
def srcOf (H : Nat → Option HB) (z : List C) : TK → A → Option ((k : LK) × List k.T × Prop)
  | .int _, .c (.pv (.val (.int _ n))) => some ⟨.byt, List.replicate n.toNat 0, z = [.pv (.val (.int .u8 0))] ∧ (0 ≤ n ∧ n ≤ 1099511627776)⟩
  | .str, .c (.pv (.val (.string ⟨⟨l⟩⟩))) => some ⟨.byt, l, True⟩
  | .slc _ _, a => lkOf H a
  | _, _ => none

/-- Bytes off cells. -/
def decB : List C → Option (List UInt8 × Prop)
  | [] => some ([], True)
  | .pv (.val (.int .u8 n)) :: l => match decB l with
    | some (xs, p) => some (UInt8.ofNat n.toNat :: xs, (0 ≤ n ∧ n ≤ 255) ∧ p)
    | none => none
  | _ => none
/-- Is it nil? A slice that reads as no element may be, or not. -/
def nilB {α : Type} (u : Value) : List α → Bool
  | [] => match u with
    | .bool b => b
    | _ => false
  | _ :: _ => false
theorem nilB_nil {α : Type} {u : Value} {l : List α} (h : nilB u l = true) : l = [] := by
  cases l with
  | nil => rfl
  | cons x t => cases h
def heapOp (E : Env) (H : Nat → Option HB) (nx : Nat) (rd : Operand → Option A) (u : Value) : Op → Option HR
  | .box t x => match rdT E.T t rd x with
    | some a => match a.cells with
      | some cs => some ⟨.c (.ptr nx u.bn 0), True, updH H nx (some (.blk u.bn t cs)), nx + 1⟩
      | none => none
    | none => none
  | .alloc t => match E.T t with
    | some i => some ⟨.c (.ptr nx u.bn 0), True, updH H nx (some (.blk u.bn t i.zero)), nx + 1⟩
    | none => none
  | .store t p x => match rd p, rdT E.T t rd x, E.T t with
    | some (.c (.ptr n b o)), some a, some i => match H n, a.cells with
      | some (.blk b' ty cs), some new => match Nat.beq (len new) i.size && Nat.ble (o + len new) (len cs) with
        | true => some ⟨.t [], b = b', updH H n (some (.blk b' ty (tke o cs ++ new ++ drp (o + len new) cs))), nx⟩
        | false => none
      | _, _ => none
    | some (.c (.oel n v j sz o)), some a, some i => match H n, a.cells with
      | some (.own v' ty k l), some new => match Nat.beq (len new) i.size && Nat.ble (o + len new) k.sz with
        | true => match k.dec (tke o ((k.enc (l.getD j k.dft)).map .pv) ++ new ++ drp (o + len new) ((k.enc (l.getD j k.dft)).map .pv)) with
          | some (x, ob) => some ⟨.t [], ((v = v' ∧ sz = k.sz) ∧ j < l.length) ∧ ob, updH H n (some (.own v' ty k (l.set j x))), nx⟩
          | none => none
        | false => none
      | _, _ => none
    | _, _, _ => none
  | .binOp op t x (.const (.slice none 0 0)) _ => match E.T t, rd x with
    | some ⟨.slc _ _, _, _, _⟩, some (.c (.pv (.lst _ l))) => match op with
      | .eql => some ⟨bool (nilB u l), True, H, nx⟩
      | .neq => some ⟨bool (!nilB u l), True, H, nx⟩
      | _ => none
    | _, _ => none
  | .slice t x none none none => match E.T t, rd x with
    | some ⟨.arr N e, _, _, _⟩, some (.c (.ptr n b 0)) => match E.T e, H n with
      | some ⟨.int .u8, _, _, _⟩, some (.blk b' ty cs) => match Nat.beq N (len cs) && Nat.ble N 1000, decB cs with
        | true, some (l, ob) => some ⟨.c (.own n (.slice (some ⟨b, 0, none⟩) N N)), b = b' ∧ ob, updH H n (some (.own (.slice (some ⟨b, 0, none⟩) N N) ty .byt l)), nx⟩
        | _, _ => none
      | _, _ => none
    | _, _ => none
  | .call ⟨.builtin .copy, ⟨[d, s]⟩, ⟨[td, _]⟩⟩ => match E.T td, rd d, rd s with
    | some ⟨.slc e .byt, _, _, _⟩, some (.c (.own n v)), some sa => match H n, lkOf H sa, E.T e with
      | some (.own v' ty .byt l), some ⟨.byt, m, ob⟩, some ⟨.int .u8, _, _, _⟩ => some ⟨int .i64 (min m.length l.length : Nat), ob ∧ v = v', updH H n (some (.own v' ty .byt (m.take l.length ++ l.drop m.length))), nx⟩
      | _, _, _ => none
    | _, _, _ => none
  | .convert src dst x => match Nat.beq src dst, E.T src, rd x with
    | true, some ⟨.slc e _, _, _, _⟩, some (.c (.own n v)) => match H n, E.T e with
      | some (.own v' _ k l), some ⟨.int .u8, _, _, _⟩ => some ⟨lst k l, v = v' ∧ 0 < l.length, updH H n none, nx⟩
      | _, _ => none
    | _, _, _ => none
  | .buildSlice t n ⟨ps⟩ => match E.T t with
    | some ⟨.slc e k, _, _, _⟩ => match Nat.beq n (len ps), decAll k E.T e rd 0 ps, E.T e with
      | true, some (l, ob), some ie => match Nat.beq ie.size k.sz && Nat.ble n 1000 with
        | true => some ⟨.c (.own nx u), ob, updH H nx (some (.own u e k l)), nx + 1⟩
        | false => none
      | _, _, _ => none
    | _ => none
  | .makeSlice t l c => match E.T t, rd l, rd c with
    | some ⟨.slc e k, _, _, _⟩, some (.c (.pv (.val (.int _ l)))), some (.c (.pv (.val (.int _ c)))) => match E.T e with
      | some ie => match Nat.ble ie.bytes 64 with
        | true => some ⟨.c (.own nx u), ((0 ≤ l ∧ l ≤ c) ∧ c ≤ 1099511627776) ∧ ie.zero = (k.enc k.dft).map .pv, updH H nx (some (.own u e k (List.replicate l.toNat k.dft))), nx + 1⟩
        | false => none
      | none => none
    | _, _, _ => none
  | .call ⟨.builtin .append, ⟨[s, x]⟩, ⟨[t, tx]⟩⟩ => match E.T t, rdT E.T t rd s, rdT E.T tx rd x, E.T tx with
    | some ⟨.slc e k, _, _, _⟩, some a, some xa, some itx => match E.T e, srcOf H ((E.T e).elim [] TI.zero) itx.kind xa with
      | some ie, some ⟨k', m, ob⟩ => match Nat.ble ie.bytes 64, a with
        | true, .c (.own n v) => match H n with
          | some (.own v' ty k0 l) => match Nat.beq ty e && Nat.beq k0.sz k.sz, appL k0 l k' m with
            | true, some lm => some ⟨.c (.own nx u), (ob ∧ v = v') ∧ l.length + m.length ≤ 1099511627776, updH (updH H n none) nx (some (.own u e k0 lm)), nx + 1⟩
            | _, _ => none
          | _ => none
        | true, .c (.pv (.nil k0)) => match Nat.beq k0.sz k.sz, appL k0 [] k' m with
          | true, some lm => some ⟨.c (.own nx u), ob ∧ m.length ≤ 1099511627776, updH H nx (some (.own u e k0 lm)), nx + 1⟩
          | _, _ => none
        | _, _ => none
      | _, _ => none
    | _, _, _, _ => none
  | .call ⟨.value fo, ⟨args⟩, ⟨tys⟩⟩ => match rd fo with
    | some (.c (.clo f caps)) => match E.Ψ f with
      | some s => match argsA E.T H rd args tys, capsA H caps with
        | some (as, lent, ob), some (cs, lent', ob') => match s (as ++ cs) with
          | some (pre, sh, rv) => match (lent || lent') && sh, inst nx u rv with
            | false, (x, none) => some ⟨x, (ob ∧ ob') ∧ pre, H, nx⟩
            | false, (x, some hb) => some ⟨x, (ob ∧ ob') ∧ pre, updH H nx (some hb), nx + 1⟩
            | true, _ => none
          | none => none
        | _, _ => none
      | none => match caps, E.Ψp f, args, tys with
        | [], some (ty, s), p :: os, _ :: ts => match rd p, argsA E.T H rd os ts with
          | some (.c (.ptr n b 0)), some (as, _, ob) => match H n with
            | some (.blk b' ty' cs) => match pvsOf cs with
              | some ps => match Nat.beq ty ty', s ps as with
                | true, some (pre, r, ps') => some ⟨pv r, (ob ∧ b = b') ∧ pre, updH H n (some (.blk b' ty' (ps'.map .pv))), nx⟩
                | _, _ => none
              | none => none
            | _ => none
          | _, _ => none
        | _, _, _, _ => none
    | _ => none
  | _ => none
end Go.Mt
