/-
  Mt, part C: the evaluator's pure operations that look at memory, at structs, at lists.
-/
import Derived.Test.YtnmomckmpknbkaaMtB
set_option linter.unusedSimpArgs false
set_option linter.unusedVariables false
namespace Go.Mt
open Go.RowKit

def nth {α : Type} : List α → Nat → Option α
  | [], _ => none
  | x :: _, 0 => some x
  | _ :: l, n + 1 => nth l n
theorem nth_eq {α : Type} (l : List α) (n : Nat) : nth l n = l[n]? := by
  induction l generalizing n with
  | nil => simp [nth]
  | cons x l ih => cases n <;> simp [nth, ih]
def drp {α : Type} : Nat → List α → List α
  | 0, l => l
  | _ + 1, [] => []
  | n + 1, _ :: l => drp n l
theorem drp_eq {α : Type} (n : Nat) (l : List α) : drp n l = l.drop n := by
  induction n generalizing l with
  | zero => simp [drp]
  | succ n ih => cases l <;> simp [drp, ih]
def tke {α : Type} : Nat → List α → List α
  | 0, _ => []
  | _ + 1, [] => []
  | n + 1, x :: l => x :: tke n l
theorem tke_eq {α : Type} (n : Nat) (l : List α) : tke n l = l.take n := by
  induction n generalizing l with
  | zero => simp [tke]
  | succ n ih => cases l <;> simp [tke, ih]
def len {α : Type} : List α → Nat
  | [] => 0
  | _ :: l => len l + 1
theorem len_eq {α : Type} (l : List α) : len l = l.length := by induction l <;> simp [len, *]

/-- A struct or one cell off cells. -/
def ldA (T : Tb) (t : TypeId) (cs : List C) : Option A :=
  match T t with
  | some i => match i.kind.agg with
    | true => match Nat.ble i.size (len cs) with
      | true => some (.g (tke i.size cs))
      | false => none
    | false => match cs with
      | c :: _ => some (.c c)
      | [] => none
  | none => none

def A.cells : A → Option (List C)
  | .c x => some [x]
  | .g xs => some xs
  | .t _ => none

/-- Parts laid over a struct's cells. -/
def fillC (fs : List (Nat × Nat × Bool)) (cs : List C) : List (Nat × A) → Option (List C)
  | [] => some cs
  | (i, a) :: rest => match nth fs i, a.cells with
    | some (off, size, _), some new => match Nat.beq (len new) size && Nat.ble (off + size) (len cs) with
      | true => fillC fs (tke off cs ++ new ++ drp (off + size) cs) rest
      | false => none
    | _, _ => none

def constA (v : Value) : Option A := match v with
  | .bool _ | .int _ _ | .string _ | .nilFunc | .nilIface => some (pv (.val v))
  | .pointer none => some (pv (.val v))
  | _ => none
def rdT (T : Tb) (ty : TypeId) (rd : Operand → Option A) : Operand → Option A
  | .const (.slice none 0 0) => match T ty with
    | some ⟨.slc _ k, _, _, _⟩ => some (pv (.nil k))
    | _ => none
  | .const (.agg cs) => match T ty with
    | some ⟨.strct _, n, _, z⟩ => none
    | _ => none
  | o => rd o

def intOf? : A → Option Int
  | .c (.pv (.val (.int _ n))) => some n
  | _ => none

/-- An index between bounds. -/
def subR (n : Nat) (lo hi mx : Option A) : Option (Int × Int × Prop) :=
  match lo, hi, mx with
  | none, none, none => some (0, n, True)
  | some l, none, none => match intOf? l with | some l => some (l, n, 0 ≤ l ∧ l ≤ n) | none => none
  | none, some h, none => match intOf? h with | some h => some (0, h, 0 ≤ h ∧ h ≤ n) | none => none
  | some l, some h, none => match intOf? l, intOf? h with | some l, some h => some (l, h, (0 ≤ l ∧ l ≤ h) ∧ h ≤ n) | _, _ => none
  | some l, some h, some m => match intOf? l, intOf? h, intOf? m with | some l, some h, some m => some (l, h, (0 ≤ l ∧ l ≤ h) ∧ (h ≤ m ∧ m ≤ n)) | _, _, _ => none
  | _, _, _ => none

def optA (rd : Operand → Option A) : Option Operand → Option (Option A)
  | none => some none
  | some o => match rd o with | some x => some (some x) | none => none

def rdAll (rd : Operand → Option A) : List Operand → Option (List A)
  | [] => some []
  | o :: l => match rd o, rdAll rd l with
    | some x, some xs => some (x :: xs)
    | _, _ => none
def rdParts (T : Tb) (rd : Operand → Option A) : List (Nat × Operand) → Option (List (Nat × A))
  | [] => some []
  | (i, o) :: l => match rd o, rdParts T rd l with
    | some x, some xs => some ((i, x) :: xs)
    | _, _ => none
def cellOf : A → Option C
  | .c x => some x
  | _ => none
def cellsOf : List A → Option (List C)
  | [] => some []
  | a :: l => match cellOf a, cellsOf l with
    | some x, some xs => some (x :: xs)
    | _, _ => none

/-- The list that a cell stands for. -/
def lkOf (H : Nat → Option HB) : A → Option ((k : LK) × List k.T × Prop)
  | .c (.pv (.lst k l)) => some ⟨k, l, True⟩
  | .c (.pv (.nil k)) => some ⟨k, [], True⟩
  | .c (.own n v) => match H n with
    | some (.own v' _ k l) => some ⟨k, l, v = v'⟩
    | _ => none
  | _ => none

def cvw : IntKind → Bool | .i64 | .u64 => false | _ => true
def cnv (T : Tb) (wm : Bool) (dst : TypeId) : A → Option (A × Prop)
  | .c (.pv (.val (.int _ n))) => match T dst with
    | some ⟨.int k, _, _, _⟩ => some (wrp (wm != cvw k) k n)
    | _ => none
  | .c (.pv (.val (.string s))) => match T dst with
    | some ⟨.str, _, _, _⟩ => some (pv (.val (.string s)), True)
    | _ => none
  | _ => none
def cnvB (T : Tb) (H : Nat → Option HB) (dst : TypeId) (x : A) : Option (A × Prop) := match lkOf H x, T dst with
    | some ⟨.byt, l, ob⟩, some ⟨.str, _, _, _⟩ => some (str l, ob)
    | _, _ => none

def noOwn : List (Nat × A) → Bool
  | [] => true
  | (_, .c (.own _ _)) :: _ => false
  | _ :: l => noOwn l
/-- Are a struct's cells those of another one? -/
def eqCs : List C → List C → List C → Option Bool
  | [], [], [] => some true
  | .pv (.val (.int _ _)) :: zs, .pv (.val (.int k a)) :: xs, .pv (.val (.int k' b)) :: ys => match ikeq k k', eqCs zs xs ys with
    | true, some r => some (decide (a = b) && r)
    | _, _ => none
  | .pv (.val (.bool _)) :: zs, .pv (.val (.bool a)) :: xs, .pv (.val (.bool b)) :: ys => match eqCs zs xs ys with
    | some r => some (decide (a = b) && r)
    | _ => none
  | .pv (.val (.string _)) :: zs, .pv (.val (.string ⟨⟨a⟩⟩)) :: xs, .pv (.val (.string ⟨⟨b⟩⟩)) :: ys => match eqCs zs xs ys with
    | some r => some (decide (a = b) && r)
    | _ => none
  | _, _, _ => none
/-- Comparisons that ask the type. -/
def binT (T : Tb) (t : TypeId) (op : BinOp) : A → A → Option (A × Prop)
  | .c (.pv (.val (.bool a))), .c (.pv (.val (.bool b))) => match T t with
    | some ⟨.bool, _, _, _⟩ => match op with
      | .eql => some (bool (decide (a = b)), True)
      | .neq => some (bool (!decide (a = b)), True)
      | _ => none
    | _ => none
  | .g xs, .g ys => match T t with
    | some i => match eqab i.kind i.zero, eqCs i.zero xs ys with
      | true, some r => match op with
        | .eql => some (bool r, True)
        | .neq => some (bool (!r), True)
        | _ => none
      | _, _ => none
    | none => none
  | _, _ => none
/-- So many bytes as cells. -/
def celB (l : List UInt8) : Nat → Nat → List PV
  | _, 0 => []
  | i, m + 1 => .val (.int .u8 (l.getD i 0).toNat) :: celB l (i + 1) m
def pureOp (T : Tb) (H : Nat → Option HB) (wm : Bool) (rd : Operand → Option A) (ty : TypeId) : Op → Option (A × Prop)
  | .move x | .assign x => match rdT T ty rd x with
    | some a => some (a, True)
    | none => none
  | .binOp op t x y _ => match rd x, rd y with
    | some a, some b => match bin wm op a b with
      | some r => some r
      | none => binT T t op a b
    | _, _ => none
  | .unOp op _ x => match op, rd x with
    | .not, some (.c (.pv (.val (.bool b)))) => some (bool (!b), True)
    | _, _ => none
  | .convert src dst x => match T src, rd x with
    | some ⟨.slc e _, _, _, _⟩, some a => match T e with
      | some ⟨.int .u8, _, _, _⟩ => cnvB T H dst a
      | _ => none
    | some _, some a => cnv T wm dst a
    | _, _ => none
  | .extract x i => match rd x with
    | some (.t xs) => match nth xs i with
      | some a => some (a, True)
      | none => none
    | _ => none
  | .field xT x f => match T xT, rd x with
    | some ⟨.strct fs, _, _, _⟩, some (.g cs) => match nth fs f with
      | some (off, size, true) => some (.g (tke size (drp off cs)), True)
      | some (off, _, false) => match drp off cs with
        | c :: _ => some (.c c, True)
        | [] => none
      | none => none
    | _, _ => none
  | .fieldAddr sT x f => match T sT with
    | some ⟨.strct fs, _, _, _⟩ => match nth fs f with
      | some (off, size, _) => match Nat.ble 1 size, rd x with
        | true, some (.c (.ptr n b o)) => some (.c (.ptr n b (o + off)), True)
        | true, some (.c (.cel cs)) => some (.c (.cel (drp off cs)), True)
        | true, some (.c (.oel n v i sz o)) => some (.c (.oel n v i sz (o + off)), True)
        | _, _ => none
      | none => none
    | _ => none
  | .indexAddr t x i => match T t, rd x, rd i with
    | some ⟨.slc _ k', _, _, _⟩, some (.c (.pv (.lst k l))), some (.c (.pv (.val (.int _ i)))) =>
      match Nat.beq k'.sz k.sz with
      | true => some (.c (.cel (k.enc (l.getD i.toNat k.dft))), 0 ≤ i ∧ i < l.length)
      | false => none
    | some ⟨.slc _ k', _, _, _⟩, some (.c (.own n v)), some (.c (.pv (.val (.int _ i)))) => match H n with
      | some (.own v' _ k l) => match Nat.beq k'.sz k.sz with
        | true => some (.c (.oel n v i.toNat k.sz 0), v = v' ∧ 0 ≤ i ∧ i < l.length)
        | false => none
      | _ => none
    | _, _, _ => none
  | .load t x => match rd x with
    | some (.c (.ptr n b o)) => match H n with
      | some (.blk b' _ cs) => match ldA T t (drp o cs) with
        | some a => some (a, b = b')
        | none => none
      | some (.own v' _ .byt l) => match T t with
        | some ⟨.arr N _, _, _, _⟩ => match Nat.beq o 0 && Nat.ble 1 N, ldA T t ((celB l 0 N).map .pv) with
          | true, some a => some (a, b = v'.blk ∧ l.length = N)
          | _, _ => none
        | _ => none
      | _ => none
    | some (.c (.cel cs)) => match ldA T t (cs.map .pv) with
      | some a => some (a, True)
      | none => none
    | some (.c (.oel n v i sz o)) => match H n with
      | some (.own v' _ k l) => match ldA T t ((drp o (k.enc (l.getD i k.dft))).map .pv) with
        | some a => some (a, (v = v' ∧ sz = k.sz) ∧ i < l.length)
        | none => none
      | _ => none
    | _ => none
  | .slice t x lo hi mx => match rd x, optA rd lo, optA rd hi, optA rd mx with
    | some (.c (.pv (.lst k l))), some lo, some hi, some mx => match T t with
      | some ⟨.slc _ k', _, _, _⟩ => match Nat.beq k'.sz k.sz, subR l.length lo hi mx with
        | true, some (lo, hi, ob) => some (lst k ((l.take hi.toNat).drop lo.toNat), ob)
        | _, _ => none
      | _ => none
    | some (.c (.pv (.val (.string ⟨⟨l⟩⟩)))), some lo, some hi, some none => match T t with
      | some ⟨.str, _, _, _⟩ => match subR l.length lo hi none with
        | some (lo, hi, ob) => some (str ((l.take hi.toNat).drop lo.toNat), ob)
        | none => none
      | _ => none
    | _, _, _, _ => none
  | .build t ⟨ps⟩ => match T t with
    | some ⟨.strct fs, _, _, z⟩ => match rdParts T rd ps with
      | some ps => match noOwn ps, fillC fs z ps with
        | true, some cs => some (.g cs, True)
        | _, _ => none
      | none => none
    | _ => none
  | .call ⟨.builtin .len, ⟨[x]⟩, ⟨[t]⟩⟩ => match rd x with
    | some (.c (.pv (.val (.string ⟨⟨l⟩⟩)))) => match T t with
      | some ⟨.str, _, _, _⟩ => some (int .i64 l.length, True)
      | _ => none
    | some a => match lkOf H a, T t with
      | some ⟨_, l, ob⟩, some ⟨.slc _ _, _, _, _⟩ => some (int .i64 l.length, ob)
      | _, _ => none
    | none => none
  | .call ⟨.builtin .min, ⟨[x, y]⟩, _⟩ => match rd x, rd y with
    | some (.c (.pv (.val (.int k a)))), some (.c (.pv (.val (.int k' b)))) => match ikeq k k' with
      | true => some (int k (min a b), True)
      | false => none
    | _, _ => none
  | .call ⟨.builtin .max, ⟨[x, y]⟩, _⟩ => match rd x, rd y with
    | some (.c (.pv (.val (.int k a)))), some (.c (.pv (.val (.int k' b)))) => match ikeq k k' with
      | true => some (int k (max a b), True)
      | false => none
    | _, _ => none
  | .nilCheck x => match rd x with
    | some (.c (.ptr n b o)) => some (.c (.ptr n b o), True)
    | some (.c (.cel cs)) => some (.c (.cel cs), True)
    | some (.c (.oel n v i sz o)) => some (.c (.oel n v i sz o), True)
    | _ => none
  | .makeFunc (.func f) ⟨[]⟩ ⟨caps⟩ => match rdAll rd caps with
    | some l => match cellsOf l with
      | some cs => some (.c (.clo f cs), True)
      | none => none
    | none => none
  | .index t x i => match T t, rd x, rd i with
    | some ⟨.str, _, _, _⟩, some (.c (.pv (.val (.string ⟨⟨l⟩⟩)))), some (.c (.pv (.val (.int _ i)))) =>
      some (int .u8 (l.getD i.toNat 0).toNat, 0 ≤ i ∧ i < l.length)
    | _, _, _ => none
  | .sliceToArrayPointer arr x => match T arr, rd x with
    | some ⟨.arr N _, _, _, _⟩, some (.c (.pv (.lst .byt l))) => match Nat.ble 1 N with
      | true => some (.c (.cel (celB l 0 N)), N ≤ l.length)
      | false => none
    | _, _ => none
  | _ => none
end Go.Mt
