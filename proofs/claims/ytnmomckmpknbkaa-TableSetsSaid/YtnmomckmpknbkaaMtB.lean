/-
  Mt, part B: the evaluator's pure operations.
-/
import Derived.Test.YtnmomckmpknbkaaMtA
set_option linter.unusedSimpArgs false
set_option linter.unusedVariables false
namespace Go.Mt
open Go.RowKit

inductive TK where
  | int (k : IntKind) | bool | str | slc (e : TypeId) (k : LK) | ptr (e : TypeId) | strct (fs : List (Nat × Nat × Bool)) | arr (n : Nat) (e : TypeId) | other
structure TI where
  kind : TK
  size : Nat
  bytes : Nat
  zero : List C
abbrev Tb := Nat → Option TI

def TK.agg : TK → Bool
  | .strct _ | .arr _ _ => true
  | _ => false

def flatFs : Nat → List (Nat × Nat × Bool) → Bool
  | _, [] => true
  | j, (o, s, b) :: l => Nat.beq o j && Nat.beq s 1 && !b && flatFs (j + 1) l
def primZ : List C → Bool
  | [] => true
  | .pv (.val (.int _ _)) :: l | .pv (.val (.bool _)) :: l | .pv (.val (.string _)) :: l => primZ l
  | _ => false
def ikeq' : IntKind → IntKind → Bool
  | a, b => decide (a = b)
/-- A struct's fields as a comparison wants them. -/
def eqFld (P : Program) : Nat → List C → List Field → Bool
  | _, [], [] => true
  | j, .pv (.val (.int k _)) :: zs, f :: fs => Nat.beq f.offset j && decide (f.name ≠ "_") && (match P.underlying f.type with | some (.int k') => ikeq' k k' | _ => false) && eqFld P (j + 1) zs fs
  | j, .pv (.val (.bool _)) :: zs, f :: fs => Nat.beq f.offset j && decide (f.name ≠ "_") && (match P.underlying f.type with | some .bool => true | _ => false) && eqFld P (j + 1) zs fs
  | j, .pv (.val (.string _)) :: zs, f :: fs => Nat.beq f.offset j && decide (f.name ≠ "_") && (match P.underlying f.type with | some .string => true | _ => false) && eqFld P (j + 1) zs fs
  | _, _, _ => false
def allI : List C → Bool
  | [] => true
  | .pv (.val (.int _ _)) :: l => allI l
  | _ => false
def eqab (k : TK) (z : List C) : Bool := match k with
  | .strct fs => flatFs 0 fs && primZ z
  | .arr n _ => allI z && Nat.beq n z.length && Nat.blt 0 n
  | _ => false
def eqOk (P : Program) (t : TypeId) (z : List C) : Bool := match P.underlying t with
  | some (.struct fields) => eqFld P 0 z fields.toList && (!P.stoodInHeld t) && !P.eqGuardType P.depth t
  | some (.array n e) => allI z && Nat.beq n z.length && (match P.underlying e with | some (.int _) => true | _ => false) && (match P.info? e with | some i => Nat.beq i.size 1 | none => false) && !P.eqGuardType P.depth t
  | _ => false
structure TyOk (P : Program) (t : TypeId) (i : TI) : Prop where
  eq : eqab i.kind i.zero = true → eqOk P t i.zero = true
  info : ∃ inf z, P.info? t = some inf ∧ inf.size = i.size ∧ inf.bytes = i.bytes ∧ inf.zero = some z ∧ z.cells.size = i.size ∧ ∀ M, RCs M i.zero z.cells.toList
  und : match i.kind with
    | .int k => P.underlying t = some (.int k)
    | .bool => P.underlying t = some .bool
    | .str => P.underlying t = some .string
    | .slc e k => P.underlying t = some (.slice e) ∧ ∃ inf, P.info? e = some inf ∧ inf.size = k.sz
    | .ptr e => P.underlying t = some (.pointer e)
    | .strct fs => ∃ fields, P.underlying t = some (.struct fields) ∧ fields.size = fs.length ∧
        ∀ (j : Nat) (f : Field) (x : Nat × Nat × Bool), fields[j]? = some f → fs[j]? = some x → f.offset = x.1 ∧ (∃ inf d, P.info? f.type = some inf ∧ inf.size = x.2.1 ∧ P.underlying f.type = some d ∧ (match d with | .struct _ | .array _ _ => true | _ => false) = x.2.2)
    | .arr n e => P.underlying t = some (.array n e) ∧ ∃ inf, P.info? e = some inf
    | .other => (match P.underlying t with | some (.struct _) | some (.array _ _) | none => false | _ => true) = true
def TbOk (P : Program) (T : Tb) : Prop := ∀ t i, T t = some i → TyOk P t i

/-! ### numbers -/
def inR : IntKind → Int → Prop
  | .i8, n => -128 ≤ n ∧ n ≤ 127
  | .i16, n => -32768 ≤ n ∧ n ≤ 32767
  | .i32, n => -2147483648 ≤ n ∧ n ≤ 2147483647
  | .i64, n => -9223372036854775808 ≤ n ∧ n ≤ 9223372036854775807
  | .u8, n => 0 ≤ n ∧ n ≤ 255
  | .u16, n => 0 ≤ n ∧ n ≤ 65535
  | .u32, n => 0 ≤ n ∧ n ≤ 4294967295
  | .u64, n => 0 ≤ n ∧ n ≤ 18446744073709551615
theorem wrap_in {k : IntKind} {n : Int} (h : inR k n) : k.wrap n = n := by
  cases k <;> first | exact IntWalk.i8_in n h | exact IntWalk.i16_in n h | exact IntWalk.i32_in n h | exact IntWalk.i64_in n h | exact IntWalk.u8_in n h | exact IntWalk.u16_in n h | exact IntWalk.u32_in n h | exact IntWalk.u64_in n h
theorem u8_lo (n : Int) : 0 ≤ IntKind.u8.wrap n := by rw [IntKind.wrap_u8]; omega
theorem u8_hi (n : Int) : IntKind.u8.wrap n ≤ 255 := by rw [IntKind.wrap_u8]; omega
def iand (k : IntKind) (a b : Int) : Int := k.wrap ((BitVec.ofInt k.bits a &&& BitVec.ofInt k.bits b).toNat : Int)
def ior (k : IntKind) (a b : Int) : Int := k.wrap ((BitVec.ofInt k.bits a ||| BitVec.ofInt k.bits b).toNat : Int)
def ixor (k : IntKind) (a b : Int) : Int := k.wrap ((BitVec.ofInt k.bits a ^^^ BitVec.ofInt k.bits b).toNat : Int)
def ikeq : IntKind → IntKind → Bool
  | .i8, .i8 | .i16, .i16 | .i32, .i32 | .i64, .i64 | .u8, .u8 | .u16, .u16 | .u32, .u32 | .u64, .u64 => true
  | _, _ => false
theorem ikeq_eq {a b : IntKind} (h : ikeq a b = true) : a = b := by cases a <;> cases b <;> first | rfl | cases h
def isI64 : IntKind → Bool | .i64 => true | _ => false

/-- Is it wrapped? An int is not, unless 'wm' says so; any other kind is, unless 'wm' says so. -/
def wrm (wm : Bool) (k : IntKind) : Bool := match isI64 k with | true => wm | false => !wm
/-- A number that is wrapped, or that must lie in its range. -/
def wrp (wm : Bool) (k : IntKind) (n : Int) : A × Prop := match wm with
  | true => (int k (k.wrap n), True)
  | false => (int k n, inR k n)

def bar (wm : Bool) (k : IntKind) (a b : Int) : BinOp → Option (A × Prop)
  | .add => some (wrp wm k (a + b))
  | .sub => some (wrp wm k (a - b))
  | .mul => some (wrp wm k (a * b))
  | .quo => some (int k (a / b), (0 ≤ a ∧ 0 < b) ∧ inR k (a / b))
  | .rem => some (int k (a % b), 0 ≤ a ∧ 0 < b)
  | .and => some (int k (iand k a b), True)
  | .or => some (int k (ior k a b), True)
  | .xor => some (int k (ixor k a b), True)
  | .eql => some (bool (decide (a = b)), True)
  | .neq => some (bool (!decide (a = b)), True)
  | .lss => some (bool (decide (a < b)), True)
  | .leq => some (bool (decide (a ≤ b)), True)
  | .gtr => some (bool (decide (b < a)), True)
  | .geq => some (bool (decide (b ≤ a)), True)
  | _ => none

def bin (wm : Bool) (op : BinOp) : A → A → Option (A × Prop)
  | .c (.pv (.val (.int k a))), .c (.pv (.val (.int k' b))) =>
    match op with
    | .shl => match wrm wm k with
      | true => some (int k (k.wrap (a * 2 ^ b.toNat)), 0 ≤ b ∧ b ≤ k.bits)
      | false => some (int k (a * 2 ^ b.toNat), (0 ≤ b ∧ b ≤ k.bits) ∧ inR k (a * 2 ^ b.toNat))
    | .shr => some (int k (a / 2 ^ b.toNat), 0 ≤ b ∧ b ≤ k.bits)
    | op => match ikeq k k' with
      | true => bar (wrm wm k) k a b op
      | false => none
  | .c (.pv (.val (.string ⟨⟨s⟩⟩))), .c (.pv (.val (.string ⟨⟨t⟩⟩))) =>
    match op with
    | .eql => some (bool (decide (s = t)), True)
    | .neq => some (bool (!decide (s = t)), True)
    | _ => none
  | _, _ => none

section
variable {P : Program} {w : World}

theorem bar_ok {wm : Bool} {k : IntKind} {a b : Int} {op : BinOp} {x : A} {ob : Prop} (h : bar wm k a b op = some (x, ob)) (hob : ob) (hs : op ≠ .shl ∧ op ≠ .shr) (xT : TypeId) :
    ∃ v, x = .c (.pv (.val v)) ∧ v.oneCell' = true ∧ (Go.binOp op xT (.int k a) (.int k b)).run P w = .ok v w := by
  cases op <;> simp only [bar, Option.some.injEq, reduceCtorEq] at h <;> (try (simp at hs; done))
  case add => cases wm <;> simp only [wrp, Prod.mk.injEq] at h <;> obtain ⟨rfl, rfl⟩ := h <;> refine ⟨_, rfl, rfl, ?_⟩ <;> simp [Go.binOp, Op.intArith] <;> exact wrap_in hob
  case sub => cases wm <;> simp only [wrp, Prod.mk.injEq] at h <;> obtain ⟨rfl, rfl⟩ := h <;> refine ⟨_, rfl, rfl, ?_⟩ <;> simp [Go.binOp, Op.intArith] <;> exact wrap_in hob
  case mul => cases wm <;> simp only [wrp, Prod.mk.injEq] at h <;> obtain ⟨rfl, rfl⟩ := h <;> refine ⟨_, rfl, rfl, ?_⟩ <;> simp [Go.binOp, Op.intArith] <;> exact wrap_in hob
  case quo =>
    simp only [Prod.mk.injEq] at h; obtain ⟨rfl, rfl⟩ := h
    obtain ⟨⟨h0, h1⟩, h2⟩ := hob
    refine ⟨_, rfl, rfl, ?_⟩
    have e : a.tdiv b = a / b := Int.tdiv_eq_ediv_of_nonneg h0
    have hb : b ≠ 0 := by omega
    simp [Go.binOp, Op.intDiv, hb, e, wrap_in h2]
  case rem =>
    simp only [Prod.mk.injEq] at h; obtain ⟨rfl, rfl⟩ := h
    obtain ⟨h0, h1⟩ := hob
    refine ⟨_, rfl, rfl, ?_⟩
    have e : a.tmod b = a % b := Int.tmod_eq_emod_of_nonneg h0
    have hb : b ≠ 0 := by omega
    simp [Go.binOp, Op.intDiv, hb, e]
  all_goals
    simp only [Prod.mk.injEq] at h; obtain ⟨rfl, rfl⟩ := h
    refine ⟨_, rfl, rfl, ?_⟩
    simp [Go.binOp, Op.intBits, Op.intCmp, iand, ior, ixor]
    try (first | rfl | (cases h : decide (a = b) <;> simp_all))

theorem run_eqGuard_plain (op : BinOp) (t : TypeId) (x y : Operand) (a b : Value) (h : (match a, b with | .nilIface, .nilIface => false | .agg _, .agg _ => false | _, _ => true) = true) : (eqGuard op t x y a b).run P w = .ok () w := by
  cases op <;> first
    | rfl
    | (cases a <;> first | rfl | (cases b <;> first | rfl | (cases h)))

theorem bin_ok {wm : Bool} {op : BinOp} {M : Mem} {xa ya : A} {xv yv : Value} (hx : RA M xa xv) (hy : RA M ya yv) {x : A} {ob : Prop} (h : bin wm op xa ya = some (x, ob)) (hob : ob) (xT : TypeId) (ox oy : Operand) :
    ∃ v, x = .c (.pv (.val v)) ∧ v.oneCell' = true ∧ (do eqGuard op xT ox oy xv yv; Go.binOp op xT xv yv : Sem Value).run P w = .ok v w := by
  unfold bin at h
  split at h
  · rename_i k a k' b
    have ex := hx.val_inv; have ey := hy.val_inv
    subst ex ey
    rw [Sem.run_bind, run_eqGuard_plain _ _ _ _ _ _ rfl]
    simp only [Result.andThen_ok]
    split at h
    · cases hw : (wrm wm k) <;> simp only [hw, Option.some.injEq, Prod.mk.injEq] at h <;> obtain ⟨rfl, rfl⟩ := h <;> refine ⟨_, rfl, rfl, ?_⟩
      · obtain ⟨⟨h0, h1⟩, h2⟩ := hob
        have hb : ¬ b < 0 := by omega
        have hm : min b.toNat k.bits = b.toNat := by omega
        simp [Go.binOp, Op.shift, hb, hm, wrap_in h2]
      · obtain ⟨h0, h1⟩ := hob
        have hb : ¬ b < 0 := by omega
        have hm : min b.toNat k.bits = b.toNat := by omega
        simp [Go.binOp, Op.shift, hb, hm]
    · simp only [Option.some.injEq, Prod.mk.injEq] at h; obtain ⟨rfl, rfl⟩ := h
      obtain ⟨h0, h1⟩ := hob
      refine ⟨_, rfl, rfl, ?_⟩
      have hb : ¬ b < 0 := by omega
      have hm : min b.toNat k.bits = b.toNat := by omega
      have hp : (0 : Int) ≤ 2 ^ b.toNat := Int.pow_nonneg (by omega)
      simp [Go.binOp, Op.shift, hb, hm, Int.fdiv_eq_ediv_of_nonneg _ hp]
    · rename_i h1 h2
      split at h
      · rename_i hk; have := ikeq_eq hk; subst this
        exact bar_ok h hob ⟨fun e => h1 e, fun e => h2 e⟩ xT
      · cases h
  · rename_i s t
    have ex := hx.val_inv; have ey := hy.val_inv
    subst ex ey
    rw [Sem.run_bind, run_eqGuard_plain _ _ _ _ _ _ rfl]
    simp only [Result.andThen_ok]
    split at h
    · simp only [Option.some.injEq, Prod.mk.injEq] at h; obtain ⟨rfl, rfl⟩ := h
      exact ⟨_, rfl, rfl, by simp [Go.binOp, Op.stringOp]; (first | rfl | (rw [Bool.eq_iff_iff]; simp))⟩
    · simp only [Option.some.injEq, Prod.mk.injEq] at h; obtain ⟨rfl, rfl⟩ := h
      exact ⟨_, rfl, rfl, by simp [Go.binOp, Op.stringOp]; (first | rfl | (rw [Bool.eq_iff_iff]; simp))⟩
    · cases h
  · cases h
end
end Go.Mt
