/-
  Mt, part J: states, contracts, operations that turn memory.
-/
import Derived.Test.YtnmomckmpknbkaaMtI
set_option linter.unusedSimpArgs false
set_option linter.unusedVariables false
namespace Go
def Value.bn : Value → Nat
  | .pointer (some a) => a.block
  | _ => 0
def Value.comp : Value → Nat → Value
  | .tuple vs, i => vs.getD i undef
  | _, _ => undef
end Go
namespace Go.Mt
open Go.RowKit

/-- An element off its cells. -/
def LK.dec : (k : LK) → List C → Option (k.T × Prop)
  | .byt, [.pv (.val (.int .u8 n))] => some (UInt8.ofNat n.toNat, 0 ≤ n ∧ n ≤ 255)
  | .ints k, [.pv (.val (.int k' n))] => match ikeq k k' with | true => some (n, True) | false => none
  | .spn, [.pv (.val (.int .i64 a)), .pv (.val (.int .i64 b))] => some (⟨a, b⟩, True)
  | .pcs, [.pv (.val (.int .i64 a)), .pv (.val (.int .i64 b)), .pv (.val (.int .i64 c))] => some (⟨a, b, c⟩, True)
  | .ent, [.pv (.val (.int .i64 a)), .pv (.val (.int .i64 b)), .pv (.val (.int .i64 c)), .pv (.val (.int .i64 d)), .pv (.val (.int .u32 e))] => some (⟨a, b, c, d, e⟩, True)
  | .slt, [.pv (.val (.int .i64 a)), .pv (.val (.int .i64 b)), .pv (.val (.int .i64 c)), .pv (.val (.int .u32 e))] => some (⟨a, b, c, e⟩, True)
  | .rcd, [.pv (.val (.int .i64 a)), .pv (.lst .byt l)] => some (⟨a, l⟩, True)
  | .rcd, [.pv (.val (.int .i64 a)), .pv (.nil .byt)] => some (⟨a, []⟩, True)
  | .tbl, [.pv (.lst .ent l)] => some (l, True)
  | .tbl, [.pv (.nil .ent)] => some ([], True)
  | .bms, [.pv (.val (.string ⟨⟨s⟩⟩)), .pv (.val (.bool b)), .pv (.lst .spn l)] => some (⟨s, b, l⟩, True)
  | .bms, [.pv (.val (.string ⟨⟨s⟩⟩)), .pv (.val (.bool b)), .pv (.nil .spn)] => some (⟨s, b, []⟩, True)
  | .sht, [.pv (.val (.string ⟨⟨s⟩⟩)), .pv (.val (.int .i64 n)), .pv (.lst .tbl l)] => some (⟨s, n, l⟩, True)
  | .sht, [.pv (.val (.string ⟨⟨s⟩⟩)), .pv (.val (.int .i64 n)), .pv (.nil .tbl)] => some (⟨s, n, []⟩, True)
  | .knw, [.pv (.val (.int .u64 f)), .pv (.val (.int .i64 a)), .pv (.val (.int .i64 b)), .pv (.val (.int .i64 c)), .pv (.val (.int .i64 d)), .pv (.val (.int .u32 e))] => some (⟨f, a, b, c, d, e⟩, True)
  | .bls, [.pv (.val (.bool b))] => some (b, True)
  | .tbh, [.pv (.lst .ent l)] => some (.l l, True)
  | .tbh, [.pv (.nil .ent)] => some (.l [], True)
  | .tbh, [.own _ v] => some (.v v, True)
  | _, _ => none

section
variable {P : Program} {T : Tb} {w w' : World} {M F : Mem} {B : Nat} {W : World} {H H' : Nat → Option HB}

theorem RCs.at {xs : List C} {us : List Value} (h : RCs M xs us) {j : Nat} {x : PV} (hj : xs[j]? = some (.pv x)) : ∃ u, us[j]? = some u ∧ R M x u := by
  have hlt := (List.getElem?_eq_some_iff.1 hj).1
  have hlt' : j < us.length := by rw [h.1]; exact hlt
  refine ⟨us[j], List.getElem?_eq_getElem hlt', ?_⟩
  have := h.2 j _ _ hj (List.getElem?_eq_getElem hlt')
  cases this with | pv r => exact r

theorem R.nil_lst {k : LK} {v : Value} (h : R M (.nil k) v) : R M (.lst k []) v := by cases h; exact R.lst_nil _ _

theorem cells_eq2 {k : LK} {x : k.T} {cs : List C} {us : List Value} (hr : RCs M cs us) (ys : List PV) (e : cs = ys.map .pv) (hl : ys.length = k.sz)
    (hh : ∀ (j : Nat) (y y' : PV) (v : Value), ys[j]? = some y → (k.enc x)[j]? = some y' → R M y v → R M y' v) : us.length = k.sz ∧ ∀ (j : Nat) (y : PV), (k.enc x)[j]? = some y → ∃ u, us[j]? = some u ∧ R M y u := by
  subst e
  refine ⟨by rw [hr.1]; simpa using hl, fun j y hj => ?_⟩
  have hlt : j < ys.length := by rw [hl]; exact enc_lt hj
  obtain ⟨u, hu, hru⟩ := hr.at (j := j) (x := ys[j]) (by simp [List.getElem?_eq_getElem hlt])
  exact ⟨u, hu, hh j _ _ _ (List.getElem?_eq_getElem hlt) hj hru⟩

theorem cells_eq {k : LK} {x : k.T} {cs : List C} {us : List Value} (hr : RCs M cs us) (e : cs = (k.enc x).map .pv) : us.length = k.sz ∧ ∀ (j : Nat) (y : PV), (k.enc x)[j]? = some y → ∃ u, us[j]? = some u ∧ R M y u :=
  cells_eq2 hr _ e (LK.enc_len _ _) (fun j y y' v h1 h2 h3 => by rw [h1] at h2; cases h2; exact h3)

theorem dec_ok {k : LK} {cs : List C} {x : k.T} {ob : Prop} (h : k.dec cs = some (x, ob)) (hob : ob) {us : List Value} (hr : RCs M cs us) :
    us.length = k.sz ∧ ∀ (j : Nat) (y : PV), (k.enc x)[j]? = some y → ∃ u, us[j]? = some u ∧ R M y u := by
  unfold LK.dec at h
  split at h
  · rename_i n
    cases h
    refine cells_eq hr ?_
    have : ((UInt8.ofNat n.toNat).toNat : Int) = n := by
      rw [UInt8.toNat_ofNat']; omega
    simp [LK.enc]; omega
  · split at h
    · rename_i k' n k'' hk; cases h
      have := ikeq_eq hk; subst this
      exact cells_eq hr rfl
    · cases h
  · cases h; exact cells_eq hr rfl
  · cases h; exact cells_eq hr rfl
  · cases h; exact cells_eq hr rfl
  · cases h; exact cells_eq hr rfl
  · cases h; exact cells_eq hr rfl
  · rename_i a; cases h
    refine cells_eq2 hr [i64 a, .nil .byt] rfl rfl (fun j y y' v h1 h2 h3 => ?_)
    match j, h1, h2 with
    | 0, h1, h2 => simp [LK.enc] at h1 h2; subst h1 h2; exact h3
    | 1, h1, h2 => simp [LK.enc] at h1 h2; subst h1 h2; exact h3.nil_lst
  · cases h; exact cells_eq hr rfl
  · cases h
    refine cells_eq2 hr [.nil .ent] rfl rfl (fun j y y' v h1 h2 h3 => ?_)
    match j, h1, h2 with
    | 0, h1, h2 => simp [LK.enc] at h1 h2; subst h1 h2; exact h3.nil_lst
  · cases h; exact cells_eq hr rfl
  · rename_i s b; cases h
    refine cells_eq2 hr [sv s, bv b, .nil .spn] rfl rfl (fun j y y' v h1 h2 h3 => ?_)
    match j, h1, h2 with
    | 0, h1, h2 => simp [LK.enc] at h1 h2; subst h1 h2; exact h3
    | 1, h1, h2 => simp [LK.enc] at h1 h2; subst h1 h2; exact h3
    | 2, h1, h2 => simp [LK.enc] at h1 h2; subst h1 h2; exact h3.nil_lst
  · cases h; exact cells_eq hr rfl
  · rename_i s n; cases h
    refine cells_eq2 hr [sv s, i64 n, .nil .tbl] rfl rfl (fun j y y' v h1 h2 h3 => ?_)
    match j, h1, h2 with
    | 0, h1, h2 => simp [LK.enc] at h1 h2; subst h1 h2; exact h3
    | 1, h1, h2 => simp [LK.enc] at h1 h2; subst h1 h2; exact h3
    | 2, h1, h2 => simp [LK.enc] at h1 h2; subst h1 h2; exact h3.nil_lst
  · cases h; exact cells_eq hr rfl
  · cases h; exact cells_eq hr rfl
  · cases h; exact cells_eq hr rfl
  · cases h
    refine cells_eq2 hr [.nil .ent] rfl rfl (fun j y y' v h1 h2 h3 => ?_)
    match j, h1, h2 with
    | 0, h1, h2 => simp [LK.enc, TE.pv] at h1 h2; subst h1 h2; exact h3.nil_lst
  · cases h
    have hl : us.length = 1 := hr.1
    refine ⟨hl, fun j y hj => ?_⟩
    have hj0 : j = 0 := by have := enc_lt hj; simp only [LK.sz] at this; omega
    subst hj0
    have hu : us[0]? = some us[0] := List.getElem?_eq_getElem (by omega)
    have hc := hr.2 0 _ _ rfl hu
    cases hc with
    | own ho => simp [LK.enc, TE.pv] at hj; subst hj; exact ⟨_, hu, .val ho⟩
  · cases h
end

/-! ### what a function hands back, contracts -/
inductive RX where
  | c (x : PV)
  | g (xs : List PV)
  | cl (f : Nat) (cs : List PV)   -- a function with one variable that it captured
inductive RV where
  | x (r : RX)
  | o (e : TypeId) (k : LK) (l : List k.T)
  | ot (e : TypeId) (k : LK) (l : List k.T) (rest : List RX)
  | t (rest : List RX)

def RXok (M : Mem) : RX → Value → Prop
  | .c x, v => R M x v
  | .g xs, v => ∃ us : Array Value, v = .agg us ∧ us.size = xs.length ∧ ∀ (j : Nat) (x : PV) (u : Value), xs[j]? = some x → us[j]? = some u → R M x u
  | .cl f cs, v => RC M (.clo f [.cel cs]) v
def RVok (M : Mem) (B : Nat) (w : World) : RV → Value → Prop
  | .x r, v => RXok M r v
  | .o e k l, v => OwnSl M B w v e k l
  | .ot e k l rest, v => ∃ us : Array Value, v = .tuple us ∧ us.size = rest.length + 1 ∧ (∃ u, us[0]? = some u ∧ OwnSl M B w u e k l) ∧ ∀ (j : Nat) (r : RX) (u : Value), rest[j]? = some r → us[j + 1]? = some u → RXok M r u
  | .t rest, v => ∃ us : Array Value, v = .tuple us ∧ us.size = rest.length ∧ ∀ (j : Nat) (r : RX) (u : Value), rest[j]? = some r → us[j]? = some u → RXok M r u
def RAs (M : Mem) (args : List A) (vs : Array Value) : Prop := vs.size = args.length ∧ ∀ (j : Nat) (a : A) (v : Value), args[j]? = some a → vs[j]? = some v → RA M a v

def Enters (P : Program) (f : FuncId) : Prop := ∃ fn, P.funcs[f]? = some fn ∧ fn.body.isNone = false ∧ (fn.name == "runtime.NumGoroutine") = false
def shM (sh : Bool) (M F : Mem) : Mem := match sh with | true => M.or F | false => F
/-- THE CONTRACT: handed what reads as 'args', the function hands back what reads as 'rv', and turns nothing that was there. -/
def Ctr (P : Program) (f : FuncId) (sh : Bool) (args : List A) (rv : RV) : Prop :=
  Enters P f ∧ ∀ (M : Mem) (w : World) (vs : Array Value), M.on w → RAs M args vs →
    Calls P f vs w fun e w' => ∃ v F, e = .returned v ∧ Below w.heap.size w w' ∧ Fresh F w.heap.size w' ∧ RVok (shM sh M F) w.heap.size w' rv v

/-- THE CONTRACT OF A METHOD BEHIND A POINTER to a variable of plain cells: what it hands back, what the cells are then. -/
def CtrP (P : Program) (f : FuncId) (ty : TypeId) (cs : List PV) (args : List A) (r : PV) (cs' : List PV) : Prop :=
  Enters P f ∧ ∀ (M : Mem) (w : World) (b : Nat) (us : Array Value) (vs : List Value), w.heap[b]? = some (.cells us ty (0, 0)) → RCs M (cs.map .pv) us.toList → RAs M args vs.toArray →
    Calls P f (.pointer (some ⟨b, 0, none⟩) :: vs).toArray w fun e w' => ∃ v us', e = .returned v ∧ (∀ M', R M' r v) ∧ (∀ M', RCs M' (cs'.map .pv) us'.toList) ∧ w' = w.setRow b us'
abbrev PSpec := List PV → List A → Option (Prop × PV × List PV)
def PSpecOk (P : Program) (f : FuncId) (ty : TypeId) (s : PSpec) : Prop := ∀ cs args pre r cs', s cs args = some (pre, r, cs') → pre → CtrP P f ty cs args r cs'
abbrev FSpec := List A → Option (Prop × Bool × RV)
def SpecOk (P : Program) (f : FuncId) (s : FSpec) : Prop := ∀ args pre sh rv, s args = some (pre, sh, rv) → pre → Ctr P f sh args rv

/-! ### states -/
inductive Ent where
  | u (x : A)
  | gd (j : Nat) (b : Bool) (x : A)
structure St where
  f : Nat → Option Ent
  H : Nat → Option HB
  nx : Nat
structure Env where
  T : Tb
  Ψ : FuncId → Option FSpec
  Ψp : FuncId → Option (TypeId × PSpec)
  N : Nat
  ws : List Nat
  ro : Option Nat
  mrk : Bool
structure PsiOk (P : Program) (E : Env) : Prop where
  fn : ∀ f s, E.Ψ f = some s → SpecOk P f s
  pt : ∀ f ty s, E.Ψp f = some (ty, s) → PSpecOk P f ty s
def pvsOf : List C → Option (List PV)
  | [] => some []
  | .pv x :: l => match pvsOf l with
    | some xs => some (x :: xs)
    | none => none
  | _ => none

def updF (f : Nat → Option Ent) (d : Nat) (e : Option Ent) : Nat → Option Ent := fun i => match Nat.beq i d with
  | true => e
  | false => f i
def updH (H : Nat → Option HB) (d : Nat) (e : Option HB) : Nat → Option HB := fun i => match Nat.beq i d with
  | true => e
  | false => H i
theorem updH_same (H : Nat → Option HB) (d : Nat) (e : Option HB) : updH H d e d = e := by simp [updH]
theorem updH_ne (H : Nat → Option HB) {d i : Nat} (e : Option HB) (h : i ≠ d) : updH H d e i = H i := by
  unfold updH
  cases hb : Nat.beq i d with
  | true => exact absurd (Nat.eq_of_beq_eq_true hb) h
  | false => rfl

def appL : (k : LK) → List k.T → (k' : LK) → List k'.T → Option (List k.T)
  | .byt, l, .byt, m => some (l ++ m)
  | .ints a, l, .ints b, m => match ikeq a b with | true => some (l ++ m) | false => none
  | .spn, l, .spn, m => some (l ++ m)
  | .pcs, l, .pcs, m => some (l ++ m)
  | .ent, l, .ent, m => some (l ++ m)
  | .slt, l, .slt, m => some (l ++ m)
  | .rcd, l, .rcd, m => some (l ++ m)
  | .tbl, l, .tbl, m => some (l ++ m)
  | .bms, l, .bms, m => some (l ++ m)
  | .sht, l, .sht, m => some (l ++ m)
  | .knw, l, .knw, m => some (l ++ m)
  | .bls, l, .bls, m => some (l ++ m)
  | .tbh, l, .tbh, m => some (l ++ m)
  | _, _, _, _ => none

/-- Arguments with nothing of one's own in them: a slice of one's own is lent. -/
def PV.nrm : PV → PV
  | .nil k => .lst k []
  | x => x
def C.nrm : C → C
  | .pv x => .pv x.nrm
  | c => c
def argC (H : Nat → Option HB) : C → Option (A × Bool × Prop)
  | .own n v => match H n with
    | some (.own v' _ k l) => some (lst k l, true, v = v')
    | _ => none
  | .pv x => some (pv x.nrm, false, True)
  | .ptr n b 0 => match H n with
    | some (.blk b' _ cs) => match pvsOf cs with
      | some ps => some (.c (.cel ps), true, b = b')
      | none => none
    | _ => none
  | .cel cs => some (.c (.cel cs), false, True)
  | .clo f [] => some (.c (.clo f []), false, True)
  | .clo f [.ptr n b 0] => match H n with
    | some (.blk b' _ cs) => match pvsOf cs with
      | some ps => some (.c (.clo f [.cel ps]), true, b = b')
      | none => none
    | _ => none
  | _ => none
def capsA (H : Nat → Option HB) : List C → Option (List A × Bool × Prop)
  | [] => some ([], false, True)
  | c :: cs => match argC H c, capsA H cs with
    | some (a, b, p), some (as, b', p') => some (a :: as, b || b', p ∧ p')
    | _, _ => none
def argA (H : Nat → Option HB) : A → Option (A × Bool × Prop)
  | .c c => argC H c
  | .g xs => some (.g (xs.map C.nrm), false, True)
  | _ => none
def argsA (T : Tb) (H : Nat → Option HB) (rd : Operand → Option A) : List Operand → List TypeId → Option (List A × Bool × Prop)
  | [], _ => some ([], false, True)
  | o :: os, t :: ts => match rdT T t rd o with
    | some a => match argA H a, argsA T H rd os ts with
      | some (a, b, p), some (as, b', p') => some (a :: as, b || b', p ∧ p')
      | _, _ => none
    | none => none
  | _ :: _, [] => none

def instX : RX → A
  | .c x => pv x
  | .g xs => .g (xs.map .pv)
  | .cl f cs => .c (.clo f [.cel cs])
def inst (nx : Nat) (u : Value) : RV → A × Option HB
  | .x r => (instX r, none)
  | .o e k l => (.c (.own nx u), some (.own u e k l))
  | .ot e k l rest => (.t (.c (.own nx (u.comp 0)) :: rest.map instX), some (.own (u.comp 0) e k l))
  | .t rest => (.t (rest.map instX), none)

structure HR where
  x : A
  ob : Prop
  H : Nat → Option HB
  nx : Nat

/-- Elements of a slice's literal, in their order. -/
def decAll (k : LK) (T : Tb) (e : TypeId) (rd : Operand → Option A) : Nat → List (Nat × Operand) → Option (List k.T × Prop)
  | _, [] => some ([], True)
  | i, (j, o) :: l => match Nat.beq i j, rdT T e rd o with
    | true, some a => match a.cells with
      | some cs => match k.dec cs, decAll k T e rd (i + 1) l with
        | some (x, ob), some (xs, ob') => some (x :: xs, ob ∧ ob')
        | _, _ => none
      | none => none
    | _, _ => none

def lkeq : LK → LK → Bool
  | .byt, .byt | .spn, .spn | .pcs, .pcs | .ent, .ent | .slt, .slt | .rcd, .rcd | .tbl, .tbl | .bms, .bms | .sht, .sht | .knw, .knw | .bls, .bls | .tbh, .tbh => true
  | .ints a, .ints b => ikeq a b
  | _, _ => false

/-- What an append's second argument brings. -/
def srcOf (H : Nat → Option HB) (z : List C) : TK → A → Option ((k : LK) × List k.T × Prop)
  | .int _, .c (.pv (.val (.int _ n))) => some ⟨.byt, List.replicate n.toNat 0, z = [.pv (.val (.int .u8 0))] ∧ (0 ≤ n ∧ n ≤ 1099511627776)⟩
  | .str, .c (.pv (.val (.string ⟨⟨l⟩⟩))) => some ⟨.byt, l, True⟩
  | .slc _ _, a => lkOf H a
  | _, _ => none

/-- Bytes off cells. -/
def decB : List C → Option (List UInt8 × Prop)
  | [] => some ([], True)
  | .pv (.val (.int .u8 n)) :: l => match decB l with
    | some (xs, p) => some (UInt8.ofNat n.toNat :: xs, (0 ≤ n ∧ n ≤ 255) ∧ p)
    | none => none
  | _ => none
/-- Is it nil? A slice that reads as no element may be, or not. -/
def nilB {α : Type} (u : Value) : List α → Bool
  | [] => match u with
    | .bool b => b
    | _ => false
  | _ :: _ => false
theorem nilB_nil {α : Type} {u : Value} {l : List α} (h : nilB u l = true) : l = [] := by
  cases l with
  | nil => rfl
  | cons x t => cases h
def heapOp (E : Env) (H : Nat → Option HB) (nx : Nat) (rd : Operand → Option A) (u : Value) : Op → Option HR
  | .box t x => match rdT E.T t rd x with
    | some a => match a.cells with
      | some cs => some ⟨.c (.ptr nx u.bn 0), True, updH H nx (some (.blk u.bn t cs)), nx + 1⟩
      | none => none
    | none => none
  | .alloc t => match E.T t with
    | some i => some ⟨.c (.ptr nx u.bn 0), True, updH H nx (some (.blk u.bn t i.zero)), nx + 1⟩
    | none => none
  | .store t p x => match rd p, rdT E.T t rd x, E.T t with
    | some (.c (.ptr n b o)), some a, some i => match H n, a.cells with
      | some (.blk b' ty cs), some new => match Nat.beq (len new) i.size && Nat.ble (o + len new) (len cs) with
        | true => some ⟨.t [], b = b', updH H n (some (.blk b' ty (tke o cs ++ new ++ drp (o + len new) cs))), nx⟩
        | false => none
      | _, _ => none
    | some (.c (.oel n v j sz o)), some a, some i => match H n, a.cells with
      | some (.own v' ty k l), some new => match Nat.beq (len new) i.size && Nat.ble (o + len new) k.sz with
        | true => match k.dec (tke o ((k.enc (l.getD j k.dft)).map .pv) ++ new ++ drp (o + len new) ((k.enc (l.getD j k.dft)).map .pv)) with
          | some (x, ob) => some ⟨.t [], ((v = v' ∧ sz = k.sz) ∧ j < l.length) ∧ ob, updH H n (some (.own v' ty k (l.set j x))), nx⟩
          | none => none
        | false => none
      | _, _ => none
    | _, _, _ => none
  | .binOp op t x (.const (.slice none 0 0)) _ => match E.T t, rd x with
    | some ⟨.slc _ _, _, _, _⟩, some (.c (.pv (.lst _ l))) => match op with
      | .eql => some ⟨bool (nilB u l), True, H, nx⟩
      | .neq => some ⟨bool (!nilB u l), True, H, nx⟩
      | _ => none
    | _, _ => none
  | .slice t x none none none => match E.T t, rd x with
    | some ⟨.arr N e, _, _, _⟩, some (.c (.ptr n b 0)) => match E.T e, H n with
      | some ⟨.int .u8, _, _, _⟩, some (.blk b' ty cs) => match Nat.beq N (len cs) && Nat.ble N 1000, decB cs with
        | true, some (l, ob) => some ⟨.c (.own n (.slice (some ⟨b, 0, none⟩) N N)), b = b' ∧ ob, updH H n (some (.own (.slice (some ⟨b, 0, none⟩) N N) ty .byt l)), nx⟩
        | _, _ => none
      | _, _ => none
    | _, _ => none
  | .call ⟨.builtin .copy, ⟨[d, s]⟩, ⟨[td, _]⟩⟩ => match E.T td, rd d, rd s with
    | some ⟨.slc e .byt, _, _, _⟩, some (.c (.own n v)), some sa => match H n, lkOf H sa, E.T e with
      | some (.own v' ty .byt l), some ⟨.byt, m, ob⟩, some ⟨.int .u8, _, _, _⟩ => some ⟨int .i64 (min m.length l.length : Nat), ob ∧ v = v', updH H n (some (.own v' ty .byt (m.take l.length ++ l.drop m.length))), nx⟩
      | _, _, _ => none
    | _, _, _ => none
  | .convert src dst x => match Nat.beq src dst, E.T src, rd x with
    | true, some ⟨.slc e _, _, _, _⟩, some (.c (.own n v)) => match H n, E.T e with
      | some (.own v' _ k l), some ⟨.int .u8, _, _, _⟩ => some ⟨lst k l, v = v' ∧ 0 < l.length, updH H n none, nx⟩
      | _, _ => none
    | _, _, _ => none
  | .buildSlice t n ⟨ps⟩ => match E.T t with
    | some ⟨.slc e k, _, _, _⟩ => match Nat.beq n (len ps), decAll k E.T e rd 0 ps, E.T e with
      | true, some (l, ob), some ie => match Nat.beq ie.size k.sz && Nat.ble n 1000 with
        | true => some ⟨.c (.own nx u), ob, updH H nx (some (.own u e k l)), nx + 1⟩
        | false => none
      | _, _, _ => none
    | _ => none
  | .makeSlice t l c => match E.T t, rd l, rd c with
    | some ⟨.slc e k, _, _, _⟩, some (.c (.pv (.val (.int _ l)))), some (.c (.pv (.val (.int _ c)))) => match E.T e with
      | some ie => match Nat.ble ie.bytes 64 with
        | true => some ⟨.c (.own nx u), ((0 ≤ l ∧ l ≤ c) ∧ c ≤ 1099511627776) ∧ ie.zero = (k.enc k.dft).map .pv, updH H nx (some (.own u e k (List.replicate l.toNat k.dft))), nx + 1⟩
        | false => none
      | none => none
    | _, _, _ => none
  | .call ⟨.builtin .append, ⟨[s, x]⟩, ⟨[t, tx]⟩⟩ => match E.T t, rdT E.T t rd s, rdT E.T tx rd x, E.T tx with
    | some ⟨.slc e k, _, _, _⟩, some a, some xa, some itx => match E.T e, srcOf H ((E.T e).elim [] TI.zero) itx.kind xa with
      | some ie, some ⟨k', m, ob⟩ => match Nat.ble ie.bytes 64, a with
        | true, .c (.own n v) => match H n with
          | some (.own v' ty k0 l) => match Nat.beq ty e && Nat.beq k0.sz k.sz, appL k0 l k' m with
            | true, some lm => some ⟨.c (.own nx u), (ob ∧ v = v') ∧ l.length + m.length ≤ 1099511627776, updH (updH H n none) nx (some (.own u e k0 lm)), nx + 1⟩
            | _, _ => none
          | _ => none
        | true, .c (.pv (.nil k0)) => match Nat.beq k0.sz k.sz, appL k0 [] k' m with
          | true, some lm => some ⟨.c (.own nx u), ob ∧ m.length ≤ 1099511627776, updH H nx (some (.own u e k0 lm)), nx + 1⟩
          | _, _ => none
        | _, _ => none
      | _, _ => none
    | _, _, _, _ => none
  | .call ⟨.value fo, ⟨args⟩, ⟨tys⟩⟩ => match rd fo with
    | some (.c (.clo f caps)) => match E.Ψ f with
      | some s => match argsA E.T H rd args tys, capsA H caps with
        | some (as, lent, ob), some (cs, lent', ob') => match s (as ++ cs) with
          | some (pre, sh, rv) => match (lent || lent') && sh, inst nx u rv with
            | false, (x, none) => some ⟨x, (ob ∧ ob') ∧ pre, H, nx⟩
            | false, (x, some hb) => some ⟨x, (ob ∧ ob') ∧ pre, updH H nx (some hb), nx + 1⟩
            | true, _ => none
          | none => none
        | _, _ => none
      | none => match caps, E.Ψp f, args, tys with
        | [], some (ty, s), p :: os, _ :: ts => match rd p, argsA E.T H rd os ts with
          | some (.c (.ptr n b 0)), some (as, _, ob) => match H n with
            | some (.blk b' ty' cs) => match pvsOf cs with
              | some ps => match Nat.beq ty ty', s ps as with
                | true, some (pre, r, ps') => some ⟨pv r, (ob ∧ b = b') ∧ pre, updH H n (some (.blk b' ty' (ps'.map .pv))), nx⟩
                | _, _ => none
              | none => none
            | _ => none
          | _, _ => none
        | _, _, _, _ => none
    | _ => none
  | _ => none
end Go.Mt
