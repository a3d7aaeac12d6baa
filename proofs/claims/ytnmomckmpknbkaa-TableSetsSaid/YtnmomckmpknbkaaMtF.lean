/-
  Mt, part F: every pure operation of the evaluator is what the machine does.
-/
import Derived.Test.YtnmomckmpknbkaaMtE
set_option linter.unusedSimpArgs false
set_option linter.unusedVariables false
namespace Go.Mt
open Go.RowKit
section
variable {P : Program} {T : Tb} {w : World} {M : Mem} {B : Nat} {W : World} {H : Nat → Option HB}

theorem RA.ptr_inv {n b o : Nat} {v : Value} (r : RA M (.c (.ptr n b o)) v) : v = .pointer (some ⟨b, o, none⟩) := by cases r with | c r => cases r; rfl
theorem RA.oel_inv {n i sz o : Nat} {u v : Value} (r : RA M (.c (.oel n u i sz o)) v) : v = .pointer (some ⟨u.blk, i * sz + o, none⟩) := by cases r with | c r => cases r; rfl
theorem RA.own_inv {n : Nat} {u v : Value} (r : RA M (.c (.own n u)) v) : v = u := by cases r with | c r => cases r; rfl
theorem RA.cel_inv {cs : List PV} {v : Value} (r : RA M (.c (.cel cs)) v) : ∃ b o, v = .pointer (some ⟨b, o, none⟩) ∧ ∀ (j : Nat) y, cs[j]? = some y → ∃ u, M.cell b (o + j) = some u ∧ R M y u := by
  cases r with | c r => cases r with | cel b o us hc hR => exact ⟨b, o, rfl, fun j y h => ⟨_, hc j y h, hR j y h⟩⟩
theorem RA.cel_mk {cs : List PV} {b o : Nat} (h : ∀ (j : Nat) y, cs[j]? = some y → ∃ u, M.cell b (o + j) = some u ∧ R M y u) : RA M (.c (.cel cs)) (.pointer (some ⟨b, o, none⟩)) :=
  .c (.cel b o (fun j => (M.cell b (o + j)).getD undef) (fun j y e => by obtain ⟨u, hu, _⟩ := h j y e; simp [hu]) (fun j y e => by obtain ⟨u, hu, hr⟩ := h j y e; simp [hu, hr]))

theorem run_sliceBound_in {k : IntKind} {i : Int} {y : Nat} {code : BoundsCode} (h0 : 0 ≤ i) (h1 : i ≤ y) : (Instr.sliceBound (.int k i) y code).run P w = .ok i.toNat w := by
  simp [Instr.sliceBound, asIntOf, h0, h1]

theorem intOf?_ok {a : A} {n : Int} {v : Value} (h : intOf? a = some n) (r : RA M a v) : ∃ k, v = .int k n := by
  unfold intOf? at h
  split at h
  · cases h; exact ⟨_, r.val_inv⟩
  · cases h

theorem optA_ok {rd : Operand → Option A} {ρ : Operand → Value} (hr : ∀ o x, rd o = some x → RA M x (ρ o)) {o : Option Operand} {x : Option A} (h : optA rd o = some x) :
    (o = none ∧ x = none) ∨ ∃ p a, o = some p ∧ x = some a ∧ RA M a (ρ p) := by
  cases o with
  | none => simp [optA] at h; exact .inl ⟨rfl, h.symm⟩
  | some p =>
    simp only [optA] at h
    split at h
    · rename_i a ha; cases h; exact .inr ⟨p, a, rfl, rfl, hr _ _ ha⟩
    · cases h

/-- The bounds of a slice expression. -/
theorem subR_ok {n : Nat} {rd : Operand → Option A} {ρ : Operand → Value} (hr : ∀ o x, rd o = some x → RA M x (ρ o)) {olo ohi omx : Option Operand} {lo hi mx : Option A}
    (h1 : optA rd olo = some lo) (h2 : optA rd ohi = some hi) (h3 : optA rd omx = some mx) {l h : Int} {ob : Prop} (hs : subR n lo hi mx = some (l, h, ob)) (hob : ob) {sl : Bool} {cap : Nat} (hcap : n ≤ cap) :
    0 ≤ l ∧ l ≤ h ∧ h ≤ n ∧ ∃ m, h.toNat ≤ m ∧ m ≤ cap ∧ (omx = none → m = cap) ∧ (Instr.sliceBounds sl n cap (olo.map ρ) (ohi.map ρ) (omx.map ρ)).run P w = .ok (l.toNat, h.toNat, m) w := by
  rcases optA_ok hr h1 with ⟨rfl, rfl⟩ | ⟨pl, al, rfl, rfl, rl⟩ <;> rcases optA_ok hr h2 with ⟨rfl, rfl⟩ | ⟨ph, ah, rfl, rfl, rh⟩ <;> rcases optA_ok hr h3 with ⟨rfl, rfl⟩ | ⟨pm, am, rfl, rfl, rm⟩ <;> simp only [subR, Option.some.injEq, Prod.mk.injEq, reduceCtorEq] at hs
  · obtain ⟨rfl, rfl, rfl⟩ := hs
    exact ⟨by omega, by omega, by omega, cap, by omega, by omega, fun _ => rfl, by simp [Instr.sliceBounds]⟩
  · split at hs
    · rename_i h' e; simp only [Option.some.injEq, Prod.mk.injEq] at hs; obtain ⟨rfl, rfl, rfl⟩ := hs
      obtain ⟨k, hv⟩ := intOf?_ok e rh
      refine ⟨by omega, by omega, by omega, cap, by omega, by omega, fun _ => rfl, ?_⟩
      simp only [Instr.sliceBounds, Option.map_none, Option.map_some, hv, Sem.run_bind, Sem.run_pure, Result.andThen_ok]
      rw [run_sliceBound_in hob.1 (by omega)]
      simp
    · cases hs
  · split at hs
    · rename_i l' e; simp only [Option.some.injEq, Prod.mk.injEq] at hs; obtain ⟨rfl, rfl, rfl⟩ := hs
      obtain ⟨k, hv⟩ := intOf?_ok e rl
      refine ⟨by omega, by omega, by omega, cap, by omega, by omega, fun _ => rfl, ?_⟩
      simp only [Instr.sliceBounds, Option.map_none, Option.map_some, hv, Sem.run_bind, Sem.run_pure, Result.andThen_ok]
      rw [run_sliceBound_in hob.1 (by omega)]
      simp
    · cases hs
  · split at hs
    · rename_i l' h' e e'; simp only [Option.some.injEq, Prod.mk.injEq] at hs; obtain ⟨rfl, rfl, rfl⟩ := hs
      obtain ⟨k, hv⟩ := intOf?_ok e rl
      obtain ⟨k', hv'⟩ := intOf?_ok e' rh
      refine ⟨by omega, by omega, by omega, cap, by omega, by omega, fun _ => rfl, ?_⟩
      simp only [Instr.sliceBounds, Option.map_none, Option.map_some, hv, hv', Sem.run_bind, Sem.run_pure, Result.andThen_ok]
      rw [run_sliceBound_in (by omega) (by omega)]
      simp only [Result.andThen_ok]
      rw [run_sliceBound_in (by omega) (by omega)]
      simp
    · cases hs
  · split at hs
    · rename_i l' h' m' e e' e''; simp only [Option.some.injEq, Prod.mk.injEq] at hs; obtain ⟨rfl, rfl, rfl⟩ := hs
      obtain ⟨k, hv⟩ := intOf?_ok e rl
      obtain ⟨k', hv'⟩ := intOf?_ok e' rh
      obtain ⟨k'', hv''⟩ := intOf?_ok e'' rm
      refine ⟨by omega, by omega, by omega, m'.toNat, by omega, by omega, by simp, ?_⟩
      simp only [Instr.sliceBounds, Option.map_some, hv, hv', hv'', Sem.run_bind, Sem.run_pure, Result.andThen_ok]
      rw [run_sliceBound_in (by omega) (by omega)]
      simp only [Result.andThen_ok]
      rw [run_sliceBound_in (by omega) (by omega)]
      simp only [Result.andThen_ok]
      rw [run_sliceBound_in (by omega) (by omega)]
      simp
    · cases hs

theorem strct_field {fs : List (Nat × Nat × Bool)} (hT : TbOk P T) {t s1 s2 : Nat} {z} (ht : T t = some ⟨.strct fs, s1, s2, z⟩) {f : Nat} {x} (hf : nth fs f = some x) :
    ∃ fields fd inf d, P.underlying t = some (.struct fields) ∧ fields[f]? = some fd ∧ fd.offset = x.1 ∧ P.info? fd.type = some inf ∧ inf.size = x.2.1 ∧ P.underlying fd.type = some d ∧ (match d with | .struct _ | .array _ _ => true | _ => false) = x.2.2 := by
  have hu := (hT _ _ ht).und
  simp only at hu
  obtain ⟨fields, h1, h2, h3⟩ := hu
  rw [nth_eq] at hf
  have hlt : f < fields.size := by rw [h2]; exact (List.getElem?_eq_some_iff.1 hf).1
  have hfd : fields[f]? = some fields[f] := by simp [hlt]
  obtain ⟨e1, inf, d, e2, e3, e4, e5⟩ := h3 f _ _ hfd hf
  exact ⟨fields, fields[f], inf, d, h1, hfd, e1, e2, e3, e4, e5⟩

theorem run_builtin1 {ρ : Operand → Value} {b : Builtin} {x : Operand} {ts : Array TypeId} {dst : Option Tmp} {ty : TypeId} {pos : String} {after : Array Edge} {guard : Option (Nat × Bool)} {r : Result Value}
    (hb : b = .len) (h : (Builtin.len_ ts ty #[ρ x]).run P w = r) :
    (execOp ρ ⟨dst, .call ⟨.builtin b, #[x], ts⟩, ty, pos, after, guard⟩).run P w = r.andThen fun v w' => .ok (.value v) w' := by
  subst hb
  simp [execOp, resolve, invoke, Go.builtin, h]
theorem run_builtin_min {ρ : Operand → Value} {x y : Operand} {ts : Array TypeId} {dst : Option Tmp} {ty : TypeId} {pos : String} {after : Array Edge} {guard : Option (Nat × Bool)} {r : Result Value}
    (h : (Builtin.min_ ts ty #[ρ x, ρ y]).run P w = r) :
    (execOp ρ ⟨dst, .call ⟨.builtin .min, #[x, y], ts⟩, ty, pos, after, guard⟩).run P w = r.andThen fun v w' => .ok (.value v) w' := by
  simp [execOp, resolve, invoke, Go.builtin, h]
theorem run_builtin_max {ρ : Operand → Value} {x y : Operand} {ts : Array TypeId} {dst : Option Tmp} {ty : TypeId} {pos : String} {after : Array Edge} {guard : Option (Nat × Bool)} {r : Result Value}
    (h : (Builtin.max_ ts ty #[ρ x, ρ y]).run P w = r) :
    (execOp ρ ⟨dst, .call ⟨.builtin .max, #[x, y], ts⟩, ty, pos, after, guard⟩).run P w = r.andThen fun v w' => .ok (.value v) w' := by
  simp [execOp, resolve, invoke, Go.builtin, h]
end
end Go.Mt
