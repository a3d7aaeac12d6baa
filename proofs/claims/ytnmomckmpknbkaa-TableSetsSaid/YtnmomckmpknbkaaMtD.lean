/-
  Mt, part D: the evaluator's pure operations say what the machine does.
-/
import Derived.Test.YtnmomckmpknbkaaMtC
set_option linter.unusedSimpArgs false
set_option linter.unusedVariables false
namespace Go.Mt
open Go.RowKit
section
variable {P : Program} {T : Tb} {w : World} {M : Mem}

theorem TyOk.isAgg {t : TypeId} {i : TI} (h : TyOk P t i) (w : World) : (Go.isAgg t).run P w = .ok i.kind.agg w := by
  have hu := h.und
  unfold Go.isAgg
  cases hk : i.kind <;> rw [hk] at hu <;> simp only at hu
  case int k => simp [run_underlying hu, TK.agg]
  case bool => simp [run_underlying hu, TK.agg]
  case str => simp [run_underlying hu, TK.agg]
  case slc e k => simp [run_underlying hu.1, TK.agg]
  case ptr e => simp [run_underlying hu, TK.agg]
  case strct fs => obtain ⟨f, hf, _⟩ := hu; simp [run_underlying hf, TK.agg]
  case arr n e => simp [run_underlying hu.1, TK.agg]
  case other =>
    cases hd : P.underlying t with
    | none => simp [hd] at hu
    | some d => cases d <;> simp [hd] at hu <;> simp [run_underlying hd, TK.agg]

theorem TyOk.sizeOf {t : TypeId} {i : TI} (h : TyOk P t i) (w : World) : (Go.sizeOf t).run P w = .ok i.size w := by
  obtain ⟨inf, z, h1, h2, _⟩ := h.info
  simp [Go.sizeOf, typeInfo, h1, h2]

theorem run_typeInfo {t : TypeId} {inf : TypeInfo} (h : P.info? t = some inf) (w : World) : (typeInfo t).run P w = .ok inf w := by simp [typeInfo, h]

theorem ldA_ok (hT : TbOk P T) {t : TypeId} {cs : List C} {x : A} (h : ldA T t cs = some x) {b o : Nat}
    (hc : ∀ (j : Nat) (c : C), cs[j]? = some c → ∃ u, w.cell? ⟨b, o + j, none⟩ = some u ∧ RC M c u) :
    ∃ v, (loadVar t ⟨b, o, none⟩).run P w = .ok v w ∧ RA M x v := by
  unfold ldA at h
  cases ht : T t with
  | none => simp [ht] at h
  | some i =>
    have hi := hT t i ht
    simp only [ht] at h
    cases ha : i.kind.agg with
    | false =>
      simp only [ha] at h
      cases cs with
      | nil => simp at h
      | cons c cs =>
        simp at h; subst h
        obtain ⟨u, hu, hr⟩ := hc 0 c rfl
        simp only [Nat.add_zero] at hu
        refine ⟨u, ?_, .c hr⟩
        simp [loadVar, hi.isAgg, ha, hu]
    | true =>
      simp only [ha] at h
      cases hb : Nat.ble i.size (len cs) with
      | false => simp [hb] at h
      | true =>
        simp only [hb, Option.some.injEq] at h; subst h
        rw [len_eq, Nat.ble_eq] at hb
        have hx : ∀ j, j < i.size → ∃ u, w.cell? ⟨b, o + j, none⟩ = some u ∧ ∀ c, cs[j]? = some c → RC M c u := by
          intro j hj
          have hj' : j < cs.length := by omega
          obtain ⟨u, hu, hr⟩ := hc j cs[j] (List.getElem?_eq_getElem hj')
          exact ⟨u, hu, fun c hc => by rw [List.getElem?_eq_getElem hj'] at hc; cases hc; exact hr⟩
        let f : Nat → Value := fun j => (w.cell? ⟨b, o + j, none⟩).getD undef
        have hl := run_loadCells (P := P) w ⟨b, o, none⟩ i.size f (fun j hj => by
          obtain ⟨u, hu, _⟩ := hx j hj
          rw [Addr.add_lit]; simp [f, hu])
        refine ⟨.agg ((List.range i.size).map f).toArray, by simp [loadVar, hi.isAgg, ha, hi.sizeOf, hl], .g ⟨by simp [tke_eq]; omega, ?_⟩⟩
        intro j c u h1 h2
        rw [tke_eq, List.getElem?_take] at h1
        split at h1
        · rename_i hj
          obtain ⟨u', hu', hr⟩ := hx j hj
          simp [hj, f, hu'] at h2
          subst h2; exact hr c h1
        · cases h1

theorem rdT_ok {ty : TypeId} {rd : Operand → Option A} {ρ : Operand → Value} (hr : ∀ o x, rd o = some x → RA M x (ρ o)) (hc : ∀ v, ρ (.const v) = v) {o : Operand} {x : A} (h : rdT T ty rd o = some x) : RA M x (ρ o) := by
  unfold rdT at h
  split at h
  · split at h
    · simp at h; subst h; rw [hc]; exact .c (.pv .nil)
    · cases h
  · split at h <;> cases h
  · exact hr _ _ h

theorem constA_ok {v : Value} {x : A} (h : constA v = some x) : RA M x v := by
  unfold constA at h
  split at h <;> simp at h <;> subst h <;> exact .c (.pv (.val rfl))

theorem lkOf_ok {B : Nat} {W : World} {H : Nat → Option HB} (hS : SatH B W H M w) {x : A} {v : Value} (hx : RA M x v) {k : LK} {l : List k.T} {ob : Prop} (h : lkOf H x = some ⟨k, l, ob⟩) (hob : ob) :
    ∃ a c b o, v = .slice a l.length c ∧ (l ≠ [] → a = some ⟨b, o, none⟩) ∧ l.length ≤ c ∧ c ≤ maxLen ∧
      ∀ i x j y, l[i]? = some x → (k.enc x)[j]? = some y → ∃ u, w.cell? ⟨b, o + i * k.sz + j, none⟩ = some u ∧ R M y u := by
  unfold lkOf at h
  split at h
  · cases h
    cases hx with | c hx => cases hx with | pv hx =>
    obtain ⟨a, c, b, o, rfl, h1, h2, h3, h4, h5⟩ := hx.lst_inv
    exact ⟨a, c, b, o, rfl, h3, h1, h2, fun i x j y e1 e2 => let ⟨u, hu, hr⟩ := h5 i x j y e1 e2; ⟨u, Mem.cell_on hS.mem hu, hr⟩⟩
  · cases h
    cases hx with | c hx => cases hx with | pv hx =>
    cases hx
    exact ⟨none, 0, 0, 0, rfl, by simp, by simp, by simp, by simp⟩
  · split at h
    · rename_i n v0 v' ty k' l' hn
      cases h
      cases hx with | c hx => cases hx with | own hx1 =>
      subst hob
      rcases hS.ok _ _ hn with ⟨rfl, rfl⟩ | ⟨b, cap, us, rfl, h1, h2, h3, h4, h5, h6, h7⟩
      · exact ⟨none, 0, 0, 0, rfl, by simp, by simp, by simp, by simp⟩
      · refine ⟨_, _, b, 0, rfl, fun _ => rfl, h4, h5, fun i x j y e1 e2 => ?_⟩
        obtain ⟨u, hu, hr⟩ := h7 i x j y e1 e2
        exact ⟨u, by simp [World.cell?, h3, hu], hr⟩
    · cases h
  · cases h

end
end Go.Mt
