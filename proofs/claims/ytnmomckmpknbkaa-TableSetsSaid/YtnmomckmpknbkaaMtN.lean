/-
  Mt, part N: append, a call by its contract; 'heap_ok'.
-/
import Derived.Test.YtnmomckmpknbkaaMtM
set_option linter.unusedSimpArgs false
set_option linter.unusedVariables false
namespace Go.Mt
open Go.RowKit
section
variable {P : Program} {T : Tb} {w w' : World} {M F : Mem} {B : Nat} {W : World} {H H' : Nat → Option HB}
variable {E : Env} {a : Act} {rd : Operand → Option A} {nx : Nat} {K : Act → World → Prop} {Q : Exit → Act → World → Prop}
  {dst : Option Tmp} {ty : TypeId} {pos : String} {after : Array Edge} {guard : Option (Nat × Bool)}

theorem run_builtin_append {ρ : Operand → Value} {x y : Operand} {ts : Array TypeId} {r : Result Value}
    (h : (Builtin.append_ ts ty #[ρ x, ρ y]).run P w = r) :
    (execOp ρ ⟨dst, .call ⟨.builtin .append, #[x, y], ts⟩, ty, pos, after, guard⟩).run P w = r.andThen fun v w' => .ok (.value v) w' := by
  simp [execOp, resolve, invoke, Go.builtin, h]

theorem OwnSl.row {v : Value} {e : TypeId} {k : LK} {l : List k.T} (h : OwnSl M B w v e k l) : ∀ b, v.ownBlock = some b → B ≤ b ∧ M b = none := by
  intro b hb
  rcases h with ⟨rfl, rfl⟩ | ⟨b', cap, us, rfl, h1, h2, _⟩
  · cases hb
  · cases hb; exact ⟨h1, h2⟩
theorem OwnSl.one {v : Value} {e : TypeId} {k : LK} {l : List k.T} (h : OwnSl M B w v e k l) : v.oneCell' = true := by
  rcases h with ⟨rfl, rfl⟩ | ⟨b', cap, us, rfl, _⟩ <;> rfl

theorem RA.nil_inv {k : LK} {v : Value} (r : RA M (pv (.nil k)) v) : v = .slice none 0 0 := by
  cases r with | c r => cases r with | pv r => cases r; rfl

theorem append_ok (hT : TbOk P E.T) (hS : SatH B W H M w) (hr : ∀ o x, rd o = some x → RA M x (a.eval o)) {s x : Operand} {t tx : TypeId}
    (h : ∀ u, ∃ r, heapOp E H nx rd u (.call ⟨.builtin .append, #[s, x], #[t, tx]⟩) = some r ∧ Kok B W M ⟨dst, .call ⟨.builtin .append, #[s, x], #[t, tx]⟩, ty, pos, after, guard⟩ a K r) :
    Oper.wp P ⟨dst, .call ⟨.builtin .append, #[s, x], #[t, tx]⟩, ty, pos, after, guard⟩ a w K Q := by
  -- what is known whatever the outcome
  have main : ∀ {e : TypeId} {k0 : LK} {l lm : List k0.T} {k' : LK} {m : List k'.T} {s1 s2 : Nat} {z} {kk : LK} {xa : A} {ie itx : TI} {v : Value} {ob : Prop} (hk : E.T t = some ⟨.slc e kk, s1, s2, z⟩) (hie : E.T e = some ie) (hb : ie.bytes ≤ 64) (hsz : k0.sz = kk.sz)
      (hxa : rdT E.T tx rd x = some xa) (htx : E.T tx = some itx) (hsrc : srcOf H ie.zero itx.kind xa = some ⟨k', m, ob⟩) (hob : ob)
      (hap : appL k0 l k' m = some lm) (hle : l.length + m.length ≤ 1099511627776) (hv : a.eval s = v) (ho : OwnSl M B w v e k0 l),
      ∃ v' w', (execOp a.eval ⟨dst, .call ⟨.builtin .append, #[s, x], #[t, tx]⟩, ty, pos, after, guard⟩).run P w = .ok (.value v') w' ∧ w.grownBy w' v.ownBlock ∧ OwnSl M B w' v' e k0 lm ∧ ∀ b, v'.ownBlock = some b → w.heap.size ≤ b ∨ v.ownBlock = some b := by
    intro e k0 l lm k' m s1 s2 z kk xa ie itx v ob hk hie hb hsz hxa htx hsrc hob hap hle hv ho
    obtain ⟨ek, rfl⟩ := appL_ok hap
    subst ek
    obtain ⟨hu, inf', hi', hs'⟩ := slc_und hT hk
    obtain ⟨inf, zv, i1, i2, i3, i4, i5, i6⟩ := (hT _ _ hie).info
    rw [i1] at hi'; cases hi'
    have hrx := rdT_ok (T := E.T) hr (fun _ => rfl) hxa
    obtain ⟨news, n1, n2⟩ := src_ok (P := P) hS hrx (hT _ _ htx) (i6 M) hsrc hob
    subst hv
    obtain ⟨v', w', r1, r2, r3, r4⟩ := own_append hS.base hS.mem ho (tr := ty) hu i1 i4 (by rw [hs', hsz]) (by rw [i5, ← i2, hs', hsz]) (by rw [i3]; exact hb) n1 n2 hle
    refine ⟨v', w', ?_, r2, r3, r4⟩
    rw [run_builtin_append r1]; rfl
  have hu0 := h undef
  obtain ⟨r0, h0, h02, _⟩ := hu0
  have e0 := h0
  simp only [heapOp] at e0
  split at e0
  · rename_i e k s1 s2 z av xa itx hk hsa hxa htx
    split at e0
    · rename_i ie k' m ob hie hsrc
      rw [hie] at hsrc; simp only [Option.elim] at hsrc
      split at e0
      · rename_i n v hb
        split at e0
        · rename_i v' ty' k0 l hn
          split at e0
          · rename_i lm hc hap; cases e0
            simp only [Bool.and_eq_true, Nat.beq_eq] at hc
            rw [Nat.ble_eq] at hb
            obtain ⟨⟨hob, rfl⟩, hle⟩ := h02
            obtain ⟨rfl, hsz⟩ := hc
            have hsv := (rdT_ok (T := E.T) hr (fun _ => rfl) hsa).own_inv
            obtain ⟨v', w', f1, f2, f3, f4⟩ := main hk hie hb hsz hxa htx hsrc hob hap hle hsv (hS.ok _ _ hn)
            obtain ⟨r, g1, g2, g3⟩ := h v'
            have e1 := g1
            simp only [heapOp, hk, hsa, hxa, htx, hie, Option.elim, hsrc, (Nat.ble_eq ▸ hb : Nat.ble ie.bytes 64 = true), hn, hap, Nat.beq_refl, (by rw [hsz]; exact Nat.beq_refl _ : Nat.beq k0.sz k.sz = true), Bool.and_self, Option.some.injEq] at e1
            subst e1
            refine wp_value f1 (g3 _ _ M (Mem.ext_refl _ _) (hS.newOwn f2 (OwnSl.row (hS.ok _ _ hn)) f3 f4 nx (fun m x hm hx => ?_)) (.c (.own f3.one)))
            by_cases hmn : m = n
            · subst hmn; rw [updH_same] at hx; cases hx
            · rw [updH_ne _ _ hmn] at hx
              exact ⟨hx, fun b hb => hS.inj n m _ x b (fun e => hmn e.symm) hn hx hb⟩
          · cases e0
        · cases e0
      · rename_i k0 hb
        split at e0
        · rename_i lm hc hap; cases e0
          rw [Nat.beq_eq] at hc
          rw [Nat.ble_eq] at hb
          obtain ⟨hob, hle⟩ := h02
          have hsv : a.eval s = .slice none 0 0 := by
            exact RA.nil_inv (rdT_ok (T := E.T) hr (fun _ => rfl) hsa)
          obtain ⟨v', w', f1, f2, f3, f4⟩ := main hk hie hb hc hxa htx hsrc hob hap (by simpa using hle) hsv (OwnSl.nil _ _ _ _ _)
          obtain ⟨r, g1, g2, g3⟩ := h v'
          have e1 := g1
          simp only [heapOp, hk, hsa, hxa, htx, hie, Option.elim, hsrc, (Nat.ble_eq ▸ hb : Nat.ble ie.bytes 64 = true), hap, (by rw [hc]; exact Nat.beq_refl _ : Nat.beq k0.sz k.sz = true), Option.some.injEq] at e1
          subst e1
          exact wp_value f1 (g3 _ _ M (Mem.ext_refl _ _) (hS.newOwn f2 (by simp [Value.ownBlock]) f3 f4 nx (fun m x hm hx => ⟨hx, by simp [Value.ownBlock]⟩)) (.c (.own f3.one)))
        · cases e0
      · cases e0
    · cases e0
  · cases e0

/-! ### a call -/
theorem own_lst {v : Value} {e : TypeId} {k : LK} {l : List k.T} (h : OwnSl M B w v e k l) (hM : M.on w) : R (Mem.all w) (.lst k l) v := by
  rcases h with ⟨rfl, rfl⟩ | ⟨b, cap, us, rfl, h1, h2, h3, h4, h5, h6, h7⟩
  · exact R.lst_nil _ _
  · refine R.lst_mk (b := b) (o := 0) rfl h4 h5 (fun _ => rfl) (by simp) (fun i x j y e1 e2 => ?_)
    obtain ⟨u, hu, hr⟩ := h7 i x j y e1 e2
    exact ⟨u, by simp [Mem.cell, Mem.all, h3, hu], hr.mono (Mem.le_all hM)⟩

theorem PV.nrm_ok {x : PV} {v : Value} (h : R M x v) : R M x.nrm v := by
  cases x with
  | nil k => exact h.nil_lst
  | val _ => exact h
  | lst _ _ => exact h
theorem C.nrm_ok {x : C} {v : Value} (h : RC M x v) : RC M x.nrm v := by
  cases h with
  | pv r => exact .pv (PV.nrm_ok r)
  | ptr => exact .ptr
  | own h => exact .own h
  | cel b o us hc hR => exact .cel b o us hc hR
  | oel => exact .oel
  | clo h1 h2 => exact .clo h1 h2
theorem nrm_okA {x : PV} {v : Value} (h : RA M (pv x) v) : RA M (pv x.nrm) v := by
  cases h with | c h => exact .c (C.nrm_ok h)
theorem nrm_okG {xs : List C} {v : Value} (h : RA M (.g xs) v) : RA M (.g (xs.map C.nrm)) v := by
  cases h with
  | g r =>
    refine .g ⟨by simpa using r.1, fun j c u e1 e2 => ?_⟩
    rw [List.getElem?_map] at e1
    cases hx : xs[j]? with
    | none => rw [hx] at e1; cases e1
    | some x => rw [hx] at e1; cases e1; exact C.nrm_ok (r.2 j x u hx e2)

theorem pvsOf_ok : ∀ (cs : List C) (ps : List PV), pvsOf cs = some ps → cs = ps.map .pv
  | [], ps, h => by cases h; rfl
  | .pv x :: l, ps, h => by
    simp only [pvsOf] at h
    split at h
    · rename_i xs hxs; cases h; rw [pvsOf_ok l xs hxs]; rfl
    · cases h
  | .ptr .. :: _, _, h => by cases h
  | .own .. :: _, _, h => by cases h
  | .cel .. :: _, _, h => by cases h
  | .oel .. :: _, _, h => by cases h
  | .clo .. :: _, _, h => by cases h

theorem argC_ok (hS : SatH B W H M w) {x : C} {y : A} {v : Value} {b : Bool} {ob : Prop} (h : argC H x = some (y, b, ob)) (hob : ob) (hx : RC M x v) : RA (Mem.all w) y v ∧ (b = false → RA M y v) := by
  unfold argC at h
  split at h
  · split at h
    · rename_i hn; cases h
      have : v = _ := (RA.c hx).own_inv; subst this; subst hob
      exact ⟨.c (.pv (own_lst (hS.ok _ _ hn) hS.mem)), by simp⟩
    · cases h
  · cases h
    have hx' : RA M _ v := nrm_okA (.c hx)
    exact ⟨hx'.mono (Mem.le_all hS.mem), fun _ => hx'⟩
  · split at h
    · rename_i hn
      split at h
      · rename_i ps hps; cases h
        subst hob
        have := pvsOf_ok _ _ hps; subst this
        obtain ⟨g1, g2, us, g3, g4⟩ := hS.ok _ _ hn
        cases hx
        refine ⟨.c (.cel _ 0 (fun j => (us[j]?).getD undef) (fun j y hj => ?_) (fun j y hj => ?_)), by simp⟩
        all_goals
          have hlt : j < us.size := by
            have h1 := g4.1
            have h2 := (List.getElem?_eq_some_iff.1 hj).1
            simp at h1; omega
        · simp [Mem.cell, Mem.all, g3, hlt]
        · have := g4.2 j (.pv y) us[j] (by rw [List.getElem?_map, hj]; rfl) (by simp [hlt])
          cases this with | pv r => simpa [hlt] using r.mono (Mem.le_all hS.mem)
      · cases h
    · cases h
  · cases h; exact ⟨.c (hx.mono (Mem.le_all hS.mem)), fun _ => .c hx⟩
  · cases h; exact ⟨.c (hx.mono (Mem.le_all hS.mem)), fun _ => .c hx⟩
  · split at h
    · rename_i hn
      split at h
      · rename_i ps hps; cases h
        subst hob
        have := pvsOf_ok _ _ hps; subst this
        obtain ⟨g1, g2, us, g3, g4⟩ := hS.ok _ _ hn
        cases hx with
        | clo hs hc =>
          rename_i vs
          refine ⟨.c (.clo hs fun j c u e1 e2 => ?_), by simp⟩
          match j, e1 with
          | 0, e1 =>
            cases e1
            have hp := hc 0 _ u rfl e2
            cases hp
            refine .cel _ 0 (fun j => (us[j]?).getD undef) (fun j y hj => ?_) (fun j y hj => ?_)
            all_goals
              have hlt : j < us.size := by
                have h1 := g4.1
                have h2 := (List.getElem?_eq_some_iff.1 hj).1
                simp at h1; omega
            · simp [Mem.cell, Mem.all, g3, hlt]
            · have := g4.2 j (.pv y) us[j] (by rw [List.getElem?_map, hj]; rfl) (by simp [hlt])
              cases this with | pv r => simpa [hlt] using r.mono (Mem.le_all hS.mem)
      · cases h
    · cases h
  · cases h
theorem argA_ok (hS : SatH B W H M w) {x y : A} {v : Value} {b : Bool} {ob : Prop} (h : argA H x = some (y, b, ob)) (hob : ob) (hx : RA M x v) : RA (Mem.all w) y v ∧ (b = false → RA M y v) := by
  unfold argA at h
  split at h
  · cases hx with | c hx => exact argC_ok hS h hob hx
  · cases h; have hx := nrm_okG hx; exact ⟨hx.mono (Mem.le_all hS.mem), fun _ => hx⟩
  · cases h
theorem capsA_ok (hS : SatH B W H M w) : ∀ (cs : List C) (us : List Value) (as : List A) (b : Bool) (ob : Prop), capsA H cs = some (as, b, ob) → ob → RCs M cs us → RAs (Mem.all w) as us.toArray ∧ (b = false → RAs M as us.toArray) := by
  intro cs
  induction cs with
  | nil =>
    intro us as b ob h hob hr
    cases h
    have : us = [] := List.eq_nil_of_length_eq_zero (by simpa using hr.1)
    subst this
    exact ⟨⟨rfl, by simp⟩, fun _ => ⟨rfl, by simp⟩⟩
  | cons c cs ih =>
    intro us as b ob h hob hr
    obtain ⟨u, us', rfl, h1, h2⟩ := hr.cell
    simp only [capsA] at h
    split at h
    · rename_i a b1 p as' b2 p' e1 e2; cases h
      obtain ⟨g1, g2⟩ := argC_ok hS e1 hob.1 h1
      obtain ⟨k1, k2⟩ := ih us' as' b2 p' e2 hob.2 h2
      have key : ∀ (MM : Mem), RA MM a u → RAs MM as' us'.toArray → RAs MM (a :: as') (u :: us').toArray := by
        intro MM r1 r2
        refine ⟨by have := r2.1; simp at this ⊢; exact this, fun j c v e1 e2 => ?_⟩
        cases j with
        | zero => simp at e1 e2; subst e1 e2; exact r1
        | succ j => exact r2.2 j c v (by simpa using e1) (by simpa using e2)
      refine ⟨key _ g1 k1, fun hb => ?_⟩
      simp only [Bool.or_eq_false_iff] at hb
      exact key _ (g2 hb.1) (k2 hb.2)
    · cases h
theorem RAs.app {M : Mem} {as bs : List A} {us vs : Array Value} (h : RAs M as us) (h' : RAs M bs vs) : RAs M (as ++ bs) (us ++ vs) := by
  refine ⟨by simp [h.1, h'.1], fun j a v e1 e2 => ?_⟩
  by_cases hj : j < as.length
  · rw [List.getElem?_append_left hj] at e1
    rw [Array.getElem?_append_left (by rw [h.1]; exact hj)] at e2
    exact h.2 j a v e1 e2
  · rw [List.getElem?_append_right (by omega)] at e1
    rw [Array.getElem?_append_right (by rw [h.1]; omega), h.1] at e2
    exact h'.2 _ a v e1 e2

theorem argsA_ok (hS : SatH B W H M w) (hr : ∀ o x, rd o = some x → RA M x (a.eval o)) : ∀ (os : List Operand) (ts : List TypeId) (as : List A) (b : Bool) (ob : Prop), argsA T H rd os ts = some (as, b, ob) → ob →
    RAs (Mem.all w) as (os.map a.eval).toArray ∧ (b = false → RAs M as (os.map a.eval).toArray) := by
  intro os
  induction os with
  | nil =>
    intro ts as b ob h hob
    cases ts <;> cases h <;> exact ⟨⟨rfl, by simp⟩, fun _ => ⟨rfl, by simp⟩⟩
  | cons o os ih =>
    intro ts as b ob h hob
    cases ts with
    | nil => cases h
    | cons t ts =>
      simp only [argsA] at h
      split at h
      · rename_i x hx
        split at h
        · rename_i y b1 p as' b2 p' h1 h2; cases h
          obtain ⟨g1, g2⟩ := argA_ok hS h1 hob.1 (rdT_ok (T := T) hr (fun _ => rfl) hx)
          obtain ⟨k1, k2⟩ := ih ts as' b2 p' h2 hob.2
          have key : ∀ (MM : Mem), RA MM y (a.eval o) → RAs MM as' (os.map a.eval).toArray → RAs MM (y :: as') ((o :: os).map a.eval).toArray := by
            intro MM r1 r2
            refine ⟨by have := r2.1; simp at this ⊢; exact this, fun j c v e1 e2 => ?_⟩
            cases j with
            | zero => simp at e1 e2; subst e1 e2; exact r1
            | succ j => exact r2.2 j c v (by simpa using e1) (by simpa using e2)
          refine ⟨key _ g1 k1, fun hb => ?_⟩
          simp only [Bool.or_eq_false_iff] at hb
          exact key _ (g2 hb.1) (k2 hb.2)
        · cases h
      · cases h

theorem instX_ok {r : RX} {v : Value} (h : RXok M r v) : RA M (instX r) v := by
  cases r with
  | c x => exact .c (.pv h)
  | g xs =>
    obtain ⟨us, rfl, h1, h2⟩ := h
    refine .g ⟨by simpa using h1, fun j c u e1 e2 => ?_⟩
    rw [List.getElem?_map] at e1
    cases hx : xs[j]? with
    | none => rw [hx] at e1; cases e1
    | some x => rw [hx] at e1; cases e1; exact .pv (h2 j x u hx (by simpa using e2))
  | cl f cs => exact .c h

theorem call_ok (hT : TbOk P E.T) (hΨ : PsiOk P E) (hS : SatH B W H M w) (hr : ∀ o x, rd o = some x → RA M x (a.eval o)) {fo : Operand} {args : List Operand} {tys : List TypeId}
    (h : ∀ u, ∃ r, heapOp E H nx rd u (.call ⟨.value fo, ⟨args⟩, ⟨tys⟩⟩) = some r ∧ Kok B W M ⟨dst, .call ⟨.value fo, ⟨args⟩, ⟨tys⟩⟩, ty, pos, after, guard⟩ a K r) :
    Oper.wp P ⟨dst, .call ⟨.value fo, ⟨args⟩, ⟨tys⟩⟩, ty, pos, after, guard⟩ a w K Q := by
  obtain ⟨r0, h0, h02, h03⟩ := h undef
  have e0 := h0
  simp only [heapOp] at e0
  split at e0
  · rename_i f caps hf
    obtain ⟨us, hfv, hus⟩ : ∃ us : List Value, a.eval fo = .func (.func f) #[] us.toArray ∧ RCs M caps us := by
      have := hr _ _ hf
      cases this with | c h => 
      generalize a.eval fo = v at h
      cases h with
      | @clo _ _ us hs hh => exact ⟨us.toList, by simp, by simpa using hs, fun j c u e1 e2 => hh j c u e1 (by simpa using e2)⟩
    have hrun : Enters P f → (execOp a.eval ⟨dst, .call ⟨.value fo, ⟨args⟩, ⟨tys⟩⟩, ty, pos, after, guard⟩).run P w = .ok (.enter f ((args.map a.eval).toArray ++ us.toArray)) w := by
      intro ⟨fn, e1, e2, e3⟩
      have e3' : fn.name ≠ "runtime.NumGoroutine" := by simpa using e3
      have e2' : fn.body ≠ none := by intro e; rw [e] at e2; cases e2
      simp [execOp, resolve, invoke, hfv, Deferred.ofValue, callFunc, e1, e2', e3']
    split at e0
    · rename_i s hs
      split at e0
      · rename_i as lent ob cs lent' ob' has hcs
        split at e0
        · rename_i pre sh rv hsp
          -- what both outcomes share
          have fin : ((lent || lent') && sh) = false → (ob ∧ ob') ∧ pre → Oper.wp P ⟨dst, .call ⟨.value fo, ⟨args⟩, ⟨tys⟩⟩, ty, pos, after, guard⟩ a w K Q := by
            intro hls hobp
            obtain ⟨ok1, ok2⟩ := argsA_ok hS hr _ _ _ _ _ has hobp.1.1
            obtain ⟨kk1, kk2⟩ := capsA_ok hS _ _ _ _ _ hcs hobp.1.2 hus
            obtain ⟨hent, hfn⟩ := hΨ.fn f s hs (as ++ cs) pre sh rv hsp hobp.2
            have hcall : ∀ (M0 : Mem), M0.on w → RAs M0 (as ++ cs) ((args.map a.eval).toArray ++ us.toArray) → (∀ v w' F, Below w.heap.size w w' → Fresh F w.heap.size w' → RVok (shM sh M0 F) w.heap.size w' rv v → K (a.put dst v) w') →
                Oper.wp P ⟨dst, .call ⟨.value fo, ⟨args⟩, ⟨tys⟩⟩, ty, pos, after, guard⟩ a w K Q := by
              intro M0 hM0 hra hk
              unfold Oper.wp
              rw [hrun hent, Oper.upon_enter]
              refine (hfn M0 w _ hM0 hra).mono fun e w' ⟨v, F, he, hb, hF, hv⟩ => ?_
              subst he
              exact hk v w' F hb hF hv
            -- the result, over what is known behind the call
            have res : ∀ v w' F (M0 : Mem), (sh = true → M0 = M) → Below w.heap.size w w' → Fresh F w.heap.size w' → RVok (shM sh M0 F) w.heap.size w' rv v → K (a.put dst v) w' := by
              intro v w' F M0 hM0 hb hF hv
              have hS' := hS.call hb hF
              have hMle := Mem.ext_or hS.mem hS.base hF
              have hle : (shM sh M0 F).le (M.or F) := by
                cases sh with
                | true => rw [hM0 rfl]; exact Mem.le_refl _
                | false => exact Mem.or_le
              have rx : ∀ (r : RX) (u : Value), RXok (shM sh M0 F) r u → RA (M.or F) (instX r) u := fun r u hr => (instX_ok hr).mono hle
              have ow : ∀ (u : Value) (e : TypeId) (k : LK) (l : List k.T), OwnSl (shM sh M0 F) w.heap.size w' u e k l → OwnSl (M.or F) B w' u e k l ∧ ∀ b, u.ownBlock = some b → w.heap.size ≤ b := by
                intro u e k l ho
                rcases ho with ⟨rfl, rfl⟩ | ⟨b, cap, us, rfl, q1, q2, q3, q4, q5, q6, q7⟩
                · exact ⟨.inl ⟨rfl, rfl⟩, by simp [Value.ownBlock]⟩
                · refine ⟨.inr ⟨b, cap, us, rfl, Nat.le_trans hS.base q1, ?_, q3, q4, q5, q6, fun i x j y a1 a2 => let ⟨u, b1, b2⟩ := q7 i x j y a1 a2; ⟨u, b1, b2.mono hle⟩⟩, fun b' hb' => by cases hb'; exact q1⟩
                  unfold Mem.or
                  have hMb := Mem.none_of_size hS.mem q1
                  cases hFb : F b with
                  | none => exact hMb
                  | some o =>
                    exfalso
                    cases sh with
                    | true => simp [shM, Mem.or, hFb] at q2
                    | false => simp [shM, hFb] at q2
              have newo : ∀ (u : Value) (e : TypeId) (k : LK) (l : List k.T), OwnSl (shM sh M0 F) w.heap.size w' u e k l → SatH B W (updH H nx (some (.own u e k l))) (M.or F) w' := by
                intro u e k l ho
                obtain ⟨o1, o2⟩ := ow u e k l ho
                refine ⟨hS'.below, hS'.base, hS'.mem, fun n x hx => ?_, fun n n' x x' b hnn h1 h2 hb => ?_⟩
                · by_cases hn : n = nx
                  · subst hn; rw [updH_same] at hx; cases hx; exact o1
                  · rw [updH_ne _ _ hn] at hx; exact hS'.ok n x hx
                · have old : ∀ m y, m ≠ nx → updH H nx (some (.own u e k l)) m = some y → ∀ c, y.block = some c → c < w.heap.size := by
                    intro m y hm hy c hc
                    rw [updH_ne _ _ hm] at hy
                    exact (HB.block_lt (hS.ok m y hy) hc).2.1
                  by_cases hn : n = nx
                  · subst hn; rw [updH_same] at h1; cases h1
                    intro hc
                    have := old n' x' (fun e => hnn e.symm) h2 b hc
                    have := o2 b hb; omega
                  · by_cases hn' : n' = nx
                    · subst hn'; rw [updH_same] at h2; cases h2
                      intro hc
                      have := old n x hn h1 b hb
                      have := o2 b hc; omega
                    · rw [updH_ne _ _ hn] at h1; rw [updH_ne _ _ hn'] at h2
                      exact hS'.inj n n' x x' b hnn h1 h2 hb
              obtain ⟨r, g1, g2, g3⟩ := h v
              have e1 := g1
              simp only [heapOp, hf, has, hcs, hs, hsp, hls] at e1
              cases rv with
              | x r => simp only [inst, Option.some.injEq] at e1; subst e1; exact g3 v w' _ hMle hS' (rx r v hv)
              | o e k l => simp only [inst, Option.some.injEq] at e1; subst e1; exact g3 v w' _ hMle (newo v e k l hv) (.c (.own (OwnSl.one (ow v e k l hv).1)))
              | ot e k l rest =>
                obtain ⟨us, rfl, q1, ⟨u0, q2, q3⟩, q4⟩ := hv
                simp only [inst, Option.some.injEq] at e1; subst e1
                have hc0 : (Value.tuple us).comp 0 = u0 := by
                  have hlt := (Array.getElem?_eq_some_iff.1 q2).1
                  simp [Value.comp, Array.getD, hlt, (Array.getElem?_eq_some_iff.1 q2).2]
                refine g3 _ w' _ hMle (by rw [hc0]; exact newo u0 e k l q3) (.t (by simp [q1]) fun j c u e1 e2 => ?_)
                cases j with
                | zero =>
                  simp at e1; subst e1
                  rw [q2] at e2; cases e2
                  rw [hc0]; exact .c (.own (OwnSl.one (ow u0 e k l q3).1))
                | succ j =>
                  simp at e1
                  obtain ⟨r, hr1, rfl⟩ := e1
                  exact rx r u (q4 j r u hr1 e2)
              | t rest =>
                obtain ⟨us, rfl, q1, q4⟩ := hv
                simp only [inst, Option.some.injEq] at e1; subst e1
                refine g3 _ w' _ hMle hS' (.t (by simp [q1]) fun j c u e1 e2 => ?_)
                simp at e1
                obtain ⟨r, hr1, rfl⟩ := e1
                exact rx r u (q4 j r u hr1 e2)
            cases hsh : sh with
            | false => exact hcall (Mem.all w) (Mem.all_on w) (ok1.app kk1) (fun v w' F hb hF hv => res v w' F (Mem.all w) (fun e => by rw [hsh] at e; cases e) hb hF hv)
            | true =>
              have hl : lent = false ∧ lent' = false := by rw [hsh] at hls; simpa using hls
              exact hcall M hS.mem ((ok2 hl.1).app (kk2 hl.2)) (fun v w' F hb hF hv => res v w' F M (fun _ => rfl) hb hF hv)
          split at e0
          · rename_i hls _; cases e0; exact fin hls h02
          · rename_i hls _; cases e0; exact fin hls h02
          · cases e0
        · cases e0
      · cases e0
    · split at e0
      · rename_i tyq s p os t0 ts hs
        have hu0 : us = [] := List.eq_nil_of_length_eq_zero (by simpa using hus.1)
        subst hu0
        split at e0
        · rename_i n b as lent ob hp has
          split at e0
          · rename_i b' ty' cs hn
            split at e0
            · rename_i ps hps
              split at e0
              · rename_i pre r ps' hty hsp; cases e0
                obtain ⟨⟨hob, rfl⟩, hpre⟩ := h02
                rw [Nat.beq_eq] at hty; subst hty
                obtain ⟨hent, hfn⟩ := hΨ.pt f _ s hs ps as pre r ps' hsp hpre
                obtain ⟨ok1, ok2⟩ := argsA_ok hS hr _ _ _ _ _ has hob
                obtain ⟨g1, g2, us, g3, g4⟩ := hS.ok _ _ hn
                have hpc := pvsOf_ok _ _ hps
                subst hpc
                unfold Oper.wp
                rw [hrun hent, Oper.upon_enter, show ((List.map a.eval (p :: os)).toArray ++ ([] : List Value).toArray) = (List.map a.eval (p :: os)).toArray by simp]
                have hpv := (hr _ _ hp).ptr_inv
                have := hfn (Mem.all w) w b us (os.map a.eval) g3 (g4.mono (Mem.le_all hS.mem)) ok1
                rw [show (List.map a.eval (p :: os)).toArray = (.pointer (some ⟨b, 0, none⟩) :: os.map a.eval).toArray from by rw [List.map_cons, hpv]]
                refine this.mono fun e w' ⟨v, us', he, h1, h2, h3⟩ => ?_
                subst he; subst h3
                refine h03 v _ M (Mem.ext_refl _ _) ?_ (.c (.pv (h1 M)))
                refine hS.step (nn := n) (xx := .blk b _ _) (grownBy_setRow w b _) (fun c hc => by cases hc; exact ⟨g1, g2⟩) (fun m y hm hy => ?_) (updH_same _ _ _) ⟨g1, g2, _, setRow_heap w b us _ _ _ g3, h2 M⟩ (fun c hc => .inr hc)
                have hy' : updH H n _ m = some y := hy
                rw [updH_ne _ _ hm] at hy'
                exact ⟨hy', fun c hc => by cases hc; exact hS.inj n m _ y b (fun e => hm e.symm) hn hy' rfl⟩
              · cases e0
            · cases e0
          · cases e0
        · cases e0
      · cases e0
  · cases e0

theorem decB_ok : ∀ {cs : List C} {l : List UInt8} {ob : Prop} {us : List Value}, decB cs = some (l, ob) → ob → RCs M cs us → l.length = cs.length ∧ us = l.map (fun x => .int .u8 (x.toNat : Int)) := by
  intro cs
  induction cs with
  | nil =>
    intro l ob us h hob hr
    cases h
    exact ⟨rfl, List.eq_nil_of_length_eq_zero (by simpa using hr.1)⟩
  | cons c cs ih =>
    intro l ob us h hob hr
    unfold decB at h
    split at h
    · rename_i hc; cases hc
    · rename_i n l' hc
      cases hc
      split at h
      · rename_i xs p hp; cases h
        obtain ⟨u, us', rfl, h1, h2⟩ := hr.cell
        obtain ⟨g1, g2⟩ := ih hp hob.2 h2
        have hu : u = .int .u8 n := by cases h1 with | pv r => exact r.val_eq
        subst hu
        have : ((UInt8.ofNat n.toNat).toNat : Int) = n := by rw [UInt8.toNat_ofNat']; omega
        exact ⟨by simp [g1], by rw [List.map_cons, this, g2]⟩
      · cases h
    · cases h

theorem slcArr_ok (hT : TbOk P E.T) (hS : SatH B W H M w) (hr : ∀ o x, rd o = some x → RA M x (a.eval o)) {t : TypeId} {x : Operand}
    (h : ∀ u, ∃ r, heapOp E H nx rd u (.slice t x none none none) = some r ∧ Kok B W M ⟨dst, .slice t x none none none, ty, pos, after, guard⟩ a K r) : Oper.wp P ⟨dst, .slice t x none none none, ty, pos, after, guard⟩ a w K Q := by
  obtain ⟨r, h1, h2, h3⟩ := h undef
  simp only [heapOp] at h1
  split at h1
  · rename_i N e s1 s2 z n b hk hx
    split at h1
    · rename_i s3 s4 z' b' ty' cs he hn
      split at h1
      · rename_i l ob hN hd; cases h1
        obtain ⟨rfl, hob⟩ := h2
        simp only [Bool.and_eq_true, Nat.beq_eq, Nat.ble_eq, len_eq] at hN
        obtain ⟨hN1, hN2⟩ := hN
        have hu := (hT _ _ hk).und
        simp only at hu
        have hue := (hT _ _ he).und
        simp only at hue
        obtain ⟨inf, zv, i1, i2, i3, i4, i5, i6⟩ := (hT _ _ he).info
        have hv := (hr _ _ hx).ptr_inv
        obtain ⟨g1, g2, us, g3, g4⟩ := hS.ok _ _ hn
        obtain ⟨d1, d2⟩ := decB_ok hd hob g4
        have hul : us.size = N := by rw [← Array.length_toList, g4.1, hN1]
        have hl : l.length = N := by rw [d1, hN1]
        have hun : P.arrayLen t = N ∧ P.elem t = e := by
          unfold Program.arrayLen Program.elem; rw [hu.1]; exact ⟨rfl, rfl⟩
        have hrun : (Instr.sliceAt t (.pointer (some ⟨b, 0, none⟩)) none none none).run P w = .ok (.slice (some ⟨b, 0, none⟩) N N) w := by
          rw [run_sliceAt_array_all w t ⟨b, 0, none⟩ (by rw [hun.1, hun.2]; exact hu.1), hun.1, hun.2]
          have hsz : (Go.sizeOf e).run P w = .ok inf.size w := by simp [Go.sizeOf, run_typeInfo i1]
          rw [hsz]
          simp only [Result.andThen_ok, slicedAt, Nat.zero_mul, Nat.sub_zero]
          split
          · rfl
          · simp [Addr.add]
        refine wp_value (w' := w) (v := .slice (some ⟨b, 0, none⟩) N N) ?_ (h3 _ _ M (Mem.ext_refl _ _) ?_ (.c (.own rfl)))
        · simp only [execOp, hv, Option.map_none, Sem.run_bind]
          rw [hrun]; rfl
        · refine hS.step (row := some b) (nn := n) (xx := .own (.slice (some ⟨b, 0, none⟩) N N) ty' .byt l) (grownBy_refl w _) (fun c hc => by cases hc; exact ⟨g1, g2⟩) (fun m y hm hy => ?_) (updH_same _ _ _) ?_ (fun c hc => .inr hc)
          · have hy' : updH H n _ m = some y := hy
            rw [updH_ne _ _ hm] at hy'
            exact ⟨hy', fun c hc => by cases hc; exact hS.inj n m _ y b (fun e => hm e.symm) hn hy' rfl⟩
          · refine .inr ⟨b, N, us, by rw [hl], g1, g2, g3, by rw [hl]; exact Nat.le_refl _, by simp only [maxLen]; omega, by simp [LK.sz, hul], fun i x j y e1 e2 => ?_⟩
            have hj := enc_lt e2
            have hj0 : j = 0 := by simp [LK.sz] at hj; exact hj
            subst hj0
            simp [LK.enc] at e2; subst e2
            refine ⟨.int .u8 (x.toNat : Int), ?_, .val rfl⟩
            rw [← Array.getElem?_toList, d2]
            simp [LK.sz, e1]
      · cases h1
    · cases h1
  · cases h1

theorem copy_ok (hT : TbOk P E.T) (hS : SatH B W H M w) (hr : ∀ o x, rd o = some x → RA M x (a.eval o)) {d s : Operand} {td ts : TypeId}
    (h : ∀ u, ∃ r, heapOp E H nx rd u (.call ⟨.builtin .copy, ⟨[d, s]⟩, ⟨[td, ts]⟩⟩) = some r ∧ Kok B W M ⟨dst, .call ⟨.builtin .copy, ⟨[d, s]⟩, ⟨[td, ts]⟩⟩, ty, pos, after, guard⟩ a K r) :
    Oper.wp P ⟨dst, .call ⟨.builtin .copy, ⟨[d, s]⟩, ⟨[td, ts]⟩⟩, ty, pos, after, guard⟩ a w K Q := by
  obtain ⟨r, h1, h2, h3⟩ := h undef
  simp only [heapOp] at h1
  split at h1
  · rename_i e s1 s2 z n v sa hk hd hs
    split at h1
    · rename_i v' ty' l m ob s3 s4 z' hn hm he; cases h1
      obtain ⟨hob, rfl⟩ := h2
      obtain ⟨hu, _⟩ := slc_und hT hk
      obtain ⟨inf, zv, i1, i2, i3, i4, i5, i6⟩ := (hT _ _ he).info
      obtain ⟨hu2, inf2, i1', hsz⟩ := slc_und hT hk
      rw [i1] at i1'; cases i1'
      have h1sz : (P.info? e).map (·.size) = some 1 := by rw [i1]; simp [hsz, LK.sz]
      have hv := (hr _ _ hd).own_inv
      obtain ⟨ad, c, b', o, hsv, q1, q2, q3, q4⟩ := lkOf_ok hS (hr _ _ hs) hm hob
      have hexec : ∀ v w', (Builtin.copy_ #[td, ts] ty #[a.eval d, a.eval s]).run P w = .ok v w' → (execOp a.eval ⟨dst, .call ⟨.builtin .copy, ⟨[d, s]⟩, ⟨[td, ts]⟩⟩, ty, pos, after, guard⟩).run P w = .ok (.value v) w' := by
        intro v w' hh
        simp [execOp, resolve, invoke, Go.builtin, hh]
      have hnone : Nat.min m.length l.length = 0 → ∀ (dd : Option Addr) (cap : Nat), a.eval d = .slice dd l.length cap → m.take l.length ++ l.drop m.length = l → Oper.wp P ⟨dst, .call ⟨.builtin .copy, ⟨[d, s]⟩, ⟨[td, ts]⟩⟩, ty, pos, after, guard⟩ a w K Q := by
        intro h0 dd cap hdd hll
        refine wp_value (hexec _ _ (by rw [hdd, hsv]; exact run_copy_none w td ts ty e dd ad l.length cap m.length c hu h1sz h0)) (h3 _ _ M (Mem.ext_refl _ _) ?_ ?_)
        · rw [hll]
          refine hS.less fun n' x hx => ?_
          have hx' : updH H n _ n' = some x := hx
          by_cases e : n' = n
          · subst e; rw [updH_same] at hx'; cases hx'; exact hn
          · rwa [updH_ne _ _ e] at hx'
        · have h0' : min m.length l.length = 0 := h0
          rw [h0']; exact .c (.pv (.val rfl))
      by_cases h0 : Nat.min m.length l.length = 0
      · have hll : m.take l.length ++ l.drop m.length = l := by
          have h0' : min m.length l.length = 0 := h0
          by_cases hm0 : m.length = 0
          · have : m = [] := List.eq_nil_of_length_eq_zero hm0
            subst this; simp
          · have : l.length = 0 := by omega
            have : l = [] := List.eq_nil_of_length_eq_zero this
            subst this; simp
        rcases hS.ok _ _ hn with ⟨hv0, rfl⟩ | ⟨b, cap, us, hv0, g1, g2, g3, g4, g5, g6, g7⟩
        · exact hnone h0 none 0 (by rw [hv, hv0]; rfl) hll
        · exact hnone h0 _ cap (by rw [hv, hv0]) hll
      · have h0' : ¬ min m.length l.length = 0 := h0
        have hmne : m ≠ [] := by intro e; subst e; simp at h0'
        have := q1 hmne; subst this
        rcases hS.ok _ _ hn with ⟨hv0, rfl⟩ | ⟨b, cap, us, rfl, g1, g2, g3, g4, g5, g6, g7⟩
        · simp at h0'
        · let cs : List Value := (m.take l.length).map (fun x => .int .u8 (x.toNat : Int))
          have hcl : cs.length = min l.length m.length := by simp [cs, List.length_take]
          simp only [LK.sz, Nat.mul_one] at g6
          have hrun := run_copy_row (P := P) w td ts ty e b 0 l.length cap ⟨b', o, none⟩ m.length c us ty' cs hu h1sz g3 (by rw [hcl, Nat.min_comm]) (fun j u hj => by
            have hjl : j < (m.take l.length).length := by have := (List.getElem?_eq_some_iff.1 hj).1; simpa [cs] using this
            have hjm : j < m.length := by rw [List.length_take] at hjl; omega
            have hjl' : j < l.length := by rw [List.length_take] at hjl; omega
            obtain ⟨u', hu', hru⟩ := q4 j m[j] 0 (.val (.int .u8 (m[j]).toNat)) (List.getElem?_eq_getElem hjm) rfl
            have := hru.val_eq; subst this
            simp [cs, List.getElem?_take, hjl', hjm] at hj
            rw [← hj, Addr.add_lit]
            simpa [LK.sz] using hu') (by rw [hcl]; simp; omega) (fun u hu => by obtain ⟨x, _, rfl⟩ := List.mem_map.1 hu; rfl)
          refine wp_value (hexec _ _ (by rw [hv, hsv]; exact hrun)) (h3 _ _ M (Mem.ext_refl _ _) ?_ ?_)
          · have hlen2 : (m.take l.length ++ l.drop m.length).length = l.length := by simp; omega
            refine hS.step (nn := n) (xx := .own (.slice (some ⟨b, 0, none⟩) l.length cap) ty' .byt (m.take l.length ++ l.drop m.length)) (grownBy_setRow w b _) (fun q hq => by cases hq; exact ⟨g1, g2⟩) (fun m' y hm' hy => ?_) (updH_same _ _ _) ?_ (fun q hq => .inr hq)
            · have hy' : updH H n _ m' = some y := hy
              rw [updH_ne _ _ hm'] at hy'
              exact ⟨hy', fun q hq => by cases hq; exact hS.inj n m' _ y b (fun e => hm' e.symm) hn hy' rfl⟩
            · refine .inr ⟨b, cap, _, by rw [hlen2], g1, g2, setRow_heap w b us _ ty' _ g3, by rw [hlen2]; exact g4, g5, ?_, fun i x j y e1 e2 => ?_⟩
              · simp [LK.sz, hcl]; omega
              · have hj := enc_lt e2
                have hj0 : j = 0 := by simp [LK.sz] at hj; exact hj
                subst hj0
                simp [LK.enc] at e2; subst e2
                refine ⟨.int .u8 (x.toNat : Int), ?_, .val rfl⟩
                simp only [LK.sz, Nat.mul_one, Nat.add_zero, List.take_zero, List.nil_append, Nat.zero_add, List.getElem?_toArray]
                by_cases hi : i < cs.length
                · rw [List.getElem?_append_left hi]
                  rw [List.getElem?_append_left (by rw [List.length_take]; omega)] at e1
                  simp only [cs, List.getElem?_map, e1, Option.map_some]
                · rw [List.getElem?_append_right (by omega), List.getElem?_drop]
                  rw [List.getElem?_append_right (by rw [List.length_take]; omega), List.getElem?_drop, List.length_take] at e1
                  have hidx : cs.length + (i - cs.length) = i := by omega
                  have hi2 : i < l.length := by
                    have := (List.getElem?_eq_some_iff.1 e1).1; omega
                  have hml : m.length ≤ l.length := by omega
                  rw [show m.length + (i - min l.length m.length) = i by omega] at e1
                  obtain ⟨u, hu, hru⟩ := g7 i x 0 (.val (.int .u8 x.toNat)) e1 rfl
                  have := hru.val_eq; subst this
                  simp only [LK.sz, Nat.mul_one, Nat.add_zero] at hu
                  rw [hidx, Array.getElem?_toList]; exact hu
          · rw [hcl]
            simp only [goInt]
            rw [Nat.min_comm]; exact .c (.pv (.val rfl))
    · cases h1
  · cases h1

theorem heap_freeze (w : World) (b n : Nat) {us : Array Value} {ty : TypeId} (hb : w.heap[b]? = some (.cells us ty (0, 0))) : ∀ c, (w.freeze ⟨b, n, none⟩ 1).heap[c]? = if c = b then some (.cells us ty (n, n + 1)) else w.heap[c]? := by
  intro c
  unfold World.freeze
  rw [if_neg (by decide)]
  simp only [Array.getElem?_modify]
  by_cases h : c = b
  · subst h; simp [hb]
  · rw [if_neg (fun e => h e.symm), if_neg h]
/-- A text's bytes written as a slice: nothing turns them any more. -/
theorem conv_ok (hT : TbOk P E.T) (hS : SatH B W H M w) (hr : ∀ o x, rd o = some x → RA M x (a.eval o)) {src dt : TypeId} {x : Operand}
    (h : ∀ u, ∃ r, heapOp E H nx rd u (.convert src dt x) = some r ∧ Kok B W M ⟨dst, .convert src dt x, ty, pos, after, guard⟩ a K r) : Oper.wp P ⟨dst, .convert src dt x, ty, pos, after, guard⟩ a w K Q := by
  obtain ⟨r, h1, h2, h3⟩ := h undef
  simp only [heapOp] at h1
  split at h1
  · rename_i e kk s1 s2 z n v hb0 hk hx
    rw [Nat.beq_eq] at hb0; subst hb0
    split at h1
    · rename_i v' ty' k l s3 s4 z' hn he; cases h1
      obtain ⟨rfl, hpos⟩ := h2
      obtain ⟨hu, _⟩ := slc_und hT hk
      have hue := (hT _ _ he).und
      simp only at hue
      have hv := (hr _ _ hx).own_inv
      rcases hS.ok _ _ hn with ⟨rfl, rfl⟩ | ⟨b, cap, us, rfl, g1, g2, g3, g4, g5, g6, g7⟩
      · simp at hpos
      · have hfz := heap_freeze w b us.size g3
        have hsh : w.shape? b = some (ty', us.size) := by unfold World.shape?; rw [g3]
        have hrun : (Go.convert src src (.slice (some ⟨b, 0, none⟩) l.length cap)).run P w = .ok (.slice (some ⟨b, 0, none⟩) l.length cap) (w.freeze ⟨b, us.size, none⟩ 1) := by
          simp [Go.convert, run_underlying hu, run_underlying hue, markStringish, hsh]
        have hsize : (w.freeze ⟨b, us.size, none⟩ 1).heap.size = w.heap.size := by
          unfold World.freeze; rw [if_neg (by decide)]; simp
        have hle : M.le (fun j => if j = b then (w.freeze ⟨b, us.size, none⟩ 1).heap[b]? else M j) := by
          intro j o e
          by_cases hj : j = b
          · subst hj; rw [g2] at e; cases e
          · simp [hj, e]
        have hrest : (w.freeze ⟨b, us.size, none⟩ 1).os = w.os ∧ (w.freeze ⟨b, us.size, none⟩ 1).tape = w.tape ∧ (w.freeze ⟨b, us.size, none⟩ 1).output = w.output := by
          unfold World.freeze; rw [if_neg (by decide)]; exact ⟨rfl, rfl, rfl⟩
        refine wp_value (w' := w.freeze ⟨b, us.size, none⟩ 1) (v := .slice (some ⟨b, 0, none⟩) l.length cap) ?_ (h3 _ _ (fun j => if j = b then (w.freeze ⟨b, us.size, none⟩ 1).heap[b]? else M j) ⟨hle, fun j o e hj => ?_⟩ ?_ ?_)
        · simp only [execOp, hv, Sem.run_bind]
          rw [hrun]; rfl
        · have hjb : j ≠ b := by omega
          simpa [hjb] using e
        · refine ⟨⟨hrest.1.trans hS.below.os, hrest.2.1.trans hS.below.tape, hrest.2.2.trans hS.below.output, by rw [hsize]; exact hS.below.size, fun k hk => ?_⟩, by rw [hsize]; exact hS.base, ?_, ?_, ?_⟩
          · rw [hfz k, if_neg (by omega)]; exact hS.below.block k hk
          · intro j o e
            by_cases hj : j = b
            · subst hj; simpa using e
            · simp only [hj, if_false] at e
              rw [hfz j, if_neg hj]; exact hS.mem j o e
          · intro m x hm
            have hm' : m ≠ n := fun e => by subst e; simp only [updH_same] at hm; cases hm
            have e2 : H m = some x := by simpa only [updH_ne _ _ hm'] using hm
            have hok := hS.ok m x e2
            have hcb : ∀ c, x.block = some c → c ≠ b := fun c hc e => hS.inj n m _ x b (fun h => hm' h.symm) hn e2 rfl (e ▸ hc)
            refine hok.keep hle (fun c hc => ?_) (fun c hc => ?_)
            · simp only [hcb c hc, if_false]; exact (HB.block_lt hok hc).2.2
            · rw [hfz c, if_neg (hcb c hc)]
          · intro m m' x x' c hm a1 a2
            have hne : ∀ q y, updH H n none q = some y → H q = some y := by
              intro q y hq
              by_cases e : q = n
              · subst e; rw [updH_same] at hq; cases hq
              · rwa [updH_ne _ _ e] at hq
            exact hS.inj m m' x x' c hm (hne _ _ a1) (hne _ _ a2)
        · refine .c (.pv (R.lst_mk (b := b) (o := 0) rfl g4 g5 (fun _ => rfl) (by simp) (fun i x j y e1 e2 => ?_)))
          obtain ⟨u, hu, hr⟩ := g7 i x j y e1 e2
          exact ⟨u, by simp [Mem.cell, hfz, hu], hr.mono hle⟩
    · cases h1
  · cases h1

theorem binNil_ok (hT : TbOk P E.T) (hS : SatH B W H M w) (hr : ∀ o x, rd o = some x → RA M x (a.eval o)) {op : BinOp} {t t2 : TypeId} {x : Operand}
    (h : ∀ u, ∃ r, heapOp E H nx rd u (.binOp op t x (.const (.slice none 0 0)) t2) = some r ∧ Kok B W M ⟨dst, .binOp op t x (.const (.slice none 0 0)) t2, ty, pos, after, guard⟩ a K r) : Oper.wp P ⟨dst, .binOp op t x (.const (.slice none 0 0)) t2, ty, pos, after, guard⟩ a w K Q := by
  obtain ⟨r0, h0, _⟩ := h undef
  simp only [heapOp] at h0
  split at h0
  rotate_left
  · cases h0
  rename_i e k s1 s2 z k2 l hk hx
  obtain ⟨hu, _⟩ := slc_und hT hk
  have hv := hr _ _ hx
  obtain ⟨ad, c, b, o, hvv, q1, q2, q3, q4, q5⟩ : ∃ ad c b o, a.eval x = .slice ad l.length c ∧ l.length ≤ c ∧ c ≤ maxLen ∧ (l ≠ [] → ad = some ⟨b, o, none⟩) ∧ (ad = none → c = 0) ∧ True := by
    cases hv with
    | c hv => cases hv with
      | pv hv => obtain ⟨ad, c, b, o, e1, e2, e3, e4, e5, _⟩ := hv.lst_inv; exact ⟨ad, c, b, o, e1, e2, e3, e4, e5, trivial⟩
  obtain ⟨d, hd, he⟩ : ∃ d, nilB (.bool d) l = d ∧ (Op.equal t (.slice ad l.length c) (.slice none 0 0)).run P w = .ok d w := by
    cases ad with
    | none =>
      have hl : l = [] := by
        cases l with
        | nil => rfl
        | cons y m => exact absurd (q3 (by simp)) (by simp)
      subst hl
      refine ⟨true, rfl, ?_⟩
      show (Op.equalIn (9999 + 1) t _ _).run P w = _
      rw [Op.equalIn]
      simp [run_underlying hu]
    | some ad =>
      refine ⟨false, by cases l <;> rfl, ?_⟩
      show (Op.equalIn (9999 + 1) t _ _).run P w = _
      rw [Op.equalIn]
      simp [run_underlying hu]
  obtain ⟨r, h1, h2, h3⟩ := h (.bool d)
  simp only [heapOp, hk, hx] at h1
  have hy : a.eval (.const (.slice none 0 0)) = .slice none 0 0 := rfl
  split at h1
  · cases h1
    refine wp_value (w' := w) (v := .bool d) ?_ (h3 _ _ M (Mem.ext_refl _ _) hS (by rw [hd]; exact .c (.pv (.val rfl))))
    simp only [execOp, hvv, hy]
    rw [Sem.run_bind, Sem.run_bind, run_eqGuard_plain _ _ _ _ _ _ rfl]
    simp [Go.binOp, he]
  · cases h1
    refine wp_value (w' := w) (v := .bool (!d)) ?_ (h3 _ _ M (Mem.ext_refl _ _) hS (by rw [hd]; exact .c (.pv (.val rfl))))
    simp only [execOp, hvv, hy]
    rw [Sem.run_bind, Sem.run_bind, run_eqGuard_plain _ _ _ _ _ _ rfl]
    simp [Go.binOp, he]
  · cases h1

/-- EVERY OPERATION THAT TURNS MEMORY. -/
theorem heap_ok (hT : TbOk P E.T) (hΨ : PsiOk P E) (hS : SatH B W H M w) (hr : ∀ o x, rd o = some x → RA M x (a.eval o)) {o : Oper}
    (h : ∀ u, ∃ r, heapOp E H nx rd u o.op = some r ∧ Kok B W M o a K r) : o.wp P a w K Q := by
  obtain ⟨dst, op, ty, pos, after, guard⟩ := o
  obtain ⟨r0, h0, _⟩ := h undef
  have e0 := h0
  simp only at e0 h
  cases op with
  | box t x => exact box_ok hS hr h
  | alloc t => exact alloc_ok hT hS h
  | store t p x => exact store_ok hT hS hr h
  | convert src dt x => exact conv_ok hT hS hr h
  | binOp op t x y t2 =>
    cases y with
    | const v =>
      cases v with
      | slice p n c =>
        match p, n, c, h, e0 with
        | none, 0, 0, h, e0 => exact binNil_ok hT hS hr h
        | some _, _, _, _, e0 => simp [heapOp] at e0
        | none, n + 1, _, _, e0 => simp [heapOp] at e0
        | none, 0, c + 1, _, e0 => simp [heapOp] at e0
      | _ => simp [heapOp] at e0
    | _ => simp [heapOp] at e0
  | buildSlice t n ps => exact buildSlice_ok hT hS hr h
  | makeSlice t l c => exact makeSlice_ok hT hS hr h
  | call c =>
    obtain ⟨callee, args, tys⟩ := c
    obtain ⟨args⟩ := args
    obtain ⟨tys⟩ := tys
    cases callee with
    | value fo => exact call_ok hT hΨ hS hr h
    | invoke => simp [heapOp] at e0
    | builtin b =>
      cases b <;> (try (simp [heapOp] at e0; done))
      · match args, tys, h, e0 with
        | [s, x], [t, tx], h, e0 => exact append_ok hT hS hr h
      · match args, tys, h, e0 with
        | [s, x], [t, tx], h, e0 => exact copy_ok hT hS hr h
  | slice t x lo hi mx =>
    match lo, hi, mx, h, e0 with
    | none, none, none, h, e0 => exact slcArr_ok hT hS hr h
    | some _, _, _, _, e0 => simp [heapOp] at e0
    | none, some _, _, _, e0 => simp [heapOp] at e0
    | none, none, some _, _, e0 => simp [heapOp] at e0
  | _ => simp [heapOp] at e0
end
end Go.Mt
