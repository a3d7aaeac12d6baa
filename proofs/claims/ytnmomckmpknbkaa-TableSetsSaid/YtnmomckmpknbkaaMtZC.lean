/-
  Mt, part ZC: an iterator's own side: rounds asked for; a nil slice in a cell made one's own; a captured variable that nothing turns any more.
-/
import Derived.Test.YtnmomckmpknbkaaMtZB
set_option linter.unusedSimpArgs false
set_option linter.unusedVariables false
namespace Go.Mt
open Go.RowKit
section
variable {P : Program} {E : Env} {B : Nat} {W : World} {M0 M F : Mem} {Q : Exit → Act → World → Prop} {k : List Itm} {st : St} {a : Act} {w : World} {N : Nat} {mrk : Bool} {sh : Bool} {J Jx : Mem → Nat → World → Prop} {n : Nat} {ops : List Oper} {rs : List (Nat × Nat)} {S : Nat → Prop}

theorem SatP.nodef (h : mrk = false) (hS : SatP N mrk B W M0 ops rs S st M a w) : a.defers = [] := by
  obtain ⟨Ds, d0, _, d2, _⟩ := hS.d.df
  rw [d0 h] at d2; simpa using d2
/-- A new start: what is known of the slots. -/
theorem SatP.rebase (h : mrk = false) (hS : SatP N mrk B W M0 ops rs S st M a w) {w' : World} (hM : M.on w') : SatP N mrk w'.heap.size w' M ops rs S ⟨st.f, fun _ => none, st.nx⟩ M a w' :=
  ⟨⟨Below.refl _ _, Nat.le_refl _, hM, fun _ _ h => (by cases h), fun _ _ _ _ _ _ h => (by cases h)⟩, fun _ _ h _ => h, .nil (hS.nodef h) (Mem.le_refl _), hS.n, hS.f, hS.g⟩

/-- What an iterator's body must come to. -/
def Qit (J Jx : Mem → Nat → World → Prop) (n : Nat) : Exit → Act → World → Prop :=
  fun e a w => (e = .normal ∨ e = .ret) ∧ a.defers = [] ∧ ∃ Mi, J Mi n w ∨ ∃ i, i ≤ n ∧ Jx Mi i w
theorem qit_ok (hmk : E.mrk = false) (hJ : Grows J) (hJx : Grows Jx) (h : J M0 n W ∨ ∃ i, i ≤ n ∧ Jx M0 i W) (hS : SatP E.N E.mrk W.heap.size W M0 ops rs S st M a w) : a.defers = [] ∧ ∃ Mi, J Mi n w ∨ ∃ i, i ≤ n ∧ Jx Mi i w := by
  refine ⟨hS.nodef hmk, M, ?_⟩
  rcases h with h | ⟨i, hi, h⟩
  · exact .inl (hJ M0 M n W w h hS.h.below hS.h.mem hS.d.kp (fun k o hk hlt => hS.old k o hk hlt))
  · exact .inr ⟨i, hi, hJx M0 M i W w h hS.h.below hS.h.mem hS.d.kp (fun k o hk hlt => hS.old k o hk hlt)⟩
theorem G_itret (hmk : E.mrk = false) (hJ : Grows J) (hJx : Grows Jx) {c : Code} (hc : isRet c = true) (h : J M0 n W ∨ ∃ i, i ≤ n ∧ Jx M0 i W) : G P E W.heap.size W M0 (Qit J Jx n) (.code c :: k) st := by
  intro M a w hS
  cases c <;> simp only [isRet, Bool.false_eq_true] at hc
  exact wpIn_ret (after_ret ⟨.inr rfl, qit_ok hmk hJ hJx h hS⟩)
theorem G_itend (hmk : E.mrk = false) (hJ : Grows J) (hJx : Grows Jx) (h : J M0 n W ∨ ∃ i, i ≤ n ∧ Jx M0 i W) : G P E W.heap.size W M0 (Qit J Jx n) [] st :=
  fun M a w hS => ⟨.inl rfl, qit_ok hmk hJ hJx h hS⟩

/-- The state at a round's head. -/
def Jit (E : Env) (J : Mem → Nat → World → Prop) (n : Nat) (Fs : Nat → List (Nat × A)) (i : Nat) : Act → World → Prop :=
  fun a w => ∃ M, i ≤ n ∧ J M i w ∧ Sat E.N E.mrk w.heap.size w M [] [] 0 (mk (Fs i) []) M a w
theorem jit_ok (hmk : E.mrk = false) (hJ : Grows J) {Fs : Nat → List (Nat × A)} {i : Nat} (hi : i ≤ n) (h : J M0 i W) (hw : Wk st [] (Fs i) []) {ops rs j} (hS : Sat E.N E.mrk W.heap.size W M0 ops rs j st M a w) : Jit E J n Fs i a w := by
  refine ⟨M, hi, hJ M0 M i W w h hS.h.below hS.h.mem hS.d.kp (fun k o hk hlt => hS.old k o hk hlt), ?_⟩
  have := (hw.sat hS).rebase hmk (w' := w) hS.h.mem
  refine ⟨⟨this.h.below, this.h.base, this.h.mem, fun n x hx => ?_, fun n n' x x' b hn hx => ?_⟩, this.old, this.d, this.n, this.f, this.g⟩
  · simp [mk, nth_eq] at hx
  · simp [mk, nth_eq] at hx
theorem G_itlp (hmk : E.mrk = false) (hJ : Grows J) {Fs : Nat → List (Nat × A)} {i : Nat} (hi : i ≤ n) (h : J M0 i W) (hw : Wk st [] (Fs i) []) : G P E W.heap.size W M0 Q (.lp (Jit E J n Fs i) :: k) st :=
  fun M a w hS => jit_ok hmk hJ hi h hw hS
/-- THE ITERATOR's LOOP: a round of its own for each element. -/
theorem G_itloop (hmk : E.mrk = false) (hJ : Grows J) (Fs : Nat → List (Nat × A)) {c : Code} (hc : isLoop c = true) (h0 : J M0 0 W) (hw : Wk st [] (Fs 0) [])
    (body : ∀ i w M, i ≤ n → J M i w → G P E w.heap.size w M Q (.code (bod c) :: .lp (Jit E J n Fs (i + 1)) :: k) (mk (Fs i) [])) : G P E W.heap.size W M0 Q (.code c :: k) st := by
  intro M a w hS
  cases c <;> simp only [isLoop, Bool.false_eq_true] at hc
  rename_i c
  simp only [after]
  have hI0 : Jit E J n Fs 0 a w := jit_ok hmk hJ (Nat.zero_le _) h0 hw hS
  -- the round's number: the greatest that the state has
  let p : Act → World → Nat → Prop := fun a w i => Jit E J n Fs i a w
  let ν : Act → World → Nat := fun a w => open Classical in if h : ∃ m, ∃ i, p a w i ∧ n - i = m then Classical.choose (exists_min (fun m => ∃ i, p a w i ∧ n - i = m) h) else 0
  have hν : ∀ a w, (∃ i, p a w i) → (∃ i, p a w i ∧ n - i = ν a w) ∧ ∀ i, p a w i → ν a w ≤ n - i := by
    rintro a w ⟨i, hi⟩
    have h : ∃ m, ∃ i, p a w i ∧ n - i = m := ⟨_, i, hi, rfl⟩
    simp only [ν, dif_pos h]
    have := Classical.choose_spec (exists_min (fun m => ∃ i, p a w i ∧ n - i = m) h)
    exact ⟨this.1, fun i hi => this.2 _ ⟨i, hi, rfl⟩⟩
  refine wpIn_loop (fun a w => ∃ i, p a w i) ν ⟨0, hI0⟩ fun a w hI => ?_
  obtain ⟨⟨i, ⟨M, h1, h2, h3⟩, hi⟩, _⟩ := hν a w hI
  have := body i w M h1 h2 M a w h3
  simp only [after, bod] at this
  refine wpIn_mono this fun e a' w' q => ?_
  cases e with
  | normal =>
    obtain ⟨M', q1, q2⟩ := q
    refine ⟨⟨i + 1, M', q1, q2⟩, Nat.lt_of_le_of_lt ((hν a' w' ⟨i + 1, M', q1, q2⟩).2 (i + 1) ⟨M', q1, q2⟩) (by omega)⟩
  | _ => exact q

/-- A ROUND ASKED FOR. -/
theorem G_yield (hro : E.ro = some 0) (hmk : E.mrk = false) (hJ : Grows J) {all rest : List Oper} {j d t ty : Nat} {pos : String} {fo x : Operand} {aft} (hops : drp j all = ⟨some d, .call ⟨.value fo, ⟨[x]⟩, ⟨[t]⟩⟩, ty, pos, aft, none⟩ :: rest)
    {lid i : Nat} {y : Span} (hf : rdG st.f [] fo = some (pv (.val (.func (.yield lid) #[] #[])))) (hx : rdG st.f [] x = some (.g [.pv (i64 y.fr), .pv (i64 y.to)]))
    (h0 : J M0 i W) (hy : ∀ Mi W, J Mi i W → Mi.on W → YieldAt Fence.wide 0 P lid #[spV y] W fun e W' =>
      (e = .returned (.bool true) ∧ J Mi (i + 1) W' ∧ Mi.on W') ∨ (e = .returned (.bool false) ∧ Jx Mi (i + 1) W' ∧ Mi.on W'))
    {f' : Bool → Nat → Option Ent} (hput : ∀ b, putS E.N j (refsOf all all) st.f (some d) (some (.u (bool b))) = some (f' b))
    (yes : ∀ W' M', J M' (i + 1) W' → G P E W'.heap.size W' M' Q (.ops all (j + 1) :: k) ⟨f' true, fun _ => none, st.nx⟩)
    (no : ∀ W' M', Jx M' (i + 1) W' → G P E W'.heap.size W' M' Q (.ops all (j + 1) :: k) ⟨f' false, fun _ => none, st.nx⟩) :
    G P E W.heap.size W M0 Q (.ops all j :: k) st := by
  intro M a w hS
  have hS : Sat E.N E.mrk W.heap.size W M0 all (refsOf all all) j st M a w := hS
  simp only [after]
  rw [hro, hops]
  intro hnd
  have hrest : drp (j + 1) all = rest := by
    rw [drp_eq] at hops ⊢
    have := congrArg List.tail hops
    simpa [List.tail_drop] using this
  have hJw := hJ M0 M i W w h0 hS.h.below hS.h.mem hS.d.kp (fun k o hk hlt => hS.old k o hk hlt)
  have hfv : a.eval fo = .func (.yield lid) #[] #[] := (rdG_ok hS (Γ := []) (by simp) _ _ hf).val_inv
  have hxv : a.eval x = spV y := by
    have h1 := rdG_ok hS (Γ := []) (by simp) _ _ hx
    generalize a.eval x = v at h1
    cases h1 with
    | g h2 =>
      rename_i us
      obtain ⟨us⟩ := us
      match us, h2.1 with
      | [u0, u1], _ =>
        have q0 := h2.2 0 _ u0 rfl rfl
        have q1 := h2.2 1 _ u1 rfl rfl
        cases q0 with
        | pv q0 =>
          cases q1 with
          | pv q1 => cases q0; cases q1; rfl
  obtain ⟨fn, tmps, as, bd, hrun, hround⟩ := hy M w hJw hS.h.mem
  refine wpListIn_step fun K hK => ?_
  rw [if_pos (by simp [Region.wanted])]
  refine ⟨fun f _ => fce_fn 0 f, ?_⟩
  have hex : (execOp a.eval ⟨some d, .call ⟨.value fo, ⟨[x]⟩, ⟨[t]⟩⟩, ty, pos, aft, none⟩).run P w = .ok (.round lid fn tmps as bd) w := by
    rw [← hrun]
    simp [execOp, resolve, invoke, hfv, hxv, Deferred.ofValue]
  rw [Oper.semAt_eq _ _ _ (by intro c e; cases e), hex]
  refine ⟨fun e => (by cases e), hround.mono ?_⟩
  have go : ∀ (b : Bool) (w' : World), M.on w' → G P E w'.heap.size w' M Q (.ops all (j + 1) :: k) ⟨f' b, fun _ => none, st.nx⟩ → K (a.put (some d) (.bool b)) w' := by
    intro b w' hon hG
    refine hK _ _ ?_
    have hS1 := SatP.rebase hmk hS (w' := w') hon
    have hS2 := SatP.put (S' := fun q => q < j + 1) (i := j) (M' := M) (H' := fun _ => none) (nx' := st.nx) (dst := some d) (e := some (.u (bool b))) (v := .bool b) hS1 (Nat.lt_irrefl j) (fun q hq => Nat.lt_succ_of_lt hq) (Mem.ext_refl _ _) hS1.h (hput b) (put_defers _ _)
      (fun e' he => by cases he; exact .c (.pv (.val rfl))) (by simp)
    have := hG M _ _ hS2
    simp only [after, hro, hrest] at this
    exact this (fun o ho => hnd o (List.mem_cons_of_mem _ ho))
  rintro e w' (⟨rfl, h1, h2⟩ | ⟨rfl, h1, h2⟩)
  · exact go true w' h2 (yes w' M h1)
  · exact go false w' h2 (no w' M h1)

/-- A nil slice in a cell made one's own. -/
theorem G_ownB (n j : Nat) (ty' : TypeId) {lk : LK} {b : Nat} {ty : TypeId} {cs : List C} (hn : st.H n = some (.blk b ty cs)) (hj : nth cs j = some (.pv (.nil lk)))
    (hk : G P E B W M0 Q k ⟨st.f, updH (updH st.H n (some (.blk b ty (cs.set j (.own st.nx (.slice none 0 0)))))) st.nx (some (.own (.slice none 0 0) ty' lk [])), st.nx + 1⟩) : G P E B W M0 Q k st := by
  intro M a w hS
  have h1 : SatH B W (updH st.H n (some (.blk b ty (cs.set j (.own st.nx (.slice none 0 0)))))) M w := by
    refine ⟨hS.h.below, hS.h.base, hS.h.mem, fun m x hx => ?_, fun m m' x x' c hm e1 e2 hb => ?_⟩
    · by_cases e : m = n
      · subst e; rw [updH_same] at hx; cases hx
        obtain ⟨q1, q2, us, q3, q4⟩ := hS.h.ok _ _ hn
        refine ⟨q1, q2, us, q3, by simpa using q4.1, fun i c u e1 e2 => ?_⟩
        rw [List.getElem?_set] at e1
        split at e1
        · rename_i hij
          split at e1
          · cases e1
            rw [nth_eq] at hj
            have := q4.2 i _ u (by rw [← hij]; exact hj) e2
            cases this with
            | pv h => cases h; exact .own rfl
          · cases e1
        · exact q4.2 i c u e1 e2
      · rw [updH_ne _ _ e] at hx; exact hS.h.ok m x hx
    · have key : ∀ m x, updH st.H n (some (.blk b ty (cs.set j (.own st.nx (.slice none 0 0))))) m = some x → ∃ y, st.H m = some y ∧ y.block = x.block := by
        intro m x hx
        by_cases e : m = n
        · subst e; rw [updH_same] at hx; cases hx; exact ⟨_, hn, rfl⟩
        · rw [updH_ne _ _ e] at hx; exact ⟨x, hx, rfl⟩
      obtain ⟨y, y1, y2⟩ := key m x e1
      obtain ⟨y', y1', y2'⟩ := key m' x' e2
      rw [← y2'] ; exact hS.h.inj m m' y y' c hm y1 y1' (by rw [y2]; exact hb)
  exact hk M a w ⟨h1.newOwn (row := none) (grownBy_refl w none) (by simp) (OwnSl.nil _ _ _ _ _) (by simp [Value.ownBlock]) st.nx (fun m x hm hx => ⟨hx, by simp⟩), hS.old, hS.d, hS.n, hS.f, hS.g⟩

/-- A captured variable that nothing turns any more. -/
theorem G_freezeB (s n : Nat) {f b : Nat} {ty : TypeId} {ys : List PV} (hs : st.f s = some (.u (.c (.clo f [.ptr n b 0])))) (hn : st.H n = some (.blk b ty (ys.map .pv)))
    (hk : G P E B W M0 Q k ⟨updF st.f s (some (.u (.c (.clo f [.cel ys])))), updH st.H n none, st.nx⟩) : G P E B W M0 Q k st := by
  intro M a w hS
  obtain ⟨q1, q2, us, q3, q4⟩ := hS.h.ok _ _ hn
  let M' : Mem := fun j => if j = b then w.heap[b]? else M j
  have hle : M.le M' := by
    intro j o e
    by_cases hj : j = b
    · subst hj; rw [q2] at e; cases e
    · simp [M', hj, e]
  have hH : ∀ m x, updH st.H n none m = some x → m ≠ n ∧ st.H m = some x := fun m x hm => by
    by_cases e : m = n
    · subst e; rw [updH_same] at hm; cases hm
    · rw [updH_ne _ _ e] at hm; exact ⟨e, hm⟩
  have hSH : SatH B W (updH st.H n none) M' w := by
    refine ⟨hS.h.below, hS.h.base, ?_, ?_, fun m m' x x' c hm a1 a2 => hS.h.inj m m' x x' c hm (hH m x a1).2 (hH m' x' a2).2⟩
    · intro j o e
      by_cases hj : j = b
      · subst hj; simpa [M'] using e
      · simp only [M', hj, if_false] at e; exact hS.h.mem j o e
    · intro m x hx
      obtain ⟨e1, e2⟩ := hH m x hx
      have hok := hS.h.ok m x e2
      refine hok.keep hle (fun c hc => ?_) (fun c hc => rfl)
      have hcb : c ≠ b := fun e => hS.h.inj n m _ x b (fun h => e1 h.symm) hn e2 rfl (e ▸ hc)
      simp only [M', hcb, if_false]; exact (HB.block_lt hok hc).2.2
  refine hk M' a w ⟨hSH, fun k o hk hkB => ?_, hS.d.mono hle rfl, hS.n, fun s' e he => ?_, fun s' j c x hx => ?_⟩
  · have hkb : k ≠ b := by omega
    simp only [M', hkb, if_false] at hk; exact hS.old k o hk hkB
  · simp only [updF] at he
    split at he
    · rename_i hb; rw [Nat.beq_eq] at hb; subst hb; cases he
      obtain ⟨v, v1, v2⟩ := hS.f _ _ hs
      refine ⟨v, v1, ?_⟩
      cases v2 with
      | c v2 =>
        cases v2 with
        | clo hz hc =>
          rename_i vs
          refine .c (.clo hz fun j c u e1 e2 => ?_)
          match j, e1 with
          | 0, e1 =>
            cases e1
            have := hc 0 _ u rfl e2
            cases this
            have hu : ∀ j y, ys[j]? = some y → ∃ v, us[j]? = some v ∧ R M' y v := fun j y e => by
              have hlt : j < us.size := by
                have h9 : us.toList.length = (ys.map C.pv).length := q4.1
                rw [List.length_map, Array.length_toList] at h9; rw [h9]; exact (List.getElem?_eq_some_iff.1 e).1
              have h2 := q4.2 j (.pv y) us[j] (by rw [List.getElem?_map, e]; rfl) (by simp [hlt])
              cases h2 with
              | pv h2 => exact ⟨us[j], Array.getElem?_eq_getElem hlt, h2.mono hle⟩
            refine .cel b 0 (fun j => us.getD j undef) (fun j y e => ?_) (fun j y e => ?_)
            · obtain ⟨v, h1, h2⟩ := hu j y e
              simp [Mem.cell, M', q3, h1]
            · obtain ⟨v, h1, h2⟩ := hu j y e
              have : us.getD j undef = v := by simp [h1]
              simp only [this]; exact h2
    · obtain ⟨v, v1, v2⟩ := hS.f s' e he
      exact ⟨v, v1, v2.mono hle⟩
  · simp only [updF] at hx
    split at hx
    · cases hx
    · exact hS.g s' j c x hx

/-- AN ITERATOR's CONTRACT FROM ITS BODY. -/
theorem It_intro {g : List Span → List Span} {f : FuncId} {fn : Func} (hf : P.funcs[f]? = some fn) (hb : fn.body.isNone = false) (hN : fn.ntmps = E.N) (hro : E.ro = some 0) (hmk : E.mrk = false) (hres : fn.results = #[]) (hl : Nat.ble 2 E.N = true)
    (hcf : ∀ args w, (callFunc f args).run P w = .ok (.enter f args) w)
    (h : ∀ (M : Mem) (l : List Span) (lid : Nat) (J Jx : Mem → Nat → World → Prop) (w : World), l.length ≤ 1000000 → Grows J → Grows Jx → J M 0 w →
      (∀ i x, (g l)[i]? = some x → ∀ Mi W, J Mi i W → Mi.on W → YieldAt Fence.wide 0 P lid #[spV x] W fun e W' => (e = .returned (.bool true) ∧ J Mi (i + 1) W' ∧ Mi.on W') ∨ (e = .returned (.bool false) ∧ Jx Mi (i + 1) W' ∧ Mi.on W')) →
      G P E w.heap.size w M (Qit J Jx (g l).length) [.code (fbody fn)] (init [pv (.val (.func (.yield lid) #[] #[])), .c (.cel [.lst .spn l])])) : ItOk P f g := by
  refine ⟨hcf, fun M l u lid J Jx w hM hu hlen hJ hJx h0 hy => ?_⟩
  cases hbd : fn.body with
  | none => rw [hbd] at hb; cases hb
  | some c =>
    rw [Nat.ble_eq] at hl
    refine (callsIn_wide (n := 0)).1 (callsIn_of_wp_marks hf hbd trivial ?_)
    have hg := h M l lid J Jx w hlen hJ hJx h0 (fun i x hx Mi W hJi hon => hy Mi i W x hx hJi hon) M ⟨#[.func (.yield lid) #[] #[], u] ++ Array.replicate (fn.ntmps - 2) undef, []⟩ w ⟨⟨Below.refl _ _, Nat.le_refl _, hM, by simp [init], by simp [init]⟩, fun _ _ e _ => e, .nil rfl (Mem.le_refl _), by simp; omega, fun s e he => ?_, fun s j b x hx => ?_⟩
    · have hfb : fbody fn = c := by simp [fbody, hbd]
      have hg2 : cwp E.ro P (fbody fn) (after E.ro P (Qit J Jx (g l).length) []) _ w := hg
      rw [hfb, hro] at hg2
      refine wpIn_mono hg2 (fun e a w q => ?_)
      obtain ⟨q1, q2, q3⟩ := q
      have fin : LeavesInM Fence.wide 0 P fn a.tmps (fun e W' => (∃ v, e = .returned v) ∧ ∃ Mi, J Mi (g l).length W' ∨ ∃ i, i ≤ (g l).length ∧ Jx Mi i W') a.defers .returning w := by
        rw [q2]
        exact ⟨.tuple #[], by simp [results, hres], ⟨_, rfl⟩, q3⟩
      rcases q1 with rfl | rfl
      · exact fin
      · exact fin
    · simp only [init, nth_eq] at he
      split at he
      · rename_i x hx; cases he
        match s, hx with
        | 0, hx => cases hx; exact ⟨_, Array.getElem?_append_left (by simp), .c (.pv (.val rfl))⟩
        | 1, hx => cases hx; exact ⟨u, Array.getElem?_append_left (by simp), .c hu⟩
      · cases he
    · simp only [init, nth_eq] at hx
      split at hx <;> cases hx
end
end Go.Mt
