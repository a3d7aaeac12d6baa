/-
  Mt, part ZB: a range over a function; a captured variable that nothing turns any more; a nil slice in a cell made one's own.
-/
import Derived.Test.YtnmomckmpknbkaaMtZA
import Derived.Test.YtnmomckmpknbkaaMtZ
set_option linter.unusedSimpArgs false
set_option linter.unusedVariables false
namespace Go.Mt
open Go.RowKit

/-- The list over which the program's iterators go: all of it, if it is right. -/
abbrev spV (x : Span) : Value := .agg #[.int .i64 x.fr, .int .i64 x.to]
/-- What a loop's invariant abides: the world grows, and what does not change. -/
def Grows (J : Mem → Nat → World → Prop) : Prop := ∀ M M' i W W', J M i W → Below W.heap.size W W' → M'.on W' → M.le M' → (∀ k o, M' k = some o → k < W.heap.size → M k = some o) → J M' i W'
/-- THE CONTRACT OF AN ITERATOR over spans: 'g l' are those that it hands to the loop. -/
def ItOk (P : Program) (gf : Nat) (g : List Span → List Span) : Prop :=
  (∀ args w, (callFunc gf args).run P w = .ok (.enter gf args) w) ∧
  ∀ (M : Mem) (l : List Span) (u : Value) (lid : Nat) (J Jx : Mem → Nat → World → Prop) (w : World), M.on w → RC M (.cel [.lst .spn l]) u → l.length ≤ 1000000 →
    Grows J → Grows Jx → J M 0 w →
    (∀ Mi i W x, (g l)[i]? = some x → J Mi i W → Mi.on W → YieldAt Fence.wide 0 P lid #[spV x] W fun e W' =>
      (e = .returned (.bool true) ∧ J Mi (i + 1) W' ∧ Mi.on W') ∨ (e = .returned (.bool false) ∧ Jx Mi (i + 1) W' ∧ Mi.on W')) →
    Calls P gf #[.func (.yield lid) #[] #[], u] w fun e W' => (∃ v, e = .returned v) ∧ ∃ Mi, J Mi (g l).length W' ∨ ∃ i, i ≤ (g l).length ∧ Jx Mi i W'

/-- In a round of loop 'l'. -/
def rd (E : Env) (l : Nat) : Env := { E with ro := some (l + 1) }
theorem rdPsi {P : Program} {E : Env} {l : Nat} (h : PsiOk P E) : PsiOk P (rd E l) := ⟨h.fn, h.pt⟩

def rngOf : Code → Option (Operand × Nat)
  | .rangeFunc g ⟨[p]⟩ _ _ => some (g, p)
  | _ => none
def asn : Code → Code | .rangeFunc _ _ a _ => a | _ => .skip
def rbd : Code → Code | .rangeFunc _ _ _ b => b | _ => .skip

section
variable {P : Program} {E : Env} {B : Nat} {W : World} {M0 M F : Mem} {Q : Exit → Act → World → Prop} {k : List Itm} {st : St} {a : Act} {w : World} {N : Nat} {mrk : Bool} {sh : Bool}

/-- What a round that ends by a return must come to. -/
def RQ {X : Type} (E : Env) (B : Nat) (W : World) (M0 : Mem) (H : X → List HB) (ok : X → Prop) : Exit → Act → World → Prop :=
  fun e a w => e = .ret ∧ ∃ x M, ok x ∧ Sat E.N E.mrk B W M0 [] [] 0 (mk [] (H x)) M a w

theorem G_rret {X : Type} {H : X → List HB} {ok : X → Prop} {c : Code} (hc : isRet c = true) (ns : List Nat) (x : X) (hx : ok x) (h : Wk st ns [] (H x)) : G P E B W M0 (RQ E B W M0 H ok) (.code c :: k) st := by
  intro M a w hS
  cases c <;> simp only [isRet, Bool.false_eq_true] at hc
  exact wpIn_ret (after_ret ⟨rfl, x, M, hx, h.sat hS⟩)

theorem putObj_self {w : World} {l : Nat} {o : Obj} (h : w.heap[l]? = some o) : w.putObj l o = w := by
  have : w.heap.setIfInBounds l o = w.heap := by
    apply Array.ext_getElem?
    intro k
    rw [Array.getElem?_setIfInBounds]
    by_cases e : l = k
    · subst e; rw [if_pos rfl, if_pos (Array.getElem?_eq_some_iff.1 h).1, h]
    · rw [if_neg e]
  unfold World.putObj; rw [this]
theorem SatH.later {H : Nat → Option HB} {w' : World} (hS : SatH B W H M w) (hb : Below w.heap.size w w') : SatH B W H M w' := by
  refine ⟨hS.below.trans (hb.mono hS.base), Nat.le_trans hS.base hb.size, fun k o hk => ?_, fun n x hx => ?_, hS.inj⟩
  · have := hS.mem k o hk
    rw [hb.block k (Array.getElem?_eq_some_iff.1 this).1]; exact this
  · exact (hS.ok n x hx).keep (Mem.le_refl _) (fun b hb' => (HB.block_lt (hS.ok n x hx) hb').2.2) (fun b hb' => hb.block b (HB.block_lt (hS.ok n x hx) hb').2.1)

/-- THE RANGE OVER A FUNCTION. The state at a round's head: the slots as they were at the loop's head, the blocks as 'H x' says. -/
theorem G_range {X : Type} {gf : Nat} {g : List Span → List Span} (it : ItOk P gf g) (hro : E.ro = none) (hmk : E.mrk = true) {c : Code} {o : Operand} {p : Nat} {l : List Span} (hc : rngOf c = some (o, p)) (hp : p < E.N)
    (hv : rdG st.f [] o = some (.c (.clo gf [.cel [.lst .spn l]]))) (hl : l.length ≤ 1000000)
    (Fs : List (Nat × A)) (H : X → List HB) (ok okx : Nat → X → Prop) (ns : List Nat) (x0 : X) (hx0 : ok 0 x0) (hw : Wk st ns Fs (H x0)) (h0 : hdI k = 0)
    (round : ∀ (lid : Nat) (M1 M2 : Mem) (J1 : Act → World → Prop) (i : Nat) (x : X) (y : Span), (g l)[i]? = some y → ok i x →
      (∀ st', G P (rd E lid) B W M2 (RQ (rd E lid) B W M2 H (okx (i + 1))) [.code (rbd c), .lp (LJ (rd E lid) B W M2 (fun _ => []) H (ok (i + 1)))] st' → G P (rd E lid) B W M1 (fun _ _ _ => False) [.lp J1] st') →
      G P (rd E lid) B W M1 (fun _ _ _ => False) [.code (asn c), .lp J1] (mk ((p, .g [.pv (i64 y.fr), .pv (i64 y.to)]) :: Fs) (H x)))
    (done : ∀ x, ok (g l).length x → G P E B W M0 Q k (mk Fs (H x)))
    (left : ∀ i x, i ≤ (g l).length → okx i x → G P E B W M0 Q (.code .ret :: k) (mk Fs (H x))) : G P E B W M0 Q (.code c :: k) st := by
  intro M a w hS
  unfold rngOf at hc
  split at hc
  rotate_left
  · cases hc
  rename_i o' p' as bd
  cases hc
  simp only [after]
  simp only [asn, rbd] at round
  -- the iterator's value
  obtain ⟨u, hu1, hu2⟩ : ∃ u, a.eval o = .func (.func gf) #[] #[u] ∧ RC M (.cel [.lst .spn l]) u := by
    have h1 := rdG_ok hS (Γ := []) (by simp) _ _ hv
    generalize a.eval o = v at h1
    cases h1 with
    | c h1 =>
      cases h1 with
      | clo hs h2 =>
        rename_i us
        obtain ⟨us⟩ := us
        match us, hs, h2 with
        | [u], _, h2 => exact ⟨u, rfl, h2 0 _ u rfl rfl⟩
  have hS0 : Sat E.N E.mrk B W M0 [] [] 0 (mk Fs (H x0)) M a w := hw.sat hS
  have hMw : M.on w := hS.h.mem
  have hwB : B ≤ w.heap.size := hS.h.base
  show Code.wpIn (fce E.ro) 0 P _ (after E.ro P Q k) a w
  rw [hro]
  refine wpIn_rangeFunc ?_
  intro fn hfn
  show ∃ l mark w₁ d w₁' f args w₂, (Instr.enterLoop fn a.tmps #[p] as bd none).run P w = _ ∧ _
  -- the loop's record
  let rec0 : LoopState → Option Code → Loop := fun s pe => { state := s, pending := pe, fn, tmps := a.tmps, params := #[p], assign := as, body := bd, defers := w.heap.size }
  let D := w.heap.size
  let lid := w.heap.size + 1
  let W1 := (w.alloc (.deferred (some []))).alloc (.loop (rec0 .ready none))
  have hlt : ∀ k o, M k = some o → k < D := fun k o hk => (Array.getElem?_eq_some_iff.1 (hMw k o hk)).1
  have hB1 : Below w.heap.size w W1 := ((Below.refl _ w).alloc (Nat.le_refl _) _).alloc (by simp) _
  -- what does not change while the loop goes on
  obtain ⟨MD, hMD⟩ : ∃ MD, MD = (M.put D (.deferred (some []))).put lid (.loop (rec0 .ready none)) := ⟨_, rfl⟩
  have hDl : D ≠ lid := by show w.heap.size ≠ w.heap.size + 1; omega
  have hBD : B ≤ D := hwB
  have hBl : B ≤ lid := Nat.le_trans hwB (Nat.le_succ _)
  have hMMD : M.le MD := fun k o hk => by
    have := hlt k o hk
    rw [hMD, Mem.put_ne _ _ (show k ≠ lid by show k ≠ w.heap.size + 1; have : k < w.heap.size := this; omega), Mem.put_ne _ _ (show k ≠ D by omega)]; exact hk
  have hMDl : MD lid = some (.loop (rec0 .ready none)) := by rw [hMD]; exact Mem.put_same _ _ _
  have hMDD : MD D = some (.deferred (some [])) := by rw [hMD, Mem.put_ne _ _ hDl]; exact Mem.put_same _ _ _
  have hMDlow : ∀ k, k < B → MD k = M k := fun k hk => by
    rw [hMD, Mem.put_ne _ _ (show k ≠ lid by omega), Mem.put_ne _ _ (show k ≠ D by omega)]
  have hFs : ∀ s e, (match look s Fs with | some x => some (Ent.u x) | none => none) = some e → ∃ x, e = .u x ∧ look s Fs = some x ∧ ∃ v, a.tmps[s]? = some v ∧ RA M x v := by
    intro s e he
    split at he
    · rename_i x hx; cases he
      obtain ⟨v, v1, v2⟩ := hS0.f s (.u x) (by simp only [mk, hx])
      exact ⟨x, rfl, hx, v, v1, v2⟩
    · cases he
  -- between two rounds
  let Inv : (Nat → X → Prop) → Obj → Mem → Nat → World → Prop := fun ok o Mi i Wd => ∃ x M', ok i x ∧ SatH B W (mk [] (H x)).H M' Wd ∧ M.le Mi ∧ Mi.le M' ∧ (∀ k o, M' k = some o → k < B → M k = some o) ∧ M' D = some (.deferred (some [])) ∧ M' lid = some o ∧ Mi lid = none
  have hInv : ∀ ok o, Grows (Inv ok o) := by
    rintro ok o Mi Mi' i Wa Wb ⟨x, M', h1, h2, h3, h4, h5, h6, h7, h8⟩ hb hon hle hlow
    have hs := h2.later hb
    have hnone : ∀ n y b, (mk [] (H x)).H n = some y → y.block = some b → M' b = none ∧ Mi' b = none := by
      intro n y b hn hbk
      obtain ⟨_, q2, q3⟩ := HB.block_lt (h2.ok n y hn) hbk
      refine ⟨q3, ?_⟩
      cases hq : Mi' b with
      | none => rfl
      | some o' => have := h4 b o' (hlow b o' hq q2); rw [q3] at this; cases this
    have hleM : M'.le (fun k => match M' k with | some o => some o | none => Mi' k) := fun k o hk => by simp only [hk]
    refine ⟨x, fun k => match M' k with | some o => some o | none => Mi' k, h1, ⟨hs.below, hs.base, fun k o hk => ?_, fun n y hy => ?_, hs.inj⟩, Mem.le_trans h3 hle, fun k o hk => ?_, fun k o hk hkB => ?_, hleM _ _ h6, hleM _ _ h7, ?_⟩
    · split at hk
      · rename_i o' ho'; cases hk; exact hs.mem k o ho'
      · exact hon k o hk
    · refine (hs.ok n y hy).keep hleM (fun b hbk => ?_) (fun b hbk => rfl)
      obtain ⟨q1, q2⟩ := hnone n y b hy hbk
      simp only [q1, q2]
    · cases hm : M' k with
      | none => simp only [hm]; exact hk
      | some o' => simp only [hm]; have e1 := hs.mem k o' hm; rw [hon k o hk] at e1; exact e1.symm
    · replace hk : (match M' k with | some o => some o | none => Mi' k) = some o := hk
      split at hk
      · rename_i o' ho'; cases hk; exact h5 k o ho' hkB
      · rename_i ho'
        have := h4 k o (hlow k o hk (Nat.lt_of_lt_of_le hkB h2.base)); rw [ho'] at this; cases this
    · cases hq : Mi' lid with
      | none => rfl
      | some o' =>
        have := hlow lid o' hq (Array.getElem?_eq_some_iff.1 (h2.mem lid _ h7)).1
        rw [h8] at this; cases this
  -- what does not change in a round
  let MDi : Mem → Mem := fun Mi => (Mi.put D (.deferred (some []))).put lid (.loop (rec0 .ready none))
  have hDil : ∀ Mi, MDi Mi lid = some (.loop (rec0 .ready none)) := fun Mi => Mem.put_same _ _ _
  have hDiD : ∀ Mi, MDi Mi D = some (.deferred (some [])) := fun Mi => by show Mem.put _ _ _ _ = _; rw [Mem.put_ne _ _ hDl]; exact Mem.put_same _ _ _
  have hDin : ∀ (Mi : Mem) k, k ≠ lid → k ≠ D → MDi Mi k = Mi k := fun Mi k h1 h2 => by show Mem.put _ _ _ _ = _; rw [Mem.put_ne _ _ h1, Mem.put_ne _ _ h2]
  -- a state at a round's end, the record turned
  have hturn : ∀ (ok : Nat → X → Prop) (i : Nat) (x : X) (Mi M2 M3 : Mem) (o : Loop) (o' : Loop) (Wd : World) (a3 : Act), M.le Mi → (∀ k o, Mi k = some o → k < B → M k = some o) → (∀ k o, Mi k = some o → k = D → o = .deferred (some [])) → Mi lid = none → ok i x → M2.le M3 → M2 lid = some (.loop o) → (∀ k, k ≠ lid → M2 k = MDi Mi k) → Sat E.N E.mrk B W M2 [] [] 0 (mk [] (H x)) M3 a3 Wd →
      Wd.heap[lid]? = some (.loop o) ∧ Inv ok (.loop o') Mi i (Wd.putObj lid (.loop o')) ∧ Mi.on (Wd.putObj lid (.loop o')) := by
    intro ok i x Mi M2 M3 o o' Wd a3 hMMi hMlow hMiD hMil hok hle hl h2 hS3
    have hl3 := hS3.h.mem lid _ (hle lid _ hl)
    have hpu := hS3.h.putObj (o' := .loop o') hl3 rfl hBl
    have hMi3 : Mi.le (M3.put lid (.loop o')) := fun k o hk => by
      by_cases e : k = lid
      · subst e; rw [hMil] at hk; cases hk
      · rw [Mem.put_ne _ _ e]
        by_cases e2 : k = D
        · have := hMiD k o hk e2; subst this e2
          exact hle _ _ (by rw [h2 _ e]; exact hDiD Mi)
        · exact hle k o (by rw [h2 k e, hDin Mi k e e2]; exact hk)
    refine ⟨hl3, ⟨x, M3.put lid (.loop o'), hok, hpu, hMMi, hMi3, fun k o hk hkB => ?_, ?_, Mem.put_same _ _ _, hMil⟩, fun k o hk => hpu.mem k o (hMi3 k o hk)⟩
    · have hkl : k ≠ lid := by omega
      rw [Mem.put_ne _ _ hkl] at hk
      have := hS3.old k o hk hkB
      rw [h2 k hkl, hDin Mi k hkl (by omega)] at this; exact hMlow k o this hkB
    · rw [Mem.put_ne _ _ hDl]; exact hle _ _ (by rw [h2 D hDl]; exact hDiD Mi)
  have hI1 : Inv ok (.loop (rec0 .ready none)) M 0 W1 := by
    suffices hh : SatH B W (mk [] (H x0)).H MD W1 ∧ M lid = none from ⟨x0, MD, hx0, hh.1, Mem.le_refl _, hMMD, fun k o hk hkB => by rw [hMDlow k hkB] at hk; exact hk, hMDD, hMDl, hh.2⟩
    have h1 : SatH B W (mk Fs (H x0)).H M W1 := hS0.h.later hB1
    have hWD : W1.heap[D]? = some (.deferred (some [])) := (Below.heap_alloc _ _ _ (by simp [D])).trans (World.alloc_heap_new w _)
    have hWl : W1.heap[lid]? = some (.loop (rec0 .ready none)) := by
      have := World.alloc_heap_new (w.alloc (.deferred (some []))) (.loop (rec0 .ready none)); rwa [World.size_alloc] at this
    have h2 := h1.putObj (o' := .deferred (some [])) hWD rfl hBD
    have e1 : W1.putObj D (.deferred (some [])) = W1 := putObj_self hWD
    rw [e1] at h2
    have h3 := h2.putObj (o' := .loop (rec0 .ready none)) hWl rfl hBl
    have e2 : W1.putObj lid (.loop (rec0 .ready none)) = W1 := putObj_self hWl
    rw [e2, ← hMD] at h3
    refine ⟨h3, ?_⟩
    cases hq : M lid with
    | none => rfl
    | some o' => have := hlt lid o' hq; exact absurd this (by show ¬ (w.heap.size + 1 < w.heap.size); omega)
  -- the activation behind the loop
  have hbeh : ∀ (x : X) (M' : Mem) (o : Loop) (Wd : World), SatH B W (mk [] (H x)).H M' Wd → M.le M' → (∀ k o, M' k = some o → k < B → M k = some o) → M' D = some (.deferred (some [])) → M' lid = some (.loop o) →
      ∀ (o' : Loop), Sat E.N E.mrk B W M0 [] [] 0 (mk Fs (H x)) (M'.put lid (.loop o')) { a with defers := [mark D] ++ a.defers } (Wd.putObj lid (.loop o')) := by
    intro x M' o Wd h1 h2 h3 h4 h5 o'
    have hl5 := h1.mem lid _ h5
    have hle : M.le (M'.put lid (.loop o')) := fun k o hk => by
      have hkl : k ≠ lid := by have := hlt k o hk; show k ≠ w.heap.size + 1; have : k < w.heap.size := this; omega
      rw [Mem.put_ne _ _ hkl]; exact h2 k o hk
    refine ⟨h1.putObj hl5 rfl hBl, fun k o hk hkB => ?_, ⟨?_, fun k o hk => hle k o (hS.d.kp k o hk)⟩, hS.n, fun s e he => ?_, fun s j b x hx => ?_⟩
    · rw [Mem.put_ne _ _ (show k ≠ lid by omega)] at hk
      exact hS.old k o (h3 k o hk hkB) hkB
    · obtain ⟨Ds, d0, d1, d2, d3⟩ := hS.d.df
      refine ⟨D :: Ds, fun e => (by rw [hmk] at e; cases e), List.nodup_cons.2 ⟨fun hm => ?_, d1⟩, by simp [d2], fun D' hD' => ?_⟩
      · have := hlt D _ (d3 D hm).2; omega
      · rcases List.mem_cons.1 hD' with rfl | hm
        · exact ⟨hBD, by rw [Mem.put_ne _ _ hDl]; exact h4⟩
        · exact ⟨(d3 D' hm).1, hle _ _ (d3 D' hm).2⟩
    · obtain ⟨x', rfl, _, v, v1, v2⟩ := hFs s e he
      exact ⟨v, v1, RA.mono hle v2⟩
    · obtain ⟨x', e, _⟩ := hFs s _ hx
      cases e
  refine ⟨lid, [mark D], W1, { target := .fn (.func gf) #[u], args := #[.func (.yield lid) #[] #[]] }, W1, gf, #[.func (.yield lid) #[] #[], u], W1, ?_, ?_, ?_, ?_, fun e => (by cases e), ?_⟩
  · exact run_enterLoop_outer _ _ _ _ _
  · simp only [resolve, hu1]
    simp [go_sem]
  · intro f' hf'; trivial
  · simp [invoke, go_sem, it.1]
  refine ((callsIn_wide (n := 0 - 1)).2 (it.2 M l u lid (Inv ok (.loop (rec0 .ready none))) (Inv okx (.loop (rec0 .done (some .ret)))) W1 (fun k o hk => ?_) hu2 hl (hInv _ _) (hInv _ _) hI1 ?_)).mono ?_
  · exact (hB1.block k (hlt k o hk)).trans (hMw k o hk)
  · -- ONE ROUND
    rintro Mi i Wd y hy ⟨x, M', hok, h1, h2a, h2b, h3, h4, h5, hMil⟩ hMd
    have hl5 := h1.mem lid _ h5
    have hMlow : ∀ k o, Mi k = some o → k < B → M k = some o := fun k o hk hkB => h3 k o (h2b k o hk) hkB
    have hMiD : ∀ k o, Mi k = some o → k = D → o = .deferred (some []) := fun k o hk e => by
      subst e; have := h2b _ _ hk; rw [h4] at this; cases this; rfl
    refine ⟨fn, _, as, bd, run_yield (P := P) (args := #[spV y]) hl5 rfl, roundIn_of_wpIn hfn ?_⟩
    obtain ⟨R, hR⟩ : ∃ R : Ending → World → Prop, R = fun e W' => (e = .returned (.bool true) ∧ Inv ok (.loop (rec0 .ready none)) Mi (i + 1) W' ∧ Mi.on W') ∨ (e = .returned (.bool false) ∧ Inv okx (.loop (rec0 .done (some .ret))) Mi (i + 1) W' ∧ Mi.on W') := ⟨_, rfl⟩
    rw [← hR]
    obtain ⟨M2, hM2⟩ : ∃ M2, M2 = (MDi Mi).put lid (.loop (rec0 .busy none)) := ⟨_, rfl⟩
    have hM2l : M2 lid = some (.loop (rec0 .busy none)) := by rw [hM2]; exact Mem.put_same _ _ _
    have hM2n : ∀ k, k ≠ lid → M2 k = MDi Mi k := fun k hk => by rw [hM2, Mem.put_ne _ _ hk]
    let J1 : Act → World → Prop := fun a1 w1 => ∃ w2, (Instr.beginRound lid).run P w1 = .ok () w2 ∧ bd.wpIn (Fence.wide.inRound lid) 0 P (roundPost P lid R) a1 w2
    have hround := round lid (MDi Mi) M2 J1 i x y hy hok ?hop
    case hop =>
      intro st' hG Mx a1 w1 hSx
      have hSx : Sat E.N E.mrk B W (MDi Mi) [] [] 0 st' Mx a1 w1 := hSx
      have hxl := hSx.d.kp lid _ (hDil Mi)
      have hwl := hSx.h.mem lid _ hxl
      refine ⟨_, run_beginRound hwl rfl, ?_⟩
      have hSt : Sat E.N E.mrk B W M2 [] [] 0 st' (Mx.put lid (.loop (rec0 .busy none))) a1 (w1.putObj lid (.loop (rec0 .busy none))) := by
        refine Sat.turn hSx hwl rfl hBl (fun k o hk hkB => ?_) rfl ⟨?_, fun k o hk => ?_⟩
        · rw [hM2n k (by omega)]; exact hSx.old k o hk hkB
        · obtain ⟨Ds, d0, d1, d2, d3⟩ := hSx.d.df
          refine ⟨Ds, d0, d1, d2, fun D' hD' => ⟨(d3 D' hD').1, ?_⟩⟩
          have hne : D' ≠ lid := by
            intro e; have := (d3 D' hD').2; rw [e, hxl] at this; cases this
          rw [Mem.put_ne _ _ hne]; exact (d3 D' hD').2
        · by_cases e : k = lid
          · subst e; rw [hM2l] at hk; rw [Mem.put_same]; exact hk
          · rw [Mem.put_ne _ _ e]; rw [hM2n k e] at hk; exact hSx.d.kp k o hk
      have hb := hG _ a1 _ hSt
      refine wpIn_mono (Q := after (some (lid + 1)) P _ [.lp _]) hb ?_
      intro e a3 W3 he
      cases e with
      | normal =>
        obtain ⟨x', M3, hok', hS3⟩ := he
        obtain ⟨q1, q2, q3⟩ := hturn ok (i + 1) x' Mi M2 M3 (rec0 .busy none) (rec0 .ready none) W3 a3 h2a hMlow hMiD hMil hok' hS3.d.kp hM2l hM2n hS3
        refine ⟨_, _, run_endRound none q1, ?_⟩
        rw [hR]
        exact .inl ⟨rfl, q2, q3⟩
      | ret =>
        obtain ⟨_, x', M3, hok', hS3⟩ := he
        obtain ⟨q1, q2, q3⟩ := hturn okx (i + 1) x' Mi M2 M3 (rec0 .busy none) (rec0 .done (some .ret)) W3 a3 h2a hMlow hMiD hMil hok' hS3.d.kp hM2l hM2n hS3
        refine ⟨_, _, run_endRound (some .ret) q1, ?_⟩
        rw [hR]
        exact .inr ⟨rfl, q2, q3⟩
      | _ => exact absurd he.1 (by simp)
    have h2 : M.le M' := Mem.le_trans h2a h2b
    have ha := hround M' ⟨a.tmps.setIfInBounds p (spV y), []⟩ Wd ?hs
    case hs =>
      refine ⟨h1, fun k o hk hkB => ?_, .nil rfl (fun k o hk => ?_), ?_, fun s e he => ?_, fun s j b x hx => ?_⟩
      · rw [hDin Mi k (by omega) (by omega)]; exact h2a k o (h3 k o hk hkB)
      · by_cases e : k = lid
        · subst e; rw [hDil] at hk; rw [h5]; exact hk
        · by_cases e2 : k = D
          · subst e2; rw [hDiD] at hk; rw [h4]; exact hk
          · rw [hDin Mi k e e2] at hk; exact h2b k o hk
      · show (a.tmps.setIfInBounds p (spV y)).size = E.N
        rw [Array.size_setIfInBounds]; exact hS.n
      · show ∃ v, (a.tmps.setIfInBounds p (spV y))[s]? = some v ∧ _
        simp only [mk, look] at he
        by_cases hsp : s = p
        · subst hsp
          simp only [Nat.beq_refl] at he; cases he
          refine ⟨spV y, by rw [Array.getElem?_setIfInBounds, if_pos rfl, if_pos (by rw [hS.n]; exact hp)], .g ⟨rfl, fun j c u e1 e2 => ?_⟩⟩
          match j, e1, e2 with
          | 0, e1, e2 => cases e1; cases e2; exact .pv (.val rfl)
          | 1, e1, e2 => cases e1; cases e2; exact .pv (.val rfl)
        · have hb : Nat.beq s p = false := by
            cases hb : Nat.beq s p with
            | false => rfl
            | true => rw [Nat.beq_eq] at hb; exact absurd hb hsp
          rw [hb] at he
          obtain ⟨x', rfl, _, v, v1, v2⟩ := hFs s e he
          exact ⟨v, by rw [Array.getElem?_setIfInBounds, if_neg (fun e => hsp e.symm)]; exact v1, RA.mono h2 v2⟩
      · simp only [mk] at hx
        split at hx <;> cases hx
    have hfold : (#[p].zip #[spV y]).foldl (fun t (p, v) => t.setIfInBounds p v) a.tmps = a.tmps.setIfInBounds p (spV y) := by simp
    show as.wpIn _ _ P _ { tmps := (#[p].zip #[spV y]).foldl (fun t (p, v) => t.setIfInBounds p v) a.tmps, defers := [] } Wd
    rw [hfold]
    refine wpIn_mono (Q := after (some (lid + 1)) P _ [.lp J1]) ha ?_
    intro e a3 W3 he
    cases e with
    | normal => exact he
    | _ => exact he.elim
  · -- BEHIND THE ITERATOR
    rintro e W2 ⟨⟨v, rfl⟩, Mi, (⟨x, M', hok, h1, h2a, h2b, h3, h4, h5, hMil⟩ | ⟨i, hi, x, M', hok, h1, h2a, h2b, h3, h4, h5, hMil⟩)⟩
    · have hl5 := h1.mem lid _ h5
      refine ⟨none, _, run_endLoop hl5 (by simp [rec0]), ?_⟩
      have := done x hok _ _ _ ((hbeh x M' _ W2 h1 (Mem.le_trans h2a h2b) h3 h4 h5 { rec0 .ready none with state := .exhausted }).hd h0)
      rw [hro] at this; exact this
    · have hl5 := h1.mem lid _ h5
      refine ⟨some .ret, _, run_endLoop hl5 (by simp [rec0]), ?_⟩
      have := left i x hi hok _ _ _ (hbeh x M' _ W2 h1 (Mem.le_trans h2a h2b) h3 h4 h5 { rec0 .done (some .ret) with state := .exhausted })
      rw [hro] at this; exact this
end
end Go.Mt
