/-
  Mt, part ZE: tables: a list of leaves of which one is known by a name of its own; a function that hands such a one back.
-/
import Derived.Test.YtnmomckmpknbkaaMtZD
set_option linter.unusedSimpArgs false
set_option linter.unusedVariables false
namespace Go.Mt
open Go.RowKit
section
variable {P : Program} {E : Env} {B : Nat} {W : World} {M0 M F : Mem} {Q : Exit → Act → World → Prop} {k : List Itm} {st : St} {a : Act} {w w' : World} {N : Nat} {mrk : Bool} {H : Nat → Option HB}

/-- A slot, written otherwise. -/
theorem G_slot (s : Nat) {x y : A} (h : st.f s = some (.u x)) (e : ∀ M v, RA M x v → RA M y v) (hk : G P E B W M0 Q k ⟨updF st.f s (some (.u y)), st.H, st.nx⟩) : G P E B W M0 Q k st := by
  intro M a w hS
  refine hk M a w ⟨hS.h, hS.old, hS.d, hS.n, fun s' e' he => ?_, fun s' j b z hx => ?_⟩
  · simp only [updF] at he
    split at he
    · rename_i hb; rw [Nat.beq_eq] at hb; subst hb; cases he
      obtain ⟨u, u1, u2⟩ := hS.f _ _ h
      exact ⟨u, u1, e M u u2⟩
    · exact hS.f s' e' he
  · simp only [updF] at hx
    split at hx
    · cases hx
    · exact hS.g s' j b z hx
/-- A slice of which a name knows. -/
theorem G_link (s m : Nat) {x : PV} {v : Value} {ty : TypeId} {lk : LK} {l : List lk.T} (h : st.f s = some (.u (.c (.pv x)))) (hx : x = .val v) (hm : st.H m = some (.own v ty lk l))
    (hk : G P E B W M0 Q k ⟨updF st.f s (some (.u (.c (.own m v)))), st.H, st.nx⟩) : G P E B W M0 Q k st := by
  subst hx
  refine G_slot s h (fun M u hr => ?_) hk
  cases hr with
  | c hr => cases hr with
    | pv hr =>
      have := hr.val_eq
      subst this
      exact .c (.own hr.one)

theorem SatH.reown (hS : SatH B W H M w) {n : Nat} {v : Value} {ty : TypeId} {k k' : LK} {l : List k.T} {l' : List k'.T} (hn : H n = some (.own v ty k l)) (hc : OwnSl M B w v ty k l → OwnSl M B w v ty k' l') :
    SatH B W (updH H n (some (.own v ty k' l'))) M w := by
  refine ⟨hS.below, hS.base, hS.mem, fun q x hx => ?_, fun q q' x x' c hq e1 e2 hb => ?_⟩
  · by_cases e : q = n
    · subst e; rw [updH_same] at hx; cases hx; exact hc (hS.ok _ _ hn)
    · rw [updH_ne _ _ e] at hx; exact hS.ok q x hx
  · have key : ∀ q x, updH H n (some (.own v ty k' l')) q = some x → ∃ y, H q = some y ∧ y.block = x.block := by
      intro q x hx
      by_cases e : q = n
      · subst e; rw [updH_same] at hx; cases hx; exact ⟨_, hn, rfl⟩
      · rw [updH_ne _ _ e] at hx; exact ⟨x, hx, rfl⟩
    obtain ⟨y, y1, y2⟩ := key q x e1
    obtain ⟨y', y1', y2'⟩ := key q' x' e2
    rw [← y2'] ; exact hS.inj q q' y y' c hq y1 y1' (by rw [y2]; exact hb)
theorem OwnSl.conv {v : Value} {ty : TypeId} {k k' : LK} {l : List k.T} {l' : List k'.T} (hl : l.length = l'.length) (hsz : k.sz = k'.sz)
    (hc : ∀ i x' j y', l'[i]? = some x' → (k'.enc x')[j]? = some y' → ∃ x y, l[i]? = some x ∧ (k.enc x)[j]? = some y ∧ ∀ us : Array Value, ∀ u, w.heap[v.ownBlock.getD 0]? = some (.cells us ty (0, 0)) → us[i * k.sz + j]? = some u → R M y u → R M y' u)
    (h : OwnSl M B w v ty k l) : OwnSl M B w v ty k' l' := by
  rcases h with ⟨rfl, rfl⟩ | ⟨b, cap, us, rfl, h1, h2, h3, h4, h5, h6, h7⟩
  · refine .inl ⟨rfl, ?_⟩
    cases l' with
    | nil => rfl
    | cons _ _ => simp at hl
  · refine .inr ⟨b, cap, us, by rw [hl], h1, h2, h3, by rw [← hl]; exact h4, h5, by rw [← hsz]; exact h6, fun i x' j y' e1 e2 => ?_⟩
    obtain ⟨x, y, q1, q2, q3⟩ := hc i x' j y' e1 e2
    obtain ⟨u, u1, u2⟩ := h7 i x j y q1 q2
    exact ⟨u, by rw [← hsz]; exact u1, q3 us u h3 u1 u2⟩

/-- All leaves read: a plain table. -/
theorem G_tbhT (n : Nat) {v : Value} {ty : TypeId} {l : List TE} (l' : List (List Entry)) (hn : st.H n = some (.own v ty .tbh l)) (e : l = l'.map .l)
    (hk : G P E B W M0 Q k ⟨st.f, updH st.H n (some (.own v ty .tbl l')), st.nx⟩) : G P E B W M0 Q k st := by
  subst e
  intro M a w hS
  refine hk M a w ⟨hS.h.reown hn (OwnSl.conv (by simp) rfl (fun i x' j y' e1 e2 => ?_)), hS.old, hS.d, hS.n, hS.f, hS.g⟩
  refine ⟨.l x', y', by rw [List.getElem?_map]; have e1' : l'[i]? = some x' := e1; rw [e1']; rfl, e2, fun us u _ _ r => r⟩
theorem G_tblH (n : Nat) {v : Value} {ty : TypeId} {l : List (List Entry)} (hn : st.H n = some (.own v ty .tbl l))
    (hk : G P E B W M0 Q k ⟨st.f, updH st.H n (some (.own v ty .tbh (l.map .l))), st.nx⟩) : G P E B W M0 Q k st := by
  intro M a w hS
  refine hk M a w ⟨hS.h.reown hn (OwnSl.conv (by simp) rfl (fun i x' j y' e1 e2 => ?_)), hS.old, hS.d, hS.n, hS.f, hS.g⟩
  have e1' : (l.map TE.l)[i]? = some x' := e1
  rw [List.getElem?_map] at e1'
  cases hl : l[i]? with
  | none => rw [hl] at e1'; cases e1'
  | some x => rw [hl] at e1'; cases e1'; exact ⟨x, y', rfl, e2, fun us u _ _ r => r⟩

/-- The leaf that a name knows is turned no more. -/
theorem G_tbhF (n m j : Nat) {V v : Value} {ty ty' : TypeId} {L : List TE} {l : List Entry} (hn : st.H n = some (.own V ty .tbh L)) (hj : L[j]? = some (.v v)) (hm : st.H m = some (.own v ty' .ent l))
    (hk : G P E B W M0 Q k ⟨st.f, updH (updH st.H m none) n (some (.own V ty .tbh (L.set j (.l l)))), st.nx⟩) : G P E B W M0 Q k st := by
  have hnm : n ≠ m := fun e => by
    subst e; rw [hn] at hm
    simp only [Option.some.injEq, HB.own.injEq] at hm
    cases hm.2.2.1
  intro M a w hS
  obtain ⟨M', h1, h2, h3⟩ := hS.h.freeze hm (H' := updH st.H m none) (fun q x hq => by
    by_cases e : q = m
    · subst e; rw [updH_same] at hq; cases hq
    · rw [updH_ne _ _ e] at hq; exact ⟨e, hq⟩)
  have hn' : updH st.H m none n = some (.own V ty .tbh L) := by rw [updH_ne _ _ hnm]; exact hn
  refine hk M' a w ⟨h2.reown hn' (OwnSl.conv (by simp) rfl (fun i x' q y' e1 e2 => ?_)), fun k o e hk => hS.old k o (h1.2 k o e hk) hk, hS.d.mono h1.1 rfl, hS.n, fun s e he => ?_, hS.g⟩
  · have e1' : (L.set j (TE.l l))[i]? = some x' := e1
    rw [List.getElem?_set] at e1'
    split at e1'
    · rename_i hij
      subst hij
      split at e1'
      · cases e1'
        refine ⟨.v v, .val v, hj, ?_, fun us u _ _ r => ?_⟩
        · have := enc_lt e2; simp only [LK.sz] at this
          have hq : q = 0 := by omega
          subst hq; rfl
        · have := r.val_eq; subst this
          have := enc_lt e2; simp only [LK.sz] at this
          have hq : q = 0 := by omega
          subst hq
          have e2' : some (PV.lst .ent l) = some y' := e2
          cases e2'; exact h3
      · cases e1'
    · exact ⟨x', y', e1', e2, fun us u _ _ r => r⟩
  · obtain ⟨u, u1, u2⟩ := hS.f s e he
    exact ⟨u, u1, u2.mono h1.1⟩

/-! ### a function that hands back a table of its own, and knows one leaf by itself -/
def DOk (M : Mem) (B : Nat) (w : World) (e1 : TypeId) (l1 : Value → List TE) (e2 : TypeId) (l2 : List Entry) (v : Value) : Prop :=
  ∃ u1 u2, v = .agg #[u1] ∧ OwnSl M B w u1 e1 .tbh (l1 u2) ∧ OwnSl M B w u2 e2 .ent l2 ∧ ∀ b, u1.ownBlock = some b → u2.ownBlock ≠ some b
def FnPostD (M0 : Mem) (W : World) (e1 : TypeId) (l1 : Value → List TE) (e2 : TypeId) (l2 : List Entry) : Ending → World → Prop :=
  fun e w' => ∃ v F, e = .returned v ∧ Below W.heap.size W w' ∧ Fresh F W.heap.size w' ∧ DOk (M0.or F) W.heap.size w' e1 l1 e2 l2 v
def CtrD (P : Program) (f : FuncId) (args : List A) (e1 : TypeId) (l1 : Value → List TE) (e2 : TypeId) (l2 : List Entry) : Prop :=
  Enters P f ∧ ∀ (M : Mem) (w : World) (vs : Array Value), M.on w → RAs M args vs → Calls P f vs w (FnPostD M w e1 l1 e2 l2)

variable {e1 : TypeId} {l1 : Value → List TE} {e2 : TypeId} {l2 : List Entry}
theorem ret_coreD (hT : TbOk P E.T) {fn : Func} (hS : Sat N mrk W.heap.size W M0 [] [] 0 st M a w) (hM0 : M0.on W) {n m : Nat} {V v : Value} {ob : Prop} (h : resAll E.T st.f st.H fn.results.toList = some ([.g [.own n V]], ob)) (hob : ob)
    (hn : st.H n = some (.own V e1 .tbh (l1 v))) (hm : st.H m = some (.own v e2 .ent l2)) :
    ∃ v, (results fn a.tmps).run P w = .ok v w ∧ FnPostD M0 W e1 l1 e2 l2 (.returned v) w := by
  obtain ⟨vs, h1, h2, h2', h3⟩ := resAll_ok hT hS (g := fun | .tmp t => pure (a.tmps.getD t undef) | .cell t ty => do loadVar ty (← asAddr (a.tmps.getD t undef))) (fun _ => rfl) (fun _ _ => rfl) h hob
  have hres : (results fn a.tmps).run P w = .ok (if hh : vs.toArray.size = 1 then vs.toArray[0] else .tuple vs.toArray) w := by
    unfold results
    rw [Array.mapM_eq_mapM_toList]
    simp only [Sem.run_bind, Sem.run_map]
    exact congrArg (fun r : Result (List Value) => (r.andThen fun a w' => Result.ok a.toArray w').andThen fun a w' => Sem.run P (pure (if h : a.size = 1 then a[0] else Value.tuple a)) w') h1
  let F : Mem := fun k => if W.heap.size ≤ k then M k else none
  have hF : Fresh F W.heap.size w := by
    intro k o e
    simp only [F] at e
    split at e
    · rename_i hk; exact ⟨hk, hS.h.mem k o e⟩
    · cases e
  have hle : M.le (M0.or F) := by
    intro k o hk
    simp only [Mem.or, F]
    by_cases hlt : W.heap.size ≤ k
    · simp [hlt, hk]
    · simp only [if_neg hlt]; exact hS.old k o hk (by omega)
  have hno : ∀ b, W.heap.size ≤ b → M b = none → (M0.or F) b = none := by
    intro b hb hMb
    have hFb : F b = none := by simp [F, hMb]
    simp only [Mem.or, hFb]; exact Mem.none_of_size hM0 hb
  have ow : ∀ (u : Value) (e : TypeId) (k : LK) (l : List k.T), OwnSl M W.heap.size w u e k l → OwnSl (M0.or F) W.heap.size w u e k l := by
    intro u e k l ho
    rcases ho with ⟨rfl, rfl⟩ | ⟨b, cap, us, rfl, h1, h2, h3, h4, h5, h6, h7⟩
    · exact .inl ⟨rfl, rfl⟩
    · exact .inr ⟨b, cap, us, rfl, h1, hno b h1 h2, h3, h4, h5, h6, fun i x j y e1 e2 => let ⟨u, u1, u2⟩ := h7 i x j y e1 e2; ⟨u, u1, u2.mono hle⟩⟩
  have hnm : n ≠ m := fun e => by
    subst e; rw [hn] at hm
    simp only [Option.some.injEq, HB.own.injEq] at hm
    cases hm.2.2.1
  refine ⟨_, hres, _, F, rfl, hS.h.below, hF, ?_⟩
  match vs, h2, h3 with
  | [x], h2, h3 =>
    have hx := h3 0 _ x rfl rfl
    cases hx with
    | g hx =>
      rename_i us
      have hsz : us.size = 1 := by have := hx.1; simpa using this
      have hu : us.toList[0]? = some us[0] := by simp [hsz]
      have h0 := hx.2 0 _ _ rfl hu
      have hV : us[0] = V := (RA.c h0).own_inv
      refine ⟨V, v, ?_, ow _ _ _ _ (hS.h.ok _ _ hn), ow _ _ _ _ (hS.h.ok _ _ hm), fun b hb => hS.h.inj n m _ _ b hnm hn hm hb⟩
      show Value.agg us = _
      congr 1
      apply Array.ext
      · simp [hsz]
      · intro i hi1 hi2
        have : i = 0 := by omega
        subst this; simpa using hV
theorem ret_postD (hT : TbOk P E.T) {fn : Func} (hM0 : M0.on W) {n m : Nat} {V v : Value} {ob : Prop} (h : resAll E.T st.f st.H fn.results.toList = some ([.g [.own n V]], ob)) (hob : ob)
    (hn : st.H n = some (.own V e1 .tbh (l1 v))) (hm : st.H m = some (.own v e2 .ent l2)) :
    ∀ {M : Mem} {a : Act} {w : World}, Sat N mrk W.heap.size W M0 [] [] 0 st M a w → LeavesInM Fence.wide 0 P fn a.tmps (FnPostD M0 W e1 l1 e2 l2) a.defers .returning w := by
  have key : ∀ (Ds : List Nat) {M : Mem} {a : Act} {w : World}, Sat N mrk W.heap.size W M0 [] [] 0 st M a w → Ds.Nodup → a.defers = Ds.map mark → (mrk = false → Ds = []) → (∀ D, D ∈ Ds → W.heap.size ≤ D ∧ M D = some (.deferred (some []))) →
      LeavesInM Fence.wide 0 P fn a.tmps (FnPostD M0 W e1 l1 e2 l2) a.defers .returning w := by
    intro Ds
    induction Ds with
    | nil => intro M a w hS _ e _ _; rw [e]; exact ret_coreD hT hS hM0 h hob hn hm
    | cons D Ds ih =>
      intro M a w hS hn e hmk hD
      rw [e]
      obtain ⟨hB, hm⟩ := hD D (by simp)
      have hl := hS.h.mem D _ hm
      refine ⟨by simp, .inl ⟨D, _, rfl, run_takeDeferred hl, ?_⟩⟩
      have hd' : ∀ D', D' ∈ Ds → W.heap.size ≤ D' ∧ (M.put D (.deferred none)) D' = some (.deferred (some [])) := fun D' h' => by
        have := hD D' (List.mem_cons_of_mem _ h')
        refine ⟨this.1, ?_⟩
        rw [Mem.put_ne _ _ (fun e => by subst e; exact (List.nodup_cons.1 hn).1 h')]; exact this.2
      have hk : M0.le (M.put D (.deferred none)) := fun k o hk => by
        have hlt := (Array.getElem?_eq_some_iff.1 (hM0 k o hk)).1
        rw [Mem.put_ne _ _ (by omega)]; exact hS.d.kp k o hk
      have hS' : Sat N mrk W.heap.size W M0 [] [] 0 st (M.put D (.deferred none)) ⟨a.tmps, Ds.map mark⟩ (w.putObj D (.deferred none)) :=
        Sat.turn hS hl rfl hB hS.old rfl ⟨⟨Ds, fun e => (by have := hmk e; cases this), (List.nodup_cons.1 hn).2, rfl, hd'⟩, hk⟩
      exact ih hS' (List.nodup_cons.1 hn).2 rfl (fun e => (by have := hmk e; cases this)) hd'
  intro M a w hS
  obtain ⟨Ds, h0, h1, h2, h3⟩ := hS.d.df
  exact key Ds hS h1 h2 h0 h3
theorem G_retD (hT : TbOk P E.T) {fn : Func} {c : Code} (hM0 : M0.on W) (hc : isRet c = true) (n m : Nat) {V v : Value} {ob : Prop} (h : resAll E.T st.f st.H fn.results.toList = some ([.g [.own n V]], ob)) (hob : ob)
    (hn : st.H n = some (.own V e1 .tbh (l1 v))) (hm : st.H m = some (.own v e2 .ent l2)) :
    G P E W.heap.size W M0 (bpost P fn (FnPostD M0 W e1 l1 e2 l2)) (.code c :: k) st := by
  intro M a w hS
  cases c <;> simp only [isRet, Bool.false_eq_true] at hc
  simp only [after]
  exact wpIn_ret (after_ret (ret_postD hT hM0 h hob hn hm hS))
theorem CtrD_intro {f : FuncId} {fn : Func} {args : List A} (hf : P.funcs[f]? = some fn) (hb : fn.body.isNone = false) (hnm : (fn.name == "runtime.NumGoroutine") = false) (hN : fn.ntmps = E.N) (hl : Nat.ble (len args) E.N = true)
    (h : ∀ M0 W, M0.on W → G P E W.heap.size W M0 (bpost P fn (FnPostD M0 W e1 l1 e2 l2)) [.code (fbody fn)] (init args)) (hro : E.ro = none := by rfl) : CtrD P f args e1 l1 e2 l2 := by
  refine ⟨⟨fn, hf, hb, hnm⟩, fun M0 w vs hM0 hra => ?_⟩
  cases hbd : fn.body with
  | none => rw [hbd] at hb; cases hb
  | some c =>
    rw [Nat.ble_eq, len_eq] at hl
    refine (callsIn_wide (n := 0)).1 (callsIn_of_wp_marks hf hbd trivial ?_)
    have hg := h M0 w hM0 M0 ⟨vs ++ Array.replicate (fn.ntmps - vs.size) undef, []⟩ w ⟨⟨Below.refl _ _, Nat.le_refl _, hM0, by simp [init], by simp [init]⟩, fun _ _ e _ => e, .nil rfl (Mem.le_refl _), by simp [hra.1]; omega, fun s e he => ?_, fun s j b x hx => ?_⟩
    · have hfb : fbody fn = c := by simp [fbody, hbd]
      have hg2 : cwp E.ro P (fbody fn) (after E.ro P (bpost P fn (FnPostD M0 w e1 l1 e2 l2)) []) _ w := hg
      rw [hfb, hro] at hg2
      exact wpIn_mono hg2 (fun e a w q => q)
    · simp only [init, nth_eq] at he
      split at he
      · rename_i x hx; cases he
        have hlt : s < vs.size := by rw [hra.1]; exact (List.getElem?_eq_some_iff.1 hx).1
        obtain ⟨u, hu⟩ := arr_get vs s hlt
        exact ⟨u, by simp [Array.getElem?_append_left hlt, hu], hra.2 s x u hx hu⟩
      · cases he
    · simp only [init, nth_eq] at hx
      split at hx <;> cases hx

theorem SatH.add (hS : SatH B W H M w) {v : Value} {e : TypeId} {k : LK} {l : List k.T} (nx : Nat) (ho : OwnSl M B w v e k l) (hnew : ∀ m y, m ≠ nx → H m = some y → ∀ c, y.block = some c → v.ownBlock ≠ some c) :
    SatH B W (updH H nx (some (.own v e k l))) M w := by
  refine ⟨hS.below, hS.base, hS.mem, fun n x hx => ?_, fun n n' x x' b hnn h1 h2 hb => ?_⟩
  · by_cases hn : n = nx
    · subst hn; rw [updH_same] at hx; cases hx; exact ho
    · rw [updH_ne _ _ hn] at hx; exact hS.ok n x hx
  · by_cases hn : n = nx
    · subst hn; rw [updH_same] at h1; cases h1
      intro hc
      have hb' : v.ownBlock = some b := hb
      rw [updH_ne _ _ (fun e => hnn e.symm)] at h2
      exact hnew n' x' (fun e => hnn e.symm) h2 b hc hb'
    · by_cases hn' : n' = nx
      · subst hn'; rw [updH_same] at h2; cases h2
        rw [updH_ne _ _ hn] at h1
        exact fun hc => hnew n x hn h1 b hb hc
      · rw [updH_ne _ _ hn] at h1; rw [updH_ne _ _ hn'] at h2
        exact hS.inj n n' x x' b hnn h1 h2 hb

theorem G_callD {all : List Oper} {i : Nat} {o : Oper} {fo : Operand} {args : List Operand} {tys : List TypeId} {f : Nat} {as : List A} {ob : Prop} {f' : Value → Nat → Option Ent}
    (hc : CtrD P f as e1 l1 e2 l2) (hd : drp i all = o :: drp (i + 1) all) (hg : o.guard = none) (ho : o.op = .call ⟨.value fo, ⟨args⟩, ⟨tys⟩⟩) (hfo : rdG st.f [] fo = some (.c (.clo f [])))
    (ha : argsA E.T st.H (rdG st.f []) args tys = some (as, false, ob)) (hob : ob) (hf : ∀ u1, putS E.N i (refsOf all all) st.f o.dst (some (.u (.g [.own st.nx u1]))) = some (f' u1))
    (hk : ∀ u1 u2, G P E B W M0 Q (.ops all (i + 1) :: k) ⟨f' u1, updH (updH st.H st.nx (some (.own u1 e1 .tbh (l1 u2)))) (st.nx + 1) (some (.own u2 e2 .ent l2)), st.nx + 2⟩) : G P E B W M0 Q (.ops all i :: k) st := by
  intro M a w hS
  show lwp E.ro P all.toArray (after E.ro P Q k) (drp i all) a w
  rw [hd]
  refine lwp_step fun K hK => ?_
  have hw : Region.wanted o (yielded all.toArray a.tmps) = true := by unfold Region.wanted; rw [hg]
  rw [if_pos hw]
  obtain ⟨dst, op, ty, pos, aft, guard⟩ := o
  simp only at ho hg hf; subst ho hg
  have hr := rdG_ok hS (Γ := []) (by simp)
  obtain ⟨k1, k2⟩ := argsA_ok hS.h hr _ _ _ _ _ ha hob
  obtain ⟨⟨fn, q1, q2, q3⟩, hcall⟩ := hc
  have hfv : a.eval fo = .func (.func f) #[] #[] := by
    have := hr _ _ hfo
    cases this with
    | c h =>
      generalize a.eval fo = v at h
      cases h with
      | @clo _ _ us hs hh =>
        have e : us = #[] := Array.eq_empty_of_size_eq_zero (by simpa using hs)
        rw [e]
  have hrun : (execOp a.eval ⟨dst, .call ⟨.value fo, ⟨args⟩, ⟨tys⟩⟩, ty, pos, aft, none⟩).run P w = .ok (.enter f (args.map a.eval).toArray) w := by
    have e3' : fn.name ≠ "runtime.NumGoroutine" := by simpa using q3
    have e2' : fn.body ≠ none := by intro e; rw [e] at q2; cases q2
    simp [execOp, resolve, invoke, hfv, Deferred.ofValue, callFunc, q1, e2', e3']
  unfold Oper.wp
  rw [hrun, Oper.upon_enter]
  refine (hcall M w _ hS.h.mem (k2 rfl)).mono fun e w' ⟨v, F, he, hb, hF, u1, u2, hv, o1, o2, hne⟩ => ?_
  subst he hv
  have hS' := hS.h.call hb hF
  have hMle := Mem.ext_or hS.h.mem hS.h.base hF
  have ow : ∀ (u : Value) (e : TypeId) (k : LK) (l : List k.T), OwnSl (M.or F) w.heap.size w' u e k l → OwnSl (M.or F) B w' u e k l ∧ ∀ b, u.ownBlock = some b → w.heap.size ≤ b := by
    intro u e k l ho
    rcases ho with ⟨rfl, rfl⟩ | ⟨b, cap, us, rfl, q1, q2, q3, q4, q5, q6, q7⟩
    · exact ⟨.inl ⟨rfl, rfl⟩, by simp [Value.ownBlock]⟩
    · exact ⟨.inr ⟨b, cap, us, rfl, Nat.le_trans hS.h.base q1, q2, q3, q4, q5, q6, q7⟩, fun b' hb' => by cases hb'; exact q1⟩
  obtain ⟨p1, p1'⟩ := ow _ _ _ _ o1
  obtain ⟨p2, p2'⟩ := ow _ _ _ _ o2
  have hold : ∀ m y, st.H m = some y → ∀ c, y.block = some c → c < w.heap.size := fun m y hy c hc => (HB.block_lt (hS.h.ok m y hy) hc).2.1
  have hA := hS'.add st.nx p1 (fun m y hm hy c hc hu => by have := hold m y hy c hc; have := p1' c hu; omega)
  have hA2 := hA.add (st.nx + 1) p2 (fun m y hm hy c hc hu => by
    by_cases e : m = st.nx
    · subst e; rw [updH_same] at hy; cases hy
      exact hne c hc hu
    · rw [updH_ne _ _ e] at hy
      have := hold m y hy c hc; have := p2' c hu; omega)
  refine hK _ _ (hk u1 u2 (M.or F) _ w' (SatP.put hS (S' := fun j => j < i + 1) (Nat.lt_irrefl i) (fun j hj => Nat.lt_succ_of_lt hj) hMle hA2 (hf u1) (put_defers _ _) (fun e' he => ?_) (by simp)))
  cases he
  refine .g ⟨rfl, fun j c u a1 a2 => ?_⟩
  match j, a1, a2 with
  | 0, a1, a2 => cases a1; cases a2; exact .own (OwnSl.one o1)
end
end Go.Mt
namespace Go.Mt
open Go.RowKit
section
variable {P : Program} {E : Env} {B : Nat} {W : World} {M0 : Mem} {Q : Exit → Act → World → Prop} {k : List Itm} {st : St}
/-- A name for nothing. -/
theorem G_newnil (ty : TypeId) (lk : LK) (hk : G P E B W M0 Q k ⟨st.f, updH st.H st.nx (some (.own (.slice none 0 0) ty lk [])), st.nx + 1⟩) : G P E B W M0 Q k st := by
  intro M a w hS
  exact hk M a w ⟨hS.h.newOwn (row := none) (grownBy_refl w none) (by simp) (OwnSl.nil _ _ _ _ _) (by simp [Value.ownBlock]) st.nx (fun m x hm hx => ⟨hx, by simp⟩), hS.old, hS.d, hS.n, hS.f, hS.g⟩
end
end Go.Mt
namespace Go.Mt
open Go.RowKit
section
variable {P : Program} {E : Env} {B : Nat} {W : World} {M0 : Mem} {Q : Exit → Act → World → Prop} {k : List Itm} {st : St}
/-- A name let go. -/
theorem G_drop (m : Nat) (hk : G P E B W M0 Q k ⟨st.f, updH st.H m none, st.nx⟩) : G P E B W M0 Q k st := by
  intro M a w hS
  exact hk M a w ⟨hS.h.less (fun n x h => by
    have h' : updH st.H m none n = some x := h
    by_cases e : n = m
    · subst e; rw [updH_same] at h'; cases h'
    · rwa [updH_ne _ _ e] at h'), hS.old, hS.d, hS.n, hS.f, hS.g⟩
end
end Go.Mt
