/-
  Mt, part I: append, make, a slice's literal, stores: on memory of one's own.
-/
import Derived.Test.YtnmomckmpknbkaaMtH
import Derived.Deep.AppendSrc
set_option linter.unusedSimpArgs false
set_option linter.unusedVariables false
namespace Go.Mt
open Go.RowKit
section
variable {P : Program} {T : Tb} {w w' : World} {M F : Mem} {B : Nat} {W : World} {H H' : Nat → Option HB}

/-- Cells that stand for a list. -/
def Lies (M : Mem) (k : LK) (l : List k.T) (us : List Value) : Prop :=
  us.length = l.length * k.sz ∧ ∀ i x j y, l[i]? = some x → (k.enc x)[j]? = some y → ∃ u, us[i * k.sz + j]? = some u ∧ R M y u

theorem enc_lt {k : LK} {x : k.T} {j : Nat} {y : PV} (h : (k.enc x)[j]? = some y) : j < k.sz := by
  have := (List.getElem?_eq_some_iff.1 h).1
  rwa [LK.enc_len] at this

theorem Lies.one {k : LK} {l : List k.T} {us : List Value} (h : Lies M k l us) : ∀ u ∈ us, u.oneCell' = true := by
  intro u hu
  obtain ⟨n, hn, rfl⟩ := List.getElem_of_mem hu
  have hsz := LK.sz_pos k
  have hn' : n < l.length * k.sz := by rw [← h.1]; exact hn
  have hi : n / k.sz < l.length := Nat.div_lt_of_lt_mul (by rw [Nat.mul_comm]; exact hn')
  have hj : n % k.sz < (k.enc l[n / k.sz]).length := by rw [LK.enc_len]; exact Nat.mod_lt _ hsz
  obtain ⟨u, h1, h2⟩ := h.2 (n / k.sz) _ (n % k.sz) _ (List.getElem?_eq_getElem hi) (List.getElem?_eq_getElem hj)
  rw [Nat.div_add_mod'] at h1
  rw [List.getElem?_eq_getElem hn] at h1
  cases h1; exact h2.one

theorem Lies.append {k : LK} {l m : List k.T} {us vs : List Value} (h : Lies M k l us) (h' : Lies M k m vs) : Lies M k (l ++ m) (us ++ vs) := by
  refine ⟨by rw [List.length_append, List.length_append, h.1, h'.1, Nat.add_mul], fun i x j y e1 e2 => ?_⟩
  have hj := enc_lt e2
  by_cases hi : i < l.length
  · rw [List.getElem?_append_left hi] at e1
    obtain ⟨u, h1, h2⟩ := h.2 i x j y e1 e2
    refine ⟨u, ?_, h2⟩
    rw [List.getElem?_append_left]
    · exact h1
    · exact (List.getElem?_eq_some_iff.1 h1).1
  · rw [List.getElem?_append_right (by omega)] at e1
    obtain ⟨u, h1, h2⟩ := h'.2 _ x j y e1 e2
    refine ⟨u, ?_, h2⟩
    have hle : l.length * k.sz ≤ i * k.sz := Nat.mul_le_mul_right _ (by omega)
    rw [List.getElem?_append_right (by rw [h.1]; omega), h.1, ← h1]
    congr 1
    rw [Nat.sub_mul]; omega

theorem Lies.mono {k : LK} {l : List k.T} {us : List Value} (h : Lies M k l us) (hM : M.le F) : Lies F k l us :=
  ⟨h.1, fun i x j y e1 e2 => let ⟨u, a, b⟩ := h.2 i x j y e1 e2; ⟨u, a, b.mono hM⟩⟩

theorem OwnSl.nil (M : Mem) (B : Nat) (w : World) (ty : TypeId) (k : LK) : OwnSl M B w (.slice none 0 0) ty k [] := .inl ⟨rfl, rfl⟩

theorem OwnSl.mk {k : LK} {l : List k.T} {b cap : Nat} {us : Array Value} {ty : TypeId} (hB : B ≤ b) (hM : M b = none) (hb : w.heap[b]? = some (.cells us ty (0, 0))) (h1 : l.length ≤ cap) (h2 : cap ≤ maxLen) (h3 : us.size = cap * k.sz)
    (h : Lies M k l (us.toList.take (l.length * k.sz))) : OwnSl M B w (.slice (some ⟨b, 0, none⟩) l.length cap) ty k l := by
  refine .inr ⟨b, cap, us, rfl, hB, hM, hb, h1, h2, h3, fun i x j y e1 e2 => ?_⟩
  obtain ⟨u, hu, hr⟩ := h.2 i x j y e1 e2
  refine ⟨u, ?_, hr⟩
  rw [List.getElem?_take] at hu
  split at hu
  · simpa using hu
  · cases hu

theorem OwnSl.lies {k : LK} {l : List k.T} {b cap : Nat} {us : Array Value} (h1 : l.length ≤ cap) (h3 : us.size = cap * k.sz)
    (h7 : ∀ i x j y, l[i]? = some x → (k.enc x)[j]? = some y → ∃ u, us[i * k.sz + j]? = some u ∧ R M y u) : Lies M k l (us.toList.take (l.length * k.sz)) := by
  have hle : l.length * k.sz ≤ us.size := by rw [h3]; exact Nat.mul_le_mul_right _ h1
  refine ⟨by simp; omega, fun i x j y e1 e2 => ?_⟩
  obtain ⟨u, hu, hr⟩ := h7 i x j y e1 e2
  refine ⟨u, ?_, hr⟩
  have hi := (List.getElem?_eq_some_iff.1 e1).1
  have hj := enc_lt e2
  have : i * k.sz + j < l.length * k.sz := by
    have : (i + 1) * k.sz ≤ l.length * k.sz := Nat.mul_le_mul_right _ hi
    rw [Nat.add_mul] at this; omega
  rw [List.getElem?_take, if_pos this]
  simpa using hu

/-- An append of zero bytes: its second argument is a count. -/
structure SrcZ (P : Program) (tx : TypeId) (x : Value) (n : Nat) (news : List Value) (z : Value) : Prop where
  und : ∃ kd, P.underlying tx = some (.int kd)
  val : ∃ ki, x = .int ki n
  le : n ≤ 1099511627776
  news : news = List.replicate n (.int .u8 0)
  zc : z.cells = #[.int .u8 0]

theorem wrapZ {n : Nat} (h : n ≤ 1099511627776) : IntKind.i64.wrap (n : Int) = n := by
  simp [IntKind.wrap, IntKind.bits, IntKind.signed]; omega
theorem zcZ {z : Value} (h : z.cells = #[.int .u8 0]) (n : Nat) : Builtin.zeroCells z.cells n = (List.replicate n (Value.int .u8 0)).toArray := by
  rw [h]
  apply Array.ext
  · simp [Builtin.zeroCells]
  · intro i h1 h2
    have : i % 1 = 0 := Nat.mod_one i
    simp [Builtin.zeroCells, this]
theorem runZ_nil {t tx ty e : TypeId} {i : TypeInfo} {z x : Value} {news : List Value} (ht : P.underlying t = some (.slice e)) (hi : P.info? e = some i) (hz : i.zero = some z) (h : SrcZ P tx x 0 news z) :
    (Builtin.append_ #[t, tx] ty #[.slice none 0 0, x]).run P w = .ok (.slice none 0 0) w := by
  obtain ⟨kd, hk⟩ := h.und
  obtain ⟨ki, rfl⟩ := h.val
  have hw := wrapZ (n := 0) (by omega)
  simp [Builtin.append_, run_underlying ht, run_underlying hk, Go.sizeOf, typeInfo, hi, asInt, asIntOf] 
  simp [IntKind.wrap, IntKind.bits, IntKind.signed]
theorem runZ_room {t tx ty e : TypeId} {i : TypeInfo} {z x : Value} {n : Nat} {news : List Value} (ht : P.underlying t = some (.slice e)) (hi : P.info? e = some i) (hz : i.zero = some z) (hsz : i.size = 1) (hby : i.bytes ≤ 64) (h : SrcZ P tx x n news z)
    {b sLen sCap : Nat} (hroom : sLen + n ≤ sCap) (hst : (storeCells ⟨b, sLen * 1, none⟩ news).run P w = .ok () w') :
    (Builtin.append_ #[t, tx] ty #[.slice (some ⟨b, 0, none⟩) sLen sCap, x]).run P w = .ok (.slice (some ⟨b, 0, none⟩) (sLen + n) sCap) w' := by
  obtain ⟨kd, hk⟩ := h.und
  obtain ⟨ki, rfl⟩ := h.val
  have hw := wrapZ h.le
  have hle := h.le
  have h0 : ¬ ((n : Int) < 0) := by omega
  have h48 : ¬ ((281474976710656 : Int) < n * i.bytes) := by
    have : (n : Int) * i.bytes ≤ 1099511627776 * 64 := Int.mul_le_mul (by omega) (by omega) (by omega) (by omega)
    omega
  have hnews := h.news
  by_cases hn0 : n = 0
  · subst hn0
    simp at hnews; subst hnews
    simp [Builtin.append_, run_underlying ht, run_underlying hk, Go.sizeOf, typeInfo, hi, hz, asInt, asIntOf, hw, h0, h48, hroom, hsz, Addr.add_lit, IntKind.wrap_i64]
    simp at hst hroom; simp [hroom, hst]
  · have hnz : ¬ (n * 1 = 0) := by omega
    subst hnews
    simp [Builtin.append_, run_underlying ht, run_underlying hk, Go.sizeOf, typeInfo, zeroValue, hi, hz, asInt, asIntOf, hw, h0, h48, hroom, hsz, hn0, zcZ h.zc, Addr.add_lit]
    simp at hst; simp [hst]
theorem runZ_grow {t tx ty e : TypeId} {i : TypeInfo} {z x : Value} {n : Nat} {news : List Value} (ht : P.underlying t = some (.slice e)) (hi : P.info? e = some i) (hz : i.zero = some z) (hsz : i.size = 1) (hby : i.bytes ≤ 64) (h : SrcZ P tx x n news z)
    (base : Option Addr) (sLen sCap : Nat) (olds : List Value)
    (hold : (Builtin.firstCells i.size sLen (.slice base sLen sCap)).run P w.drew = .ok olds.toArray w.drew)
    (hg : sCap < sLen + n) (h63 : ((sLen + n : Nat) : Int) ≤ 9223372036854775807) (hfit : Builtin.nextslicecap (sLen + n) sCap * i.bytes ≤ 281474976710656) :
    (Builtin.append_ #[t, tx] ty #[.slice base sLen sCap, x]).run P w =
      .ok (.slice (some ⟨w.heap.size, 0, none⟩) (sLen + n) (grownCap w (sLen + n) sCap e))
        (w.drew.alloc (.cells ((olds ++ news).toArray ++ Builtin.zeroCells z.cells (grownCap w (sLen + n) sCap e - (sLen + n))) e)) := by
  obtain ⟨kd, hk⟩ := h.und
  obtain ⟨ki, rfl⟩ := h.val
  have hw := wrapZ h.le
  have hle := h.le
  have h0 : ¬ ((n : Int) < 0) := by omega
  have h48 : ¬ ((281474976710656 : Int) < n * i.bytes) := by
    have : (n : Int) * i.bytes ≤ 1099511627776 * 64 := Int.mul_le_mul (by omega) (by omega) (by omega) (by omega)
    omega
  have hnews := h.news
  have hn : ¬ (sLen + n ≤ sCap) := by omega
  have h63' : ¬ (9223372036854775807 < ((sLen : Int) + (n : Int))) := by omega
  have h48' : ¬ (281474976710656 < Builtin.nextslicecap (sLen + n) sCap * i.bytes) := by omega
  rw [hsz] at hold
  by_cases hn0 : n = 0
  · subst hn0
    simp at hnews; subst hnews
    simp [Builtin.append_, run_underlying ht, run_underlying hk, Go.sizeOf, typeInfo, zeroValue, hi, hz, asInt, asIntOf, hw, h0, h48, hn, h63', h48', hsz, Question.forced, hold, newRow, grownCap, IntKind.wrap_i64]
    have q1 : ¬ (9223372036854775807 < (sLen : Int)) := by omega
    have q2 : ¬ (sLen ≤ sCap) := by omega
    have q3 : ¬ (281474976710656 < Builtin.nextslicecap sLen sCap * i.bytes) := by simpa using h48'
    simp [q1, q2, q3, hold]
  · subst hnews
    simp [Builtin.append_, run_underlying ht, run_underlying hk, Go.sizeOf, typeInfo, zeroValue, hi, hz, asInt, asIntOf, hw, h0, h48, hn, h63', h48', hsz, Question.forced, hold, newRow, grownCap, hn0]
    congr 2
    apply Array.ext'
    simp [zcZ h.zc]
/-- What an append's second argument brings: cells of a list, or zero bytes. -/
def Src2 (P : Program) (sz : Nat) (tx : TypeId) (x : Value) (n : Nat) (news : List Value) (w : World) (z : Value) : Prop := Src P sz tx x n news w ∨ SrcZ P tx x n news z

theorem own_append (hb : B ≤ w.heap.size) (hm : M.on w) {v : Value} {ty : TypeId} {k : LK} {l : List k.T} (ho : OwnSl M B w v ty k l) {t tx tr : TypeId} {inf : TypeInfo} {z : Value} (ht : P.underlying t = some (.slice ty)) (hi : P.info? ty = some inf) (hz : inf.zero = some z)
    (hsz : inf.size = k.sz) (hzs : z.cells.size = k.sz) (hby : inf.bytes ≤ 64) {x : Value} {ys : List k.T} {news : List Value} (hs : Src2 P k.sz tx x ys.length news w z) (hl : Lies M k ys news) (hle : l.length + ys.length ≤ 1099511627776) :
    ∃ v' w', (Builtin.append_ #[t, tx] tr #[v, x]).run P w = .ok v' w' ∧ w.grownBy w' v.ownBlock ∧ OwnSl M B w' v' ty k (l ++ ys) ∧ ∀ b, v'.ownBlock = some b → w.heap.size ≤ b ∨ v.ownBlock = some b := by
  have hs2 : Src2 P inf.size tx x ys.length news w z := by rw [hsz]; exact hs
  have hz1 : SrcZ P tx x ys.length news z → inf.size = 1 := fun h => by rw [hsz, ← hzs, h.zc]; rfl
  have h48 : ∀ c, c < l.length + ys.length → Builtin.nextslicecap (l.length + ys.length) c * inf.bytes ≤ 281474976710656 := by
    intro c hc
    refine growslice_fits hc ?_
    calc (l.length + ys.length) * inf.bytes ≤ 1099511627776 * 64 := Nat.mul_le_mul hle hby
      _ ≤ _ := by decide
  have grown : ∀ (old : Nat) (row : Option Nat) (olds : List Value), Lies M k l olds →
      OwnSl M B (w.drew.alloc (.cells ((olds ++ news).toArray ++ Builtin.zeroCells z.cells (grownCap w (l.length + ys.length) old ty - (l.length + ys.length))) ty)) (.slice (some ⟨w.heap.size, 0, none⟩) (l.length + ys.length) (grownCap w (l.length + ys.length) old ty)) ty k (l ++ ys) ∧
      w.grownBy (w.drew.alloc (.cells ((olds ++ news).toArray ++ Builtin.zeroCells z.cells (grownCap w (l.length + ys.length) old ty - (l.length + ys.length))) ty)) row := by
    intro old row olds hold
    have hge := grownCap_ge w (l.length + ys.length) old ty
    have hcm : grownCap w (l.length + ys.length) old ty ≤ maxLen := grownCap_le_maxLen w _ old ty (by simp only [maxLen]; omega)
    have hL := hold.append hl
    rw [show l.length + ys.length = (l ++ ys).length from by simp] at *
    refine ⟨OwnSl.mk hb (Mem.none_of_size hm (Nat.le_refl _)) (heap_alloc_new w.drew _) hge hcm ?_ ?_, ⟨rfl, rfl, rfl, by simp, fun kk hk _ => heap_alloc_old w.drew _ hk⟩⟩
    · rw [Array.size_append, List.size_toArray, hL.1, size_zeroCells, hzs, ← Nat.add_mul]
      congr 1; omega
    · rw [Array.toList_append]
      rw [List.take_append_of_le_length (by simp only [List.toList_toArray]; rw [hL.1]; exact Nat.le_refl _)]
      rw [List.take_of_length_le (by simp only [List.toList_toArray]; rw [hL.1]; exact Nat.le_refl _)]
      exact hL
  rcases ho with ⟨rfl, rfl⟩ | ⟨b, cap, us, rfl, h1, h2, h3, h4, h5, h6, h7⟩
  · by_cases hn : ys.length = 0
    · have : ys = [] := List.eq_nil_of_length_eq_zero hn
      subst this
      have hnews : news = [] := List.eq_nil_of_length_eq_zero (by simpa using hl.1)
      subst hnews
      refine ⟨.slice none 0 0, w, ?_, grownBy_refl _ _, OwnSl.nil _ _ _ _ _, by simp [Value.ownBlock]⟩
      rcases hs2 with hs' | hs'
      case inr => exact runZ_nil ht hi hz hs'
      have hc : (Builtin.firstCells inf.size 0 x).run P w = .ok #[] w := by simpa using hs'.cells
      have hll : ∀ w', (Builtin.lenOf x).run P w' = .ok 0 w' := by simpa using hs'.len
      rcases hs'.kind with ⟨e', hk⟩ | hk <;> simp [Builtin.append_, run_underlying ht, run_underlying hk, Go.sizeOf, typeInfo, hi, hll, hc]
    · have hr : (Builtin.append_ #[t, tx] tr #[.slice none 0 0, x]).run P w = .ok (.slice (some ⟨w.heap.size, 0, none⟩) (0 + ys.length) (grownCap w (0 + ys.length) 0 ty))
          (w.drew.alloc (.cells (([] ++ news).toArray ++ Builtin.zeroCells z.cells (grownCap w (0 + ys.length) 0 ty - (0 + ys.length))) ty)) := by
        rcases hs2 with hs' | hs'
        · exact run_append_grow_src (P := P) w t tx tr ty inf z ht hi hz none 0 0 [] (by simp [Builtin.firstCells]) x ys.length news hs' (by omega) (by simp at hle ⊢; omega) (by have := h48 0 (by simp; omega); simpa using this)
        · exact runZ_grow ht hi hz (hz1 hs') hby hs' none 0 0 [] (by simp [Builtin.firstCells]) (by omega) (by simp at hle ⊢; omega) (by have := h48 0 (by simp; omega); simpa using this)
      obtain ⟨g1, g2⟩ := grown 0 (Value.ownBlock (.slice none 0 0)) [] ⟨by simp, by simp⟩
      simp only [List.length_nil, Nat.zero_add, List.nil_append] at g1 g2 hr
      exact ⟨_, _, hr, g2, g1, fun b hb' => .inl (by simp [Value.ownBlock] at hb'; omega)⟩
  · by_cases hroom : l.length + ys.length ≤ cap
    · have hfit : l.length * k.sz + news.length ≤ us.size := by rw [hl.1, h6, ← Nat.add_mul]; exact Nat.mul_le_mul_right _ hroom
      have hst : (storeCells ⟨b, l.length * k.sz, none⟩ news).run P w = .ok () (w.setRow b (us.toList.take (l.length * k.sz) ++ news ++ us.toList.drop (l.length * k.sz + news.length)).toArray) := by
        have := run_storeCells_at P b (l.length * k.sz) ty news 0 us w h3 (by simpa using hfit) hl.one
        simpa using this
      have hr : (Builtin.append_ #[t, tx] tr #[.slice (some ⟨b, 0, none⟩) l.length cap, x]).run P w = .ok (.slice (some ⟨b, 0, none⟩) (l.length + ys.length) cap) (w.setRow b (us.toList.take (l.length * k.sz) ++ news ++ us.toList.drop (l.length * k.sz + news.length)).toArray) := by
        rcases hs with hs | hs
        · rcases hs.kind with ⟨e', hk⟩ | hk <;> simp [Builtin.append_, run_underlying ht, run_underlying hk, Go.sizeOf, typeInfo, hi, hs.len, hroom, hs.cells, Addr.add_lit, hsz, hst]
        · have h1 := hz1 hs
          have h2 : k.sz = 1 := by rw [← hsz]; exact h1
          exact runZ_room ht hi hz h1 hby hs hroom (by rw [h2] at hst; rw [h2]; exact hst)
      have hold := OwnSl.lies h4 h6 h7 (b := b)
      have hL := hold.append hl
      refine ⟨_, _, hr, grownBy_setRow _ _ _, ?_, fun b' hb' => .inr hb'⟩
      have hlen : l.length + ys.length = (l ++ ys).length := by simp
      rw [hlen]
      refine OwnSl.mk h1 h2 (setRow_heap w b us _ ty _ h3) (by rw [← hlen]; exact hroom) h5 ?_ ?_
      · simp only [List.size_toArray, List.length_append, List.length_take, List.length_drop, Array.length_toList]
        omega
      · rw [List.toList_toArray, List.take_append_of_le_length (by rw [hL.1]; exact Nat.le_refl _), List.take_of_length_le (by rw [hL.1]; exact Nat.le_refl _)]
        exact hL
    · have hold := OwnSl.lies h4 h6 h7 (b := b)
      have hfc : (Builtin.firstCells inf.size l.length (.slice (some ⟨b, 0, none⟩) l.length cap)).run P w.drew = .ok (us.toList.take (l.length * k.sz)).toArray w.drew := by
        have hc := run_firstCells_some (P := P) w.drew k.sz l.length ⟨b, 0, none⟩ l.length cap (us.toList.take (l.length * k.sz)) hold.1 (fun j u hu => by
          rw [List.getElem?_take] at hu
          split at hu
          · rw [Addr.add_lit]
            exact (cell_of_row w.drew b (0 + j) us ty (0, 0) h3).trans (by simpa using hu)
          · cases hu)
        rw [hsz]; exact hc
      have hr : (Builtin.append_ #[t, tx] tr #[.slice (some ⟨b, 0, none⟩) l.length cap, x]).run P w = .ok (.slice (some ⟨w.heap.size, 0, none⟩) (l.length + ys.length) (grownCap w (l.length + ys.length) cap ty))
          (w.drew.alloc (.cells ((us.toList.take (l.length * k.sz) ++ news).toArray ++ Builtin.zeroCells z.cells (grownCap w (l.length + ys.length) cap ty - (l.length + ys.length))) ty)) := by
        rcases hs2 with hs' | hs'
        · exact run_append_grow_src (P := P) w t tx tr ty inf z ht hi hz (some ⟨b, 0, none⟩) l.length cap (us.toList.take (l.length * k.sz)) hfc x ys.length news hs' (by omega) (by omega) (h48 cap (by omega))
        · exact runZ_grow ht hi hz (hz1 hs') hby hs' (some ⟨b, 0, none⟩) l.length cap (us.toList.take (l.length * k.sz)) hfc (by omega) (by omega) (h48 cap (by omega))
      obtain ⟨g1, g2⟩ := grown cap (Value.ownBlock (.slice (some ⟨b, 0, none⟩) l.length cap)) _ hold
      exact ⟨_, _, hr, g2, g1, fun b' hb' => .inl (by simp [Value.ownBlock] at hb'; omega)⟩
end
end Go.Mt
