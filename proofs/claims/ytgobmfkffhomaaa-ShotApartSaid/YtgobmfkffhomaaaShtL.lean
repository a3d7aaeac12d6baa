import Derived.Test.YtgobmfkffhomaaaShtK
import Derived.Test.YtgobmfkffhomaaaMtQ4
set_option linter.unusedSimpArgs false
set_option linter.unusedVariables false
set_option maxHeartbeats 1600000
namespace Go.Proofs.Ytgobmfkffhomaaa
open Go.Mt

theorem shGn_all {l : List Shot} : ∀ n, shGn l n = false → ∀ i, i < n → shG (l.getD i LK.sht.dft) = false
  | 0, _, i, hi => by omega
  | n + 1, h, i, hi => by
    simp only [shGn, Bool.or_eq_false_iff] at h
    by_cases e : i = n
    · rw [e]; exact h.2
    · exact shGn_all n h.1 i (by omega)
theorem mpGn_all {l : List Bitmap} : ∀ n, mpGn l n = false → ∀ i, i < n → mpG (l.getD i LK.bms.dft) = false
  | 0, _, i, hi => by omega
  | n + 1, h, i, hi => by
    simp only [mpGn, Bool.or_eq_false_iff] at h
    by_cases e : i = n
    · rw [e]; exact h.2
    · exact mpGn_all n h.1 i (by omega)
theorem great_ok {t : List (List Entry)} (h : Tt.greatB t = false) : TlOk t := by
  have := Tt.great_len h
  exact ⟨by omega, fun i => by have := this.2 i; omega⟩
theorem getD_of_mem {α : Type} {l : List α} {x : α} (d : α) (h : x ∈ l) : ∃ i, i < l.length ∧ l.getD i d = x := by
  obtain ⟨i, hi, e⟩ := List.mem_iff_getElem.mp h
  exact ⟨i, hi, by simp [List.getD, List.getElem?_eq_getElem hi, e]⟩
theorem getD_ge {α : Type} {l : List α} {i : Nat} (d : α) (h : ¬ i < l.length) : l.getD i d = d := by
  simp [List.getD, List.getElem?_eq_none (by omega : l.length ≤ i)]
theorem gtM_sm {m : Mta} (h : gtM m = false) : MtaSm m := by
  simp only [gtM, hdG, Bool.or_eq_false_iff, decide_eq_false_iff_not] at h
  obtain ⟨⟨⟨⟨⟨h1, h2⟩, h3⟩, h4⟩, h5⟩, h6, h7⟩ := h
  have hs := shGn_all _ h6
  have hm := mpGn_all _ h7
  refine ⟨great_ok h1, ⟨by omega, fun b hb => ?_⟩, ⟨by omega, fun b hb => ?_⟩, by omega, by omega, fun i => ?_, fun i => ?_⟩
  · obtain ⟨i, hi, rfl⟩ := getD_of_mem LK.sht.dft hb
    have := hs i hi
    simp only [shG, Bool.or_eq_false_iff] at this
    exact great_ok this.1
  · obtain ⟨i, hi, rfl⟩ := getD_of_mem LK.bms.dft hb
    have := hm i hi
    simp only [mpG, Bool.or_eq_false_iff, decide_eq_false_iff_not] at this
    omega
  · by_cases hi : i < m.sh.length
    · have := hs i hi
      simp only [shG, Bool.or_eq_false_iff, decide_eq_false_iff_not] at this
      omega
    · rw [getD_ge _ hi]; simp [LK.dft]
  · by_cases hi : i < m.mp.length
    · have := hm i hi
      simp only [mpG, Bool.or_eq_false_iff, decide_eq_false_iff_not] at this
      omega
    · rw [getD_ge _ hi]; simp [LK.dft]
theorem MtaSm.ok {m : Mta} (h : MtaSm m) : MtaOk m := ⟨h.t, h.sh, h.mp, h.ct⟩
theorem shRn_all {m : Mta} : ∀ n, shRn m n = true → ∀ i, i < n → shR m i = true
  | 0, _, i, hi => by omega
  | n + 1, h, i, hi => by
    simp only [shRn, Bool.and_eq_true] at h
    by_cases e : i = n
    · rw [e]; exact h.2
    · exact shRn_all n h.1 i (by omega)
/-- Each name once. -/
def Uq (l : List Shot) : Prop := ∀ i, i < l.length → spl l (l.getD i LK.sht.dft).name = i
theorem rtM_uq {m : Mta} (h : rtM m = true) : Uq m.sh := by
  simp only [rtM, Bool.and_eq_true] at h
  intro i hi
  have := shRn_all _ h.2.1 i hi
  simp only [shR, Bool.and_eq_true, decide_eq_true_eq] at this
  exact this.1.1.2
theorem rtM_hd {m : Mta} (h : rtM m = true) : hdR m = false := by
  simp only [rtM, Bool.and_eq_true, Bool.not_eq_true'] at h
  exact h.1.1
theorem Uq.ne {l : List Shot} (h : Uq l) {i j : Nat} (hi : i < l.length) (hj : j < l.length) (e : (l.getD i LK.sht.dft).name = (l.getD j LK.sht.dft).name) : i = j := by
  have h1 := h i hi
  have h2 := h j hj
  rw [e] at h1; omega
theorem ixP_none {α : Type} {p : α → Bool} {d : α} {l : List α} : ∀ n, (∀ i, i < n → p (l.getD i d) = false) → ixP p d l n = -1
  | 0, _ => rfl
  | n + 1, h => by simp only [ixP, ixP_none n (fun i hi => h i (by omega)), h n (by omega)]; rfl
theorem cut_get {α : Type} (l : List α) (d : α) {k i : Nat} (hk : k < l.length) : (l.take k ++ l.drop (k + 1)).getD i d = l.getD (if i < k then i else i + 1) d := by
  simp only [List.getD]
  congr 1
  by_cases h : i < k
  · rw [if_pos h, List.getElem?_append_left (by simp; omega), List.getElem?_take_of_lt h]
  · rw [if_neg h, List.getElem?_append_right (by simp; omega), List.getElem?_drop]
    congr 1
    simp; omega
theorem cut_len {α : Type} (l : List α) {k : Nat} (hk : k < l.length) : (l.take k ++ l.drop (k + 1)).length = l.length - 1 := by
  simp; omega
theorem spl_cut {l : List Shot} (h : Uq l) {k : Nat} (hk : k < l.length) : spl (l.take k ++ l.drop (k + 1)) (l.getD k LK.sht.dft).name = -1 := by
  refine ixP_none _ (fun i hi => ?_)
  rw [cut_len l hk] at hi
  rw [cut_get l _ hk]
  simp only [isS, decide_eq_false_iff_not]
  intro e
  have := h.ne (by split <;> omega) hk e
  split at this <;> omega

theorem MtaIn.of {x : Go.Mt.MetaV} (h : Go.Mt.MetaIn x) : MtaIn ⟨x.cl, x.sz, x.bk, x.t, x.sh, x.mp, x.ct⟩ := by
  have hm : maxLen ≤ 9223372036854775807 := by decide
  have hs : ∀ i, (x.sh.getD i LK.sht.dft).t.length ≤ maxLen ∧ (x.sh.getD i LK.sht.dft).name.length ≤ maxLen := fun i => by
    by_cases hi : i < x.sh.length
    · have := h.sh.2 _ (mem_getD (d := LK.sht.dft) hi)
      exact ⟨this.2.2.1, this.1⟩
    · rw [getD_ge _ hi]; simp [LK.dft]
  have hb : ∀ i, (x.mp.getD i LK.bms.dft).l.length ≤ maxLen ∧ (x.mp.getD i LK.bms.dft).name.length ≤ maxLen := fun i => by
    by_cases hi : i < x.mp.length
    · have := h.mp.2 _ (mem_getD (d := LK.bms.dft) hi)
      exact ⟨this.2.1, this.1⟩
    · rw [getD_ge _ hi]; simp [LK.dft]
  exact ⟨Nat.le_trans h.t.1 hm, Nat.le_trans h.sh.1 hm, Nat.le_trans h.mp.1 hm, Nat.le_trans h.ct.1 hm, Nat.le_trans h.bk hm, fun i => Nat.le_trans (hs i).1 hm, fun i => Nat.le_trans (hs i).2 hm, fun i => Nat.le_trans (hb i).1 hm, fun i => Nat.le_trans (hb i).2 hm⟩

def env_sdrops : Env := ⟨T, psi_mright, pspNil, psc_del, 122, [], none, true⟩
theorem eok_sdrops : PsiOk Try.prog env_sdrops := ⟨psi_mright_ok, pspNil_ok, psc_del_ok⟩
theorem sdrops_fn (m0 : Int) (m1 : Int) (m2 : List UInt8) (m3 : List (List Entry)) (m4 : List Shot) (m5 : List Bitmap) (m6 : List Int) (n : Int) (hI : MtaIn ⟨m0, m1, m2, m3, m4, m5, m6⟩) (hn : 0 ≤ n ∧ n ≤ 255) : Ctr Try.prog 5 false [.g [.pv (.val (.int .i64 m0)), .pv (.val (.int .i64 m1)), .pv (.val (.string ⟨⟨m2⟩⟩)), .pv (.lst .tbl m3), .pv (.lst .sht m4), .pv (.lst .bms m5), .pv (.lst (.ints .i64) m6)], int .u8 n] (.x (.c (bv true))) := by
  refine Ctr_intro (E := env_sdrops) Try.func5 rfl (by decide) rfl rfl (fun M0 W hM0 => ?_)
  have hI' := hI
  obtain ⟨it, iS, iM, iC, ib, ist, isn, ibl, ibn⟩ := hI'
  simp only at it iS iM iC ib ist isn ibl ibn
  refine G_run tOk eok_sdrops 3 (fun _ => none) (fun bs => rfl) (fun bs => ?_) (fun bs => ?_)
  · (repeat' apply And.intro) <;> (intros; first | exact trivial | exact rfl | omega | exact u8_lo _ | exact u8_hi _ | exact u8_in64 _ | exact u8_in63 _ | (simp only [inR, IntKind.bits]; omega) | (simp [inR, IntKind.bits]; done) | (simp [inR, IntKind.bits] at * <;> omega) | (simp_all; done) | (with_reducible assumption) | skip)
  cases hg : gtM ⟨m0, m1, m2, m3, m4, m5, m6⟩ with
  | true =>
    refine G_run tOk eok_sdrops 60 (fun _ => some true) (fun bs => rfl) (fun bs => ?_) (fun bs => ?_)
    · (repeat' apply And.intro) <;> (intros; first | exact trivial | exact rfl | omega | exact u8_lo _ | exact u8_hi _ | exact u8_in64 _ | exact u8_in63 _ | (simp only [inR, IntKind.bits]; omega) | (simp [inR, IntKind.bits]; done) | (simp [inR, IntKind.bits] at * <;> omega) | (simp_all; done) | (with_reducible assumption) | skip)
      all_goals first | (simp [hg]; done) | skip
    refine G_thn rfl rfl rfl ?_
    refine G_run tOk eok_sdrops 60 (fun _ => none) (fun bs => rfl) (fun bs => ?_) (fun bs => ?_)
    · (repeat' apply And.intro) <;> (intros; first | exact trivial | exact rfl | omega | exact u8_lo _ | exact u8_hi _ | exact u8_in64 _ | exact u8_in63 _ | (simp only [inR, IntKind.bits]; omega) | (simp [inR, IntKind.bits]; done) | (simp [inR, IntKind.bits] at * <;> omega) | (simp_all; done) | (with_reducible assumption) | skip)
    exact G_ret tOk hM0 rfl rfl ⟨trivial, trivial⟩ rfl
  | false =>
  have hsm := gtM_sm hg
  have hok := hsm.ok
  cases hr : rtM ⟨m0, m1, m2, m3, m4, m5, m6⟩ with
  | false =>
    refine G_run tOk eok_sdrops 60 (fun j => match j with | 2 => some false | _ => some true) (fun bs => rfl) (fun bs => ?_) (fun bs => ?_)
    · (repeat' apply And.intro) <;> (intros; first | exact trivial | exact rfl | omega | exact u8_lo _ | exact u8_hi _ | exact u8_in64 _ | exact u8_in63 _ | (simp only [inR, IntKind.bits]; omega) | (simp [inR, IntKind.bits]; done) | (simp [inR, IntKind.bits] at * <;> omega) | (simp_all; done) | (with_reducible assumption) | skip)
      all_goals first | (simp [hg, hr]; done) | skip
    refine G_thn rfl rfl rfl ?_
    refine G_run tOk eok_sdrops 60 (fun _ => none) (fun bs => rfl) (fun bs => ?_) (fun bs => ?_)
    · (repeat' apply And.intro) <;> (intros; first | exact trivial | exact rfl | omega | exact u8_lo _ | exact u8_hi _ | exact u8_in64 _ | exact u8_in63 _ | (simp only [inR, IntKind.bits]; omega) | (simp [inR, IntKind.bits]; done) | (simp [inR, IntKind.bits] at * <;> omega) | (simp_all; done) | (with_reducible assumption) | skip)
    exact G_ret tOk hM0 rfl rfl ⟨trivial, trivial⟩ rfl
  | true =>
  have huq : Uq m4 := rtM_uq hr
  have hhd := rtM_hd hr
  have hS8 : m4.length ≤ 1000 := hok.sh.len
  refine G_run tOk eok_sdrops 60 (fun j => match j with | 2 => some false | _ => none) (fun bs => rfl) (fun bs => ?_) (fun bs => ?_)
  · (repeat' apply And.intro) <;> (intros; first | exact trivial | exact rfl | omega | exact u8_lo _ | exact u8_hi _ | exact u8_in64 _ | exact u8_in63 _ | (simp only [inR, IntKind.bits]; omega) | (simp [inR, IntKind.bits]; done) | (simp [inR, IntKind.bits] at * <;> omega) | (simp_all; done) | (with_reducible assumption) | skip)
    all_goals first | (simp [hg, hr]; done) | skip
  refine G_cond (b := (gtM ⟨m0, m1, m2, m3, m4, m5, m6⟩ || !rtM ⟨m0, m1, m2, m3, m4, m5, m6⟩) || decide ((m4.length : Int) = 0)) rfl rfl (fun h => ?_) (fun h => ?_)
  · refine G_run tOk eok_sdrops 60 (fun _ => none) (fun bs => rfl) (fun bs => ?_) (fun bs => ?_)
    · (repeat' apply And.intro) <;> (intros; first | exact trivial | exact rfl | omega | exact u8_lo _ | exact u8_hi _ | exact u8_in64 _ | exact u8_in63 _ | (simp only [inR, IntKind.bits]; omega) | (simp [inR, IntKind.bits]; done) | (simp [inR, IntKind.bits] at * <;> omega) | (simp_all; done) | (with_reducible assumption) | skip)
    exact G_ret tOk hM0 rfl rfl ⟨trivial, trivial⟩ rfl
  have hl0 : 0 < m4.length := by
    simp only [hg, hr, Bool.not_true, Bool.false_or, decide_eq_false_iff_not] at h; omega
  refine G_run tOk eok_sdrops 60 (fun _ => none) (fun bs => rfl) (fun bs => ?_) (fun bs => ?_)
  · (repeat' apply And.intro) <;> (intros; first | exact trivial | exact rfl | omega | exact u8_lo _ | exact u8_hi _ | exact u8_in64 _ | exact u8_in63 _ | (simp only [inR, IntKind.bits]; omega) | (simp [inR, IntKind.bits]; done) | (simp [inR, IntKind.bits] at * <;> omega) | (simp_all; done) | (with_reducible assumption) | skip)
  obtain ⟨k, hk⟩ : ∃ k : Nat, n % (m4.length : Int) = k := ⟨(n % (m4.length : Int)).toNat, by have := Int.emod_nonneg n (show (m4.length : Int) ≠ 0 by omega); omega⟩
  have hkl : k < m4.length := by have := Int.emod_lt_of_pos n (show (0 : Int) < m4.length by omega); omega
  rw [hk]
  refine G_nx 1 rfl ?_
  refine G_draw tOk eok_sdrops rfl (fun _ => none) 13 [0, 0, 2, 0, 14, 30, 62, 127, 255, 511, 511, 0, 3071, 8191] [(12, 12)] rfl (by decide +kernel) (fun bs => rfl) (fun bs => ?_) (fun bs => ?_)
  · (repeat' apply And.intro) <;> (intros; first | exact trivial | exact rfl | omega | exact u8_lo _ | exact u8_hi _ | exact u8_in64 _ | exact u8_in63 _ | (simp only [inR, IntKind.bits]; omega) | (simp [inR, IntKind.bits]; done) | (simp [inR, IntKind.bits] at * <;> omega) | (simp_all; done) | (with_reducible assumption) | skip)
  obtain ⟨R, hRd⟩ : ∃ R, m4.take k ++ m4.drop (k + 1) = R := ⟨_, rfl⟩
  have hsp : spl m4 (m4.getD k LK.sht.dft).name = k := huq k hkl
  have hE : sdE ⟨m0, m1, m2, m3, m4, m5, m6⟩ (m4.getD (k : Int).toNat LK.sht.dft).name = 0 := by
    show sdE ⟨m0, m1, m2, m3, m4, m5, m6⟩ (m4.getD k LK.sht.dft).name = 0
    simp only [sdE, hsp, show decide ((k : Int) < 0) = false by simp]
  have hMd : sdM ⟨m0, m1, m2, m3, m4, m5, m6⟩ (m4.getD (k : Int).toNat LK.sht.dft).name = ⟨m0, m1, m2, m3, R, m5, m6⟩ := by
    show sdM ⟨m0, m1, m2, m3, m4, m5, m6⟩ (m4.getD k LK.sht.dft).name = _
    simp only [sdM, hsp, show decide ((k : Int) < 0) = false by simp]
    rw [← hRd]; rfl
  have hRl : R.length = m4.length - 1 := by rw [← hRd]; exact cut_len m4 hkl
  have hRg : ∀ i, R.getD i LK.sht.dft = m4.getD (if i < k then i else i + 1) LK.sht.dft := fun i => by rw [← hRd]; exact cut_get m4 _ hkl
  have hRn : spl R (m4.getD (k : Int).toNat LK.sht.dft).name = -1 := by rw [← hRd]; exact spl_cut huq hkl
  have hRlI : (R.length : Int) = (m4.length : Int) - 1 := by omega
  have hT9 : ∀ {t : List (List Entry)}, TlOk t → t.length ≤ 1000000000 ∧ ∀ i, (Tt.leaf t i).length ≤ 1000000000 := fun {t} h => ⟨by have := h.len; omega, fun i => by have := h.each i; omega⟩
  obtain ⟨ht9, ht9f⟩ := hT9 hok.t
  have hRok : MtaOk ⟨m0, m1, m2, m3, R, m5, m6⟩ := ⟨hok.t, ⟨by have := hok.sh.len; simp only at this ⊢; omega, fun x hx => by
    obtain ⟨q, hq, rfl⟩ := getD_of_mem LK.sht.dft hx
    rw [hRg]; exact hok.sh.get _⟩, hok.mp, hok.ct⟩
  refine G_run tOk eok_sdrops 1 (fun _ => none) (fun bs => rfl) (fun bs => ?_) (fun bs => ?_)
  · (repeat' apply And.intro) <;> (intros; first | exact trivial | exact rfl | omega | exact u8_lo _ | exact u8_hi _ | exact u8_in64 _ | exact u8_in63 _ | (simp only [inR, IntKind.bits]; omega) | (simp [inR, IntKind.bits]; done) | (simp [inR, IntKind.bits] at * <;> omega) | (simp_all; done) | (with_reducible assumption) | skip)
  rw [hE, hMd]
  refine G_run tOk eok_sdrops 60 (fun _ => some false) (fun bs => rfl) (fun bs => ?_) (fun bs => ?_)
  · (repeat' apply And.intro) <;> (intros; first | exact trivial | exact rfl | omega | exact u8_lo _ | exact u8_hi _ | exact u8_in64 _ | exact u8_in63 _ | (simp only [inR, IntKind.bits]; omega) | (simp [inR, IntKind.bits]; done) | (simp [inR, IntKind.bits] at * <;> omega) | (simp_all; done) | (with_reducible assumption) | skip)
    all_goals first | exact ht9 | exact ht9f | skip
  refine G_els rfl rfl ?hb1 ?_
  case hb1 => simp [hRlI]
  refine G_run tOk eok_sdrops 60 (fun _ => none) (fun bs => rfl) (fun bs => ?_) (fun bs => ?_)
  · (repeat' apply And.intro) <;> (intros; first | exact trivial | exact rfl | omega | exact u8_lo _ | exact u8_hi _ | exact u8_in64 _ | exact u8_in63 _ | (simp only [inR, IntKind.bits]; omega) | (simp [inR, IntKind.bits]; done) | (simp [inR, IntKind.bits] at * <;> omega) | (simp_all; done) | (with_reducible assumption) | skip)
  refine G_wkB2 (ns := [0, 12]) (fs := fun b c => [(2, .c (.ptr 0 b 0)), (5, int .i64 k), (6, .c (.ptr 1 c 0)), (8, int .i64 0)]) (hs := fun b c => [.blk b 31 [.pv (i64 m0), .pv (i64 m1), .pv (.val (.string ⟨⟨m2⟩⟩)), .pv (.lst .tbl m3), .pv (.lst .sht m4), .pv (.lst .bms m5), .pv (.lst (.ints .i64) m6)], .blk c 31 [.pv (i64 m0), .pv (i64 m1), .pv (.val (.string ⟨⟨m2⟩⟩)), .pv (.lst .tbl m3), .pv (.lst .sht R), .pv (.lst .bms m5), .pv (.lst (.ints .i64) m6)]]) ?b1 ?c1 rfl ?wk0 (fun b c => ?_)
  case wk0 => (repeat' apply And.intro) <;> (first | exact rfl | exact trivial | omega | refine sigEq ?_ | skip)
  refine G_loop (fun i : Nat => [(2, .c (.ptr 0 b 0)), (5, int .i64 k), (6, .c (.ptr 1 c 0)), (8, int .i64 i)]) (fun i => [.blk b 31 [.pv (i64 m0), .pv (i64 m1), .pv (.val (.string ⟨⟨m2⟩⟩)), .pv (.lst .tbl m3), .pv (.lst .sht m4), .pv (.lst .bms m5), .pv (.lst (.ints .i64) m6)], .blk c 31 [.pv (i64 m0), .pv (i64 m1), .pv (.val (.string ⟨⟨m2⟩⟩)), .pv (.lst .tbl m3), .pv (.lst .sht R), .pv (.lst .bms m5), .pv (.lst (.ints .i64) m6)]]) (fun i => i ≤ R.length) (fun i => R.length - i) rfl [0, 1] 0 (Nat.zero_le _) ?wk (fun i hi => ?_)
  case wk => (repeat' apply And.intro) <;> (first | exact rfl | exact trivial | omega | refine sigEq ?_ | skip)
  refine G_run tOk eok_sdrops 60 (fun _ => none) (fun bs => rfl) (fun bs => ?_) (fun bs => ?_)
  · (repeat' apply And.intro) <;> (intros; first | exact trivial | exact rfl | omega | exact u8_lo _ | exact u8_hi _ | exact u8_in64 _ | exact u8_in63 _ | (simp only [inR, IntKind.bits]; omega) | (simp [inR, IntKind.bits]; done) | (simp [inR, IntKind.bits] at * <;> omega) | (simp_all; done) | (with_reducible assumption) | skip)
  refine G_if rfl rfl (fun hk1 => ?_) (fun hk1 => ?_)
  · have hi' : i < R.length := by omega
    have hRi := hRg i
    refine G_run tOk eok_sdrops 60 (fun _ => none) (fun bs => rfl) (fun bs => ?_) (fun bs => ?_)
    · (repeat' apply And.intro) <;> (intros; first | exact trivial | exact rfl | omega | exact u8_lo _ | exact u8_hi _ | exact u8_in64 _ | exact u8_in63 _ | (simp only [inR, IntKind.bits]; omega) | (simp [inR, IntKind.bits]; done) | (simp [inR, IntKind.bits] at * <;> omega) | (simp_all; done) | (with_reducible assumption) | skip)
    refine G_if rfl rfl (fun hk2 => ?_) (fun hk2 => ?_)
    · have hik : k ≤ i := by omega
      rw [if_neg (by omega)] at hRi
      have hRi2 : R.getD (i : Int).toNat LK.sht.dft = m4.getD ((i : Int) + 1).toNat LK.sht.dft := hRi
      obtain ⟨hq1, hq2⟩ := hT9 (hok.sh.get (i + 1))
      have hq1' : (m4.getD ((i : Int) + 1).toNat LK.sht.dft).t.length ≤ 1000000000 := hq1
      have hq2' : ∀ q, (Tt.leaf (m4.getD ((i : Int) + 1).toNat LK.sht.dft).t q).length ≤ 1000000000 := hq2
      refine G_run tOk eok_sdrops 60 (fun _ => none) (fun bs => rfl) (fun bs => ?_) (fun bs => ?_)
      · (repeat' apply And.intro) <;> (intros; first | exact trivial | exact rfl | omega | exact u8_lo _ | exact u8_hi _ | exact u8_in64 _ | exact u8_in63 _ | (simp only [inR, IntKind.bits]; omega) | (simp [inR, IntKind.bits]; done) | (simp [inR, IntKind.bits] at * <;> omega) | (simp_all; done) | (with_reducible assumption) | skip)
      refine G_nx 2 rfl ?_
      refine G_draw tOk eok_sdrops rfl (fun j => match j with | 13 => some false | _ => none) 26 [0, 1, 0, 7, 15, 31, 0, 64, 0, 448, 960, 1984, 4095, 8191, 16383, 32767, 16383, 131071, 262143, 524287, 16383, 1064959, 16383, 7356415, 15745023, 32522239, 67108863, 134217727, 268435455] [] rfl (by decide +kernel) (fun bs => rfl) (fun bs => ?_) (fun bs => ?_)
      · (repeat' apply And.intro) <;> (intros; first | exact trivial | exact rfl | omega | exact u8_lo _ | exact u8_hi _ | exact u8_in64 _ | exact u8_in63 _ | (simp only [inR, IntKind.bits]; omega) | (simp [inR, IntKind.bits]; done) | (simp [inR, IntKind.bits] at * <;> omega) | (simp_all; done) | (with_reducible assumption) | skip)
      refine G_run tOk eok_sdrops 60 (fun j => match j with | 13 => some false | _ => none) (fun bs => rfl) (fun bs => by (repeat' apply And.intro) <;> (intros; first | exact trivial | exact rfl | omega | exact u8_lo _ | exact u8_hi _ | exact u8_in64 _ | exact u8_in63 _ | (simp only [inR, IntKind.bits]; omega) | (simp [inR, IntKind.bits, hRi2]; done) | (simp [inR, IntKind.bits, hRi2] at * <;> omega) | (simp_all; done) | (with_reducible assumption) | skip)) (fun bs => ?_)
      refine G_els rfl rfl ?hb2 ?_
      case hb2 => rw [hRi2]; simp
      refine G_run tOk eok_sdrops 60 (fun _ => none) (fun bs => rfl) (fun bs => ?_) (fun bs => ?_)
      · (repeat' apply And.intro) <;> (intros; first | exact trivial | exact rfl | omega | exact u8_lo _ | exact u8_hi _ | exact u8_in64 _ | exact u8_in63 _ | (simp only [inR, IntKind.bits]; omega) | (simp [inR, IntKind.bits]; done) | (simp [inR, IntKind.bits] at * <;> omega) | (simp_all; done) | (with_reducible assumption) | skip)
      refine G_lp [0, 1] (i + 1) ?ok1 ?wk1
      case ok1 => exact ⟨hi', by omega⟩
      case wk1 => (repeat' apply And.intro) <;> (first | exact rfl | exact trivial | omega | refine sigEq ?_ | skip)
    · have hik : i < k := by omega
      rw [if_pos hik] at hRi
      have hRi2 : R.getD (i : Int).toNat LK.sht.dft = m4.getD (i : Int).toNat LK.sht.dft := hRi
      obtain ⟨hq1, hq2⟩ := hT9 (hok.sh.get i)
      have hq1' : (m4.getD (i : Int).toNat LK.sht.dft).t.length ≤ 1000000000 := hq1
      have hq2' : ∀ q, (Tt.leaf (m4.getD (i : Int).toNat LK.sht.dft).t q).length ≤ 1000000000 := hq2
      refine G_run tOk eok_sdrops 60 (fun _ => none) (fun bs => rfl) (fun bs => ?_) (fun bs => ?_)
      · (repeat' apply And.intro) <;> (intros; first | exact trivial | exact rfl | omega | exact u8_lo _ | exact u8_hi _ | exact u8_in64 _ | exact u8_in63 _ | (simp only [inR, IntKind.bits]; omega) | (simp [inR, IntKind.bits]; done) | (simp [inR, IntKind.bits] at * <;> omega) | (simp_all; done) | (with_reducible assumption) | skip)
      refine G_nx 2 rfl ?_
      refine G_draw tOk eok_sdrops rfl (fun j => match j with | 13 => some false | _ => none) 26 [0, 1, 0, 7, 15, 31, 0, 64, 0, 448, 960, 1984, 4095, 8191, 16383, 32767, 16383, 131071, 262143, 524287, 16383, 1064959, 16383, 7356415, 15745023, 32522239, 67108863, 134217727, 268435455] [] rfl (by decide +kernel) (fun bs => rfl) (fun bs => ?_) (fun bs => ?_)
      · (repeat' apply And.intro) <;> (intros; first | exact trivial | exact rfl | omega | exact u8_lo _ | exact u8_hi _ | exact u8_in64 _ | exact u8_in63 _ | (simp only [inR, IntKind.bits]; omega) | (simp [inR, IntKind.bits]; done) | (simp [inR, IntKind.bits] at * <;> omega) | (simp_all; done) | (with_reducible assumption) | skip)
      refine G_run tOk eok_sdrops 60 (fun j => match j with | 13 => some false | _ => none) (fun bs => rfl) (fun bs => by (repeat' apply And.intro) <;> (intros; first | exact trivial | exact rfl | omega | exact u8_lo _ | exact u8_hi _ | exact u8_in64 _ | exact u8_in63 _ | (simp only [inR, IntKind.bits]; omega) | (simp [inR, IntKind.bits, hRi2]; done) | (simp [inR, IntKind.bits, hRi2] at * <;> omega) | (simp_all; done) | (with_reducible assumption) | skip)) (fun bs => ?_)
      refine G_els rfl rfl ?hb3 ?_
      case hb3 => rw [hRi2]; simp
      refine G_run tOk eok_sdrops 60 (fun _ => none) (fun bs => rfl) (fun bs => ?_) (fun bs => ?_)
      · (repeat' apply And.intro) <;> (intros; first | exact trivial | exact rfl | omega | exact u8_lo _ | exact u8_hi _ | exact u8_in64 _ | exact u8_in63 _ | (simp only [inR, IntKind.bits]; omega) | (simp [inR, IntKind.bits]; done) | (simp [inR, IntKind.bits] at * <;> omega) | (simp_all; done) | (with_reducible assumption) | skip)
      refine G_lp [0, 1] (i + 1) ?ok2 ?wk2
      case ok2 => exact ⟨hi', by omega⟩
      case wk2 => (repeat' apply And.intro) <;> (first | exact rfl | exact trivial | omega | refine sigEq ?_ | skip)
  · have hi' : i = R.length := by omega
    subst hi'
    have hF : sfB ⟨m0, m1, m2, m3, R, m5, m6⟩ (m4.getD (k : Int).toNat LK.sht.dft).name = false := by
      simp only [sfB, hRn]; rfl
    refine G_run tOk eok_sdrops 60 (fun _ => none) (fun bs => rfl) (fun bs => ?_) (fun bs => ?_)
    · (repeat' apply And.intro) <;> (intros; first | exact trivial | exact rfl | omega | exact u8_lo _ | exact u8_hi _ | exact u8_in64 _ | exact u8_in63 _ | (simp only [inR, IntKind.bits]; omega) | (simp [inR, IntKind.bits]; done) | (simp [inR, IntKind.bits] at * <;> omega) | (simp_all; done) | (with_reducible assumption) | skip)
    refine G_nx 2 rfl ?_
    refine G_draw tOk eok_sdrops rfl (fun _ => none) 13 [0, 0, 2, 0, 14, 30, 62, 127, 255, 511, 511, 0, 3071, 8191] [(12, 13)] rfl (by decide +kernel) (fun bs => rfl) (fun bs => ?_) (fun bs => ?_)
    · (repeat' apply And.intro) <;> (intros; first | exact trivial | exact rfl | omega | exact u8_lo _ | exact u8_hi _ | exact u8_in64 _ | exact u8_in63 _ | (simp only [inR, IntKind.bits]; omega) | (simp [inR, IntKind.bits]; done) | (simp [inR, IntKind.bits] at * <;> omega) | (simp_all; done) | (with_reducible assumption) | skip)
    refine G_run tOk eok_sdrops 1 (fun _ => none) (fun bs => rfl) (fun bs => ?_) (fun bs => ?_)
    · (repeat' apply And.intro) <;> (intros; first | exact trivial | exact rfl | omega | exact u8_lo _ | exact u8_hi _ | exact u8_in64 _ | exact u8_in63 _ | (simp only [inR, IntKind.bits]; omega) | (simp [inR, IntKind.bits]; done) | (simp [inR, IntKind.bits] at * <;> omega) | (simp_all; done) | (with_reducible assumption) | skip)
    rw [hF]
    refine G_run tOk eok_sdrops 60 (fun _ => some true) (fun bs => rfl) (fun bs => ?_) (fun bs => ?_)
    · (repeat' apply And.intro) <;> (intros; first | exact trivial | exact rfl | omega | exact u8_lo _ | exact u8_hi _ | exact u8_in64 _ | exact u8_in63 _ | (simp only [inR, IntKind.bits]; omega) | (simp [inR, IntKind.bits]; done) | (simp [inR, IntKind.bits] at * <;> omega) | (simp_all; done) | (with_reducible assumption) | skip)
    refine G_ret tOk hM0 rfl rfl ⟨trivial, trivial⟩ ?_
    conv => whnf
    all_goals simp
def sdrops_s : FSpec
  | [.g [.pv (.val (.int .i64 m0)), .pv (.val (.int .i64 m1)), .pv (.val (.string ⟨⟨m2⟩⟩)), .pv (.lst .tbl m3), .pv (.lst .sht m4), .pv (.lst .bms m5), .pv (.lst (.ints .i64) m6)], .c (.pv (.val (.int .u8 n)))] => some ((MtaIn ⟨m0, m1, m2, m3, m4, m5, m6⟩) ∧ (0 ≤ n ∧ n ≤ 255), false, .x (.c (bv true)))
  | _ => none
theorem sdrops_s_ok : SpecOk Try.prog 5 sdrops_s := by
  intro args pre sh rv h hp; unfold sdrops_s at h; split at h
  · cases h; obtain ⟨hI, hn⟩ := hp; exact sdrops_fn _ _ _ _ _ _ _ _ hI hn
  · cases h
def psi_sdrops : FuncId → Option FSpec := psiCons 5 sdrops_s psi_mright
theorem psi_sdrops_ok : PsiFn Try.prog psi_sdrops := psiCons_ok sdrops_s_ok psi_mright_ok
end Go.Proofs.Ytgobmfkffhomaaa
