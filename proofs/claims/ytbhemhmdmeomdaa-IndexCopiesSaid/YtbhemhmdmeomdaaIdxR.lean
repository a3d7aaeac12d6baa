import Derived.Test.YtbhemhmdmeomdaaIdxQ
set_option linter.unusedSimpArgs false
set_option linter.unusedVariables false
namespace Go.Proofs.Ytbhemhmdmeomdaa
open Go.Mt

theorem ct_get {i : Nat} (hi : i < 256) : cts[i]? = some (fg (ct 1 i)) := by
  unfold cts
  rw [List.getElem?_append_left (by simpa using hi)]
  simp [List.getElem?_map, List.getElem?_range hi]
theorem ct_get2 {i : Nat} (hi : i < 256) : cts[256 + i]? = some (fg (ct 2 i)) := by
  unfold cts
  rw [List.getElem?_append_right (by simp)]
  simp [List.getElem?_map, List.getElem?_range hi]
theorem fg_ct {i j : Nat} (hi : i < 256) (hj : j < 256) (h : fg (ct 1 i) = fg (ct 1 j)) : i = j := by
  have n := cts_nodup
  have e1 := ct_get hi
  have e2 := ct_get hj
  rw [h] at e1
  generalize cts = L at n e1 e2
  exact nodup_getI n e1 e2
theorem fg_ct2 {i j : Nat} (hi : i < 256) (hj : j < 256) : fg (ct 1 i) ≠ fg (ct 2 j) := fun h => by
  have n := cts_nodup
  have e1 := ct_get hi
  have e2 := ct_get2 hj
  rw [h] at e1
  generalize cts = L at n e1 e2
  have := nodup_getI n e1 e2
  omega
def kf1 (i : Nat) : Known := ⟨fg (ct 1 i), ⟨2, (i : Int) + 2, 0, 0, 0⟩⟩
def kf (i : Nat) : List Known := ((List.range i).drop (i - 64)).map kf1
theorem kf_len (i : Nat) : (kf i).length = min i 64 := by simp [kf]; omega
theorem kf_succ (i : Nat) : addK (kf i) (kf1 i) = kf (i + 1) := by
  have hni : kf1 i ∉ kf i := by
    intro h
    simp only [kf, List.mem_map] at h
    obtain ⟨j, hj, e⟩ := h
    have hj := List.mem_range.1 (List.mem_of_mem_drop hj)
    simp only [kf1, Known.mk.injEq, Entry.mk.injEq] at e
    have := e.2.2.1
    omega
  have hl := kf_len i
  simp only [addK, hasK_mem, decide_eq_false hni]
  by_cases h : 64 ≤ i
  · have e : decide (64 ≤ (kf i).length) = true := by simp; omega
    simp only [e]
    have e2 : (kf i).length - 63 = 1 := by omega
    rw [e2]
    unfold kf
    rw [List.range_succ, List.drop_append_of_le_length (by simp <;> omega), List.map_append, ← List.map_drop, List.drop_drop]
    have e3 : i - 64 + 1 = i + 1 - 64 := by omega
    rw [e3]; rfl
  · have e : decide (64 ≤ (kf i).length) = false := by simp; omega
    simp only [e]
    unfold kf
    have e3 : i - 64 = 0 := by omega
    have e4 : i + 1 - 64 = 0 := by omega
    rw [e3, e4, List.range_succ]; simp
theorem drop_filter (k d j : Nat) (hj : j < k) : ((List.range k).drop d).filter (fun q => decide (q = j)) = if d ≤ j then [j] else [] := by
  have h := range_filter k j
  rw [← List.take_append_drop d (List.range k), List.filter_append, List.take_range, range_filter, if_pos hj] at h
  by_cases h2 : d ≤ j
  · rw [if_neg (by omega)] at h
    rw [if_pos h2]; simpa using h
  · rw [if_pos (by omega)] at h
    rw [if_neg h2]; simpa using h
theorem kf_find0 (K : Nat → Known) (hK : ∀ i j, i < 256 → j < 256 → (K i).finger = (K j).finger → i = j) {k j : Nat} (hk : k ≤ 256) (hj : j < k) :
    ((((List.range k).drop (k - 64)).map K).filter (fun x => decide (x.finger = (K j).finger))).map (·.e) = if k - 64 ≤ j then [(K j).e] else [] := by
  rw [List.filter_map]
  have : ((List.range k).drop (k - 64)).filter ((fun x : Known => decide (x.finger = (K j).finger)) ∘ K) = ((List.range k).drop (k - 64)).filter (fun q => decide (q = j)) := by
    refine List.filter_congr fun q hq => ?_
    have hq := List.mem_range.1 (List.mem_of_mem_drop hq)
    show decide ((K q).finger = (K j).finger) = decide (q = j)
    rw [Bool.eq_iff_iff]
    exact ⟨fun h => decide_eq_true (hK q j (by omega) (by omega) (of_decide_eq_true h)), fun h => by have := of_decide_eq_true h; subst this; simp⟩
  rw [this, drop_filter k _ j hj]
  split <;> simp
theorem kf_none0 (K : Nat → Known) (f : Int) {k : Nat} (hk : k ≤ 256) (hK : ∀ i, i < 256 → (K i).finger ≠ f) :
    ((((List.range k).drop (k - 64)).map K).filter (fun x => decide (x.finger = f))).map (·.e) = [] := by
  rw [List.map_eq_nil_iff, List.filter_eq_nil_iff]
  intro x hx
  obtain ⟨q, hq, rfl⟩ := List.mem_map.1 hx
  have hq := List.mem_range.1 (List.mem_of_mem_drop hq)
  exact fun h => hK q (by omega) (of_decide_eq_true h)
theorem kf_find {k j : Nat} (hk : k ≤ 256) (hj : j < k) : findN (kf k) (fg (ct 1 j)) (kf k).length = if k - 64 ≤ j then [(kf1 j).e] else [] := by
  rw [findN_all]
  exact kf_find0 kf1 (fun i j hi hj h => fg_ct hi hj h) hk hj
theorem kf_none {k j : Nat} (hk : k ≤ 256) (hj : j < k) : findN (kf k) (fg (ct 2 j)) (kf k).length = [] := by
  rw [findN_all]
  exact kf_none0 kf1 _ hk (fun i hi => fg_ct2 hi (by omega))

def env_finds : Env := ⟨T, psi_awake, pspNil, pscNil, 93, [], none, true⟩
theorem eok_finds : PsiOk Try.prog env_finds := ⟨psi_awake_ok, pspNil_ok, pscNil_ok⟩
theorem finds_fn (n : Int) (m : Int) (hn : 0 ≤ n ∧ n ≤ 255) (hm : 0 ≤ m ∧ m ≤ 255) : Ctr Try.prog 3 false [int .u8 n, int .u8 m] (.x (.c (bv true))) := by
  refine Ctr_intro (E := env_finds) Try.func3 rfl (by decide) rfl rfl (fun M0 W hM0 => ?_)
  refine G_run tOk eok_finds 60 (fun _ => none) (fun bs => rfl) (fun bs => ?_) (fun bs => ?_)
  · (repeat' apply And.intro) <;> (intros; first | exact trivial | exact rfl | omega | exact u8_lo _ | exact u8_hi _ | exact u8_in64 _ | exact u8_in63 _ | (simp only [inR, IntKind.bits]; omega) | (simp [inR, IntKind.bits]; done) | (simp [inR, IntKind.bits] at * <;> omega) | (simp_all; done) | (with_reducible assumption) | skip)
  refine G_nx 0 rfl ?_
  refine G_callH [] id hnew rfl trivial rfl rfl rfl rfl (by decide) rfl rfl (fun x => rfl) (fun x _ => ?_)
  obtain ⟨b, v⟩ := x
  dsimp only
  refine G_run tOk eok_finds 60 (fun _ => none) (fun bs => rfl) (fun bs => ?_) (fun bs => ?_)
  · (repeat' apply And.intro) <;> (intros; first | exact trivial | exact rfl | omega | exact u8_lo _ | exact u8_hi _ | exact u8_in64 _ | exact u8_in63 _ | (simp only [inR, IntKind.bits]; omega) | (simp [inR, IntKind.bits]; done) | (simp [inR, IntKind.bits] at * <;> omega) | (simp_all; done) | (with_reducible assumption) | skip)
  refine G_els rfl rfl rfl ?_
  refine G_run tOk eok_finds 60 (fun _ => none) (fun bs => rfl) (fun bs => ?_) (fun bs => ?_)
  · (repeat' apply And.intro) <;> (intros; first | exact trivial | exact rfl | omega | exact u8_lo _ | exact u8_hi _ | exact u8_in64 _ | exact u8_in63 _ | (simp only [inR, IntKind.bits]; omega) | (simp [inR, IntKind.bits]; done) | (simp [inR, IntKind.bits] at * <;> omega) | (simp_all; done) | (with_reducible assumption) | skip)
  obtain ⟨k, hk⟩ : ∃ k : Nat, 1 + n = k := ⟨(1 + n).toNat, by omega⟩
  rw [hk]
  refine G_loop (fun x : Nat × Value => [(1, int .u8 m), (5, .c (.ptr 0 b 0)), (6, int .i64 k), (7, int .i64 x.1)]) (fun x => kH b x.2 0 (kf x.1)) (fun x => x.1 ≤ k) (fun x => k - x.1) rfl [0, 1] (0, v) (Nat.zero_le _) ?wk (fun x hx => ?_)
  case wk => (repeat' apply And.intro) <;> (first | exact rfl | exact trivial | omega | refine sigEq ?_ | skip)
  obtain ⟨i, u⟩ := x
  simp only at hx ⊢
  have hkl := kf_len i
  refine G_run tOk eok_finds 60 (fun _ => none) (fun bs => rfl) (fun bs => ?_) (fun bs => ?_)
  · (repeat' apply And.intro) <;> (intros; first | exact trivial | exact rfl | omega | exact u8_lo _ | exact u8_hi _ | exact u8_in64 _ | exact u8_in63 _ | (simp only [inR, IntKind.bits]; omega) | (simp [inR, IntKind.bits]; done) | (simp [inR, IntKind.bits] at * <;> omega) | (simp_all; done) | (with_reducible assumption) | skip)
  refine G_if rfl rfl (fun hk1 => ?_) (fun hk1 => ?_)
  · have hk' : i < k := by omega
    refine G_run tOk eok_finds 60 (fun _ => none) (fun bs => rfl) (fun bs => ?_) (fun bs => ?_)
    · (repeat' apply And.intro) <;> (intros; first | exact trivial | exact rfl | omega | exact u8_lo _ | exact u8_hi _ | exact u8_in64 _ | exact u8_in63 _ | (simp only [inR, IntKind.bits]; omega) | (simp [inR, IntKind.bits]; done) | (simp [inR, IntKind.bits] at * <;> omega) | (simp_all; done) | (with_reducible assumption) | skip)
    refine G_freeze 2 [28] rfl ⟨rfl, trivial⟩ ?_
    refine G_nx 3 rfl ?_
    refine G_callH [0, 1] id (hadd2 b u 0 (kf i) (ct 1 i) 2 ((i : Int) + 2) 0 0 0 (by simp [ct]) (by omega)) rfl trivial rfl rfl rfl rfl (by decide) rfl rfl (fun x => rfl) (fun u' _ => ?_)
    refine G_run tOk eok_finds 60 (fun _ => none) (fun bs => rfl) (fun bs => ?_) (fun bs => ?_)
    · (repeat' apply And.intro) <;> (intros; first | exact trivial | exact rfl | omega | exact u8_lo _ | exact u8_hi _ | exact u8_in64 _ | exact u8_in63 _ | (simp only [inR, IntKind.bits]; omega) | (simp [inR, IntKind.bits]; done) | (simp [inR, IntKind.bits] at * <;> omega) | (simp_all; done) | (with_reducible assumption) | skip)
    refine G_lp [0, 1] (i + 1, u') ?ok ?wk1
    case ok => exact ⟨hk', by simp only; omega⟩
    case wk1 =>
      (repeat' apply And.intro) <;> (first | exact rfl | exact trivial | omega | refine sigEq ?_ | skip)
      all_goals first | exact kf_succ i | skip
  have hk' : i = k := by omega
  subst hk'
  have hm1 := Int.emod_nonneg m (b := (i : Int)) (by omega)
  have hm2 := Int.emod_lt_of_pos m (b := (i : Int)) (by omega)
  refine G_run tOk eok_finds 60 (fun _ => none) (fun bs => rfl) (fun bs => ?_) (fun bs => ?_)
  · (repeat' apply And.intro) <;> (intros; first | exact trivial | exact rfl | omega | exact u8_lo _ | exact u8_hi _ | exact u8_in64 _ | exact u8_in63 _ | (simp only [inR, IntKind.bits]; omega) | (simp [inR, IntKind.bits]; done) | (simp [inR, IntKind.bits] at * <;> omega) | (simp_all; done) | (with_reducible assumption) | skip)
  obtain ⟨j, hj⟩ : ∃ j : Nat, m % (i : Int) = j := ⟨(m % (i : Int)).toNat, by omega⟩
  have hji : j < i := by omega
  rw [hj]
  refine G_freeze 2 [43] rfl ⟨rfl, trivial⟩ ?_
  refine G_nx 3 rfl ?_
  refine G_callH [0, 1] id (hfind b u 0 (kf i) (ct 1 j) (by simp [ct]) (by omega)) rfl trivial rfl rfl rfl rfl (by decide) rfl rfl (fun x => rfl) (fun x _ => ?_)
  obtain ⟨u1, c1⟩ := x
  dsimp only
  refine G_run tOk eok_finds 60 (fun _ => none) (fun bs => rfl) (fun bs => ?_) (fun bs => ?_)
  · (repeat' apply And.intro) <;> (intros; first | exact trivial | exact rfl | omega | exact u8_lo _ | exact u8_hi _ | exact u8_in64 _ | exact u8_in63 _ | (simp only [inR, IntKind.bits]; omega) | (simp [inR, IntKind.bits]; done) | (simp [inR, IntKind.bits] at * <;> omega) | (simp_all; done) | (with_reducible assumption) | skip)
  refine G_freeze 6 [51] rfl ⟨rfl, trivial⟩ ?_
  refine G_nx 7 rfl ?_
  refine G_callH [0, 1] id (hfind b u c1 (kf i) (ct 2 j) (by simp [ct]) (by omega)) rfl trivial rfl rfl rfl rfl (by decide) rfl rfl (fun x => rfl) (fun x _ => ?_)
  obtain ⟨u2, c2⟩ := x
  dsimp only
  rw [kf_none (by omega) hji, kf_find (by omega) hji]
  have fin : ∀ l : List Entry, (l = if i - 64 ≤ j then [(kf1 j).e] else []) → (l = [(kf1 j).e] ∧ i - 64 ≤ j) ∨ (l = [] ∧ j < i - 64) := by
    intro l h
    by_cases h2 : i - 64 ≤ j
    · rw [if_pos h2] at h; exact .inl ⟨h, h2⟩
    · rw [if_neg h2] at h; exact .inr ⟨h, by omega⟩
  generalize hL : (if i - 64 ≤ j then [(kf1 j).e] else []) = L
  rcases fin L hL.symm with ⟨rfl, h2⟩ | ⟨rfl, h2⟩
  all_goals clear hL fin
  · refine G_run tOk eok_finds 60 (fun _ => none) (fun bs => rfl) (fun bs => ?_) (fun bs => ?_)
    · (repeat' apply And.intro) <;> (intros; first | exact trivial | exact rfl | omega | exact u8_lo _ | exact u8_hi _ | exact u8_in64 _ | exact u8_in63 _ | (simp only [inR, IntKind.bits]; omega) | (simp [inR, IntKind.bits]; done) | (simp [inR, IntKind.bits] at * <;> omega) | (simp_all; done) | (with_reducible assumption) | skip)
    refine G_els rfl rfl ?hb ?_
    case hb =>
      have : decide (((i : Int) - 64) ≤ j) = true := by simp; omega
      simp [this, kf1]
    refine G_run tOk eok_finds 60 (fun _ => some true) (fun bs => rfl) (fun bs => ?_) (fun bs => ?_)
    · (repeat' apply And.intro) <;> (intros; first | exact trivial | exact rfl | omega | exact u8_lo _ | exact u8_hi _ | exact u8_in64 _ | exact u8_in63 _ | (simp only [inR, IntKind.bits]; omega) | (simp [inR, IntKind.bits]; done) | (simp [inR, IntKind.bits] at * <;> omega) | (simp_all; done) | (with_reducible assumption) | skip)
    refine G_nx 10 rfl ?_
    refine G_callH [0, 1] id (hlen b u c2 (kf i)) rfl ⟨_, rfl, ?gw⟩ rfl rfl rfl rfl (by decide) rfl rfl (fun x => rfl) (fun x _ => ?_)
    case gw => rfl
    have hf : decide (((kf i).length : Int) = min (i : Int) 64) = true := by simp; omega
    refine G_run tOk eok_finds 60 (fun _ => some true) (fun bs => rfl) (fun bs => ?_) (fun bs => ?_)
    · (repeat' apply And.intro) <;> first | exact trivial | exact hf | rfl | (simp [hf]; done) | skip
    refine G_ret tOk hM0 rfl rfl ⟨trivial, trivial⟩ ?_
    conv => whnf
    simp [hf]
  · refine G_run tOk eok_finds 60 (fun _ => none) (fun bs => rfl) (fun bs => ?_) (fun bs => ?_)
    · (repeat' apply And.intro) <;> (intros; first | exact trivial | exact rfl | omega | exact u8_lo _ | exact u8_hi _ | exact u8_in64 _ | exact u8_in63 _ | (simp only [inR, IntKind.bits]; omega) | (simp [inR, IntKind.bits]; done) | (simp [inR, IntKind.bits] at * <;> omega) | (simp_all; done) | (with_reducible assumption) | skip)
    refine G_els rfl rfl ?hb2 ?_
    case hb2 =>
      have : decide (((i : Int) - 64) ≤ j) = false := by simp; omega
      simp [this]
    refine G_run tOk eok_finds 60 (fun _ => some true) (fun bs => rfl) (fun bs => ?_) (fun bs => ?_)
    · (repeat' apply And.intro) <;> (intros; first | exact trivial | exact rfl | omega | exact u8_lo _ | exact u8_hi _ | exact u8_in64 _ | exact u8_in63 _ | (simp only [inR, IntKind.bits]; omega) | (simp [inR, IntKind.bits]; done) | (simp [inR, IntKind.bits] at * <;> omega) | (simp_all; done) | (with_reducible assumption) | skip)
    refine G_nx 10 rfl ?_
    refine G_callH [0, 1] id (hlen b u c2 (kf i)) rfl ⟨_, rfl, ?gw2⟩ rfl rfl rfl rfl (by decide) rfl rfl (fun x => rfl) (fun x _ => ?_)
    case gw2 => rfl
    have hf : decide (((kf i).length : Int) = min (i : Int) 64) = true := by simp; omega
    refine G_run tOk eok_finds 60 (fun _ => some true) (fun bs => rfl) (fun bs => ?_) (fun bs => ?_)
    · (repeat' apply And.intro) <;> first | exact trivial | exact hf | rfl | (simp [hf]; done) | skip
    refine G_ret tOk hM0 rfl rfl ⟨trivial, trivial⟩ ?_
    conv => whnf
    simp [hf]
def finds_s : FSpec
  | [.c (.pv (.val (.int .u8 n))), .c (.pv (.val (.int .u8 m)))] => some ((0 ≤ n ∧ n ≤ 255) ∧ (0 ≤ m ∧ m ≤ 255), false, .x (.c (bv true)))
  | _ => none
theorem finds_s_ok : SpecOk Try.prog 3 finds_s := by
  intro args pre sh rv h hp; unfold finds_s at h; split at h
  · cases h; obtain ⟨hn, hm⟩ := hp; exact finds_fn _ _ hn hm
  · cases h
def psi_finds : FuncId → Option FSpec := psiCons 3 finds_s psi_awake
theorem psi_finds_ok : PsiFn Try.prog psi_finds := psiCons_ok finds_s_ok psi_awake_ok
end Go.Proofs.Ytbhemhmdmeomdaa
