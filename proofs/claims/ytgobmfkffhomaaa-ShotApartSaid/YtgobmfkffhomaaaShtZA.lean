import Derived.Test.YtgobmfkffhomaaaShtZ
set_option linter.unusedSimpArgs false
set_option linter.unusedVariables false
set_option maxHeartbeats 1600000
namespace Go.Proofs.Ytgobmfkffhomaaa
open Go.Mt

theorem right_tl {t : List (List Entry)} {n c : Int} (h : Tt.rightT t n c = true) : TlOk t := by
  refine ⟨?_, fun i => ?_⟩
  · by_cases h5 : 512 < t.length
    · exact (Tt.right_few h h5).elim
    · omega
  · by_cases hi : i < t.length
    · cases ho : Tt.okRow t n c i with
      | false => rw [Tt.right_at ho hi] at h; cases h
      | true =>
        simp only [Tt.okRow, Bool.or_eq_true, Bool.and_eq_true, decide_eq_true_eq, Tt.rowB] at ho
        rcases ho with h | h <;> omega
    · have : Tt.leaf t i = [] := by simp [Tt.leaf, List.getD, List.getElem?_eq_none (by omega : t.length ≤ i)]
      rw [this]; simp
theorem leaf_le {t : List (List Entry)} {g : List Entry → Prop} (h : ∀ m ∈ t, m.length ≤ maxLen ∧ g m) : ∀ i, (Tt.leaf t i).length ≤ 9223372036854775807 := fun i => by
  by_cases hi : i < t.length
  · have h1 := (h _ (List.getElem_mem hi)).1
    have h2 : Tt.leaf t i = t[i] := by simp [Tt.leaf, List.getD, List.getElem?_eq_getElem hi]
    rw [h2]; exact h1
  · have h2 : Tt.leaf t i = [] := by simp [Tt.leaf, List.getD, List.getElem?_eq_none (by omega : t.length ≤ i)]
    rw [h2]; simp
abbrev jn : List UInt8 := [106, 117, 115, 116, 45, 110, 111, 119]
theorem jn_ok : nameB jn = true := by decide +kernel
theorem saE_jn (m : Mta) : saE m jn = 5 ∨ saE m jn = 9 ∨ (saE m jn = 0 ∧ spl m.sh jn < 0 ∧ m.sh.length < 8) := by
  unfold saE
  rw [jn_ok]
  cases h1 : decide (0 ≤ spl m.sh jn) with
  | true => exact .inl rfl
  | false =>
    cases h2 : decide (8 ≤ (m.sh.length : Int)) with
    | true => exact .inr (.inl rfl)
    | false => exact .inr (.inr ⟨rfl, by simpa using h1, by simp at h2; omega⟩)
theorem sb_jn {m : Mta} (sz : Int) (t : List (List Entry)) (h : spl m.sh jn < 0) : sbM ⟨m.cl, sz, m.bk, t, m.sh ++ [⟨jn, m.sz, m.t⟩], m.mp, m.ct⟩ jn = jm m jn ∧ sdE ⟨m.cl, sz, m.bk, t, m.sh ++ [⟨jn, m.sz, m.t⟩], m.mp, m.ct⟩ jn = 0 := by
  have hs := spl_new ⟨jn, m.sz, m.t⟩ h rfl
  have hd : decide (((m.sh.length : Nat) : Int) < 0) = false := by simp
  refine ⟨?_, by simp only [sdE, hs, hd]⟩
  simp only [sbM, thS, hs, hd, Int.toNat_natCast, getD_last, jm]

theorem bck_len (n : Int) (b : Bitmap) : (bck n b).l.length ≤ 4 * b.l.length + 1 := by
  have h1 := subL_len b.l ⟨n, 1073741824⟩
  have h2 := addL_len (subL b.l ⟨n, 1073741824⟩) ⟨0, n⟩
  unfold bck
  split <;> simp only <;> omega
theorem jm_sm {m : Mta} (h : MtaSm m) (h5 : ∀ b ∈ m.mp, b.l.length ≤ 1000) (h8 : m.sh.length < 8) : MtaSm (jm m jn) := by
  refine ⟨h.t, ⟨by simp [jm]; omega, fun b hb => ?_⟩, ⟨by simpa [jm] using h.mp.len, fun b hb => ?_⟩, h.ct, h.bk, fun i => ?_, fun i => ?_⟩
  · rcases List.mem_append.1 hb with hb | hb
    · exact h.sh.each b hb
    · rw [List.mem_singleton.1 hb]; exact h.t
  · obtain ⟨a, ha, rfl⟩ := List.mem_map.1 hb
    have := bck_len (nowI m.cl m.sz) a
    have := h5 a ha
    omega
  · by_cases e : i < m.sh.length
    · simp only [jm]; rw [getD_snoc _ _ _ e]; exact h.sn i
    · by_cases e2 : i = m.sh.length
      · subst e2; simp only [jm]; rw [getD_last]; simp
      · rw [getD_ge _ (by simp [jm]; omega)]; simp [LK.dft]
  · by_cases e : i < m.mp.length
    · have hg : (m.mp.map (bck (nowI m.cl m.sz))).getD i LK.bms.dft = bck (nowI m.cl m.sz) (m.mp.getD i LK.bms.dft) := by
        simp [List.getD, List.getElem?_eq_getElem e]
      simp only [jm, hg, bck_name]; exact h.bn i
    · rw [getD_ge _ (by simp [jm]; omega)]; simp [LK.dft]

def env_sbacks : Env := ⟨T, Tt.psi_trright2, pspNil, psc_del, 174, [], none, true⟩
theorem eok_sbacks : PsiOk Try.prog env_sbacks := ⟨Tt.psi_trright2_ok, pspNil_ok, psc_del_ok⟩
theorem sbacks_fn (m0 : Int) (m1 : Int) (m2 : List UInt8) (m3 : List (List Entry)) (m4 : List Shot) (m5 : List Bitmap) (m6 : List Int) (t0 : List (List Entry)) (n : Int) (hI : MtaIn ⟨m0, m1, m2, m3, m4, m5, m6⟩) (ht : t0.length ≤ 9223372036854775807) (htf : ∀ i, (Tt.leaf t0 i).length ≤ 9223372036854775807) (hn : 0 ≤ n ∧ n ≤ 255) : Ctr Try.prog 6 false [.g [.pv (.val (.int .i64 m0)), .pv (.val (.int .i64 m1)), .pv (.val (.string ⟨⟨m2⟩⟩)), .pv (.lst .tbl m3), .pv (.lst .sht m4), .pv (.lst .bms m5), .pv (.lst (.ints .i64) m6)], .g [.pv (.lst .tbl t0)], int .u8 n] (.x (.c (bv true))) := by
  refine Ctr_intro (E := env_sbacks) Try.func6 rfl (by decide) rfl rfl (fun M0 W hM0 => ?_)
  have hI' := hI
  obtain ⟨it, iS, iM, iC, ib, ist, isn, ibl, ibn⟩ := hI'
  simp only at it iS iM iC ib ist isn ibl ibn
  refine G_run tOk eok_sbacks 3 (fun _ => none) (fun bs => rfl) (fun bs => ?_) (fun bs => ?_)
  · (repeat' apply And.intro) <;> (intros; first | exact trivial | exact rfl | omega | exact u8_lo _ | exact u8_hi _ | exact u8_in64 _ | exact u8_in63 _ | (simp only [inR, IntKind.bits]; omega) | (simp [inR, IntKind.bits]; done) | (simp [inR, IntKind.bits] at * <;> omega) | (simp_all; done) | (with_reducible assumption) | skip)
  cases hg : gtM ⟨m0, m1, m2, m3, m4, m5, m6⟩ with
  | true =>
    refine G_run tOk eok_sbacks 60 (fun _ => some true) (fun bs => rfl) (fun bs => ?_) (fun bs => ?_)
    · (repeat' apply And.intro) <;> (intros; first | exact trivial | exact rfl | omega | exact u8_lo _ | exact u8_hi _ | exact u8_in64 _ | exact u8_in63 _ | (simp only [inR, IntKind.bits]; omega) | (simp [inR, IntKind.bits]; done) | (simp [inR, IntKind.bits] at * <;> omega) | (simp_all; done) | (with_reducible assumption) | skip)
      all_goals first | (simp [hg]; done) | skip
    refine G_thn rfl rfl rfl ?_
    refine G_run tOk eok_sbacks 60 (fun _ => none) (fun bs => rfl) (fun bs => ?_) (fun bs => ?_)
    · (repeat' apply And.intro) <;> (intros; first | exact trivial | exact rfl | omega | exact u8_lo _ | exact u8_hi _ | exact u8_in64 _ | exact u8_in63 _ | (simp only [inR, IntKind.bits]; omega) | (simp [inR, IntKind.bits]; done) | (simp [inR, IntKind.bits] at * <;> omega) | (simp_all; done) | (with_reducible assumption) | skip)
    exact G_ret tOk hM0 rfl rfl ⟨trivial, trivial⟩ rfl
  | false =>
  have hsm := gtM_sm hg
  have hok := hsm.ok
  cases hr : rtM ⟨m0, m1, m2, m3, m4, m5, m6⟩ with
  | false =>
    refine G_run tOk eok_sbacks 60 (fun j => match j with | 2 => some false | _ => some true) (fun bs => rfl) (fun bs => ?_) (fun bs => ?_)
    · (repeat' apply And.intro) <;> (intros; first | exact trivial | exact rfl | omega | exact u8_lo _ | exact u8_hi _ | exact u8_in64 _ | exact u8_in63 _ | (simp only [inR, IntKind.bits]; omega) | (simp [inR, IntKind.bits]; done) | (simp [inR, IntKind.bits] at * <;> omega) | (simp_all; done) | (with_reducible assumption) | skip)
      all_goals first | (simp [hg, hr]; done) | skip
    refine G_thn rfl rfl ?hb0 ?_
    case hb0 => simp [hr]
    refine G_run tOk eok_sbacks 60 (fun _ => none) (fun bs => rfl) (fun bs => ?_) (fun bs => ?_)
    · (repeat' apply And.intro) <;> (intros; first | exact trivial | exact rfl | omega | exact u8_lo _ | exact u8_hi _ | exact u8_in64 _ | exact u8_in63 _ | (simp only [inR, IntKind.bits]; omega) | (simp [inR, IntKind.bits]; done) | (simp [inR, IntKind.bits] at * <;> omega) | (simp_all; done) | (with_reducible assumption) | skip)
    exact G_ret tOk hM0 rfl rfl ⟨trivial, trivial⟩ rfl
  | true =>
  have hk := rtM_ok hr
  refine G_run tOk eok_sbacks 60 (fun j => match j with | 2 => some false | _ => none) (fun bs => rfl) (fun bs => ?_) (fun bs => ?_)
  · (repeat' apply And.intro) <;> (intros; first | exact trivial | exact rfl | omega | exact u8_lo _ | exact u8_hi _ | exact u8_in64 _ | exact u8_in63 _ | (simp only [inR, IntKind.bits]; omega) | (simp [inR, IntKind.bits]; done) | (simp [inR, IntKind.bits] at * <;> omega) | (simp_all; done) | (with_reducible assumption) | skip)
    all_goals first | (simp [hg, hr]; done) | skip
  refine G_els rfl rfl ?hb1 ?_
  case hb1 => simp [hg, hr]
  rcases saE_jn ⟨m0, m1, m2, m3, m4, m5, m6⟩ with hE | hE | ⟨hE, hS0, hS8⟩
  · refine G_run tOk eok_sbacks 4 (fun _ => none) (fun bs => rfl) (fun bs => ?_) (fun bs => ?_)
    · (repeat' apply And.intro) <;> (intros; first | exact trivial | exact rfl | omega | exact u8_lo _ | exact u8_hi _ | exact u8_in64 _ | exact u8_in63 _ | (simp only [inR, IntKind.bits]; omega) | (simp [inR, IntKind.bits]; done) | (simp [inR, IntKind.bits] at * <;> omega) | (simp_all; done) | (with_reducible assumption) | skip)
    rw [hE]
    refine G_run tOk eok_sbacks 60 (fun _ => none) (fun bs => rfl) (fun bs => ?_) (fun bs => ?_)
    · (repeat' apply And.intro) <;> (intros; first | exact trivial | exact rfl | omega | exact u8_lo _ | exact u8_hi _ | exact u8_in64 _ | exact u8_in63 _ | (simp only [inR, IntKind.bits]; omega) | (simp [inR, IntKind.bits]; done) | (simp [inR, IntKind.bits] at * <;> omega) | (simp_all; done) | (with_reducible assumption) | skip)
    refine G_thn rfl rfl rfl ?_
    refine G_run tOk eok_sbacks 60 (fun j => match j with | 3 => some true | _ => some true) (fun bs => rfl) (fun bs => ?_) (fun bs => ?_)
    · (repeat' apply And.intro) <;> (intros; first | exact trivial | exact rfl | omega | exact u8_lo _ | exact u8_hi _ | exact u8_in64 _ | exact u8_in63 _ | (simp only [inR, IntKind.bits]; omega) | (simp [inR, IntKind.bits]; done) | (simp [inR, IntKind.bits] at * <;> omega) | (simp_all; done) | (with_reducible assumption) | skip)
    refine G_ret tOk hM0 rfl rfl ⟨trivial, trivial⟩ ?_
    conv => whnf
    all_goals simp
  · refine G_run tOk eok_sbacks 4 (fun _ => none) (fun bs => rfl) (fun bs => ?_) (fun bs => ?_)
    · (repeat' apply And.intro) <;> (intros; first | exact trivial | exact rfl | omega | exact u8_lo _ | exact u8_hi _ | exact u8_in64 _ | exact u8_in63 _ | (simp only [inR, IntKind.bits]; omega) | (simp [inR, IntKind.bits]; done) | (simp [inR, IntKind.bits] at * <;> omega) | (simp_all; done) | (with_reducible assumption) | skip)
    rw [hE]
    refine G_run tOk eok_sbacks 60 (fun _ => none) (fun bs => rfl) (fun bs => ?_) (fun bs => ?_)
    · (repeat' apply And.intro) <;> (intros; first | exact trivial | exact rfl | omega | exact u8_lo _ | exact u8_hi _ | exact u8_in64 _ | exact u8_in63 _ | (simp only [inR, IntKind.bits]; omega) | (simp [inR, IntKind.bits]; done) | (simp [inR, IntKind.bits] at * <;> omega) | (simp_all; done) | (with_reducible assumption) | skip)
    refine G_thn rfl rfl rfl ?_
    refine G_run tOk eok_sbacks 60 (fun j => match j with | 3 => some false | _ => some true) (fun bs => rfl) (fun bs => ?_) (fun bs => ?_)
    · (repeat' apply And.intro) <;> (intros; first | exact trivial | exact rfl | omega | exact u8_lo _ | exact u8_hi _ | exact u8_in64 _ | exact u8_in63 _ | (simp only [inR, IntKind.bits]; omega) | (simp [inR, IntKind.bits]; done) | (simp [inR, IntKind.bits] at * <;> omega) | (simp_all; done) | (with_reducible assumption) | skip)
    refine G_ret tOk hM0 rfl rfl ⟨trivial, trivial⟩ ?_
    conv => whnf
    all_goals simp
  · obtain ⟨SH, hSH⟩ : ∃ S, m4 ++ [⟨jn, m1, m3⟩] = S := ⟨_, rfl⟩
    have hMd0 : saM ⟨m0, m1, m2, m3, m4, m5, m6⟩ jn = ⟨m0, m1, m2, m3, m4 ++ [⟨jn, m1, m3⟩], m5, m6⟩ := by simp only [saM, hE]; rfl
    have hMd := hMd0
    rw [hSH] at hMd
    have hc : 0 ≤ m0 ∧ m0 ≤ 6 := hk.cl
    have hp := Tt.pow_c hc
    have g1 : 0 ≤ n / 2 ^ m0.toNat := Int.ediv_nonneg hn.1 (by omega)
    have g2 : n / 2 ^ m0.toNat ≤ 255 := Int.le_trans (Int.ediv_le_self _ hn.1) hn.2
    have g3 : 0 ≤ n / 2 ^ m0.toNat * 2 ^ m0.toNat := Int.mul_nonneg g1 (by omega)
    have g4 : n / 2 ^ m0.toNat * 2 ^ m0.toNat ≤ 255 := Int.le_trans (Int.ediv_mul_le n (by omega)) hn.2
    refine G_run tOk eok_sbacks 4 (fun _ => none) (fun bs => rfl) (fun bs => ?_) (fun bs => ?_)
    · (repeat' apply And.intro) <;> (intros; first | exact trivial | exact rfl | omega | exact u8_lo _ | exact u8_hi _ | exact u8_in64 _ | exact u8_in63 _ | (simp only [inR, IntKind.bits]; omega) | (simp [inR, IntKind.bits]; done) | (simp [inR, IntKind.bits] at * <;> omega) | (simp_all; done) | (with_reducible assumption) | skip)
    rw [hE, hMd]
    refine G_run tOk eok_sbacks 60 (fun _ => none) (fun bs => rfl) (fun bs => ?_) (fun bs => ?_)
    · (repeat' apply And.intro) <;> (intros; first | exact trivial | exact rfl | omega | exact u8_lo _ | exact u8_hi _ | exact u8_in64 _ | exact u8_in63 _ | (simp only [inR, IntKind.bits]; omega) | (simp [inR, IntKind.bits]; done) | (simp [inR, IntKind.bits] at * <;> omega) | (simp_all; done) | (with_reducible assumption) | skip)
    refine G_els rfl rfl rfl ?_
    refine G_run tOk eok_sbacks 60 (fun _ => none) (fun bs => rfl) (fun bs => ?_) (fun bs => ?_)
    · (repeat' apply And.intro) <;> (intros; first | exact trivial | exact rfl | omega | exact u8_lo _ | exact u8_hi _ | exact u8_in64 _ | exact u8_in63 _ | (simp only [inR, IntKind.bits]; omega) | (simp [inR, IntKind.bits]; done) | (simp [inR, IntKind.bits] at * <;> omega) | (simp_all; done) | (with_reducible assumption) | skip)
      all_goals first | (exact ⟨⟨hc.1, by have := hc.2; simp [IntKind.bits]; omega⟩, by constructor <;> (simp; omega)⟩) | skip
    have hSB0 : ∀ sz t, sbM ⟨m0, sz, m2, t, m4 ++ [⟨jn, m1, m3⟩], m5, m6⟩ jn = jm ⟨m0, m1, m2, m3, m4, m5, m6⟩ jn ∧ sdE ⟨m0, sz, m2, t, m4 ++ [⟨jn, m1, m3⟩], m5, m6⟩ jn = 0 := fun sz t => sb_jn (m := ⟨m0, m1, m2, m3, m4, m5, m6⟩) sz t hS0
    obtain ⟨MP, hMP⟩ : ∃ S, m5.map (bck (nowI m0 m1)) = S := ⟨_, rfl⟩
    have hJ : jm ⟨m0, m1, m2, m3, m4, m5, m6⟩ jn = ⟨m0, m1, m2, m3, SH, MP, m6⟩ := by simp only [jm, hSH, hMP]
    have hSm := jm_sm hsm (gtM_mp hg) hS8
    have hJR := jm_right hr jn_ok hS0 hS8
    rw [hJ] at hSm hJR
    have hSHl : (SH.length : Int) = (m4.length : Int) + 1 := by rw [← hSH]; simp
    have hMPl : MP.length = m5.length := by rw [← hMP]; simp
    have hMPg : ∀ i, i < m5.length → MP.getD i LK.bms.dft = bck (nowI m0 m1) (m5.getD i LK.bms.dft) := fun i hi => by
      rw [← hMP]; simp [List.getD, List.getElem?_eq_getElem hi]
    rw [hSH, hJ] at hSB0
    have hB1 := fun sz t => (hSB0 sz t).1
    have hB2 := fun sz t => (hSB0 sz t).2
    have kA : ∀ sz t, TlOk t → MtaOk ⟨m0, sz, m2, t, SH, m5, m6⟩ := fun sz t ht => by
      have := saM_ok hok jn
      rw [hMd] at this
      exact ⟨ht, this.sh, this.mp, this.ct⟩
    obtain ⟨p1, p2⟩ := hok.t.nine
    have hS8' : m4.length < 8 := hS8
    have q1 : (-9223372036854775808 : Int) ≤ (m4.length : Int) + 1 := by omega
    have q2 : (m4.length : Int) + 1 ≤ 9223372036854775807 := by omega
    refine G_wkB3 (ns := [0, 1, 2]) (fs := fun b d c => [(3, .c (.ptr 0 b 0)), (4, .c (.ptr 1 d 0)), (7, .c (.ptr 2 c 0)), (9, int .i64 (n / 2 ^ m0.toNat * 2 ^ m0.toNat)), (61, bool (Tt.rightT t0 (n / 2 ^ m0.toNat * 2 ^ m0.toNat / 2 ^ m0.toNat) m0))]) (hs := fun b d c => [.blk b 31 [.pv (i64 m0), .pv (i64 m1), .pv (.val (.string ⟨⟨m2⟩⟩)), .pv (.lst .tbl m3), .pv (.lst .sht m4), .pv (.lst .bms m5), .pv (.lst (.ints .i64) m6)], .blk d 26 [.pv (.lst .tbl t0)], .blk c 31 [.pv (i64 m0), .pv (i64 m1), .pv (.val (.string ⟨⟨m2⟩⟩)), .pv (.lst .tbl m3), .pv (.lst .sht SH), .pv (.lst .bms m5), .pv (.lst (.ints .i64) m6)]]) ?b1 ?d1 ?c1 rfl ?wk0 (fun b d c => ?_)
    case wk0 => (repeat' apply And.intro) <;> (first | exact rfl | exact trivial | omega | refine sigEq ?_ | skip)
    refine G_cut (fun x : Int × List (List Entry) => [(3, .c (.ptr 0 b 0)), (7, .c (.ptr 1 c 0))]) (fun x => [.blk b 31 [.pv (i64 m0), .pv (i64 m1), .pv (.val (.string ⟨⟨m2⟩⟩)), .pv (.lst .tbl m3), .pv (.lst .sht m4), .pv (.lst .bms m5), .pv (.lst (.ints .i64) m6)], .blk c 31 [.pv (i64 m0), .pv (i64 x.1), .pv (.val (.string ⟨⟨m2⟩⟩)), .pv (.lst .tbl x.2), .pv (.lst .sht SH), .pv (.lst .bms m5), .pv (.lst (.ints .i64) m6)]]) (fun x => TlOk x.2) rfl ?way (fun x hx => ?_)
    case way =>
      refine G_cond (b := Tt.rightT t0 (n / 2 ^ m0.toNat * 2 ^ m0.toNat / 2 ^ m0.toNat) m0) rfl rfl (fun h1 => ?_) (fun h1 => ?_)
      · refine G_run tOk eok_sbacks 60 (fun _ => none) (fun bs => rfl) (fun bs => ?_) (fun bs => ?_)
        · (repeat' apply And.intro) <;> (intros; first | exact trivial | exact rfl | omega | exact u8_lo _ | exact u8_hi _ | exact u8_in64 _ | exact u8_in63 _ | (simp only [inR, IntKind.bits]; omega) | (simp [inR, IntKind.bits]; done) | (simp [inR, IntKind.bits] at * <;> omega) | (simp_all; done) | (with_reducible assumption) | skip)
        refine G_lp [0, 2] (n / 2 ^ m0.toNat * 2 ^ m0.toNat, t0) (right_tl h1) ?wkA
        case wkA => (repeat' apply And.intro) <;> (first | exact rfl | exact trivial | omega | refine sigEq ?_ | skip)
      · refine G_run tOk eok_sbacks 60 (fun _ => none) (fun bs => rfl) (fun bs => ?_) (fun bs => ?_)
        · (repeat' apply And.intro) <;> (intros; first | exact trivial | exact rfl | omega | exact u8_lo _ | exact u8_hi _ | exact u8_in64 _ | exact u8_in63 _ | (simp only [inR, IntKind.bits]; omega) | (simp [inR, IntKind.bits]; done) | (simp [inR, IntKind.bits] at * <;> omega) | (simp_all; done) | (with_reducible assumption) | skip)
        refine G_lp [0, 2] (m1, m3) hok.t ?wkB
        case wkB => (repeat' apply And.intro) <;> (first | exact rfl | exact trivial | omega | refine sigEq ?_ | skip)
    obtain ⟨xs, xt⟩ := x
    have kA1 := kA xs xt hx
    refine G_run tOk eok_sbacks 3 (fun _ => none) (fun bs => rfl) (fun bs => ?_) (fun bs => ?_)
    · (repeat' apply And.intro) <;> (intros; first | exact trivial | exact rfl | omega | exact u8_lo _ | exact u8_hi _ | exact u8_in64 _ | exact u8_in63 _ | (simp only [inR, IntKind.bits]; omega) | (simp [inR, IntKind.bits]; done) | (simp [inR, IntKind.bits] at * <;> omega) | (simp_all; done) | (with_reducible assumption) | skip)
    rw [hB1, hB2]
    refine G_wkB3 (ns := [0, 1, 2]) (fs := fun b c d => [(3, .c (.ptr 0 b 0)), (10, .c (.ptr 2 d 0)), (11, int .i64 0)]) (hs := fun b c d => [.blk b 31 [.pv (i64 m0), .pv (i64 m1), .pv (.val (.string ⟨⟨m2⟩⟩)), .pv (.lst .tbl m3), .pv (.lst .sht m4), .pv (.lst .bms m5), .pv (.lst (.ints .i64) m6)], .blk c 31 [.pv (i64 m0), .pv (i64 xs), .pv (.val (.string ⟨⟨m2⟩⟩)), .pv (.lst .tbl xt), .pv (.lst .sht SH), .pv (.lst .bms m5), .pv (.lst (.ints .i64) m6)], .blk d 31 [.pv (i64 m0), .pv (i64 m1), .pv (.val (.string ⟨⟨m2⟩⟩)), .pv (.lst .tbl m3), .pv (.lst .sht SH), .pv (.lst .bms MP), .pv (.lst (.ints .i64) m6)]]) ?b2 ?c2 ?d2 rfl ?wk1 (fun b c d => ?_)
    case wk1 => (repeat' apply And.intro) <;> (first | exact rfl | exact trivial | omega | refine sigEq ?_ | skip)
    refine G_run tOk eok_sbacks 60 (fun _ => some false) (fun bs => rfl) (fun bs => ?_) (fun bs => ?_)
    · (repeat' apply And.intro)
      all_goals first | exact trivial | exact hSm | exact p1 | exact p2 | (with_reducible exact q1) | (with_reducible exact q2) | skip
      all_goals try (simp only [hJR, hSHl, decide_true, Bool.not_true, Bool.or_false]; done)
    refine G_els rfl rfl ?hb2 ?_
    case hb2 => simp [hJR, hSHl]
    refine G_run tOk eok_sbacks 60 (fun _ => none) (fun bs => rfl) (fun bs => ?_) (fun bs => ?_)
    · (repeat' apply And.intro) <;> (intros; first | exact trivial | exact rfl | omega | exact u8_lo _ | exact u8_hi _ | exact u8_in64 _ | exact u8_in63 _ | (simp only [inR, IntKind.bits]; omega) | (simp [inR, IntKind.bits]; done) | (simp [inR, IntKind.bits] at * <;> omega) | (simp_all; done) | (with_reducible assumption) | skip)
    refine G_loop (fun i : Nat => [(3, .c (.ptr 0 b 0)), (10, .c (.ptr 2 d 0)), (12, int .i64 i)]) (fun i => [.blk b 31 [.pv (i64 m0), .pv (i64 m1), .pv (.val (.string ⟨⟨m2⟩⟩)), .pv (.lst .tbl m3), .pv (.lst .sht m4), .pv (.lst .bms m5), .pv (.lst (.ints .i64) m6)], .blk c 31 [.pv (i64 m0), .pv (i64 xs), .pv (.val (.string ⟨⟨m2⟩⟩)), .pv (.lst .tbl xt), .pv (.lst .sht SH), .pv (.lst .bms m5), .pv (.lst (.ints .i64) m6)], .blk d 31 [.pv (i64 m0), .pv (i64 m1), .pv (.val (.string ⟨⟨m2⟩⟩)), .pv (.lst .tbl m3), .pv (.lst .sht SH), .pv (.lst .bms MP), .pv (.lst (.ints .i64) m6)]]) (fun i => i ≤ m5.length) (fun i => m5.length - i) rfl [0, 1, 2] 0 (Nat.zero_le _) ?wk2 (fun i hi => ?_)
    case wk2 => (repeat' apply And.intro) <;> (first | exact rfl | exact trivial | omega | refine sigEq ?_ | skip)
    refine G_run tOk eok_sbacks 60 (fun _ => none) (fun bs => rfl) (fun bs => ?_) (fun bs => ?_)
    · (repeat' apply And.intro) <;> (intros; first | exact trivial | exact rfl | omega | exact u8_lo _ | exact u8_hi _ | exact u8_in64 _ | exact u8_in63 _ | (simp only [inR, IntKind.bits]; omega) | (simp [inR, IntKind.bits]; done) | (simp [inR, IntKind.bits] at * <;> omega) | (simp_all; done) | (with_reducible assumption) | skip)
    refine G_if rfl rfl (fun hk1 => ?_) (fun hk1 => ?_)
    · have hi' : i < m5.length := by omega
      obtain ⟨e, he⟩ : ∃ e, MP.getD i LK.bms.dft = e := ⟨_, rfl⟩
      have he1 : MP.getD (i : Int).toNat LK.bms.dft = e := he
      have hon : e.on = (m5.getD i LK.bms.dft).on := by rw [← he, hMPg i hi']; unfold bck; split <;> rfl
      have hcl := clu_in hk.sz hk.cl
      rw [hcl.1] at hcl
      have hpos : 0 ≤ m1 := szB_iff hk.sz |>.1
      have hnw : nowI m0 m1 = m1 / 2 ^ m0.toNat := by
        have e0 : (decide (0 ≤ m0) && decide (m0 ≤ 6)) = true := by simp; omega
        have e1 : max m1 0 = m1 := by omega
        simp only [nowI, e0, e1]
      have hfl : e.on = true → 0 < m1 → e.l = [⟨0, m1 / 2 ^ m0.toNat⟩] := fun h1 h2 => by
        have h3 := hk.mp i hi'
        simp only [mpR, Bool.and_eq_true] at h3
        rw [← he, hMPg i hi', ← hnw]
        refine bck_full h3.1.2 ⟨?_, hcl.2.2⟩ (by rw [← hon]; exact h1)
        rw [hnw]
        have hs := hk.sz
        simp only [szB, Bool.and_eq_true, decide_eq_true_eq] at hs
        rcases Int.lt_or_le 0 (m1 / 2 ^ m0.toNat) with h5 | h5
        · exact h5
        · exfalso
          have h6 : m1 / 2 ^ m0.toNat = 0 := by have := Int.ediv_nonneg hpos (show (0 : Int) ≤ 2 ^ m0.toNat by omega); omega
          rw [h6, Int.zero_mul] at hs
          omega
      have hiL : (0 : Int) ≤ (i : Int) ∧ (i : Int) < (MP.length : Int) := by omega
      have hiS : (i : Int) + 1 ≤ 9223372036854775807 := by omega
      refine G_run tOk eok_sbacks 60 (fun _ => none) (fun bs => rfl) (fun bs => ?_) (fun bs => ?_)
      · (repeat' apply And.intro) <;> (intros; first | exact trivial | exact rfl | omega | exact u8_lo _ | exact u8_hi _ | exact u8_in64 _ | exact u8_in63 _ | (simp only [inR, IntKind.bits]; omega) | (simp [inR, IntKind.bits]; done) | (simp [inR, IntKind.bits] at * <;> omega) | (simp_all; done) | (with_reducible assumption) | skip)
      refine G_nx 4 rfl ?_
      cases ho : e.on with
      | false =>
        have ho1 : (MP.getD (i : Int).toNat LK.bms.dft).on = false := by rw [he1]; exact ho
        refine G_draw tOk eok_sbacks rfl (fun _ => some false) 32 [0, 1, 0, 7, 15, 31, 63, 127, 255, 511, 1023, 2047, 4095, 8191, 4095, 32767, 65535, 131071, 262143, 524287, 1048575, 2097151, 4194303, 2097151, 16777215, 33554431, 67108863, 134217727, 268435455, 2097151, 538968063, 1612709887, 4294967295, 8589934591, 17179869183] [] rfl (by decide +kernel) (fun bs => rfl) (fun bs => ?_) (fun bs => ?_)
        · (repeat' apply And.intro)
          all_goals first | exact trivial | rfl | (with_reducible exact hiL.1) | (with_reducible exact hiL.2) | exact ho1
        refine G_run tOk eok_sbacks 60 (fun _ => some false) (fun bs => rfl) (fun bs => by (repeat' apply And.intro) <;> (intros; first | exact trivial | exact rfl | omega | exact u8_lo _ | exact u8_hi _ | exact u8_in64 _ | exact u8_in63 _ | (simp only [inR, IntKind.bits]; omega) | (simp [inR, IntKind.bits]; done) | (simp [inR, IntKind.bits] at * <;> omega) | (simp_all; done) | (with_reducible assumption) | skip)) (fun bs => ?_)
        refine G_els rfl rfl ?hb3 ?_
        case hb3 => simp only [ho1, Bool.false_and]
        refine G_run tOk eok_sbacks 60 (fun _ => none) (fun bs => rfl) (fun bs => ?_) (fun bs => ?_)
        · (repeat' apply And.intro) <;> (intros; first | exact trivial | exact rfl | omega | exact u8_lo _ | exact u8_hi _ | exact u8_in64 _ | exact u8_in63 _ | (simp only [inR, IntKind.bits]; omega) | (simp [inR, IntKind.bits]; done) | (simp [inR, IntKind.bits] at * <;> omega) | (simp_all; done) | (with_reducible assumption) | skip)
        refine G_lp [0, 1, 2] (i + 1) ?ok1 ?wk3
        case ok1 => exact ⟨hi', by omega⟩
        case wk3 => (repeat' apply And.intro) <;> (first | exact rfl | exact trivial | omega | refine sigEq ?_ | skip)
      | true =>
        have ho1 : (MP.getD (i : Int).toNat LK.bms.dft).on = true := by rw [he1]; exact ho
        by_cases hz : 0 < m1
        · have hl1 : (MP.getD (i : Int).toNat LK.bms.dft).l = [⟨0, m1 / 2 ^ m0.toNat⟩] := by rw [he1]; exact hfl ho hz
          have hzd : decide (0 < m1) = true := by simp [hz]
          refine G_draw tOk eok_sbacks rfl (fun j => match j with | 20 => some false | _ => some true) 32 [0, 1, 0, 7, 15, 31, 63, 127, 255, 511, 1023, 2047, 4095, 8191, 4095, 32767, 65535, 131071, 262143, 524287, 1048575, 2097151, 4194303, 2097151, 16777215, 33554431, 67108863, 134217727, 268435455, 2097151, 538968063, 1612709887, 4294967295, 8589934591, 17179869183] [] rfl (by decide +kernel) (fun bs => rfl) (fun bs => ?_) (fun bs => ?_)
          · (repeat' apply And.intro)
            all_goals first | exact trivial | rfl | (with_reducible exact hiL.1) | (with_reducible exact hiL.2) | exact ho1 | skip
            all_goals try simp only [hl1, ho1, hzd]
            all_goals first | rfl | (simp; done)
          refine G_run tOk eok_sbacks 60 (fun j => match j with | 20 => some false | _ => some true) (fun bs => rfl) (fun bs => by (repeat' apply And.intro) <;> (intros; first | exact trivial | exact rfl | omega | exact u8_lo _ | exact u8_hi _ | exact u8_in64 _ | exact u8_in63 _ | (simp only [inR, IntKind.bits]; omega) | (simp [inR, IntKind.bits]; done) | (simp [inR, IntKind.bits] at * <;> omega) | (simp_all; done) | (with_reducible assumption) | skip)) (fun bs => ?_)
          refine G_els rfl rfl ?hb4 ?_
          case hb4 => 
            simp only [hl1, ho1, hzd]
            simp
          refine G_run tOk eok_sbacks 60 (fun _ => none) (fun bs => rfl) (fun bs => ?_) (fun bs => ?_)
          · (repeat' apply And.intro) <;> (intros; first | exact trivial | exact rfl | omega | exact u8_lo _ | exact u8_hi _ | exact u8_in64 _ | exact u8_in63 _ | (simp only [inR, IntKind.bits]; omega) | (simp [inR, IntKind.bits]; done) | (simp [inR, IntKind.bits] at * <;> omega) | (simp_all; done) | (with_reducible assumption) | skip)
          refine G_lp [0, 1, 2] (i + 1) ?ok2 ?wk4
          case ok2 => exact ⟨hi', by omega⟩
          case wk4 => (repeat' apply And.intro) <;> (first | exact rfl | exact trivial | omega | refine sigEq ?_ | skip)
        · have hzd : decide (0 < m1) = false := by simp [hz]
          refine G_draw tOk eok_sbacks rfl (fun j => match j with | 6 => some true | _ => some false) 32 [0, 1, 0, 7, 15, 31, 63, 127, 255, 511, 1023, 2047, 4095, 8191, 4095, 32767, 65535, 131071, 262143, 524287, 1048575, 2097151, 4194303, 2097151, 16777215, 33554431, 67108863, 134217727, 268435455, 2097151, 538968063, 1612709887, 4294967295, 8589934591, 17179869183] [] rfl (by decide +kernel) (fun bs => rfl) (fun bs => ?_) (fun bs => ?_)
          · (repeat' apply And.intro)
            all_goals first | exact trivial | rfl | (with_reducible exact hiL.1) | (with_reducible exact hiL.2) | exact ho1 | skip
            all_goals try simp only [ho1, hzd]
            all_goals first | rfl | (simp; done)
          refine G_run tOk eok_sbacks 60 (fun j => match j with | 6 => some true | _ => some false) (fun bs => rfl) (fun bs => by (repeat' apply And.intro) <;> (intros; first | exact trivial | exact rfl | omega | exact u8_lo _ | exact u8_hi _ | exact u8_in64 _ | exact u8_in63 _ | (simp only [inR, IntKind.bits]; omega) | (simp [inR, IntKind.bits]; done) | (simp [inR, IntKind.bits] at * <;> omega) | (simp_all; done) | (with_reducible assumption) | skip)) (fun bs => ?_)
          refine G_els rfl rfl ?hb5 ?_
          case hb5 => simp only [ho1, hzd, Bool.and_false, Bool.false_and]
          refine G_run tOk eok_sbacks 60 (fun _ => none) (fun bs => rfl) (fun bs => ?_) (fun bs => ?_)
          · (repeat' apply And.intro) <;> (intros; first | exact trivial | exact rfl | omega | exact u8_lo _ | exact u8_hi _ | exact u8_in64 _ | exact u8_in63 _ | (simp only [inR, IntKind.bits]; omega) | (simp [inR, IntKind.bits]; done) | (simp [inR, IntKind.bits] at * <;> omega) | (simp_all; done) | (with_reducible assumption) | skip)
          refine G_lp [0, 1, 2] (i + 1) ?ok3 ?wk5
          case ok3 => exact ⟨hi', by omega⟩
          case wk5 => (repeat' apply And.intro) <;> (first | exact rfl | exact trivial | omega | refine sigEq ?_ | skip)
    · have hi' : i = m5.length := by omega
      subst hi'
      have hE2 : sdE ⟨m0, m1, m2, m3, SH, MP, m6⟩ jn = 0 ∧ sdM ⟨m0, m1, m2, m3, SH, MP, m6⟩ jn = ⟨m0, m1, m2, m3, m4, MP, m6⟩ := by
        have hs : spl (m4 ++ [⟨jn, m1, m3⟩]) jn = m4.length := spl_new ⟨jn, m1, m3⟩ hS0 rfl
        rw [hSH] at hs
        have hd : decide (((m4.length : Nat) : Int) < 0) = false := by simp
        refine ⟨by simp only [sdE, hs, hd], ?_⟩
        simp only [sdM, hs, hd, Int.toNat_natCast]
        rw [← hSH]
        simp
      refine G_run tOk eok_sbacks 4 (fun _ => none) (fun bs => rfl) (fun bs => ?_) (fun bs => ?_)
      · (repeat' apply And.intro)
        all_goals first | exact trivial | rfl | exact hSm.ok | skip
      rw [hE2.1, hE2.2]
      refine G_run tOk eok_sbacks 60 (fun _ => some true) (fun bs => rfl) (fun bs => ?_) (fun bs => ?_)
      · (repeat' apply And.intro)
        all_goals first | exact trivial | rfl | exact hSm.ok | skip
        all_goals simp
      refine G_ret tOk hM0 rfl rfl ⟨trivial, trivial⟩ ?_
      conv => whnf
      all_goals simp
def sbacks_s : FSpec
  | [.g [.pv (.val (.int .i64 m0)), .pv (.val (.int .i64 m1)), .pv (.val (.string ⟨⟨m2⟩⟩)), .pv (.lst .tbl m3), .pv (.lst .sht m4), .pv (.lst .bms m5), .pv (.lst (.ints .i64) m6)], .g [.pv (.lst .tbl t0)], .c (.pv (.val (.int .u8 n)))] => some ((MtaIn ⟨m0, m1, m2, m3, m4, m5, m6⟩) ∧ (t0.length ≤ 9223372036854775807) ∧ (∀ i, (Tt.leaf t0 i).length ≤ 9223372036854775807) ∧ (0 ≤ n ∧ n ≤ 255), false, .x (.c (bv true)))
  | _ => none
theorem sbacks_s_ok : SpecOk Try.prog 6 sbacks_s := by
  intro args pre sh rv h hp; unfold sbacks_s at h; split at h
  · cases h; obtain ⟨hI, ht, htf, hn⟩ := hp; exact sbacks_fn _ _ _ _ _ _ _ _ _ hI ht htf hn
  · cases h
def psi_sbacks : FuncId → Option FSpec := psiCons 6 sbacks_s Tt.psi_trright2
theorem psi_sbacks_ok : PsiFn Try.prog psi_sbacks := psiCons_ok sbacks_s_ok Tt.psi_trright2_ok
end Go.Proofs.Ytgobmfkffhomaaa
