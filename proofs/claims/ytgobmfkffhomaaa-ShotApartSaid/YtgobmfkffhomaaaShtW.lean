import Derived.Test.YtgobmfkffhomaaaShtV
set_option linter.unusedSimpArgs false
set_option linter.unusedVariables false
set_option maxHeartbeats 1600000
namespace Go.Proofs.Ytgobmfkffhomaaa
open Go.Mt

theorem gtM_mp {m : Mta} (h : gtM m = false) : ∀ b ∈ m.mp, b.l.length ≤ 1000 := by
  simp only [gtM, hdG, Bool.or_eq_false_iff, decide_eq_false_iff_not] at h
  have hm := mpGn_all _ h.2.2
  intro b hb
  obtain ⟨i, hi, rfl⟩ := getD_of_mem LK.bms.dft hb
  have := hm i hi
  simp only [mpG, Bool.or_eq_false_iff, decide_eq_false_iff_not] at this
  omega
theorem saM_ok {m : Mta} (h : MtaOk m) (nm : List UInt8) : MtaOk (saM m nm) := by
  unfold saM
  split
  · refine ⟨h.t, ⟨?_, fun b hb => ?_⟩, h.mp, h.ct⟩
    · rename_i he
      have he' : saE m nm = 0 := by simpa using he
      have : m.sh.length < 8 := by
        unfold saE at he'
        split at he'
        · omega
        · split at he'
          · omega
          · split at he'
            · omega
            · rename_i h8; simp at h8; omega
      simp; omega
    · rcases List.mem_append.1 hb with hb | hb
      · exact h.sh.each b hb
      · rw [List.mem_singleton.1 hb]; exact h.t
  · exact MtaOk.z
theorem sdM_ok {m : Mta} (h : MtaOk m) (nm : List UInt8) : MtaOk (sdM m nm) := by
  unfold sdM
  split
  · exact MtaOk.z
  · have := h.sh.len
    refine ⟨h.t, ⟨by simp; omega, fun b hb => ?_⟩, h.mp, h.ct⟩
    rcases List.mem_append.1 hb with hb | hb
    · exact h.sh.each b (List.mem_of_mem_take hb)
    · exact h.sh.each b (List.mem_of_mem_drop hb)
theorem tch_len (s : Span) (b : Bitmap) : (tch s b).l.length ≤ 2 * b.l.length + 1 := by
  have := addL_len b.l s
  unfold tch
  split <;> (try simp only) <;> omega
theorem rbM_ok {m : Mta} (h : MtaOk m) (h5 : ∀ b ∈ m.mp, b.l.length ≤ 1000) (nm : List UInt8) : MtaOk (rbM m nm) := by
  unfold rbM
  split
  · exact MtaOk.z
  · refine ⟨h.sh.get _, h.sh, ⟨?_, fun b hb => ?_⟩, h.ct⟩
    · have := (sizL_ok (clu m.sz m.cl) (clu (thS m nm).size m.cl) h.mp h5).len
      simpa using this
    · obtain ⟨a, ha, rfl⟩ := List.mem_map.1 hb
      have h1 := tch_len ⟨0, clu (thS m nm).size m.cl⟩ a
      have h2 : a.l.length ≤ 4001 := by
        unfold sizL at ha
        split at ha
        · have := h5 a ha; omega
        · obtain ⟨c, hc, rfl⟩ := List.mem_map.1 ha
          have := siz_len (clu m.sz m.cl) (clu (thS m nm).size m.cl) c
          have := h5 c hc
          omega
      omega
theorem spl_name {l : List Shot} {nm : List UInt8} (h : 0 ≤ spl l nm) : (l.getD (spl l nm).toNat LK.sht.dft).name = nm := by
  rcases ixP_spec (isS nm) LK.sht.dft l l.length with h1 | ⟨i, _, h2, h3, _⟩
  · unfold spl at h; omega
  · unfold spl; rw [h2]; simpa using h3

def env_sturns : Env := ⟨T, psi_rbackshot, pspNil, psc_del, 156, [], none, true⟩
theorem eok_sturns : PsiOk Try.prog env_sturns := ⟨psi_rbackshot_ok, pspNil_ok, psc_del_ok⟩
theorem sturns_fn (m0 : Int) (m1 : Int) (m2 : List UInt8) (m3 : List (List Entry)) (m4 : List Shot) (m5 : List Bitmap) (m6 : List Int) (nm : List UInt8) (hI : MtaIn ⟨m0, m1, m2, m3, m4, m5, m6⟩) (hnl : nm.length ≤ 9223372036854775807) : Ctr Try.prog 7 false [.g [.pv (.val (.int .i64 m0)), .pv (.val (.int .i64 m1)), .pv (.val (.string ⟨⟨m2⟩⟩)), .pv (.lst .tbl m3), .pv (.lst .sht m4), .pv (.lst .bms m5), .pv (.lst (.ints .i64) m6)], str nm] (.x (.c (bv true))) := by
  refine Ctr_intro (E := env_sturns) Try.func7 rfl (by decide) rfl rfl (fun M0 W hM0 => ?_)
  have hI' := hI
  obtain ⟨it, iS, iM, iC, ib, ist, isn, ibl, ibn⟩ := hI'
  simp only at it iS iM iC ib ist isn ibl ibn
  refine G_run tOk eok_sturns 3 (fun _ => none) (fun bs => rfl) (fun bs => ?_) (fun bs => ?_)
  · (repeat' apply And.intro) <;> (intros; first | exact trivial | exact rfl | omega | exact u8_lo _ | exact u8_hi _ | exact u8_in64 _ | exact u8_in63 _ | (simp only [inR, IntKind.bits]; omega) | (simp [inR, IntKind.bits]; done) | (simp [inR, IntKind.bits] at * <;> omega) | (simp_all; done) | (with_reducible assumption) | skip)
  cases hg : gtM ⟨m0, m1, m2, m3, m4, m5, m6⟩ with
  | true =>
    refine G_run tOk eok_sturns 60 (fun _ => some true) (fun bs => rfl) (fun bs => ?_) (fun bs => ?_)
    · (repeat' apply And.intro) <;> (intros; first | exact trivial | exact rfl | omega | exact u8_lo _ | exact u8_hi _ | exact u8_in64 _ | exact u8_in63 _ | (simp only [inR, IntKind.bits]; omega) | (simp [inR, IntKind.bits]; done) | (simp [inR, IntKind.bits] at * <;> omega) | (simp_all; done) | (with_reducible assumption) | skip)
      all_goals first | (simp [hg]; done) | skip
    refine G_thn rfl rfl rfl ?_
    refine G_run tOk eok_sturns 60 (fun _ => none) (fun bs => rfl) (fun bs => ?_) (fun bs => ?_)
    · (repeat' apply And.intro) <;> (intros; first | exact trivial | exact rfl | omega | exact u8_lo _ | exact u8_hi _ | exact u8_in64 _ | exact u8_in63 _ | (simp only [inR, IntKind.bits]; omega) | (simp [inR, IntKind.bits]; done) | (simp [inR, IntKind.bits] at * <;> omega) | (simp_all; done) | (with_reducible assumption) | skip)
    exact G_ret tOk hM0 rfl rfl ⟨trivial, trivial⟩ rfl
  | false =>
  have hsm := gtM_sm hg
  have hok := hsm.ok
  have hm5 := gtM_mp hg
  cases hr : rtM ⟨m0, m1, m2, m3, m4, m5, m6⟩ with
  | false =>
    refine G_run tOk eok_sturns 60 (fun j => match j with | 2 => some false | _ => some true) (fun bs => rfl) (fun bs => ?_) (fun bs => ?_)
    · (repeat' apply And.intro) <;> (intros; first | exact trivial | exact rfl | omega | exact u8_lo _ | exact u8_hi _ | exact u8_in64 _ | exact u8_in63 _ | (simp only [inR, IntKind.bits]; omega) | (simp [inR, IntKind.bits]; done) | (simp [inR, IntKind.bits] at * <;> omega) | (simp_all; done) | (with_reducible assumption) | skip)
      all_goals first | (simp [hg, hr]; done) | skip
    refine G_thn rfl rfl rfl ?_
    refine G_run tOk eok_sturns 60 (fun _ => none) (fun bs => rfl) (fun bs => ?_) (fun bs => ?_)
    · (repeat' apply And.intro) <;> (intros; first | exact trivial | exact rfl | omega | exact u8_lo _ | exact u8_hi _ | exact u8_in64 _ | exact u8_in63 _ | (simp only [inR, IntKind.bits]; omega) | (simp [inR, IntKind.bits]; done) | (simp [inR, IntKind.bits] at * <;> omega) | (simp_all; done) | (with_reducible assumption) | skip)
    exact G_ret tOk hM0 rfl rfl ⟨trivial, trivial⟩ rfl
  | true =>
  have hS8 : m4.length ≤ 1000 := hok.sh.len
  refine G_run tOk eok_sturns 60 (fun j => match j with | 2 => some false | _ => none) (fun bs => rfl) (fun bs => ?_) (fun bs => ?_)
  · (repeat' apply And.intro) <;> (intros; first | exact trivial | exact rfl | omega | exact u8_lo _ | exact u8_hi _ | exact u8_in64 _ | exact u8_in63 _ | (simp only [inR, IntKind.bits]; omega) | (simp [inR, IntKind.bits]; done) | (simp [inR, IntKind.bits] at * <;> omega) | (simp_all; done) | (with_reducible assumption) | skip)
    all_goals first | (simp [hg, hr]; done) | skip
  refine G_cond (b := (gtM ⟨m0, m1, m2, m3, m4, m5, m6⟩ || !rtM ⟨m0, m1, m2, m3, m4, m5, m6⟩) || decide ((1000 : Int) < (nm.length : Int))) rfl rfl (fun h => ?_) (fun h => ?_)
  · refine G_run tOk eok_sturns 60 (fun _ => none) (fun bs => rfl) (fun bs => ?_) (fun bs => ?_)
    · (repeat' apply And.intro) <;> (intros; first | exact trivial | exact rfl | omega | exact u8_lo _ | exact u8_hi _ | exact u8_in64 _ | exact u8_in63 _ | (simp only [inR, IntKind.bits]; omega) | (simp [inR, IntKind.bits]; done) | (simp [inR, IntKind.bits] at * <;> omega) | (simp_all; done) | (with_reducible assumption) | skip)
    exact G_ret tOk hM0 rfl rfl ⟨trivial, trivial⟩ rfl
  have hl0 : nm.length ≤ 1000000000 := by
    simp only [hg, hr, Bool.not_true, Bool.false_or, decide_eq_false_iff_not] at h; omega
  have hbk := back_same hr nm
  have k1 := saM_ok hok nm
  have k2 := sdM_ok hok nm
  have k3 := rbM_ok hok hm5 nm
  refine G_run tOk eok_sturns 60 (fun _ => none) (fun bs => rfl) (fun bs => ?_) (fun bs => ?_)
  · (repeat' apply And.intro) <;> (intros; first | exact trivial | exact rfl | omega | exact u8_lo _ | exact u8_hi _ | exact u8_in64 _ | exact u8_in63 _ | (simp only [inR, IntKind.bits]; omega) | (simp [inR, IntKind.bits]; done) | (simp [inR, IntKind.bits] at * <;> omega) | (simp_all; done) | (with_reducible assumption) | skip)
  rw [hbk]
  cases hF : decide (0 ≤ spl m4 nm) with
  | false =>
    have hF1 : sfB ⟨m0, m1, m2, m3, m4, m5, m6⟩ nm = false := hF
    have hF2 : ¬ 0 ≤ spl m4 nm := by simpa using hF
    rw [hF1]
    refine G_draw tOk eok_sturns rfl (fun _ => some false) 31 [0, 0, 2, 7, 15, 31, 63, 127, 255, 127, 1023, 2047, 4095, 8191, 4095, 20479, 4095, 118783, 249855, 511999, 1048575, 2097151, 4194303, 8388607, 16777215, 8388607, 41943039, 8388607, 243269631, 511705087, 1048575999, 2147483647, 4294967295, 8589934591, 17179869183, 34359738367] [] rfl (by decide +kernel) (fun bs => rfl) (fun bs => ?_) (fun bs => ?_)
    · (repeat' apply And.intro) <;> (intros; first | exact trivial | exact rfl | omega | exact u8_lo _ | exact u8_hi _ | exact u8_in64 _ | exact u8_in63 _ | (simp only [inR, IntKind.bits]; omega) | (simp [inR, IntKind.bits]; done) | (simp [inR, IntKind.bits] at * <;> omega) | (simp_all; done) | (with_reducible assumption) | skip)
      all_goals first | (simp [hF2]; done) | skip
    refine G_run tOk eok_sturns 60 (fun _ => some false) (fun bs => rfl) (fun bs => by (repeat' apply And.intro) <;> (intros; first | exact trivial | exact rfl | omega | exact u8_lo _ | exact u8_hi _ | exact u8_in64 _ | exact u8_in63 _ | (simp only [inR, IntKind.bits]; omega) | (simp [inR, IntKind.bits, hF2]; done) | (simp [inR, IntKind.bits, hF2] at * <;> omega) | (simp_all; done) | (with_reducible assumption) | skip)) (fun bs => ?_)
    refine G_els rfl rfl ?hb1 ?_
    case hb1 => simp [hF2]
    refine G_run tOk eok_sturns 60 (fun _ => some true) (fun bs => rfl) (fun bs => ?_) (fun bs => ?_)
    · (repeat' apply And.intro) <;> (intros; first | exact trivial | exact rfl | omega | exact u8_lo _ | exact u8_hi _ | exact u8_in64 _ | exact u8_in63 _ | (simp only [inR, IntKind.bits]; omega) | (simp [inR, IntKind.bits]; done) | (simp [inR, IntKind.bits] at * <;> omega) | (simp_all; done) | (with_reducible assumption) | skip)
      all_goals first | exact k1 | exact k2 | exact k3 | (simp; done) | skip
    refine G_ret tOk hM0 rfl rfl ⟨trivial, trivial⟩ ?_
    conv => whnf
    all_goals simp
  | true =>
    have hF1 : sfB ⟨m0, m1, m2, m3, m4, m5, m6⟩ nm = true := hF
    have hF2 : 0 ≤ spl m4 nm := by simpa using hF
    have hF3 : sfS ⟨m0, m1, m2, m3, m4, m5, m6⟩ nm = m4.getD (spl m4 nm).toNat LK.sht.dft := by
      have : decide (spl m4 nm < 0) = false := by simp; omega
      simp only [sfS, this]
    have hF4 := spl_name hF2
    have hsp := spl_spec m4 nm
    obtain ⟨q1, q2⟩ := (hok.sh.get (spl m4 nm).toNat).nine
    rw [hF1, hF3]
    refine G_draw tOk eok_sturns rfl (fun j => match j with | 6 => some true | _ => some false) 31 [0, 0, 2, 7, 15, 31, 63, 127, 255, 127, 1023, 2047, 4095, 8191, 4095, 20479, 4095, 118783, 249855, 511999, 1048575, 2097151, 4194303, 8388607, 16777215, 8388607, 41943039, 8388607, 243269631, 511705087, 1048575999, 2147483647, 4294967295, 8589934591, 17179869183, 34359738367] [] rfl (by decide +kernel) (fun bs => rfl) (fun bs => ?_) (fun bs => ?_)
    · (repeat' apply And.intro) <;> (intros; first | exact trivial | exact rfl | omega | exact u8_lo _ | exact u8_hi _ | exact u8_in64 _ | exact u8_in63 _ | (simp only [inR, IntKind.bits]; omega) | (simp [inR, IntKind.bits]; done) | (simp [inR, IntKind.bits] at * <;> omega) | (simp_all; done) | (with_reducible assumption) | skip)
      all_goals first | (simp [hF2, hF4]; done) | skip
    refine G_run tOk eok_sturns 60 (fun j => match j with | 6 => some true | _ => some false) (fun bs => rfl) (fun bs => by (repeat' apply And.intro) <;> (intros; first | exact trivial | exact rfl | omega | exact u8_lo _ | exact u8_hi _ | exact u8_in64 _ | exact u8_in63 _ | (simp only [inR, IntKind.bits]; omega) | (simp [inR, IntKind.bits, hF2, hF4]; done) | (simp [inR, IntKind.bits, hF2, hF4] at * <;> omega) | (simp_all; done) | (with_reducible assumption) | skip)) (fun bs => ?_)
    refine G_els rfl rfl ?hb2 ?_
    case hb2 => rw [hF4]; simp [hF2]
    refine G_run tOk eok_sturns 60 (fun _ => some true) (fun bs => rfl) (fun bs => ?_) (fun bs => ?_)
    · (repeat' apply And.intro) <;> (intros; first | exact trivial | exact rfl | omega | exact u8_lo _ | exact u8_hi _ | exact u8_in64 _ | exact u8_in63 _ | (simp only [inR, IntKind.bits]; omega) | (simp [inR, IntKind.bits]; done) | (simp [inR, IntKind.bits] at * <;> omega) | (simp_all; done) | (with_reducible assumption) | skip)
      all_goals first | exact k1 | exact k2 | exact k3 | (simp; done) | skip
    refine G_ret tOk hM0 rfl rfl ⟨trivial, trivial⟩ ?_
    conv => whnf
    all_goals simp
def sturns_s : FSpec
  | [.g [.pv (.val (.int .i64 m0)), .pv (.val (.int .i64 m1)), .pv (.val (.string ⟨⟨m2⟩⟩)), .pv (.lst .tbl m3), .pv (.lst .sht m4), .pv (.lst .bms m5), .pv (.lst (.ints .i64) m6)], .c (.pv (.val (.string ⟨⟨nm⟩⟩)))] => some ((MtaIn ⟨m0, m1, m2, m3, m4, m5, m6⟩) ∧ (nm.length ≤ 9223372036854775807), false, .x (.c (bv true)))
  | _ => none
theorem sturns_s_ok : SpecOk Try.prog 7 sturns_s := by
  intro args pre sh rv h hp; unfold sturns_s at h; split at h
  · cases h; obtain ⟨hI, hnl⟩ := hp; exact sturns_fn _ _ _ _ _ _ _ _ hI hnl
  · cases h
def psi_sturns : FuncId → Option FSpec := psiCons 7 sturns_s psi_rbackshot
theorem psi_sturns_ok : PsiFn Try.prog psi_sturns := psiCons_ok sturns_s_ok psi_rbackshot_ok
end Go.Proofs.Ytgobmfkffhomaaa
