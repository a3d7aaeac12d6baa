import Derived.Test.YtgobmfkffhomaaaShtR
set_option linter.unusedSimpArgs false
set_option linter.unusedVariables false
set_option maxHeartbeats 1600000
namespace Go.Proofs.Ytgobmfkffhomaaa
open Go.Mt

def clu (n c : Int) : Int := match (decide (n < 0) || decide (c < 0)) || decide (6 < c) with
  | true => 0
  | false => n / 2 ^ c.toNat
def env_rclu : Env := ⟨T, psi_sback, pspNil, psc_del, 19, [], none, true⟩
theorem eok_rclu : PsiOk Try.prog env_rclu := ⟨psi_sback_ok, pspNil_ok, psc_del_ok⟩
theorem rclu_fn (n : Int) (c : Int)  : Ctr Try.prog 41 false [int .i64 n, int .i64 c] (.x (.c (i64 (clu n c)))) := by
  refine Ctr_intro (E := env_rclu) Try.func41 rfl (by decide) rfl rfl (fun M0 W hM0 => ?_)
  refine G_run tOk eok_rclu 60 (fun _ => none) (fun bs => rfl) (fun bs => ?_) (fun bs => ?_)
  · (repeat' apply And.intro) <;> (intros; first | exact trivial | exact rfl | omega | exact u8_lo _ | exact u8_hi _ | exact u8_in64 _ | exact u8_in63 _ | (simp only [inR, IntKind.bits]; omega) | (simp [inR, IntKind.bits]; done) | (simp [inR, IntKind.bits] at * <;> omega) | (simp_all; done) | (with_reducible assumption) | skip)
  refine G_cond (b := (decide (n < 0) || decide (c < 0)) || decide (6 < c)) rfl rfl (fun h => ?_) (fun h => ?_)
  · refine G_run tOk eok_rclu 60 (fun _ => none) (fun bs => rfl) (fun bs => ?_) (fun bs => ?_)
    · (repeat' apply And.intro) <;> (intros; first | exact trivial | exact rfl | omega | exact u8_lo _ | exact u8_hi _ | exact u8_in64 _ | exact u8_in63 _ | (simp only [inR, IntKind.bits]; omega) | (simp [inR, IntKind.bits]; done) | (simp [inR, IntKind.bits] at * <;> omega) | (simp_all; done) | (with_reducible assumption) | skip)
    exact G_ret tOk hM0 rfl rfl ⟨trivial, trivial⟩ ⟨rfl, by simp only [clu, h]⟩
  · have h' : 0 ≤ c ∧ c ≤ 6 := by simp at h; omega
    refine G_run tOk eok_rclu 60 (fun _ => none) (fun bs => rfl) (fun bs => ?_) (fun bs => ?_)
    · (repeat' apply And.intro) <;> (intros; first | exact trivial | exact rfl | omega | exact u8_lo _ | exact u8_hi _ | exact u8_in64 _ | exact u8_in63 _ | (simp only [inR, IntKind.bits]; omega) | (simp [inR, IntKind.bits]; done) | (simp [inR, IntKind.bits] at * <;> omega) | (simp_all; done) | (with_reducible assumption) | skip)
    exact G_ret tOk hM0 rfl rfl ⟨trivial, trivial⟩ ⟨rfl, by simp only [clu, h]⟩

def rclu_s : FSpec
  | [.c (.pv (.val (.int .i64 n))), .c (.pv (.val (.int .i64 c)))] => some (True, false, .x (.c (i64 (clu n c))))
  | _ => none
theorem rclu_s_ok : SpecOk Try.prog 41 rclu_s := by
  intro args pre sh rv h hp; unfold rclu_s at h; split at h
  · cases h; exact rclu_fn _ _ 
  · cases h
def psi_rclu : FuncId → Option FSpec := psiCons 41 rclu_s psi_sback
theorem psi_rclu_ok : PsiFn Try.prog psi_rclu := psiCons_ok rclu_s_ok psi_sback_ok
theorem addN_len (l : List Span) (s : Span) : ∀ k, (addN l s k).2.1.length ≤ 2 * k := by
  intro k
  induction k with
  | zero => simp [addN]
  | succ k ih =>
    simp only [addN]
    unfold addStep
    split
    · simp; omega
    · split
      · split <;> simp <;> omega
      · simp; omega
theorem addL_len (l : List Span) (s : Span) : (addL l s).length ≤ 2 * l.length + 1 := by
  have hr : (rightL l).length ≤ l.length := by unfold rightL; split <;> simp
  unfold addL
  split
  · have := addN_len (rightL l) s (rightL l).length
    split <;> (rename_i h; rw [h] at this; dsimp only at this)
    · omega
    · simp; omega
  · omega
theorem siz_len (w n : Int) (b : Bitmap) : (siz w n b).l.length ≤ 4 * b.l.length + 1 := by
  have h1 := subL_len b.l ⟨n, 1073741824⟩
  have h2 := addL_len (subL b.l ⟨n, 1073741824⟩) ⟨w, n⟩
  unfold siz
  split <;> simp only <;> omega
theorem sizL_ok {l : List Bitmap} (w n : Int) (h : BmOk l) (h' : ∀ b ∈ l, b.l.length ≤ 1000) : BmOk (sizL l w n) := by
  unfold sizL
  split
  · exact h
  · refine ⟨by simpa using h.len, fun b hb => ?_⟩
    obtain ⟨a, ha, rfl⟩ := List.mem_map.1 hb
    have := siz_len w n a
    have := h' a ha
    omega
def rbM (m : Mta) (nm : List UInt8) : Mta := match decide (spl m.sh nm < 0) with
  | true => Mta.z
  | false => ⟨m.cl, (thS m nm).size, m.bk, (thS m nm).t, m.sh, (sizL m.mp (clu m.sz m.cl) (clu (thS m nm).size m.cl)).map (tch ⟨0, clu (thS m nm).size m.cl⟩), m.ct⟩

def env_rbackshot : Env := ⟨T, psi_rclu, pspNil, psc_del, 53, [], none, true⟩
theorem eok_rbackshot : PsiOk Try.prog env_rbackshot := ⟨psi_rclu_ok, pspNil_ok, psc_del_ok⟩
theorem rbackshot_fn (m0 : Int) (m1 : Int) (m2 : List UInt8) (m3 : List (List Entry)) (m4 : List Shot) (m5 : List Bitmap) (m6 : List Int) (nm : List UInt8) (hm : MtaOk ⟨m0, m1, m2, m3, m4, m5, m6⟩) (hm5 : ∀ b ∈ m5, b.l.length ≤ 1000) : Ctr Try.prog 23 true [.g [.pv (.val (.int .i64 m0)), .pv (.val (.int .i64 m1)), .pv (.val (.string ⟨⟨m2⟩⟩)), .pv (.lst .tbl m3), .pv (.lst .sht m4), .pv (.lst .bms m5), .pv (.lst (.ints .i64) m6)], str nm] (.t [.g (rbM ⟨m0, m1, m2, m3, m4, m5, m6⟩ nm).pvs, .c (i64 (sdE ⟨m0, m1, m2, m3, m4, m5, m6⟩ nm))]) := by
  refine Ctr_intro (E := env_rbackshot) Try.func23 rfl (by decide) rfl rfl (fun M0 W hM0 => ?_)
  have hm' := hm
  obtain ⟨ht, hS, hM, hC⟩ := hm'
  have hSl := hS.len
  have hMl := hM.len
  simp only at ht hS hM hC hSl hMl
  have hp := spl_spec m4 nm
  refine G_run tOk eok_rbackshot 60 (fun _ => none) (fun bs => rfl) (fun bs => ?_) (fun bs => ?_)
  · (repeat' apply And.intro) <;> (intros; first | exact trivial | exact rfl | omega | exact u8_lo _ | exact u8_hi _ | exact u8_in64 _ | exact u8_in63 _ | (simp only [inR, IntKind.bits]; omega) | (simp [inR, IntKind.bits]; done) | (simp [inR, IntKind.bits] at * <;> omega) | (simp_all; done) | (with_reducible assumption) | skip)
  refine G_cond (b := decide (spl m4 nm < 0)) rfl rfl (fun h => ?_) (fun h => ?_)
  · have e : sdE ⟨m0, m1, m2, m3, m4, m5, m6⟩ nm = 4 := by simp only [sdE, h]
    have e2 : rbM ⟨m0, m1, m2, m3, m4, m5, m6⟩ nm = Mta.z := by simp only [rbM, h]
    rw [e, e2]
    refine G_run tOk eok_rbackshot 60 (fun _ => none) (fun bs => rfl) (fun bs => ?_) (fun bs => ?_)
    · (repeat' apply And.intro) <;> (intros; first | exact trivial | exact rfl | omega | exact u8_lo _ | exact u8_hi _ | exact u8_in64 _ | exact u8_in63 _ | (simp only [inR, IntKind.bits]; omega) | (simp [inR, IntKind.bits]; done) | (simp [inR, IntKind.bits] at * <;> omega) | (simp_all; done) | (with_reducible assumption) | skip)
    exact G_ret tOk hM0 rfl rfl ⟨rfl, trivial, trivial⟩ ⟨⟨⟨rfl, rfl⟩, ⟨rfl, rfl⟩, rfl, ⟨rfl, rfl⟩, ⟨rfl, rfl⟩, ⟨rfl, rfl⟩, ⟨rfl, rfl⟩, trivial⟩, ⟨rfl, rfl⟩, trivial⟩
  have h' : ¬ spl m4 nm < 0 := by simpa using h
  have e : sdE ⟨m0, m1, m2, m3, m4, m5, m6⟩ nm = 0 := by simp only [sdE, h]
  have e2 : rbM ⟨m0, m1, m2, m3, m4, m5, m6⟩ nm = ⟨m0, (m4.getD (spl m4 nm).toNat LK.sht.dft).size, m2, (m4.getD (spl m4 nm).toNat LK.sht.dft).t, m4, (sizL m5 (clu m1 m0) (clu (m4.getD (spl m4 nm).toNat LK.sht.dft).size m0)).map (tch ⟨0, clu (m4.getD (spl m4 nm).toNat LK.sht.dft).size m0⟩), m6⟩ := by simp only [rbM, h]
  rw [e, e2]
  obtain ⟨hq1, hq2⟩ := (hS.get (spl m4 nm).toNat).nine
  have hZ := sizL_ok (clu m1 m0) (clu (m4.getD (spl m4 nm).toNat LK.sht.dft).size m0) hM hm5
  refine G_run tOk eok_rbackshot 60 (fun _ => none) (fun bs => rfl) (fun bs => ?_) (fun bs => ?_)
  · (repeat' apply And.intro) <;> (intros; first | exact trivial | exact rfl | omega | exact u8_lo _ | exact u8_hi _ | exact u8_in64 _ | exact u8_in63 _ | (simp only [inR, IntKind.bits]; omega) | (simp [inR, IntKind.bits]; done) | (simp [inR, IntKind.bits] at * <;> omega) | (simp_all; done) | (with_reducible assumption) | skip)
  refine G_nx 3 rfl ?_
  refine G_draw tOk eok_rbackshot rfl (fun _ => none) 9 [0, 1, 0, 4, 15, 0, 32, 0, 128, 511, 1023, 2047] [] rfl (by decide +kernel) (fun bs => rfl) (fun bs => ?_) (fun bs => ?_)
  · (repeat' apply And.intro) <;> (intros; first | exact trivial | exact rfl | omega | exact u8_lo _ | exact u8_hi _ | exact u8_in64 _ | exact u8_in63 _ | (simp only [inR, IntKind.bits]; omega) | (simp [inR, IntKind.bits]; done) | (simp [inR, IntKind.bits] at * <;> omega) | (simp_all; done) | (with_reducible assumption) | skip)
  refine G_run tOk eok_rbackshot 60 (fun _ => none) (fun bs => rfl) (fun bs => ?_) (fun bs => ?_)
  · (repeat' apply And.intro) <;> (intros; first | exact trivial | exact rfl | omega | exact u8_lo _ | exact u8_hi _ | exact u8_in64 _ | exact u8_in63 _ | (simp only [inR, IntKind.bits]; omega) | (simp [inR, IntKind.bits]; done) | (simp [inR, IntKind.bits] at * <;> omega) | (simp_all; done) | (with_reducible assumption) | skip)
  refine G_freeze 12 [47] rfl ⟨rfl, trivial⟩ ?_
  refine G_run tOk eok_rbackshot 60 (fun _ => none) (fun bs => rfl) (fun bs => ?_) (fun bs => ?_)
  · (repeat' apply And.intro) <;> (intros; first | exact trivial | exact rfl | omega | exact u8_lo _ | exact u8_hi _ | exact u8_in64 _ | exact u8_in63 _ | (simp only [inR, IntKind.bits]; omega) | (simp [inR, IntKind.bits]; done) | (simp [inR, IntKind.bits] at * <;> omega) | (simp_all; done) | (with_reducible assumption) | skip)
  refine G_freezeC 1 5 13 rfl rfl rfl ?_
  exact G_ret tOk hM0 rfl rfl ⟨rfl, trivial, trivial⟩ ⟨⟨⟨rfl, rfl⟩, ⟨rfl, rfl⟩, rfl, rfl, rfl, rfl, rfl, trivial⟩, ⟨rfl, rfl⟩, trivial⟩
def rbackshot_s : FSpec
  | [.g [.pv (.val (.int .i64 m0)), .pv (.val (.int .i64 m1)), .pv (.val (.string ⟨⟨m2⟩⟩)), .pv (.lst .tbl m3), .pv (.lst .sht m4), .pv (.lst .bms m5), .pv (.lst (.ints .i64) m6)], .c (.pv (.val (.string ⟨⟨nm⟩⟩)))] => some ((MtaOk ⟨m0, m1, m2, m3, m4, m5, m6⟩) ∧ (∀ b ∈ m5, b.l.length ≤ 1000), true, .t [.g (rbM ⟨m0, m1, m2, m3, m4, m5, m6⟩ nm).pvs, .c (i64 (sdE ⟨m0, m1, m2, m3, m4, m5, m6⟩ nm))])
  | _ => none
theorem rbackshot_s_ok : SpecOk Try.prog 23 rbackshot_s := by
  intro args pre sh rv h hp; unfold rbackshot_s at h; split at h
  · cases h; obtain ⟨hm, hm5⟩ := hp; exact rbackshot_fn _ _ _ _ _ _ _ _ hm hm5
  · cases h
def psi_rbackshot : FuncId → Option FSpec := psiCons 23 rbackshot_s psi_rclu
theorem psi_rbackshot_ok : PsiFn Try.prog psi_rbackshot := psiCons_ok rbackshot_s_ok psi_rclu_ok
end Go.Proofs.Ytgobmfkffhomaaa
