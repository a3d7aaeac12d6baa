import Derived.Test.YtgobmfkffhomaaaShtL
set_option linter.unusedSimpArgs false
set_option linter.unusedVariables false
set_option maxHeartbeats 1600000
namespace Go.Proofs.Ytgobmfkffhomaaa
open Go.Mt
/-- The types, a table's leaves known one by one. -/
def Th.T : Tb := tbl (tyl.set 24 (some ⟨.slc 59 .tbh, 1, 24, [.pv (.nil .tbh)]⟩))
theorem Th.tOk : TbOk Try.prog Th.T := tbl_ok (by kernel_rfl)
namespace Th
def env_rcopy : Env := ⟨T, psi_sdrops, pspNil, psc_del, 25, [], none, true⟩
theorem eok_rcopy : PsiOk Try.prog env_rcopy := ⟨psi_sdrops_ok, pspNil_ok, psc_del_ok⟩
theorem rcopy_fn (t0 : List (List Entry)) (hl : t0.length ≤ 1000000000) (hf : ∀ i, (Tt.leaf t0 i).length ≤ 1000000000) : Ctr Try.prog 39 true [.g [.pv (.lst .tbl t0)]] (.x (.g [.lst .tbl t0])) := by
  refine Ctr_intro (E := env_rcopy) Try.func39 rfl (by decide) rfl rfl (fun M0 W hM0 => ?_)
  refine G_run tOk eok_rcopy 60 (fun _ => none) (fun bs => rfl) (fun bs => ?_) (fun bs => ?_)
  · (repeat' apply And.intro) <;> (intros; first | exact trivial | exact rfl | omega | exact u8_lo _ | exact u8_hi _ | exact u8_in64 _ | exact u8_in63 _ | (simp only [inR, IntKind.bits]; omega) | (simp [inR, IntKind.bits]; done) | (simp [inR, IntKind.bits] at * <;> omega) | (simp_all; done) | (with_reducible assumption) | skip)
  refine G_ownB 2 0 59 rfl rfl ?_
  refine G_tblH 3 rfl ?_
  refine G_wkB3 (ns := [0, 1, 2, 3]) (fs := fun b c d => [(1, .c (.ptr 0 b 0)), (2, .c (.ptr 1 c 0)), (3, .c (.ptr 2 d 0)), (4, int .i64 0)]) (hs := fun b c d => [.blk b 26 [.pv (.lst .tbl t0)], .blk c 26 [.pv (.nil .tbl)], .blk d 26 [.own 3 (.slice none 0 0)], .own (.slice none 0 0) 59 .tbh []]) ?b1 ?c1 ?d1 rfl ?wk0 (fun b c d => ?_)
  case wk0 => (repeat' apply And.intro) <;> (first | exact rfl | exact trivial | omega | refine sigEq ?_ | skip)
  refine G_loop (fun x : Nat × Value => [(1, .c (.ptr 0 b 0)), (2, .c (.ptr 1 c 0)), (3, .c (.ptr 2 d 0)), (4, int .i64 x.1)]) (fun x => [.blk b 26 [.pv (.lst .tbl t0)], .blk c 26 [.pv (.nil .tbl)], .blk d 26 [.own 3 x.2], .own x.2 59 .tbh ((t0.take x.1).map .l)]) (fun x => x.1 ≤ t0.length) (fun x => t0.length - x.1) rfl [0, 1, 2, 3] (0, .slice none 0 0) (Nat.zero_le _) ?wk (fun x hx => ?_)
  case wk => (repeat' apply And.intro) <;> (first | exact rfl | exact trivial | omega | refine sigEq ?_ | skip)
  obtain ⟨i, V⟩ := x
  dsimp only at hx ⊢
  refine G_run tOk eok_rcopy 60 (fun _ => none) (fun bs => rfl) (fun bs => ?_) (fun bs => ?_)
  · (repeat' apply And.intro) <;> (intros; first | exact trivial | exact rfl | omega | exact u8_lo _ | exact u8_hi _ | exact u8_in64 _ | exact u8_in63 _ | (simp only [inR, IntKind.bits]; omega) | (simp [inR, IntKind.bits]; done) | (simp [inR, IntKind.bits] at * <;> omega) | (simp_all; done) | (with_reducible assumption) | skip)
  refine G_if rfl rfl (fun hk => ?_) (fun hk => ?_)
  · have hk' : i < t0.length := by omega
    have hfx := hf i
    have hlx : t0.getD (Int.toNat (i : Int)) LK.tbl.dft = Tt.leaf t0 i := rfl
    have hLL : ((t0.take i).map TE.l).length = i := by simp; omega
    refine G_run tOk eok_rcopy 60 (fun _ => none) (fun bs => rfl) (fun bs => ?_) (fun bs => ?_)
    · (repeat' apply And.intro) <;> (intros; first | exact trivial | exact rfl | omega | exact u8_lo _ | exact u8_hi _ | exact u8_in64 _ | exact u8_in63 _ | (simp only [inR, IntKind.bits]; omega) | (simp [inR, IntKind.bits]; done) | (simp [inR, IntKind.bits] at * <;> omega) | (simp_all; done) | (with_reducible assumption) | skip)
    refine G_nx 4 rfl ?_
    refine G_draw tOk eok_rcopy rfl (fun _ => none) 10 [0, 1, 0, 0, 8, 0, 56, 120, 252, 508, 1023, 2047, 4095] [(8, 6)] rfl (by decide +kernel) (fun bs => rfl) (fun bs => ?_) (fun bs => ?_)
    · simp only [hlx]
      (repeat' apply And.intro) <;> (intros; first | exact trivial | exact rfl | omega | exact u8_lo _ | exact u8_hi _ | exact u8_in64 _ | exact u8_in63 _ | (simp only [inR, IntKind.bits]; omega) | (simp [inR, IntKind.bits]; done) | (simp [inR, IntKind.bits] at * <;> omega) | (simp_all; done) | (with_reducible assumption) | skip)
    refine G_run tOk eok_rcopy 60 (fun _ => none) (fun bs => rfl) (fun bs => ?_) (fun bs => ?_)
    · simp only [hlx, hLL]
      (repeat' apply And.intro) <;> (intros; first | exact trivial | exact rfl | omega | exact u8_lo _ | exact u8_hi _ | exact u8_in64 _ | exact u8_in63 _ | (simp only [inR, IntKind.bits]; omega) | (simp [inR, IntKind.bits]; done) | (simp [inR, IntKind.bits] at * <;> omega) | (simp_all; done) | (with_reducible assumption) | skip)
    have hget : ∀ x : TE, ((t0.take i).map TE.l ++ [x])[i]? = some x := fun x => by
      rw [List.getElem?_append_right (by omega), hLL]; simp
    have hset : ∀ x y : TE, ((t0.take i).map TE.l ++ [x]).set i y = (t0.take i).map TE.l ++ [y] := fun x y => by
      rw [List.set_append, hLL, if_neg (by omega)]; simp
    refine G_tbhF 14 12 i rfl (hget _) rfl ?_
    refine G_lp [0, 1, 2, 14] (i + 1, ?v3) ?ok2 ?wk2
    case wk2 =>
      (repeat' apply And.intro) <;> (first | exact rfl | exact trivial | omega | refine sigEq ?_ | skip)
      all_goals
        refine (hset _ _).trans ?_
        have e : t0.take (i + 1) = t0.take i ++ [Tt.leaf t0 i] := by
          rw [List.take_add_one, List.getElem?_eq_getElem hk']; simp [Tt.leaf, List.getD, List.getElem?_eq_getElem hk']
        rw [e, List.map_append]; rfl
    case ok2 => exact ⟨hk', by simp only; omega⟩
  · have hk' : i = t0.length := by omega
    subst hk'
    refine G_tbhT 3 t0 rfl (by rw [List.take_length]) ?_
    refine G_freezeC 2 0 3 rfl rfl rfl ?_
    refine G_run tOk eok_rcopy 60 (fun _ => none) (fun bs => rfl) (fun bs => ?_) (fun bs => ?_)
    · (repeat' apply And.intro) <;> (intros; first | exact trivial | exact rfl | omega | exact u8_lo _ | exact u8_hi _ | exact u8_in64 _ | exact u8_in63 _ | (simp only [inR, IntKind.bits]; omega) | (simp [inR, IntKind.bits]; done) | (simp [inR, IntKind.bits] at * <;> omega) | (simp_all; done) | (with_reducible assumption) | skip)
    refine G_ret tOk hM0 rfl rfl ⟨rfl, trivial⟩ ?_
    exact ⟨rfl, trivial⟩
def rcopy_s : FSpec
  | [.g [.pv (.lst .tbl t0)]] => some ((t0.length ≤ 1000000000) ∧ (∀ i, (Tt.leaf t0 i).length ≤ 1000000000), true, .x (.g [.lst .tbl t0]))
  | _ => none
theorem rcopy_s_ok : SpecOk Try.prog 39 rcopy_s := by
  intro args pre sh rv h hp; unfold rcopy_s at h; split at h
  · cases h; obtain ⟨hl, hf⟩ := hp; exact rcopy_fn _ hl hf
  · cases h
def psi_rcopy : FuncId → Option FSpec := psiCons 39 rcopy_s psi_sdrops
theorem psi_rcopy_ok : PsiFn Try.prog psi_rcopy := psiCons_ok rcopy_s_ok psi_sdrops_ok
end Th

theorem TlOk.nine {t : List (List Entry)} (h : TlOk t) : t.length ≤ 1000000000 ∧ ∀ i, (Tt.leaf t i).length ≤ 1000000000 := ⟨by have := h.len; omega, fun i => by have := h.each i; omega⟩
theorem take_app {α : Type} (l : List α) {i : Nat} (d : α) (h : i < l.length) : l.take i ++ [l.getD i d] = l.take (i + 1) := (take_succ_getD h).symm

def env_mcopy : Env := ⟨T, Th.psi_rcopy, pspNil, psc_del, 44, [], none, true⟩
theorem eok_mcopy : PsiOk Try.prog env_mcopy := ⟨Th.psi_rcopy_ok, pspNil_ok, psc_del_ok⟩
theorem mcopy_fn (m0 : Int) (m1 : Int) (m2 : List UInt8) (m3 : List (List Entry)) (m4 : List Shot) (m5 : List Bitmap) (m6 : List Int) (hm : MtaOk ⟨m0, m1, m2, m3, m4, m5, m6⟩) : Ctr Try.prog 21 true [.g [.pv (.val (.int .i64 m0)), .pv (.val (.int .i64 m1)), .pv (.val (.string ⟨⟨m2⟩⟩)), .pv (.lst .tbl m3), .pv (.lst .sht m4), .pv (.lst .bms m5), .pv (.lst (.ints .i64) m6)]] (.x (.g (Mta.pvs ⟨m0, m1, m2, m3, m4, m5, m6⟩))) := by
  refine Ctr_intro (E := env_mcopy) Try.func21 rfl (by decide) rfl rfl (fun M0 W hM0 => ?_)
  obtain ⟨ht, hS, hM, hC⟩ := hm
  have hSl := hS.len
  have hMl := hM.len
  simp only at ht hS hM hC hSl hMl
  obtain ⟨ht9, ht9f⟩ := ht.nine
  refine G_run tOk eok_mcopy 60 (fun _ => none) (fun bs => rfl) (fun bs => ?_) (fun bs => ?_)
  · (repeat' apply And.intro) <;> (intros; first | exact trivial | exact rfl | omega | exact u8_lo _ | exact u8_hi _ | exact u8_in64 _ | exact u8_in63 _ | (simp only [inR, IntKind.bits]; omega) | (simp [inR, IntKind.bits]; done) | (simp [inR, IntKind.bits] at * <;> omega) | (simp_all; done) | (with_reducible assumption) | skip)
  refine G_ownB 2 4 40 rfl rfl ?_
  refine G_wkB3 (ns := [0, 1, 2, 3]) (fs := fun b c d => [(1, .c (.ptr 0 b 0)), (2, .c (.ptr 1 c 0)), (3, .c (.ptr 2 d 0)), (4, int .i64 0)]) (hs := fun b c d => [.blk b 31 [.pv (i64 m0), .pv (i64 m1), .pv (.val (.string ⟨⟨m2⟩⟩)), .pv (.lst .tbl m3), .pv (.lst .sht m4), .pv (.lst .bms m5), .pv (.lst (.ints .i64) m6)], .blk c 31 mZ, .blk d 31 [.pv (i64 m0), .pv (i64 m1), .pv (.val (.string ⟨⟨m2⟩⟩)), .pv (.lst .tbl m3), .own 3 (.slice none 0 0), .pv (.lst .bms m5), .pv (.lst (.ints .i64) m6)], .own (.slice none 0 0) 40 .sht []]) ?b1 ?c1 ?d1 rfl ?wk0 (fun b c d => ?_)
  case wk0 => (repeat' apply And.intro) <;> (first | exact rfl | exact trivial | omega | refine sigEq ?_ | skip)
  refine G_loop (fun x : Nat × Value => [(1, .c (.ptr 0 b 0)), (2, .c (.ptr 1 c 0)), (3, .c (.ptr 2 d 0)), (4, int .i64 x.1)]) (fun x => [.blk b 31 [.pv (i64 m0), .pv (i64 m1), .pv (.val (.string ⟨⟨m2⟩⟩)), .pv (.lst .tbl m3), .pv (.lst .sht m4), .pv (.lst .bms m5), .pv (.lst (.ints .i64) m6)], .blk c 31 mZ, .blk d 31 [.pv (i64 m0), .pv (i64 m1), .pv (.val (.string ⟨⟨m2⟩⟩)), .pv (.lst .tbl m3), .own 3 x.2, .pv (.lst .bms m5), .pv (.lst (.ints .i64) m6)], .own x.2 40 .sht (m4.take x.1)]) (fun x => x.1 ≤ m4.length) (fun x => m4.length - x.1) rfl [0, 1, 2, 3] (0, .slice none 0 0) (Nat.zero_le _) ?wk (fun x hx => ?_)
  case wk => (repeat' apply And.intro) <;> (first | exact rfl | exact trivial | omega | refine sigEq ?_ | skip)
  obtain ⟨i, V⟩ := x
  dsimp only at hx ⊢
  refine G_run tOk eok_mcopy 60 (fun _ => none) (fun bs => rfl) (fun bs => ?_) (fun bs => ?_)
  · (repeat' apply And.intro) <;> (intros; first | exact trivial | exact rfl | omega | exact u8_lo _ | exact u8_hi _ | exact u8_in64 _ | exact u8_in63 _ | (simp only [inR, IntKind.bits]; omega) | (simp [inR, IntKind.bits]; done) | (simp [inR, IntKind.bits] at * <;> omega) | (simp_all; done) | (with_reducible assumption) | skip)
  refine G_if rfl rfl (fun hk => ?_) (fun hk => ?_)
  · have hk' : i < m4.length := by omega
    obtain ⟨hq1, hq2⟩ := (hS.get i).nine
    have hq1' : (m4.getD (i : Int).toNat LK.sht.dft).t.length ≤ 1000000000 := hq1
    have hq2' : ∀ q, (Tt.leaf (m4.getD (i : Int).toNat LK.sht.dft).t q).length ≤ 1000000000 := hq2
    refine G_run tOk eok_mcopy 60 (fun _ => none) (fun bs => rfl) (fun bs => ?_) (fun bs => ?_)
    · (repeat' apply And.intro) <;> (intros; first | exact trivial | exact rfl | omega | exact u8_lo _ | exact u8_hi _ | exact u8_in64 _ | exact u8_in63 _ | (simp only [inR, IntKind.bits]; omega) | (simp [inR, IntKind.bits]; done) | (simp [inR, IntKind.bits] at * <;> omega) | (simp_all; done) | (with_reducible assumption) | skip)
    refine G_lp [0, 1, 2, 6] (i + 1, ?v1) ?ok1 ?wk1
    case ok1 => exact ⟨hk', by simp only; omega⟩
    case wk1 =>
      (repeat' apply And.intro) <;> (first | exact rfl | exact trivial | omega | refine sigEq ?_ | skip)
      all_goals first | exact take_app m4 LK.sht.dft hk' | skip
  · have hk' : i = m4.length := by omega
    subst hk'
    rw [List.take_length]
    refine G_run tOk eok_mcopy 60 (fun _ => none) (fun bs => rfl) (fun bs => ?_) (fun bs => ?_)
    · (repeat' apply And.intro) <;> (intros; first | exact trivial | exact rfl | omega | exact u8_lo _ | exact u8_hi _ | exact u8_in64 _ | exact u8_in63 _ | (simp only [inR, IntKind.bits]; omega) | (simp [inR, IntKind.bits]; done) | (simp [inR, IntKind.bits] at * <;> omega) | (simp_all; done) | (with_reducible assumption) | skip)
    refine G_freezeC 1 4 3 rfl rfl rfl ?_
    refine G_freezeC 1 5 4 rfl rfl rfl ?_
    refine G_freezeC 1 6 6 rfl rfl rfl ?_
    refine G_run tOk eok_mcopy 60 (fun _ => none) (fun bs => rfl) (fun bs => ?_) (fun bs => ?_)
    · (repeat' apply And.intro) <;> (intros; first | exact trivial | exact rfl | omega | exact u8_lo _ | exact u8_hi _ | exact u8_in64 _ | exact u8_in63 _ | (simp only [inR, IntKind.bits]; omega) | (simp [inR, IntKind.bits]; done) | (simp [inR, IntKind.bits] at * <;> omega) | (simp_all; done) | (with_reducible assumption) | skip)
    exact G_ret tOk hM0 rfl rfl ⟨rfl, trivial⟩ ⟨⟨rfl, rfl⟩, ⟨rfl, rfl⟩, rfl, rfl, rfl, rfl, rfl, trivial⟩
def mcopy_s : FSpec
  | [.g [.pv (.val (.int .i64 m0)), .pv (.val (.int .i64 m1)), .pv (.val (.string ⟨⟨m2⟩⟩)), .pv (.lst .tbl m3), .pv (.lst .sht m4), .pv (.lst .bms m5), .pv (.lst (.ints .i64) m6)]] => some ((MtaOk ⟨m0, m1, m2, m3, m4, m5, m6⟩), true, .x (.g (Mta.pvs ⟨m0, m1, m2, m3, m4, m5, m6⟩)))
  | _ => none
theorem mcopy_s_ok : SpecOk Try.prog 21 mcopy_s := by
  intro args pre sh rv h hp; unfold mcopy_s at h; split at h
  · cases h; have hm := hp; exact mcopy_fn _ _ _ _ _ _ _ hm
  · cases h
def psi_mcopy : FuncId → Option FSpec := psiCons 21 mcopy_s Th.psi_rcopy
theorem psi_mcopy_ok : PsiFn Try.prog psi_mcopy := psiCons_ok mcopy_s_ok Th.psi_rcopy_ok
end Go.Proofs.Ytgobmfkffhomaaa
