import Derived.Test.YtgobmfkffhomaaaShtQ
set_option linter.unusedSimpArgs false
set_option linter.unusedVariables false
set_option maxHeartbeats 1600000
namespace Go.Proofs.Ytgobmfkffhomaaa
open Go.Mt

/-! ### back -/
def nowI (cl sz : Int) : Int := match decide (0 ≤ cl) && decide (cl ≤ 6) with
  | true => max sz 0 / 2 ^ cl.toNat
  | false => 0
def bck (now : Int) (b : Bitmap) : Bitmap := match b.on with
  | true => ⟨b.name, b.on, addL (subL b.l ⟨now, 1073741824⟩) ⟨0, now⟩⟩
  | false => ⟨b.name, b.on, subL b.l ⟨now, 1073741824⟩⟩
abbrev thS (m : Mta) (nm : List UInt8) : Shot := m.sh.getD (spl m.sh nm).toNat LK.sht.dft
def sbM (m : Mta) (nm : List UInt8) : Mta := match decide (spl m.sh nm < 0) with
  | true => Mta.z
  | false => ⟨m.cl, (thS m nm).size, m.bk, (thS m nm).t, m.sh, m.mp.map (bck (nowI m.cl (thS m nm).size)), m.ct⟩

def env_sback : Env := ⟨T, psi_msame, pspNil, psc_del, 83, [], none, true⟩
theorem eok_sback : PsiOk Try.prog env_sback := ⟨psi_msame_ok, pspNil_ok, psc_del_ok⟩
theorem sback_fn (m0 : Int) (m1 : Int) (m2 : List UInt8) (m3 : List (List Entry)) (m4 : List Shot) (m5 : List Bitmap) (m6 : List Int) (nm : List UInt8) (hm : MtaOk ⟨m0, m1, m2, m3, m4, m5, m6⟩) : Ctr Try.prog 20 true [.g [.pv (.val (.int .i64 m0)), .pv (.val (.int .i64 m1)), .pv (.val (.string ⟨⟨m2⟩⟩)), .pv (.lst .tbl m3), .pv (.lst .sht m4), .pv (.lst .bms m5), .pv (.lst (.ints .i64) m6)], str nm] (.t [.g (sbM ⟨m0, m1, m2, m3, m4, m5, m6⟩ nm).pvs, .c (i64 (sdE ⟨m0, m1, m2, m3, m4, m5, m6⟩ nm))]) := by
  refine Ctr_intro (E := env_sback) Try.func20 rfl (by decide) rfl rfl (fun M0 W hM0 => ?_)
  obtain ⟨ht, hS, hM, hC⟩ := hm
  have hSl := hS.len
  have hMl := hM.len
  simp only at ht hS hM hC hSl hMl
  have hp := spl_spec m4 nm
  have hsT : TlOk (m4.getD (spl m4 nm).toNat LK.sht.dft).t := hS.get _
  refine G_run tOk eok_sback 60 (fun _ => none) (fun bs => rfl) (fun bs => ?_) (fun bs => ?_)
  · (repeat' apply And.intro) <;> (intros; first | exact trivial | exact rfl | omega | exact u8_lo _ | exact u8_hi _ | exact u8_in64 _ | exact u8_in63 _ | (simp only [inR, IntKind.bits]; omega) | (simp [inR, IntKind.bits]; done) | (simp [inR, IntKind.bits] at * <;> omega) | (simp_all; done) | (with_reducible assumption) | skip)
  refine G_cond (b := decide (spl m4 nm < 0)) rfl rfl (fun h => ?_) (fun h => ?_)
  · have e : sdE ⟨m0, m1, m2, m3, m4, m5, m6⟩ nm = 4 := by simp only [sdE, h]
    have e2 : sbM ⟨m0, m1, m2, m3, m4, m5, m6⟩ nm = Mta.z := by simp only [sbM, h]
    rw [e, e2]
    refine G_run tOk eok_sback 60 (fun _ => none) (fun bs => rfl) (fun bs => ?_) (fun bs => ?_)
    · (repeat' apply And.intro) <;> (intros; first | exact trivial | exact rfl | omega | exact u8_lo _ | exact u8_hi _ | exact u8_in64 _ | exact u8_in63 _ | (simp only [inR, IntKind.bits]; omega) | (simp [inR, IntKind.bits]; done) | (simp [inR, IntKind.bits] at * <;> omega) | (simp_all; done) | (with_reducible assumption) | skip)
    exact G_ret tOk hM0 rfl rfl ⟨rfl, trivial, trivial⟩ ⟨⟨⟨rfl, rfl⟩, ⟨rfl, rfl⟩, rfl, ⟨rfl, rfl⟩, ⟨rfl, rfl⟩, ⟨rfl, rfl⟩, ⟨rfl, rfl⟩, trivial⟩, ⟨rfl, rfl⟩, trivial⟩
  have h' : ¬ spl m4 nm < 0 := by simpa using h
  have e : sdE ⟨m0, m1, m2, m3, m4, m5, m6⟩ nm = 0 := by simp only [sdE, h]
  obtain ⟨s, hs⟩ : ∃ s, m4.getD (spl m4 nm).toNat LK.sht.dft = s := ⟨_, rfl⟩
  have e2 : sbM ⟨m0, m1, m2, m3, m4, m5, m6⟩ nm = ⟨m0, s.size, m2, s.t, m4, m5.map (bck (nowI m0 s.size)), m6⟩ := by simp only [sbM, h, thS, hs]
  rw [e, e2]
  have rest : ∀ (b c : Nat) (v u : Value) (now : Int), now = nowI m0 s.size → G Try.prog env_sback (low W.heap.size) W M0 (bpost Try.prog Try.f20 (FnPost true M0 W (RV.t [RX.g (⟨m0, s.size, m2, s.t, m4, m5.map (bck (nowI m0 s.size)), m6⟩ : Mta).pvs, RX.c (i64 0)]))) [Itm.code (rgt (rgt (rgt (rgt (rgt (rgt (rgt (fbody Try.f20))))))))]
      (mk [(2, .c (.ptr 0 b 0)), (4, .c (.ptr 1 c 0)), (7, int .i64 now)] [.blk b 31 [.pv (i64 m0), .pv (i64 s.size), .pv (.val (.string ⟨⟨m2⟩⟩)), .pv (.lst .tbl s.t), .own 2 v, .own 3 u, .pv (.lst (.ints .i64) m6)], .blk c 31 mZ, .own v 40 .sht m4, .own u 51 .bms m5]) := by
    intro b c v u now hnow
    rw [← hnow]
    refine G_run tOk eok_sback 60 (fun _ => none) (fun bs => rfl) (fun bs => ?_) (fun bs => ?_)
    · (repeat' apply And.intro) <;> (intros; first | exact trivial | exact rfl | omega | exact u8_lo _ | exact u8_hi _ | exact u8_in64 _ | exact u8_in63 _ | (simp only [inR, IntKind.bits]; omega) | (simp [inR, IntKind.bits]; done) | (simp [inR, IntKind.bits] at * <;> omega) | (simp_all; done) | (with_reducible assumption) | skip)
    refine G_loop (fun i : Nat => [(2, .c (.ptr 0 b 0)), (4, .c (.ptr 1 c 0)), (7, int .i64 now), (49, int .i64 m5.length), (50, int .i64 i)]) (fun i => [.blk b 31 [.pv (i64 m0), .pv (i64 s.size), .pv (.val (.string ⟨⟨m2⟩⟩)), .pv (.lst .tbl s.t), .own 2 v, .own 3 u, .pv (.lst (.ints .i64) m6)], .blk c 31 mZ, .own v 40 .sht m4, .own u 51 .bms (mapAt (bck now) m5 i)]) (fun i => i ≤ m5.length) (fun i => m5.length - i) rfl [0, 1, 2, 3] 0 (Nat.zero_le _) ?wk (fun i hx => ?_)
    case wk =>
      (repeat' apply And.intro) <;> (first | exact rfl | exact trivial | omega | refine sigEq ?_ | skip)
      all_goals first | exact (mapAt_zero _ _).symm | skip
    have hml := mapAt_len (bck now) m5 i
    refine G_run tOk eok_sback 60 (fun _ => none) (fun bs => rfl) (fun bs => ?_) (fun bs => ?_)
    · (repeat' apply And.intro) <;> (intros; first | exact trivial | exact rfl | omega | exact u8_lo _ | exact u8_hi _ | exact u8_in64 _ | exact u8_in63 _ | (simp only [inR, IntKind.bits]; omega) | (simp [inR, IntKind.bits]; done) | (simp [inR, IntKind.bits] at * <;> omega) | (simp_all; done) | (with_reducible assumption) | skip)
    refine G_if rfl rfl (fun hk => ?_) (fun hk => ?_)
    · have hk' : i < m5.length := by omega
      have hg := mapAt_get (bck now) LK.bms.dft hk'
      have hb := hM.get i
      have hsl := subL_len (m5.getD i LK.bms.dft).l ⟨now, 1073741824⟩
      have hlm : i < (mapAt (bck now) m5 i).length := by omega
      generalize hB : m5.getD i LK.bms.dft = B at hg hb hsl
      generalize hL : mapAt (bck now) m5 i = L at hg hml hlm
      have hb1 : (L.getD (i : Int).toNat LK.bms.dft).l.length ≤ 100000 := by rw [← hg] at hb; exact hb
      have hb2 : ((L.set (i : Int).toNat ⟨(L.getD (i : Int).toNat LK.bms.dft).name, (L.getD (i : Int).toNat LK.bms.dft).on, subL (L.getD (i : Int).toNat LK.bms.dft).l ⟨now, 1073741824⟩⟩).getD (i : Int).toNat LK.bms.dft).l.length ≤ 200000 := by
        show ((L.set i _).getD i _).l.length ≤ 200000
        rw [getD_set_self _ _ hlm]
        rw [← hg] at hb hsl
        exact Nat.le_trans hsl (by omega)
      refine G_run tOk eok_sback 60 (fun _ => none) (fun bs => rfl) (fun bs => ?_) (fun bs => ?_)
      · (repeat' apply And.intro) <;> (intros; first | exact trivial | exact rfl | omega | exact u8_lo _ | exact u8_hi _ | exact u8_in64 _ | exact u8_in63 _ | (simp only [inR, IntKind.bits]; omega) | (simp [inR, IntKind.bits]; done) | (simp [inR, IntKind.bits] at * <;> omega) | (simp_all; done) | (with_reducible assumption) | skip)
      refine G_freeze 4 [64] rfl ⟨rfl, trivial⟩ ?_
      have e1 : (L.getD (i : Int).toNat LK.bms.dft) = B := hg
      refine G_run tOk eok_sback 60 (fun _ => none) (fun bs => rfl) (fun bs => ?_) (fun bs => ?_)
      · (repeat' apply And.intro) <;> (intros; first | exact trivial | exact rfl | omega | exact u8_lo _ | exact u8_hi _ | exact u8_in64 _ | exact u8_in63 _ | (simp only [inR, IntKind.bits]; omega) | (simp [inR, IntKind.bits]; done) | (simp [inR, IntKind.bits] at * <;> omega) | (simp_all; done) | (with_reducible assumption) | skip)
      have e2 : (L.set i ⟨B.name, B.on, subL B.l ⟨now, 1073741824⟩⟩).getD i LK.bms.dft = ⟨B.name, B.on, subL B.l ⟨now, 1073741824⟩⟩ := getD_set_self _ _ hlm
      refine G_cond (b := B.on) rfl ?hc (fun h2 => ?_) (fun h2 => ?_)
      case hc => rw [← hg] at e2 ⊢; rw [← congrArg Bitmap.on e2]; rfl
      · refine G_run tOk eok_sback 60 (fun _ => none) (fun bs => rfl) (fun bs => ?_) (fun bs => ?_)
        · (repeat' apply And.intro) <;> (intros; first | exact trivial | exact rfl | omega | exact u8_lo _ | exact u8_hi _ | exact u8_in64 _ | exact u8_in63 _ | (simp only [inR, IntKind.bits]; omega) | (simp [inR, IntKind.bits]; done) | (simp [inR, IntKind.bits] at * <;> omega) | (simp_all; done) | (with_reducible assumption) | skip)
        refine G_freeze 5 [78] rfl ⟨rfl, trivial⟩ ?_
        refine G_run tOk eok_sback 60 (fun _ => none) (fun bs => rfl) (fun bs => ?_) (fun bs => ?_)
        · (repeat' apply And.intro) <;> (intros; first | exact trivial | exact rfl | omega | exact u8_lo _ | exact u8_hi _ | exact u8_in64 _ | exact u8_in63 _ | (simp only [inR, IntKind.bits]; omega) | (simp [inR, IntKind.bits]; done) | (simp [inR, IntKind.bits] at * <;> omega) | (simp_all; done) | (with_reducible assumption) | skip)
        refine G_lp [0, 1, 2, 3] (i + 1) ?ok ?wk1
        case ok => exact ⟨hk', by omega⟩
        case wk1 =>
          (repeat' apply And.intro) <;> (first | exact rfl | exact trivial | omega | refine sigEq ?_ | skip)
          show (L.set i _).set i _ = mapAt (bck now) m5 (i + 1)
          rw [set_set, ← hL]
          refine mapAt_set _ LK.bms.dft _ hk' ?_
          have e3 : bck now B = ⟨B.name, B.on, addL (subL B.l ⟨now, 1073741824⟩) ⟨0, now⟩⟩ := by simp only [bck, h2]
          rw [hB, e3, hL]
          show (⟨((L.set i _).getD i _).name, ((L.set i _).getD i _).on, addL ((L.set i _).getD i _).l _⟩ : Bitmap) = _
          rw [getD_set_self _ _ hlm, e1]
      · refine G_run tOk eok_sback 60 (fun _ => none) (fun bs => rfl) (fun bs => ?_) (fun bs => ?_)
        · (repeat' apply And.intro) <;> (intros; first | exact trivial | exact rfl | omega | exact u8_lo _ | exact u8_hi _ | exact u8_in64 _ | exact u8_in63 _ | (simp only [inR, IntKind.bits]; omega) | (simp [inR, IntKind.bits]; done) | (simp [inR, IntKind.bits] at * <;> omega) | (simp_all; done) | (with_reducible assumption) | skip)
        refine G_lp [0, 1, 2, 3] (i + 1) ?ok2 ?wk2
        case ok2 => exact ⟨hk', by omega⟩
        case wk2 =>
          (repeat' apply And.intro) <;> (first | exact rfl | exact trivial | omega | refine sigEq ?_ | skip)
          show L.set i _ = mapAt (bck now) m5 (i + 1)
          rw [← hL]
          refine mapAt_set _ LK.bms.dft _ hk' ?_
          have e3 : bck now B = ⟨B.name, B.on, subL B.l ⟨now, 1073741824⟩⟩ := by simp only [bck, h2]
          rw [hB, e3, hL]
          show (⟨(L.getD i _).name, (L.getD i _).on, subL (L.getD i _).l _⟩ : Bitmap) = _
          rw [hg]
    · have hk' : i = m5.length := by omega
      subst hk'
      rw [mapAt_all]
      refine G_run tOk eok_sback 60 (fun _ => none) (fun bs => rfl) (fun bs => ?_) (fun bs => ?_)
      · (repeat' apply And.intro) <;> (intros; first | exact trivial | exact rfl | omega | exact u8_lo _ | exact u8_hi _ | exact u8_in64 _ | exact u8_in63 _ | (simp only [inR, IntKind.bits]; omega) | (simp [inR, IntKind.bits]; done) | (simp [inR, IntKind.bits] at * <;> omega) | (simp_all; done) | (with_reducible assumption) | skip)
      refine G_freezeC 1 4 2 rfl rfl rfl ?_
      refine G_freezeC 1 5 3 rfl rfl rfl ?_
      exact G_ret tOk hM0 rfl rfl ⟨rfl, trivial, trivial⟩ ⟨⟨⟨rfl, rfl⟩, ⟨rfl, rfl⟩, rfl, rfl, rfl, rfl, rfl, trivial⟩, ⟨rfl, rfl⟩, trivial⟩
  refine G_run tOk eok_sback 60 (fun _ => none) (fun bs => rfl) (fun bs => ?_) (fun bs => ?_)
  · (repeat' apply And.intro) <;> (intros; first | exact trivial | exact rfl | omega | exact u8_lo _ | exact u8_hi _ | exact u8_in64 _ | exact u8_in63 _ | (simp only [inR, IntKind.bits]; omega) | (simp [inR, IntKind.bits]; done) | (simp [inR, IntKind.bits] at * <;> omega) | (simp_all; done) | (with_reducible assumption) | skip)
  refine G_nx 2 rfl ?_
  refine G_callH [] id (sown m0 m1 m2 m3 m4 m5 m6 ht hS hM hC) rfl trivial rfl rfl rfl rfl (by decide) rfl rfl (fun x => rfl) (fun x _ => ?_)
  obtain ⟨v, u⟩ := x
  dsimp only
  refine G_run tOk eok_sback 60 (fun _ => none) (fun bs => rfl) (fun bs => ?_) (fun bs => ?_)
  · (repeat' apply And.intro) <;> (intros; first | exact trivial | exact rfl | omega | exact u8_lo _ | exact u8_hi _ | exact u8_in64 _ | exact u8_in63 _ | (simp only [inR, IntKind.bits]; omega) | (simp [inR, IntKind.bits]; done) | (simp [inR, IntKind.bits] at * <;> omega) | (simp_all; done) | (with_reducible assumption) | skip)
  refine G_nx 4 rfl ?_
  refine G_draw tOk eok_sback rfl (fun _ => none) 14 [0, 1, 0, 7, 15, 31, 0, 64, 0, 448, 960, 1984, 4032, 255, 16383, 32767, 65535] [] rfl (by decide +kernel) (fun bs => rfl) (fun bs => ?_) (fun bs => ?_)
  · (repeat' apply And.intro) <;> (intros; first | exact trivial | exact rfl | omega | exact u8_lo _ | exact u8_hi _ | exact u8_in64 _ | exact u8_in63 _ | (simp only [inR, IntKind.bits]; omega) | (simp [inR, IntKind.bits]; done) | (simp [inR, IntKind.bits] at * <;> omega) | (simp_all; done) | (with_reducible assumption) | skip)
  refine G_run tOk eok_sback 60 (fun _ => none) (fun bs => rfl) (fun bs => ?_) (fun bs => ?_)
  · (repeat' apply And.intro) <;> (intros; first | exact trivial | exact rfl | omega | exact u8_lo _ | exact u8_hi _ | exact u8_in64 _ | exact u8_in63 _ | (simp only [inR, IntKind.bits]; omega) | (simp [inR, IntKind.bits]; done) | (simp [inR, IntKind.bits] at * <;> omega) | (simp_all; done) | (with_reducible assumption) | skip)
  refine G_cond (b := decide (0 ≤ m0) && decide (m0 ≤ 6)) rfl rfl (fun h2 => ?_) (fun h2 => ?_)
  · have h2' : 0 ≤ m0 ∧ m0 ≤ 6 := by simpa using h2
    refine G_run tOk eok_sback 2 (fun _ => none) (fun bs => rfl) (fun bs => ?_) (fun bs => ?_)
    · (repeat' apply And.intro) <;> (intros; first | exact trivial | exact rfl | omega | exact u8_lo _ | exact u8_hi _ | exact u8_in64 _ | exact u8_in63 _ | (simp only [inR, IntKind.bits]; omega) | (simp [inR, IntKind.bits]; done) | (simp [inR, IntKind.bits] at * <;> omega) | (simp_all; done) | (with_reducible assumption) | skip)
    refine G_wkB2 (ns := [0, 1, 2, 3]) (fs := fun b c => [(2, .c (.ptr 0 b 0)), (4, .c (.ptr 1 c 0)), (7, int .i64 (nowI m0 s.size))]) (hs := fun b c => [.blk b 31 [.pv (i64 m0), .pv (i64 s.size), .pv (.val (.string ⟨⟨m2⟩⟩)), .pv (.lst .tbl s.t), .own 2 v, .own 3 u, .pv (.lst (.ints .i64) m6)], .blk c 31 mZ, .own v 40 .sht m4, .own u 51 .bms m5]) ?b1 ?c1 rfl ?wk0 (fun b c => rest b c v u _ rfl)
    case wk0 =>
      (repeat' apply And.intro) <;> (first | exact rfl | exact trivial | omega | refine sigEq ?_ | skip)
      all_goals first | (rw [hs]; done) | (rw [hs]; simp only [nowI, h2]; done) | (rw [hs]; rfl) | (rw [hs]; exact trivial) | skip
  · refine G_run tOk eok_sback 1 (fun _ => none) (fun bs => rfl) (fun bs => ?_) (fun bs => ?_)
    · (repeat' apply And.intro) <;> (intros; first | exact trivial | exact rfl | omega | exact u8_lo _ | exact u8_hi _ | exact u8_in64 _ | exact u8_in63 _ | (simp only [inR, IntKind.bits]; omega) | (simp [inR, IntKind.bits]; done) | (simp [inR, IntKind.bits] at * <;> omega) | (simp_all; done) | (with_reducible assumption) | skip)
    refine G_wkB2 (ns := [0, 1, 2, 3]) (fs := fun b c => [(2, .c (.ptr 0 b 0)), (4, .c (.ptr 1 c 0)), (7, int .i64 (nowI m0 s.size))]) (hs := fun b c => [.blk b 31 [.pv (i64 m0), .pv (i64 s.size), .pv (.val (.string ⟨⟨m2⟩⟩)), .pv (.lst .tbl s.t), .own 2 v, .own 3 u, .pv (.lst (.ints .i64) m6)], .blk c 31 mZ, .own v 40 .sht m4, .own u 51 .bms m5]) ?b2 ?c2 rfl ?wk3 (fun b c => rest b c v u _ rfl)
    case wk3 =>
      (repeat' apply And.intro) <;> (first | exact rfl | exact trivial | omega | refine sigEq ?_ | skip)
      all_goals first | (rw [hs]; done) | (simp only [nowI, h2]; done) | (rw [hs]; rfl) | (rw [hs]; exact trivial) | skip
def sback_s : FSpec
  | [.g [.pv (.val (.int .i64 m0)), .pv (.val (.int .i64 m1)), .pv (.val (.string ⟨⟨m2⟩⟩)), .pv (.lst .tbl m3), .pv (.lst .sht m4), .pv (.lst .bms m5), .pv (.lst (.ints .i64) m6)], .c (.pv (.val (.string ⟨⟨nm⟩⟩)))] => some ((MtaOk ⟨m0, m1, m2, m3, m4, m5, m6⟩), true, .t [.g (sbM ⟨m0, m1, m2, m3, m4, m5, m6⟩ nm).pvs, .c (i64 (sdE ⟨m0, m1, m2, m3, m4, m5, m6⟩ nm))])
  | _ => none
theorem sback_s_ok : SpecOk Try.prog 20 sback_s := by
  intro args pre sh rv h hp; unfold sback_s at h; split at h
  · cases h; have hm := hp; exact sback_fn _ _ _ _ _ _ _ _ hm
  · cases h
def psi_sback : FuncId → Option FSpec := psiCons 20 sback_s psi_msame
theorem psi_sback_ok : PsiFn Try.prog psi_sback := psiCons_ok sback_s_ok psi_msame_ok
end Go.Proofs.Ytgobmfkffhomaaa
