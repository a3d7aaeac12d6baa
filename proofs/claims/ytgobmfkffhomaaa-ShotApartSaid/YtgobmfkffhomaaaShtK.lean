import Derived.Test.YtgobmfkffhomaaaShtJ
set_option linter.unusedSimpArgs false
set_option linter.unusedVariables false
set_option maxHeartbeats 1600000
namespace Go.Proofs.Ytgobmfkffhomaaa
open Go.Mt

/-! ### right -/
def shR (m : Mta) (j : Nat) : Bool := ((nameB (m.sh.getD j LK.sht.dft).name && decide (spl m.sh (m.sh.getD j LK.sht.dft).name = j)) && szB (m.sh.getD j LK.sht.dft).size m.cl) && Tt.rightT (m.sh.getD j LK.sht.dft).t ((m.sh.getD j LK.sht.dft).size / 2 ^ m.cl.toNat) m.cl
def shRn (m : Mta) : Nat → Bool
  | 0 => true
  | k + 1 => shRn m k && shR m k
theorem shRn_false {m : Mta} {i j : Nat} (h : shRn m i = false) (hij : i ≤ j) : shRn m j = false := by
  induction j with
  | zero => have : i = 0 := by omega
            subst this; exact h
  | succ j ih =>
    by_cases hi : i = j + 1
    · subst hi; exact h
    · simp [shRn, ih (by omega)]
def lastB (l : List Span) : Bool := decide ((0 : Int) < (l.length : Int)) && decide ((4096 : Int) < (l.getD ((l.length : Int) - 1).toNat LK.spn.dft).to)
def mpR (m : Mta) (j : Nat) : Bool := ((nameB (m.mp.getD j LK.bms.dft).name && decide (plc m.mp (m.mp.getD j LK.bms.dft).name = j)) && rightB (m.mp.getD j LK.bms.dft).l) && !lastB (m.mp.getD j LK.bms.dft).l
def mpRn (m : Mta) : Nat → Bool
  | 0 => true
  | k + 1 => mpRn m k && mpR m k
theorem mpRn_false {m : Mta} {i j : Nat} (h : mpRn m i = false) (hij : i ≤ j) : mpRn m j = false := by
  induction j with
  | zero => have : i = 0 := by omega
            subst this; exact h
  | succ j ih =>
    by_cases hi : i = j + 1
    · subst hi; exact h
    · simp [mpRn, ih (by omega)]
def ctX (c : Int) : Bool := decide (c < 0) || decide (65535 < c)
def ctRn (l : List Int) : Nat → Bool
  | 0 => true
  | k + 1 => ctRn l k && !ctX (l.getD k 0)
theorem ctRn_false {l : List Int} {i j : Nat} (h : ctRn l i = false) (hij : i ≤ j) : ctRn l j = false := by
  induction j with
  | zero => have : i = 0 := by omega
            subst this; exact h
  | succ j ih =>
    by_cases hi : i = j + 1
    · subst hi; exact h
    · simp [ctRn, ih (by omega)]
def hdR (m : Mta) : Bool := (((((decide (m.cl < 0) || decide (6 < m.cl)) || !szB m.sz m.cl) || (!decide (m.bk = []) && !nameB m.bk)) || decide ((8 : Int) < (m.sh.length : Int))) || decide ((8 : Int) < (m.mp.length : Int))) || decide ((65536 : Int) < (m.ct.length : Int))
def rtM (m : Mta) : Bool := (!hdR m && Tt.rightT m.t (m.sz / 2 ^ m.cl.toNat) m.cl) && (shRn m m.sh.length && (mpRn m m.mp.length && ctRn m.ct m.ct.length))
/-- A meta of a size that is gone through. -/
structure MtaSm (m : Mta) : Prop where
  t : TlOk m.t
  sh : ShOk m.sh
  mp : BmOk m.mp
  ct : m.ct.length ≤ 1000000
  bk : m.bk.length ≤ 1000000
  sn : ∀ i, (m.sh.getD i LK.sht.dft).name.length ≤ 1000000
  bn : ∀ i, (m.mp.getD i LK.bms.dft).name.length ≤ 1000000

def env_mright : Env := ⟨T, psi_mgreat, pspNil, psc_del, 181, [], none, true⟩
theorem eok_mright : PsiOk Try.prog env_mright := ⟨psi_mgreat_ok, pspNil_ok, psc_del_ok⟩
theorem mright_fn (m0 : Int) (m1 : Int) (m2 : List UInt8) (m3 : List (List Entry)) (m4 : List Shot) (m5 : List Bitmap) (m6 : List Int) (hI : MtaSm ⟨m0, m1, m2, m3, m4, m5, m6⟩) : Ctr Try.prog 16 false [.g [.pv (.val (.int .i64 m0)), .pv (.val (.int .i64 m1)), .pv (.val (.string ⟨⟨m2⟩⟩)), .pv (.lst .tbl m3), .pv (.lst .sht m4), .pv (.lst .bms m5), .pv (.lst (.ints .i64) m6)]] (.x (.c (bv (rtM ⟨m0, m1, m2, m3, m4, m5, m6⟩)))) := by
  refine Ctr_intro (E := env_mright) Try.func16 rfl (by decide) rfl rfl (fun M0 W hM0 => ?_)
  obtain ⟨it, iS, iM, iC, ib, isn, ibn⟩ := hI
  simp only at it iS iM iC ib isn ibn
  have hSl := iS.len
  have hMl := iM.len
  have htl : m3.length ≤ 1000000000 := by have := it.len; omega
  have htf : ∀ i, (Tt.leaf m3 i).length ≤ 1000000000 := fun i => by have := it.each i; omega
  have hib : m2.length ≤ 1000000000 := by omega
  refine G_run tOk eok_mright 4 (fun _ => none) (fun bs => rfl) (fun bs => ?_) (fun bs => ?_)
  · (repeat' apply And.intro) <;> (intros; first | exact trivial | exact rfl | omega | exact u8_lo _ | exact u8_hi _ | exact u8_in64 _ | exact u8_in63 _ | (simp only [inR, IntKind.bits]; omega) | (simp [inR, IntKind.bits]; done) | (simp [inR, IntKind.bits] at * <;> omega) | (simp_all; done) | (with_reducible assumption) | skip)
  generalize hm : (⟨m0, m1, m2, m3, m4, m5, m6⟩ : Mta) = m
  have e0 : m.cl = m0 := by rw [← hm]
  have e1 : m.sz = m1 := by rw [← hm]
  have e2 : m.bk = m2 := by rw [← hm]
  have e3 : m.t = m3 := by rw [← hm]
  have e4 : m.sh = m4 := by rw [← hm]
  have e5 : m.mp = m5 := by rw [← hm]
  have e6 : m.ct = m6 := by rw [← hm]
  have hfalse : hdR m = true → rtM m = false := fun h => by simp only [rtM, h]; rfl
  have hc0 : hdR m = false → 0 ≤ m0 ∧ m0 ≤ 6 := fun h => by
    simp only [hdR, Bool.or_eq_false_iff, decide_eq_false_iff_not, e0] at h; omega
  have rest : ∀ b, hdR m = false → G Try.prog env_mright (low W.heap.size) W M0 (bpost Try.prog Try.f16 (FnPost false M0 W (RV.x (RX.c (bv (rtM m)))))) [Itm.code (els (rgt (lft (rgt (fbody Try.f16))))), Itm.code (rgt (rgt (fbody Try.f16)))] (mk [(1, .c (.ptr 0 b 0))] [.blk b 31 [.pv (i64 m0), .pv (i64 m1), .pv (.val (.string ⟨⟨m2⟩⟩)), .pv (.lst .tbl m3), .pv (.lst .sht m4), .pv (.lst .bms m5), .pv (.lst (.ints .i64) m6)]]) := by
    intro b hR
    have hc := hc0 hR
    have hM : rtM m = (Tt.rightT m3 (m1 / 2 ^ m0.toNat) m0 && (shRn m m4.length && (mpRn m m5.length && ctRn m6 m6.length))) := by
      simp only [rtM, hR, e0, e1, e3, e4, e5, e6]; rfl
    refine G_run tOk eok_mright 60 (fun _ => none) (fun bs => rfl) (fun bs => ?_) (fun bs => ?_)
    · (repeat' apply And.intro) <;> (intros; first | exact trivial | exact rfl | omega | exact u8_lo _ | exact u8_hi _ | exact u8_in64 _ | exact u8_in63 _ | (simp only [inR, IntKind.bits]; omega) | (simp [inR, IntKind.bits]; done) | (simp [inR, IntKind.bits] at * <;> omega) | (simp_all; done) | (with_reducible assumption) | skip)
    refine G_cond (b := !Tt.rightT m3 (m1 / 2 ^ m0.toNat) m0) rfl rfl (fun h => ?_) (fun h => ?_)
    · have h' : Tt.rightT m3 (m1 / 2 ^ m0.toNat) m0 = false := by simpa using h
      refine G_run tOk eok_mright 60 (fun _ => none) (fun bs => rfl) (fun bs => ?_) (fun bs => ?_)
      · (repeat' apply And.intro) <;> (intros; first | exact trivial | exact rfl | omega | exact u8_lo _ | exact u8_hi _ | exact u8_in64 _ | exact u8_in63 _ | (simp only [inR, IntKind.bits]; omega) | (simp [inR, IntKind.bits]; done) | (simp [inR, IntKind.bits] at * <;> omega) | (simp_all; done) | (with_reducible assumption) | skip)
      exact G_ret tOk hM0 rfl rfl ⟨trivial, trivial⟩ (show false = _ by rw [hM, h']; rfl)
    have h' : Tt.rightT m3 (m1 / 2 ^ m0.toNat) m0 = true := by simpa using h
    rw [h', Bool.true_and] at hM
    rw [hM]
    refine G_run tOk eok_mright 60 (fun _ => none) (fun bs => rfl) (fun bs => ?_) (fun bs => ?_)
    · (repeat' apply And.intro) <;> (intros; first | exact trivial | exact rfl | omega | exact u8_lo _ | exact u8_hi _ | exact u8_in64 _ | exact u8_in63 _ | (simp only [inR, IntKind.bits]; omega) | (simp [inR, IntKind.bits]; done) | (simp [inR, IntKind.bits] at * <;> omega) | (simp_all; done) | (with_reducible assumption) | skip)
    refine G_loop (fun i : Nat => [(1, .c (.ptr 0 b 0)), (3, int .i64 i)]) (fun i => [.blk b 31 [.pv (i64 m0), .pv (i64 m1), .pv (.val (.string ⟨⟨m2⟩⟩)), .pv (.lst .tbl m3), .pv (.lst .sht m4), .pv (.lst .bms m5), .pv (.lst (.ints .i64) m6)]]) (fun i => i ≤ m4.length ∧ shRn m i = true) (fun i => m4.length - i) rfl [0] 0 ⟨Nat.zero_le _, rfl⟩ ?wk (fun i hx => ?_)
    case wk => (repeat' apply And.intro) <;> (first | exact rfl | exact trivial | omega | refine sigEq ?_ | skip)
    obtain ⟨hx1, hx2⟩ := hx
    refine G_run tOk eok_mright 60 (fun _ => none) (fun bs => rfl) (fun bs => ?_) (fun bs => ?_)
    · (repeat' apply And.intro) <;> (intros; first | exact trivial | exact rfl | omega | exact u8_lo _ | exact u8_hi _ | exact u8_in64 _ | exact u8_in63 _ | (simp only [inR, IntKind.bits]; omega) | (simp [inR, IntKind.bits]; done) | (simp [inR, IntKind.bits] at * <;> omega) | (simp_all; done) | (with_reducible assumption) | skip)
    refine G_if rfl rfl (fun hk => ?_) (fun hk => ?_)
    · have hk' : i < m4.length := by omega
      have hTi : TlOk (m4.getD i LK.sht.dft).t := iS.get i
      have hni := isn i
      have hno : shR m i = false → (shRn m m4.length && (mpRn m m5.length && ctRn m6 m6.length)) = false := fun hh => by
        rw [shRn_false (i := i + 1) (by simp only [shRn, hh, Bool.and_false]) (by omega)]; rfl
      have hyes : shR m i = true → shRn m (i + 1) = true := fun hh => by simp only [shRn, hx2, hh, Bool.and_self]
      have hsR : shR m i = (((nameB (m4.getD i LK.sht.dft).name && decide (spl m4 (m4.getD i LK.sht.dft).name = i)) && szB (m4.getD i LK.sht.dft).size m0) && Tt.rightT (m4.getD i LK.sht.dft).t ((m4.getD i LK.sht.dft).size / 2 ^ m0.toNat) m0) := by simp only [shR, e0, e4]
      obtain ⟨sh, hsh⟩ : ∃ sh, m4.getD i LK.sht.dft = sh := ⟨_, rfl⟩
      have hsh' : m4.getD (i : Int).toNat LK.sht.dft = sh := hsh
      rw [hsh] at hTi hni hsR
      have htl' : sh.t.length ≤ 1000000000 := by have := hTi.len; omega
      have htf' : ∀ i, (Tt.leaf sh.t i).length ≤ 1000000000 := fun i => by have := hTi.each i; omega
      have hni' : sh.name.length ≤ 1000000000 := by omega
      refine G_run tOk eok_mright 6 (fun _ => none) (fun bs => rfl) (fun bs => ?_) (fun bs => ?_)
      · (repeat' apply And.intro) <;> (intros; first | exact trivial | exact rfl | omega | exact u8_lo _ | exact u8_hi _ | exact u8_in64 _ | exact u8_in63 _ | (simp only [inR, IntKind.bits]; omega) | (simp [inR, IntKind.bits]; done) | (simp [inR, IntKind.bits] at * <;> omega) | (simp_all; done) | (with_reducible assumption) | skip)
      rw [hsh']
      cases c1 : nameB sh.name with
      | false =>
        refine G_run tOk eok_mright 60 (fun j => match j with | _ => some true) (fun bs => rfl) (fun bs => ?_) (fun bs => ?_)
        · (repeat' apply And.intro) <;> (intros; first | exact trivial | exact rfl | omega | exact u8_lo _ | exact u8_hi _ | exact u8_in64 _ | exact u8_in63 _ | (simp only [inR, IntKind.bits]; omega) | (simp [inR, IntKind.bits]; done) | (simp [inR, IntKind.bits] at * <;> omega) | (simp_all; done) | (with_reducible assumption) | skip)
          all_goals first | (simp [c1]; done) | skip
        refine G_thn rfl rfl rfl ?_
        refine G_run tOk eok_mright 60 (fun _ => none) (fun bs => rfl) (fun bs => ?_) (fun bs => ?_)
        · (repeat' apply And.intro) <;> (intros; first | exact trivial | exact rfl | omega | exact u8_lo _ | exact u8_hi _ | exact u8_in64 _ | exact u8_in63 _ | (simp only [inR, IntKind.bits]; omega) | (simp [inR, IntKind.bits]; done) | (simp [inR, IntKind.bits] at * <;> omega) | (simp_all; done) | (with_reducible assumption) | skip)
        exact G_ret tOk hM0 rfl rfl ⟨trivial, trivial⟩ (show false = _ by rw [hno (by simp only [hsR, c1, Bool.false_and])])
      | true =>
      cases c2 : decide (spl m4 sh.name = (i : Int)) with
      | false =>
        have c2' : ¬ spl m4 sh.name = (i : Int) := by simpa using c2
        refine G_run tOk eok_mright 60 (fun j => match j with | 4 => some false | _ => some true) (fun bs => rfl) (fun bs => ?_) (fun bs => ?_)
        · (repeat' apply And.intro) <;> (intros; first | exact trivial | exact rfl | omega | exact u8_lo _ | exact u8_hi _ | exact u8_in64 _ | exact u8_in63 _ | (simp only [inR, IntKind.bits]; omega) | (simp [inR, IntKind.bits]; done) | (simp [inR, IntKind.bits] at * <;> omega) | (simp_all; done) | (with_reducible assumption) | skip)
          all_goals first | (simp [c1, c2']; done) | skip
        refine G_thn rfl rfl rfl ?_
        refine G_run tOk eok_mright 60 (fun _ => none) (fun bs => rfl) (fun bs => ?_) (fun bs => ?_)
        · (repeat' apply And.intro) <;> (intros; first | exact trivial | exact rfl | omega | exact u8_lo _ | exact u8_hi _ | exact u8_in64 _ | exact u8_in63 _ | (simp only [inR, IntKind.bits]; omega) | (simp [inR, IntKind.bits]; done) | (simp [inR, IntKind.bits] at * <;> omega) | (simp_all; done) | (with_reducible assumption) | skip)
        exact G_ret tOk hM0 rfl rfl ⟨trivial, trivial⟩ (show false = _ by rw [hno (by simp only [hsR, c1, c2, Bool.and_false, Bool.false_and])])
      | true =>
      have c2' : spl m4 sh.name = (i : Int) := by simpa using c2
      cases c3 : szB sh.size m0 with
      | false =>
        refine G_run tOk eok_mright 60 (fun j => match j with | 4 => some false | 12 => some false | _ => some true) (fun bs => rfl) (fun bs => ?_) (fun bs => ?_)
        · (repeat' apply And.intro) <;> (intros; first | exact trivial | exact rfl | omega | exact u8_lo _ | exact u8_hi _ | exact u8_in64 _ | exact u8_in63 _ | (simp only [inR, IntKind.bits]; omega) | (simp [inR, IntKind.bits]; done) | (simp [inR, IntKind.bits] at * <;> omega) | (simp_all; done) | (with_reducible assumption) | skip)
          all_goals first | (simp [c1, c2', c3]; done) | skip
        refine G_thn rfl rfl rfl ?_
        refine G_run tOk eok_mright 60 (fun _ => none) (fun bs => rfl) (fun bs => ?_) (fun bs => ?_)
        · (repeat' apply And.intro) <;> (intros; first | exact trivial | exact rfl | omega | exact u8_lo _ | exact u8_hi _ | exact u8_in64 _ | exact u8_in63 _ | (simp only [inR, IntKind.bits]; omega) | (simp [inR, IntKind.bits]; done) | (simp [inR, IntKind.bits] at * <;> omega) | (simp_all; done) | (with_reducible assumption) | skip)
        exact G_ret tOk hM0 rfl rfl ⟨trivial, trivial⟩ (show false = _ by rw [hno (by simp only [hsR, c3, Bool.and_false, Bool.false_and])])
      | true =>
      cases c4 : Tt.rightT sh.t (sh.size / 2 ^ m0.toNat) m0 with
      | false =>
        refine G_run tOk eok_mright 60 (fun j => match j with | _ => some false) (fun bs => rfl) (fun bs => ?_) (fun bs => ?_)
        · (repeat' apply And.intro) <;> (intros; first | exact trivial | exact rfl | omega | exact u8_lo _ | exact u8_hi _ | exact u8_in64 _ | exact u8_in63 _ | (simp only [inR, IntKind.bits]; omega) | (simp [inR, IntKind.bits]; done) | (simp [inR, IntKind.bits] at * <;> omega) | (simp_all; done) | (with_reducible assumption) | skip)
          all_goals first | (simp [c1, c2', c3]; done) | skip
        refine G_thn rfl rfl ?hb4 ?_
        case hb4 => simp [c4]
        refine G_run tOk eok_mright 60 (fun _ => none) (fun bs => rfl) (fun bs => ?_) (fun bs => ?_)
        · (repeat' apply And.intro) <;> (intros; first | exact trivial | exact rfl | omega | exact u8_lo _ | exact u8_hi _ | exact u8_in64 _ | exact u8_in63 _ | (simp only [inR, IntKind.bits]; omega) | (simp [inR, IntKind.bits]; done) | (simp [inR, IntKind.bits] at * <;> omega) | (simp_all; done) | (with_reducible assumption) | skip)
        exact G_ret tOk hM0 rfl rfl ⟨trivial, trivial⟩ (show false = _ by rw [hno (by simp only [hsR, c4, Bool.and_false])])
      | true =>
        refine G_run tOk eok_mright 60 (fun j => match j with | _ => some false) (fun bs => rfl) (fun bs => ?_) (fun bs => ?_)
        · (repeat' apply And.intro) <;> (intros; first | exact trivial | exact rfl | omega | exact u8_lo _ | exact u8_hi _ | exact u8_in64 _ | exact u8_in63 _ | (simp only [inR, IntKind.bits]; omega) | (simp [inR, IntKind.bits]; done) | (simp [inR, IntKind.bits] at * <;> omega) | (simp_all; done) | (with_reducible assumption) | skip)
          all_goals first | (simp [c1, c2', c3]; done) | skip
        refine G_els rfl rfl ?hb5 ?_
        case hb5 => simp [c1, c2', c3, c4]
        refine G_run tOk eok_mright 60 (fun _ => none) (fun bs => rfl) (fun bs => ?_) (fun bs => ?_)
        · (repeat' apply And.intro) <;> (intros; first | exact trivial | exact rfl | omega | exact u8_lo _ | exact u8_hi _ | exact u8_in64 _ | exact u8_in63 _ | (simp only [inR, IntKind.bits]; omega) | (simp [inR, IntKind.bits]; done) | (simp [inR, IntKind.bits] at * <;> omega) | (simp_all; done) | (with_reducible assumption) | skip)
        refine G_lp [0] (i + 1) ?ok ?wk1
        case ok => exact ⟨⟨hk', hyes (by simp only [hsR, c1, c2, c3, c4]; rfl)⟩, by omega⟩
        case wk1 => (repeat' apply And.intro) <;> (first | exact rfl | exact trivial | omega | refine sigEq ?_ | skip)
    have hk' : i = m4.length := by omega
    subst hk'
    rw [hx2, Bool.true_and]
    refine G_run tOk eok_mright 60 (fun _ => none) (fun bs => rfl) (fun bs => ?_) (fun bs => ?_)
    · (repeat' apply And.intro) <;> (intros; first | exact trivial | exact rfl | omega | exact u8_lo _ | exact u8_hi _ | exact u8_in64 _ | exact u8_in63 _ | (simp only [inR, IntKind.bits]; omega) | (simp [inR, IntKind.bits]; done) | (simp [inR, IntKind.bits] at * <;> omega) | (simp_all; done) | (with_reducible assumption) | skip)
    refine G_loop (fun i : Nat => [(1, .c (.ptr 0 b 0)), (5, int .i64 i)]) (fun i => [.blk b 31 [.pv (i64 m0), .pv (i64 m1), .pv (.val (.string ⟨⟨m2⟩⟩)), .pv (.lst .tbl m3), .pv (.lst .sht m4), .pv (.lst .bms m5), .pv (.lst (.ints .i64) m6)]]) (fun i => i ≤ m5.length ∧ mpRn m i = true) (fun i => m5.length - i) rfl [0] 0 ⟨Nat.zero_le _, rfl⟩ ?wk2 (fun i hx => ?_)
    case wk2 => (repeat' apply And.intro) <;> (first | exact rfl | exact trivial | omega | refine sigEq ?_ | skip)
    obtain ⟨hy1, hy2⟩ := hx
    refine G_run tOk eok_mright 60 (fun _ => none) (fun bs => rfl) (fun bs => ?_) (fun bs => ?_)
    · (repeat' apply And.intro) <;> (intros; first | exact trivial | exact rfl | omega | exact u8_lo _ | exact u8_hi _ | exact u8_in64 _ | exact u8_in63 _ | (simp only [inR, IntKind.bits]; omega) | (simp [inR, IntKind.bits]; done) | (simp [inR, IntKind.bits] at * <;> omega) | (simp_all; done) | (with_reducible assumption) | skip)
    refine G_if rfl rfl (fun hk => ?_) (fun hk => ?_)
    · have hk' : i < m5.length := by omega
      have hBi : (m5.getD i LK.bms.dft).l.length ≤ 100000 := iM.get i
      have hni := ibn i
      have hno : mpR m i = false → (mpRn m m5.length && ctRn m6 m6.length) = false := fun hh => by
        rw [mpRn_false (i := i + 1) (by simp only [mpRn, hh, Bool.and_false]) (by omega)]; rfl
      have hyes : mpR m i = true → mpRn m (i + 1) = true := fun hh => by simp only [mpRn, hy2, hh, Bool.and_self]
      have hsR : mpR m i = (((nameB (m5.getD i LK.bms.dft).name && decide (plc m5 (m5.getD i LK.bms.dft).name = i)) && rightB (m5.getD i LK.bms.dft).l) && !lastB (m5.getD i LK.bms.dft).l) := by simp only [mpR, e5]
      obtain ⟨sh, hsh⟩ : ∃ sh, m5.getD i LK.bms.dft = sh := ⟨_, rfl⟩
      have hsh' : m5.getD (i : Int).toNat LK.bms.dft = sh := hsh
      rw [hsh] at hBi hni hsR
      have hni' : sh.name.length ≤ 1000000000 := by omega
      have hBi' : sh.l.length ≤ 1000000 := by omega
      refine G_run tOk eok_mright 6 (fun _ => none) (fun bs => rfl) (fun bs => ?_) (fun bs => ?_)
      · (repeat' apply And.intro) <;> (intros; first | exact trivial | exact rfl | omega | exact u8_lo _ | exact u8_hi _ | exact u8_in64 _ | exact u8_in63 _ | (simp only [inR, IntKind.bits]; omega) | (simp [inR, IntKind.bits]; done) | (simp [inR, IntKind.bits] at * <;> omega) | (simp_all; done) | (with_reducible assumption) | skip)
      rw [hsh']
      cases c1 : nameB sh.name with
      | false =>
        refine G_run tOk eok_mright 60 (fun j => match j with | _ => some true) (fun bs => rfl) (fun bs => ?_) (fun bs => ?_)
        · (repeat' apply And.intro) <;> (intros; first | exact trivial | exact rfl | omega | exact u8_lo _ | exact u8_hi _ | exact u8_in64 _ | exact u8_in63 _ | (simp only [inR, IntKind.bits]; omega) | (simp [inR, IntKind.bits]; done) | (simp [inR, IntKind.bits] at * <;> omega) | (simp_all; done) | (with_reducible assumption) | skip)
          all_goals first | (simp [c1]; done) | skip
        refine G_thn rfl rfl rfl ?_
        refine G_run tOk eok_mright 60 (fun _ => none) (fun bs => rfl) (fun bs => ?_) (fun bs => ?_)
        · (repeat' apply And.intro) <;> (intros; first | exact trivial | exact rfl | omega | exact u8_lo _ | exact u8_hi _ | exact u8_in64 _ | exact u8_in63 _ | (simp only [inR, IntKind.bits]; omega) | (simp [inR, IntKind.bits]; done) | (simp [inR, IntKind.bits] at * <;> omega) | (simp_all; done) | (with_reducible assumption) | skip)
        exact G_ret tOk hM0 rfl rfl ⟨trivial, trivial⟩ (show false = _ by rw [hno (by simp only [hsR, c1, Bool.false_and])])
      | true =>
      cases c2 : decide (plc m5 sh.name = (i : Int)) with
      | false =>
        have c2' : ¬ plc m5 sh.name = (i : Int) := by simpa using c2
        refine G_run tOk eok_mright 60 (fun j => match j with | 4 => some false | _ => some true) (fun bs => rfl) (fun bs => ?_) (fun bs => ?_)
        · (repeat' apply And.intro) <;> (intros; first | exact trivial | exact rfl | omega | exact u8_lo _ | exact u8_hi _ | exact u8_in64 _ | exact u8_in63 _ | (simp only [inR, IntKind.bits]; omega) | (simp [inR, IntKind.bits]; done) | (simp [inR, IntKind.bits] at * <;> omega) | (simp_all; done) | (with_reducible assumption) | skip)
          all_goals first | (simp [c1, c2']; done) | skip
        refine G_thn rfl rfl rfl ?_
        refine G_run tOk eok_mright 60 (fun _ => none) (fun bs => rfl) (fun bs => ?_) (fun bs => ?_)
        · (repeat' apply And.intro) <;> (intros; first | exact trivial | exact rfl | omega | exact u8_lo _ | exact u8_hi _ | exact u8_in64 _ | exact u8_in63 _ | (simp only [inR, IntKind.bits]; omega) | (simp [inR, IntKind.bits]; done) | (simp [inR, IntKind.bits] at * <;> omega) | (simp_all; done) | (with_reducible assumption) | skip)
        exact G_ret tOk hM0 rfl rfl ⟨trivial, trivial⟩ (show false = _ by rw [hno (by simp only [hsR, c1, c2, Bool.and_false, Bool.false_and])])
      | true =>
      have c2' : plc m5 sh.name = (i : Int) := by simpa using c2
      cases c3 : rightB sh.l with
      | false =>
        refine G_run tOk eok_mright 60 (fun j => match j with | 4 => some false | 13 => some false | _ => some true) (fun bs => rfl) (fun bs => ?_) (fun bs => ?_)
        · (repeat' apply And.intro) <;> (intros; first | exact trivial | exact rfl | omega | exact u8_lo _ | exact u8_hi _ | exact u8_in64 _ | exact u8_in63 _ | (simp only [inR, IntKind.bits]; omega) | (simp [inR, IntKind.bits]; done) | (simp [inR, IntKind.bits] at * <;> omega) | (simp_all; done) | (with_reducible assumption) | skip)
          all_goals first | (simp [c1, c2', c3]; done) | skip
        refine G_thn rfl rfl rfl ?_
        refine G_run tOk eok_mright 60 (fun _ => none) (fun bs => rfl) (fun bs => ?_) (fun bs => ?_)
        · (repeat' apply And.intro) <;> (intros; first | exact trivial | exact rfl | omega | exact u8_lo _ | exact u8_hi _ | exact u8_in64 _ | exact u8_in63 _ | (simp only [inR, IntKind.bits]; omega) | (simp [inR, IntKind.bits]; done) | (simp [inR, IntKind.bits] at * <;> omega) | (simp_all; done) | (with_reducible assumption) | skip)
        exact G_ret tOk hM0 rfl rfl ⟨trivial, trivial⟩ (show false = _ by rw [hno (by simp only [hsR, c3, Bool.and_false, Bool.false_and])])
      | true =>
      refine G_run tOk eok_mright 60 (fun j => match j with | 24 => none | _ => some false) (fun bs => rfl) (fun bs => ?_) (fun bs => ?_)
      · (repeat' apply And.intro) <;> (intros; first | exact trivial | exact rfl | omega | exact u8_lo _ | exact u8_hi _ | exact u8_in64 _ | exact u8_in63 _ | (simp only [inR, IntKind.bits]; omega) | (simp [inR, IntKind.bits]; done) | (simp [inR, IntKind.bits] at * <;> omega) | (simp_all; done) | (with_reducible assumption) | skip)
        all_goals first | (simp [c1, c2', c3]; done) | skip
      refine G_cond (b := ((!nameB sh.name || !decide (plc m5 sh.name = (i : Int))) || !rightB sh.l) || lastB sh.l) rfl rfl (fun h => ?_) (fun h => ?_)
      · have h : lastB sh.l = true := by simpa only [c1, c2, c3, Bool.not_true, Bool.false_or] using h
        refine G_run tOk eok_mright 60 (fun _ => none) (fun bs => rfl) (fun bs => ?_) (fun bs => ?_)
        · (repeat' apply And.intro) <;> (intros; first | exact trivial | exact rfl | omega | exact u8_lo _ | exact u8_hi _ | exact u8_in64 _ | exact u8_in63 _ | (simp only [inR, IntKind.bits]; omega) | (simp [inR, IntKind.bits]; done) | (simp [inR, IntKind.bits] at * <;> omega) | (simp_all; done) | (with_reducible assumption) | skip)
        exact G_ret tOk hM0 rfl rfl ⟨trivial, trivial⟩ (show false = _ by rw [hno (by simp only [hsR, h, Bool.not_true, Bool.and_false])])
      · have h : lastB sh.l = false := by simpa only [c1, c2, c3, Bool.not_true, Bool.false_or] using h
        refine G_run tOk eok_mright 60 (fun _ => none) (fun bs => rfl) (fun bs => ?_) (fun bs => ?_)
        · (repeat' apply And.intro) <;> (intros; first | exact trivial | exact rfl | omega | exact u8_lo _ | exact u8_hi _ | exact u8_in64 _ | exact u8_in63 _ | (simp only [inR, IntKind.bits]; omega) | (simp [inR, IntKind.bits]; done) | (simp [inR, IntKind.bits] at * <;> omega) | (simp_all; done) | (with_reducible assumption) | skip)
        refine G_lp [0] (i + 1) ?ok2 ?wk3
        case ok2 => exact ⟨⟨hk', hyes (by simp only [hsR, c1, c2, c3, h]; rfl)⟩, by omega⟩
        case wk3 => (repeat' apply And.intro) <;> (first | exact rfl | exact trivial | omega | refine sigEq ?_ | skip)
    have hk' : i = m5.length := by omega
    subst hk'
    rw [hy2, Bool.true_and]
    refine G_run tOk eok_mright 60 (fun _ => none) (fun bs => rfl) (fun bs => ?_) (fun bs => ?_)
    · (repeat' apply And.intro) <;> (intros; first | exact trivial | exact rfl | omega | exact u8_lo _ | exact u8_hi _ | exact u8_in64 _ | exact u8_in63 _ | (simp only [inR, IntKind.bits]; omega) | (simp [inR, IntKind.bits]; done) | (simp [inR, IntKind.bits] at * <;> omega) | (simp_all; done) | (with_reducible assumption) | skip)
    refine G_loop (fun i : Nat => [(1, .c (.ptr 0 b 0)), (7, int .i64 i)]) (fun i => [.blk b 31 [.pv (i64 m0), .pv (i64 m1), .pv (.val (.string ⟨⟨m2⟩⟩)), .pv (.lst .tbl m3), .pv (.lst .sht m4), .pv (.lst .bms m5), .pv (.lst (.ints .i64) m6)]]) (fun i => i ≤ m6.length ∧ ctRn m6 i = true) (fun i => m6.length - i) rfl [0] 0 ⟨Nat.zero_le _, rfl⟩ ?wk4 (fun i hx => ?_)
    case wk4 => (repeat' apply And.intro) <;> (first | exact rfl | exact trivial | omega | refine sigEq ?_ | skip)
    obtain ⟨hz1, hz2⟩ := hx
    refine G_run tOk eok_mright 60 (fun _ => none) (fun bs => rfl) (fun bs => ?_) (fun bs => ?_)
    · (repeat' apply And.intro) <;> (intros; first | exact trivial | exact rfl | omega | exact u8_lo _ | exact u8_hi _ | exact u8_in64 _ | exact u8_in63 _ | (simp only [inR, IntKind.bits]; omega) | (simp [inR, IntKind.bits]; done) | (simp [inR, IntKind.bits] at * <;> omega) | (simp_all; done) | (with_reducible assumption) | skip)
    refine G_if rfl rfl (fun hk => ?_) (fun hk => ?_)
    · have hk' : i < m6.length := by omega
      refine G_run tOk eok_mright 60 (fun _ => none) (fun bs => rfl) (fun bs => ?_) (fun bs => ?_)
      · (repeat' apply And.intro) <;> (intros; first | exact trivial | exact rfl | omega | exact u8_lo _ | exact u8_hi _ | exact u8_in64 _ | exact u8_in63 _ | (simp only [inR, IntKind.bits]; omega) | (simp [inR, IntKind.bits]; done) | (simp [inR, IntKind.bits] at * <;> omega) | (simp_all; done) | (with_reducible assumption) | skip)
      refine G_cond (b := ctX (m6.getD i 0)) rfl rfl (fun h => ?_) (fun h => ?_)
      · have h1 : ctRn m6 m6.length = false := ctRn_false (i := i + 1) (by simp only [ctRn, h, Bool.not_true, Bool.and_false]) (by omega)
        refine G_run tOk eok_mright 60 (fun _ => none) (fun bs => rfl) (fun bs => ?_) (fun bs => ?_)
        · (repeat' apply And.intro) <;> (intros; first | exact trivial | exact rfl | omega | exact u8_lo _ | exact u8_hi _ | exact u8_in64 _ | exact u8_in63 _ | (simp only [inR, IntKind.bits]; omega) | (simp [inR, IntKind.bits]; done) | (simp [inR, IntKind.bits] at * <;> omega) | (simp_all; done) | (with_reducible assumption) | skip)
        exact G_ret tOk hM0 rfl rfl ⟨trivial, trivial⟩ (show false = _ by rw [h1])
      · refine G_run tOk eok_mright 60 (fun _ => none) (fun bs => rfl) (fun bs => ?_) (fun bs => ?_)
        · (repeat' apply And.intro) <;> (intros; first | exact trivial | exact rfl | omega | exact u8_lo _ | exact u8_hi _ | exact u8_in64 _ | exact u8_in63 _ | (simp only [inR, IntKind.bits]; omega) | (simp [inR, IntKind.bits]; done) | (simp [inR, IntKind.bits] at * <;> omega) | (simp_all; done) | (with_reducible assumption) | skip)
        refine G_lp [0] (i + 1) ?ok3 ?wk5
        case ok3 => exact ⟨⟨hk', by simp only [ctRn, hz2, h]; rfl⟩, by omega⟩
        case wk5 => (repeat' apply And.intro) <;> (first | exact rfl | exact trivial | omega | refine sigEq ?_ | skip)
    · have hk' : i = m6.length := by omega
      subst hk'
      refine G_run tOk eok_mright 60 (fun _ => none) (fun bs => rfl) (fun bs => ?_) (fun bs => ?_)
      · (repeat' apply And.intro) <;> (intros; first | exact trivial | exact rfl | omega | exact u8_lo _ | exact u8_hi _ | exact u8_in64 _ | exact u8_in63 _ | (simp only [inR, IntKind.bits]; omega) | (simp [inR, IntKind.bits]; done) | (simp [inR, IntKind.bits] at * <;> omega) | (simp_all; done) | (with_reducible assumption) | skip)
      exact G_ret tOk hM0 rfl rfl ⟨trivial, trivial⟩ (show true = _ by rw [hz2])
  cases hA : decide (m0 < 0) || decide (6 < m0) with
  | true =>
    refine G_run tOk eok_mright 60 (fun j => match j with | 3 => none | _ => some true) (fun bs => rfl) (fun bs => ?_) (fun bs => ?_)
    · (repeat' apply And.intro) <;> (intros; first | exact trivial | exact rfl | omega | exact u8_lo _ | exact u8_hi _ | exact u8_in64 _ | exact u8_in63 _ | (simp only [inR, IntKind.bits]; omega) | (simp [inR, IntKind.bits]; done) | (simp [inR, IntKind.bits] at * <;> omega) | (simp_all; done) | (with_reducible assumption) | skip)
      all_goals first | exact hA | (simp at hA; simp; omega) | skip
    refine G_thn rfl rfl rfl ?_
    refine G_run tOk eok_mright 60 (fun _ => none) (fun bs => rfl) (fun bs => ?_) (fun bs => ?_)
    · (repeat' apply And.intro) <;> (intros; first | exact trivial | exact rfl | omega | exact u8_lo _ | exact u8_hi _ | exact u8_in64 _ | exact u8_in63 _ | (simp only [inR, IntKind.bits]; omega) | (simp [inR, IntKind.bits]; done) | (simp [inR, IntKind.bits] at * <;> omega) | (simp_all; done) | (with_reducible assumption) | skip)
    exact G_ret tOk hM0 rfl rfl ⟨trivial, trivial⟩ (hfalse (by simp only [hdR, e0, hA, Bool.true_or])).symm
  | false =>
  have hc : 0 ≤ m0 ∧ m0 ≤ 6 := by simp at hA; omega
  cases hB : szB m1 m0 with
  | false =>
    refine G_run tOk eok_mright 60 (fun j => match j with | 3 => none | 8 => some false | _ => some true) (fun bs => rfl) (fun bs => ?_) (fun bs => ?_)
    · (repeat' apply And.intro) <;> (intros; first | exact trivial | exact rfl | omega | exact u8_lo _ | exact u8_hi _ | exact u8_in64 _ | exact u8_in63 _ | (simp only [inR, IntKind.bits]; omega) | (simp [inR, IntKind.bits]; done) | (simp [inR, IntKind.bits] at * <;> omega) | (simp_all; done) | (with_reducible assumption) | skip)
      all_goals first | exact hA | (simp at hA; simp; omega) | (simp [hB]; done) | skip
    refine G_thn rfl rfl rfl ?_
    refine G_run tOk eok_mright 60 (fun _ => none) (fun bs => rfl) (fun bs => ?_) (fun bs => ?_)
    · (repeat' apply And.intro) <;> (intros; first | exact trivial | exact rfl | omega | exact u8_lo _ | exact u8_hi _ | exact u8_in64 _ | exact u8_in63 _ | (simp only [inR, IntKind.bits]; omega) | (simp [inR, IntKind.bits]; done) | (simp [inR, IntKind.bits] at * <;> omega) | (simp_all; done) | (with_reducible assumption) | skip)
    exact G_ret tOk hM0 rfl rfl ⟨trivial, trivial⟩ (hfalse (by simp only [hdR, e0, e1, hA, hB]; rfl)).symm
  | true =>
  cases hC : decide (m2 = []) with
  | true =>
    refine G_run tOk eok_mright 60 (fun j => match j with | 3 => none | 8 => some false | 16 => some false | 20 => some false | _ => none) (fun bs => rfl) (fun bs => ?_) (fun bs => ?_)
    · (repeat' apply And.intro) <;> (intros; first | exact trivial | exact rfl | omega | exact u8_lo _ | exact u8_hi _ | exact u8_in64 _ | exact u8_in63 _ | (simp only [inR, IntKind.bits]; omega) | (simp [inR, IntKind.bits]; done) | (simp [inR, IntKind.bits] at * <;> omega) | (simp_all; done) | (with_reducible assumption) | skip)
      all_goals first | exact hA | (simp at hA; simp; omega) | (simp [hB]; done) | (simp [hC]; done) | skip
    have hE : hdR m = (decide (m0 < 0) || decide (6 < m0) || !szB m1 m0 || false || decide ((8 : Int) < (m4.length : Int)) || decide ((8 : Int) < (m5.length : Int)) || decide ((65536 : Int) < (m6.length : Int))) := by
      simp only [hdR, e0, e1, e2, e4, e5, e6, hC]; rfl
    refine G_cond rfl rfl (fun h2 => ?_) (fun h2 => ?_)
    · refine G_run tOk eok_mright 60 (fun _ => none) (fun bs => rfl) (fun bs => ?_) (fun bs => ?_)
      · (repeat' apply And.intro) <;> (intros; first | exact trivial | exact rfl | omega | exact u8_lo _ | exact u8_hi _ | exact u8_in64 _ | exact u8_in63 _ | (simp only [inR, IntKind.bits]; omega) | (simp [inR, IntKind.bits]; done) | (simp [inR, IntKind.bits] at * <;> omega) | (simp_all; done) | (with_reducible assumption) | skip)
      exact G_ret tOk hM0 rfl rfl ⟨trivial, trivial⟩ (hfalse (hE.trans h2)).symm
    have hR : hdR m = false := hE.trans h2
    refine G_wkB (ns := [0]) (fs := fun b => [(1, .c (.ptr 0 b 0))]) (hs := fun b => [.blk b 31 [.pv (i64 m0), .pv (i64 m1), .pv (.val (.string ⟨⟨m2⟩⟩)), .pv (.lst .tbl m3), .pv (.lst .sht m4), .pv (.lst .bms m5), .pv (.lst (.ints .i64) m6)]]) ?b1 rfl ?wk0 (fun b => ?_)
    case wk0 => (repeat' apply And.intro) <;> (first | exact rfl | exact trivial | omega | refine sigEq ?_ | skip)
    clear h2 hE hC
    exact rest b hR
  | false =>
    refine G_run tOk eok_mright 60 (fun j => match j with | 3 => none | 8 => some false | 16 => some false | 20 => some true | _ => none) (fun bs => rfl) (fun bs => ?_) (fun bs => ?_)
    · (repeat' apply And.intro) <;> (intros; first | exact trivial | exact rfl | omega | exact u8_lo _ | exact u8_hi _ | exact u8_in64 _ | exact u8_in63 _ | (simp only [inR, IntKind.bits]; omega) | (simp [inR, IntKind.bits]; done) | (simp [inR, IntKind.bits] at * <;> omega) | (simp_all; done) | (with_reducible assumption) | skip)
      all_goals first | exact hA | (simp at hA; simp; omega) | (simp [hB]; done) | (simp [hC]; done) | skip
    have hE : hdR m = (decide (m0 < 0) || decide (6 < m0) || !szB m1 m0 || !decide (m2 = []) && !nameB m2 || decide ((8 : Int) < (m4.length : Int)) || decide ((8 : Int) < (m5.length : Int)) || decide ((65536 : Int) < (m6.length : Int))) := by
      simp only [hdR, e0, e1, e2, e4, e5, e6]
    refine G_cond rfl rfl (fun h2 => ?_) (fun h2 => ?_)
    · refine G_run tOk eok_mright 60 (fun _ => none) (fun bs => rfl) (fun bs => ?_) (fun bs => ?_)
      · (repeat' apply And.intro) <;> (intros; first | exact trivial | exact rfl | omega | exact u8_lo _ | exact u8_hi _ | exact u8_in64 _ | exact u8_in63 _ | (simp only [inR, IntKind.bits]; omega) | (simp [inR, IntKind.bits]; done) | (simp [inR, IntKind.bits] at * <;> omega) | (simp_all; done) | (with_reducible assumption) | skip)
      exact G_ret tOk hM0 rfl rfl ⟨trivial, trivial⟩ (hfalse (hE.trans h2)).symm
    have hR : hdR m = false := hE.trans h2
    refine G_wkB (ns := [0]) (fs := fun b => [(1, .c (.ptr 0 b 0))]) (hs := fun b => [.blk b 31 [.pv (i64 m0), .pv (i64 m1), .pv (.val (.string ⟨⟨m2⟩⟩)), .pv (.lst .tbl m3), .pv (.lst .sht m4), .pv (.lst .bms m5), .pv (.lst (.ints .i64) m6)]]) ?b2 rfl ?wk1 (fun b => ?_)
    case wk1 => (repeat' apply And.intro) <;> (first | exact rfl | exact trivial | omega | refine sigEq ?_ | skip)
    exact rest b hR
def mright_s : FSpec
  | [.g [.pv (.val (.int .i64 m0)), .pv (.val (.int .i64 m1)), .pv (.val (.string ⟨⟨m2⟩⟩)), .pv (.lst .tbl m3), .pv (.lst .sht m4), .pv (.lst .bms m5), .pv (.lst (.ints .i64) m6)]] => some ((MtaSm ⟨m0, m1, m2, m3, m4, m5, m6⟩), false, .x (.c (bv (rtM ⟨m0, m1, m2, m3, m4, m5, m6⟩))))
  | _ => none
theorem mright_s_ok : SpecOk Try.prog 16 mright_s := by
  intro args pre sh rv h hp; unfold mright_s at h; split at h
  · cases h; have hI := hp; exact mright_fn _ _ _ _ _ _ _ hI
  · cases h
def psi_mright : FuncId → Option FSpec := psiCons 16 mright_s psi_mgreat
theorem psi_mright_ok : PsiFn Try.prog psi_mright := psiCons_ok mright_s_ok psi_mgreat_ok
end Go.Proofs.Ytgobmfkffhomaaa
