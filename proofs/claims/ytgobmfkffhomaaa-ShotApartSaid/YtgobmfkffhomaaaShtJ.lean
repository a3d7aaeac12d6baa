import Derived.Test.YtgobmfkffhomaaaShtM
set_option linter.unusedSimpArgs false
set_option linter.unusedVariables false
namespace Go.Proofs.Ytgobmfkffhomaaa
open Go.Mt

def env_rshot : Env := ⟨T, psi_fmany, pspNil, psc_del, 22, [], none, true⟩
theorem eok_rshot : PsiOk Try.prog env_rshot := ⟨psi_fmany_ok, pspNil_ok, psc_del_ok⟩
theorem rshot_fn (m0 : Int) (m1 : Int) (m2 : List UInt8) (m3 : List (List Entry)) (m4 : List Shot) (m5 : List Bitmap) (m6 : List Int) (nm : List UInt8) (hl : m4.length ≤ 1000000) : Ctr Try.prog 33 false [.g [.pv (.val (.int .i64 m0)), .pv (.val (.int .i64 m1)), .pv (.val (.string ⟨⟨m2⟩⟩)), .pv (.lst .tbl m3), .pv (.lst .sht m4), .pv (.lst .bms m5), .pv (.lst (.ints .i64) m6)], str nm] (.x (.c (i64 (spl m4 nm)))) := by
  refine Ctr_intro (E := env_rshot) Try.func33 rfl (by decide) rfl rfl (fun M0 W hM0 => ?_)
  refine G_run tOk eok_rshot 60 (fun _ => none) (fun bs => rfl) (fun bs => ?_) (fun bs => ?_)
  · (repeat' apply And.intro) <;> (intros; first | exact trivial | exact rfl | omega | exact u8_lo _ | exact u8_hi _ | exact u8_in64 _ | exact u8_in63 _ | (simp only [inR, IntKind.bits]; omega) | (simp [inR, IntKind.bits]; done) | (simp [inR, IntKind.bits] at * <;> omega) | (simp_all; done) | (with_reducible assumption) | skip)
  generalize (bs 0 0).bn = b
  refine G_loop (fun i : Nat => [(1, str nm), (2, .c (.ptr 0 b 0)), (5, int .i64 i)]) (fun i => [.blk b 31 [.pv (i64 m0), .pv (i64 m1), .pv (.val (.string ⟨⟨m2⟩⟩)), .pv (.lst .tbl m3), .pv (.lst .sht m4), .pv (.lst .bms m5), .pv (.lst (.ints .i64) m6)]]) (fun i => i ≤ m4.length ∧ ixP (isS nm) LK.sht.dft m4 i = -1) (fun i => m4.length - i) rfl [0] 0 ⟨Nat.zero_le _, rfl⟩ ?wk (fun i hx => ?_)
  case wk => (repeat' apply And.intro) <;> (first | exact rfl | exact trivial | omega | refine sigEq ?_ | skip)
  obtain ⟨hx1, hx2⟩ := hx
  refine G_run tOk eok_rshot 60 (fun _ => none) (fun bs => rfl) (fun bs => ?_) (fun bs => ?_)
  · (repeat' apply And.intro) <;> (intros; first | exact trivial | exact rfl | omega | exact u8_lo _ | exact u8_hi _ | exact u8_in64 _ | exact u8_in63 _ | (simp only [inR, IntKind.bits]; omega) | (simp [inR, IntKind.bits]; done) | (simp [inR, IntKind.bits] at * <;> omega) | (simp_all; done) | (with_reducible assumption) | skip)
  refine G_if rfl rfl (fun hk => ?_) (fun hk => ?_)
  · have hk' : i < m4.length := by omega
    refine G_run tOk eok_rshot 60 (fun _ => none) (fun bs => rfl) (fun bs => ?_) (fun bs => ?_)
    · (repeat' apply And.intro) <;> (intros; first | exact trivial | exact rfl | omega | exact u8_lo _ | exact u8_hi _ | exact u8_in64 _ | exact u8_in63 _ | (simp only [inR, IntKind.bits]; omega) | (simp [inR, IntKind.bits]; done) | (simp [inR, IntKind.bits] at * <;> omega) | (simp_all; done) | (with_reducible assumption) | skip)
    refine G_cond (b := isS nm (m4.getD i LK.sht.dft)) rfl rfl (fun h => ?_) (fun h => ?_)
    · have h1 : ixP (isS nm) LK.sht.dft m4 (i + 1) = i := by simp only [ixP, hx2, h]; rfl
      have h2 : spl m4 nm = i := by unfold spl; rw [ixP_keep (i := i + 1) (by omega) (by omega), h1]
      refine G_run tOk eok_rshot 60 (fun _ => none) (fun bs => rfl) (fun bs => ?_) (fun bs => ?_)
      · (repeat' apply And.intro) <;> (intros; first | exact trivial | exact rfl | omega | exact u8_lo _ | exact u8_hi _ | exact u8_in64 _ | exact u8_in63 _ | (simp only [inR, IntKind.bits]; omega) | (simp [inR, IntKind.bits]; done) | (simp [inR, IntKind.bits] at * <;> omega) | (simp_all; done) | (with_reducible assumption) | skip)
      exact G_ret tOk hM0 rfl rfl ⟨trivial, trivial⟩ ⟨rfl, h2.symm⟩
    · have h1 : ixP (isS nm) LK.sht.dft m4 (i + 1) = -1 := by simp only [ixP, hx2, h]; rfl
      refine G_run tOk eok_rshot 60 (fun _ => none) (fun bs => rfl) (fun bs => ?_) (fun bs => ?_)
      · (repeat' apply And.intro) <;> (intros; first | exact trivial | exact rfl | omega | exact u8_lo _ | exact u8_hi _ | exact u8_in64 _ | exact u8_in63 _ | (simp only [inR, IntKind.bits]; omega) | (simp [inR, IntKind.bits]; done) | (simp [inR, IntKind.bits] at * <;> omega) | (simp_all; done) | (with_reducible assumption) | skip)
      refine G_lp [0] (i + 1) ?ok ?wk1
      case ok => exact ⟨⟨hk', h1⟩, by omega⟩
      case wk1 => (repeat' apply And.intro) <;> (first | exact rfl | exact trivial | omega | refine sigEq ?_ | skip)
  · have hk' : i = m4.length := by omega
    subst hk'
    refine G_run tOk eok_rshot 60 (fun _ => none) (fun bs => rfl) (fun bs => ?_) (fun bs => ?_)
    · (repeat' apply And.intro) <;> (intros; first | exact trivial | exact rfl | omega | exact u8_lo _ | exact u8_hi _ | exact u8_in64 _ | exact u8_in63 _ | (simp only [inR, IntKind.bits]; omega) | (simp [inR, IntKind.bits]; done) | (simp [inR, IntKind.bits] at * <;> omega) | (simp_all; done) | (with_reducible assumption) | skip)
    exact G_ret tOk hM0 rfl rfl ⟨trivial, trivial⟩ ⟨rfl, hx2.symm⟩

def rshot_s : FSpec
  | [.g [.pv (.val (.int .i64 m0)), .pv (.val (.int .i64 m1)), .pv (.val (.string ⟨⟨m2⟩⟩)), .pv (.lst .tbl m3), .pv (.lst .sht m4), .pv (.lst .bms m5), .pv (.lst (.ints .i64) m6)], .c (.pv (.val (.string ⟨⟨nm⟩⟩)))] => some ((m4.length ≤ 1000000), false, .x (.c (i64 (spl m4 nm))))
  | _ => none
theorem rshot_s_ok : SpecOk Try.prog 33 rshot_s := by
  intro args pre sh rv h hp; unfold rshot_s at h; split at h
  · cases h; have hl := hp; exact rshot_fn _ _ _ _ _ _ _ _ hl
  · cases h
def psi_rshot : FuncId → Option FSpec := psiCons 33 rshot_s psi_fmany
theorem psi_rshot_ok : PsiFn Try.prog psi_rshot := psiCons_ok rshot_s_ok psi_fmany_ok
def szB (n c : Int) : Bool := (decide (0 ≤ n) && decide (n ≤ 4096)) && decide (n / 2 ^ c.toNat * 2 ^ c.toNat = n)
def env_sized : Env := ⟨T, psi_rshot, pspNil, psc_del, 22, [], none, true⟩
theorem eok_sized : PsiOk Try.prog env_sized := ⟨psi_rshot_ok, pspNil_ok, psc_del_ok⟩
theorem sized_fn (n : Int) (c : Int) (hc : 0 ≤ c ∧ c ≤ 6) : Ctr Try.prog 32 false [int .i64 n, int .i64 c] (.x (.c (bv (szB n c)))) := by
  refine Ctr_intro (E := env_sized) Try.func32 rfl (by decide) rfl rfl (fun M0 W hM0 => ?_)
  have hp := Tt.pow_c hc
  cases h : decide (0 ≤ n) && decide (n ≤ 4096) with
  | false =>
    refine G_run tOk eok_sized 60 (fun j => match j with | 6 => some false | _ => none) (fun bs => rfl) (fun bs => ?_) (fun bs => ?_)
    · (repeat' apply And.intro) <;> (intros; first | exact trivial | exact rfl | omega | exact u8_lo _ | exact u8_hi _ | exact u8_in64 _ | exact u8_in63 _ | (simp only [inR, IntKind.bits]; omega) | (simp [inR, IntKind.bits]; done) | (simp [inR, IntKind.bits] at * <;> omega) | (simp_all; done) | (with_reducible assumption) | skip)
      all_goals first | exact h | (simp at h; simp; omega) | skip
    refine G_ret tOk hM0 rfl rfl ⟨trivial, trivial⟩ ?_
    conv => whnf
    all_goals simp only [szB, h, Bool.false_and]
  | true =>
    have hn : 0 ≤ n ∧ n ≤ 4096 := by simpa using h
    have h1 : 0 ≤ n / 2 ^ c.toNat := Int.ediv_nonneg hn.1 (by omega)
    have h2 : n / 2 ^ c.toNat ≤ 4096 := Int.le_trans (Int.ediv_le_self _ hn.1) hn.2
    have h3 : 0 ≤ n / 2 ^ c.toNat * 2 ^ c.toNat := Int.mul_nonneg h1 (by omega)
    have h4 : n / 2 ^ c.toNat * 2 ^ c.toNat ≤ 4096 := Int.le_trans (Int.ediv_mul_le n (by omega)) hn.2
    refine G_run tOk eok_sized 60 (fun j => match j with | 6 => some true | _ => none) (fun bs => rfl) (fun bs => ?_) (fun bs => ?_)
    · (repeat' apply And.intro) <;> (intros; first | exact trivial | exact rfl | omega | exact u8_lo _ | exact u8_hi _ | exact u8_in64 _ | exact u8_in63 _ | (simp only [inR, IntKind.bits]; omega) | (simp [inR, IntKind.bits]; done) | (simp [inR, IntKind.bits] at * <;> omega) | (simp_all; done) | (with_reducible assumption) | skip)
      all_goals first | exact h | (simp at h; simp; omega) | (exact ⟨⟨hc.1, by have := hc.2; simp [IntKind.bits]; omega⟩, by constructor <;> (simp; omega)⟩) | skip
    refine G_ret tOk hM0 rfl rfl ⟨trivial, trivial⟩ ?_
    conv => whnf
    all_goals simp only [szB, h, Bool.true_and]

/-! ### great -/
def sized_s : FSpec
  | [.c (.pv (.val (.int .i64 n))), .c (.pv (.val (.int .i64 c)))] => some ((0 ≤ c ∧ c ≤ 6), false, .x (.c (bv (szB n c))))
  | _ => none
theorem sized_s_ok : SpecOk Try.prog 32 sized_s := by
  intro args pre sh rv h hp; unfold sized_s at h; split at h
  · cases h; have hc := hp; exact sized_fn _ _ hc
  · cases h
def psi_sized : FuncId → Option FSpec := psiCons 32 sized_s psi_rshot
theorem psi_sized_ok : PsiFn Try.prog psi_sized := psiCons_ok sized_s_ok psi_rshot_ok
def shG (s : Shot) : Bool := Tt.greatB s.t || decide ((1000 : Int) < (s.name.length : Int))
def mpG (b : Bitmap) : Bool := decide ((500 : Int) < (b.l.length : Int)) || decide ((1000 : Int) < (b.name.length : Int))
def shGn (l : List Shot) : Nat → Bool
  | 0 => false
  | k + 1 => shGn l k || shG (l.getD k LK.sht.dft)
def mpGn (l : List Bitmap) : Nat → Bool
  | 0 => false
  | k + 1 => mpGn l k || mpG (l.getD k LK.bms.dft)
theorem shGn_true {l : List Shot} {i j : Nat} (h : shGn l i = true) (hij : i ≤ j) : shGn l j = true := by
  induction j with
  | zero => have : i = 0 := by omega
            subst this; exact h
  | succ j ih =>
    by_cases hi : i = j + 1
    · subst hi; exact h
    · simp [shGn, ih (by omega)]
theorem mpGn_true {l : List Bitmap} {i j : Nat} (h : mpGn l i = true) (hij : i ≤ j) : mpGn l j = true := by
  induction j with
  | zero => have : i = 0 := by omega
            subst this; exact h
  | succ j ih =>
    by_cases hi : i = j + 1
    · subst hi; exact h
    · simp [mpGn, ih (by omega)]
def hdG (m : Mta) : Bool := (((Tt.greatB m.t || decide ((20 : Int) < (m.sh.length : Int))) || decide ((20 : Int) < (m.mp.length : Int))) || decide ((20000 : Int) < (m.ct.length : Int))) || decide ((1000 : Int) < (m.bk.length : Int))
def gtM (m : Mta) : Bool := hdG m || (shGn m.sh m.sh.length || mpGn m.mp m.mp.length)
structure MtaIn (m : Mta) : Prop where
  t : m.t.length ≤ 9223372036854775807
  sh : m.sh.length ≤ 9223372036854775807
  mp : m.mp.length ≤ 9223372036854775807
  ct : m.ct.length ≤ 9223372036854775807
  bk : m.bk.length ≤ 9223372036854775807
  st : ∀ i, (m.sh.getD i LK.sht.dft).t.length ≤ 9223372036854775807
  sn : ∀ i, (m.sh.getD i LK.sht.dft).name.length ≤ 9223372036854775807
  bl : ∀ i, (m.mp.getD i LK.bms.dft).l.length ≤ 9223372036854775807
  bn : ∀ i, (m.mp.getD i LK.bms.dft).name.length ≤ 9223372036854775807

def env_mgreat : Env := ⟨T, psi_sized, pspNil, psc_del, 81, [], none, true⟩
theorem eok_mgreat : PsiOk Try.prog env_mgreat := ⟨psi_sized_ok, pspNil_ok, psc_del_ok⟩
theorem mgreat_fn (m0 : Int) (m1 : Int) (m2 : List UInt8) (m3 : List (List Entry)) (m4 : List Shot) (m5 : List Bitmap) (m6 : List Int) (hI : MtaIn ⟨m0, m1, m2, m3, m4, m5, m6⟩) : Ctr Try.prog 15 false [.g [.pv (.val (.int .i64 m0)), .pv (.val (.int .i64 m1)), .pv (.val (.string ⟨⟨m2⟩⟩)), .pv (.lst .tbl m3), .pv (.lst .sht m4), .pv (.lst .bms m5), .pv (.lst (.ints .i64) m6)]] (.x (.c (bv (gtM ⟨m0, m1, m2, m3, m4, m5, m6⟩)))) := by
  refine Ctr_intro (E := env_mgreat) Try.func15 rfl (by decide) rfl rfl (fun M0 W hM0 => ?_)
  obtain ⟨it, iS, iM, iC, ib, ist, isn, ibl, ibn⟩ := hI
  simp only at it iS iM iC ib ist isn ibl ibn
  refine G_run tOk eok_mgreat 60 (fun _ => none) (fun bs => rfl) (fun bs => ?_) (fun bs => ?_)
  · (repeat' apply And.intro) <;> (intros; first | exact trivial | exact rfl | omega | exact u8_lo _ | exact u8_hi _ | exact u8_in64 _ | exact u8_in63 _ | (simp only [inR, IntKind.bits]; omega) | (simp [inR, IntKind.bits]; done) | (simp [inR, IntKind.bits] at * <;> omega) | (simp_all; done) | (with_reducible assumption) | skip)
  generalize (bs 0 0).bn = b
  refine G_cond (b := hdG ⟨m0, m1, m2, m3, m4, m5, m6⟩) rfl rfl (fun h => ?_) (fun h => ?_)
  · refine G_run tOk eok_mgreat 60 (fun _ => none) (fun bs => rfl) (fun bs => ?_) (fun bs => ?_)
    · (repeat' apply And.intro) <;> (intros; first | exact trivial | exact rfl | omega | exact u8_lo _ | exact u8_hi _ | exact u8_in64 _ | exact u8_in63 _ | (simp only [inR, IntKind.bits]; omega) | (simp [inR, IntKind.bits]; done) | (simp [inR, IntKind.bits] at * <;> omega) | (simp_all; done) | (with_reducible assumption) | skip)
    exact G_ret tOk hM0 rfl rfl ⟨trivial, trivial⟩ (show true = gtM _ by simp only [gtM, h, Bool.true_or])
  have e : gtM ⟨m0, m1, m2, m3, m4, m5, m6⟩ = (shGn m4 m4.length || mpGn m5 m5.length) := by simp only [gtM, h, Bool.false_or]
  rw [e]
  refine G_run tOk eok_mgreat 60 (fun _ => none) (fun bs => rfl) (fun bs => ?_) (fun bs => ?_)
  · (repeat' apply And.intro) <;> (intros; first | exact trivial | exact rfl | omega | exact u8_lo _ | exact u8_hi _ | exact u8_in64 _ | exact u8_in63 _ | (simp only [inR, IntKind.bits]; omega) | (simp [inR, IntKind.bits]; done) | (simp [inR, IntKind.bits] at * <;> omega) | (simp_all; done) | (with_reducible assumption) | skip)
  refine G_loop (fun i : Nat => [(1, .c (.ptr 0 b 0)), (3, int .i64 i)]) (fun i => [.blk b 31 [.pv (i64 m0), .pv (i64 m1), .pv (.val (.string ⟨⟨m2⟩⟩)), .pv (.lst .tbl m3), .pv (.lst .sht m4), .pv (.lst .bms m5), .pv (.lst (.ints .i64) m6)]]) (fun i => i ≤ m4.length ∧ shGn m4 i = false) (fun i => m4.length - i) rfl [0] 0 ⟨Nat.zero_le _, rfl⟩ ?wk (fun i hx => ?_)
  case wk => (repeat' apply And.intro) <;> (first | exact rfl | exact trivial | omega | refine sigEq ?_ | skip)
  obtain ⟨hx1, hx2⟩ := hx
  refine G_run tOk eok_mgreat 60 (fun _ => none) (fun bs => rfl) (fun bs => ?_) (fun bs => ?_)
  · (repeat' apply And.intro) <;> (intros; first | exact trivial | exact rfl | omega | exact u8_lo _ | exact u8_hi _ | exact u8_in64 _ | exact u8_in63 _ | (simp only [inR, IntKind.bits]; omega) | (simp [inR, IntKind.bits]; done) | (simp [inR, IntKind.bits] at * <;> omega) | (simp_all; done) | (with_reducible assumption) | skip)
  refine G_if rfl rfl (fun hk => ?_) (fun hk => ?_)
  · have hk' : i < m4.length := by omega
    have q1 : (m4.getD (i : Int).toNat LK.sht.dft).t.length ≤ 9223372036854775807 := ist i
    have q2 : (m4.getD (i : Int).toNat LK.sht.dft).name.length ≤ 9223372036854775807 := isn i
    refine G_run tOk eok_mgreat 60 (fun _ => none) (fun bs => rfl) (fun bs => ?_) (fun bs => ?_)
    · (repeat' apply And.intro) <;> (intros; first | exact trivial | exact rfl | omega | exact u8_lo _ | exact u8_hi _ | exact u8_in64 _ | exact u8_in63 _ | (simp only [inR, IntKind.bits]; omega) | (simp [inR, IntKind.bits]; done) | (simp [inR, IntKind.bits] at * <;> omega) | (simp_all; done) | (with_reducible assumption) | skip)
    refine G_cond (b := shG (m4.getD i LK.sht.dft)) rfl rfl (fun h => ?_) (fun h => ?_)
    · have h1 : shGn m4 m4.length = true := shGn_true (i := i + 1) (by simp only [shGn, h, Bool.or_true]) (by omega)
      refine G_run tOk eok_mgreat 60 (fun _ => none) (fun bs => rfl) (fun bs => ?_) (fun bs => ?_)
      · (repeat' apply And.intro) <;> (intros; first | exact trivial | exact rfl | omega | exact u8_lo _ | exact u8_hi _ | exact u8_in64 _ | exact u8_in63 _ | (simp only [inR, IntKind.bits]; omega) | (simp [inR, IntKind.bits]; done) | (simp [inR, IntKind.bits] at * <;> omega) | (simp_all; done) | (with_reducible assumption) | skip)
      exact G_ret tOk hM0 rfl rfl ⟨trivial, trivial⟩ (show true = _ by rw [h1]; rfl)
    · refine G_run tOk eok_mgreat 60 (fun _ => none) (fun bs => rfl) (fun bs => ?_) (fun bs => ?_)
      · (repeat' apply And.intro) <;> (intros; first | exact trivial | exact rfl | omega | exact u8_lo _ | exact u8_hi _ | exact u8_in64 _ | exact u8_in63 _ | (simp only [inR, IntKind.bits]; omega) | (simp [inR, IntKind.bits]; done) | (simp [inR, IntKind.bits] at * <;> omega) | (simp_all; done) | (with_reducible assumption) | skip)
      refine G_lp [0] (i + 1) ?ok ?wk1
      case ok => exact ⟨⟨hk', by simp only [shGn, hx2, h, Bool.or_self]⟩, by omega⟩
      case wk1 => (repeat' apply And.intro) <;> (first | exact rfl | exact trivial | omega | refine sigEq ?_ | skip)
  have hk' : i = m4.length := by omega
  subst hk'
  rw [hx2, Bool.false_or]
  refine G_run tOk eok_mgreat 60 (fun _ => none) (fun bs => rfl) (fun bs => ?_) (fun bs => ?_)
  · (repeat' apply And.intro) <;> (intros; first | exact trivial | exact rfl | omega | exact u8_lo _ | exact u8_hi _ | exact u8_in64 _ | exact u8_in63 _ | (simp only [inR, IntKind.bits]; omega) | (simp [inR, IntKind.bits]; done) | (simp [inR, IntKind.bits] at * <;> omega) | (simp_all; done) | (with_reducible assumption) | skip)
  refine G_loop (fun i : Nat => [(1, .c (.ptr 0 b 0)), (4, int .i64 i)]) (fun i => [.blk b 31 [.pv (i64 m0), .pv (i64 m1), .pv (.val (.string ⟨⟨m2⟩⟩)), .pv (.lst .tbl m3), .pv (.lst .sht m4), .pv (.lst .bms m5), .pv (.lst (.ints .i64) m6)]]) (fun i => i ≤ m5.length ∧ mpGn m5 i = false) (fun i => m5.length - i) rfl [0] 0 ⟨Nat.zero_le _, rfl⟩ ?wk2 (fun i hx => ?_)
  case wk2 => (repeat' apply And.intro) <;> (first | exact rfl | exact trivial | omega | refine sigEq ?_ | skip)
  obtain ⟨hx1, hx2⟩ := hx
  refine G_run tOk eok_mgreat 60 (fun _ => none) (fun bs => rfl) (fun bs => ?_) (fun bs => ?_)
  · (repeat' apply And.intro) <;> (intros; first | exact trivial | exact rfl | omega | exact u8_lo _ | exact u8_hi _ | exact u8_in64 _ | exact u8_in63 _ | (simp only [inR, IntKind.bits]; omega) | (simp [inR, IntKind.bits]; done) | (simp [inR, IntKind.bits] at * <;> omega) | (simp_all; done) | (with_reducible assumption) | skip)
  refine G_if rfl rfl (fun hk => ?_) (fun hk => ?_)
  · have hk' : i < m5.length := by omega
    have q1 : (m5.getD (i : Int).toNat LK.bms.dft).l.length ≤ 9223372036854775807 := ibl i
    have q2 : (m5.getD (i : Int).toNat LK.bms.dft).name.length ≤ 9223372036854775807 := ibn i
    refine G_run tOk eok_mgreat 60 (fun _ => none) (fun bs => rfl) (fun bs => ?_) (fun bs => ?_)
    · (repeat' apply And.intro) <;> (intros; first | exact trivial | exact rfl | omega | exact u8_lo _ | exact u8_hi _ | exact u8_in64 _ | exact u8_in63 _ | (simp only [inR, IntKind.bits]; omega) | (simp [inR, IntKind.bits]; done) | (simp [inR, IntKind.bits] at * <;> omega) | (simp_all; done) | (with_reducible assumption) | skip)
    refine G_cond (b := mpG (m5.getD i LK.bms.dft)) rfl rfl (fun h => ?_) (fun h => ?_)
    · have h1 : mpGn m5 m5.length = true := mpGn_true (i := i + 1) (by simp only [mpGn, h, Bool.or_true]) (by omega)
      refine G_run tOk eok_mgreat 60 (fun _ => none) (fun bs => rfl) (fun bs => ?_) (fun bs => ?_)
      · (repeat' apply And.intro) <;> (intros; first | exact trivial | exact rfl | omega | exact u8_lo _ | exact u8_hi _ | exact u8_in64 _ | exact u8_in63 _ | (simp only [inR, IntKind.bits]; omega) | (simp [inR, IntKind.bits]; done) | (simp [inR, IntKind.bits] at * <;> omega) | (simp_all; done) | (with_reducible assumption) | skip)
      exact G_ret tOk hM0 rfl rfl ⟨trivial, trivial⟩ (show true = _ by rw [h1])
    · refine G_run tOk eok_mgreat 60 (fun _ => none) (fun bs => rfl) (fun bs => ?_) (fun bs => ?_)
      · (repeat' apply And.intro) <;> (intros; first | exact trivial | exact rfl | omega | exact u8_lo _ | exact u8_hi _ | exact u8_in64 _ | exact u8_in63 _ | (simp only [inR, IntKind.bits]; omega) | (simp [inR, IntKind.bits]; done) | (simp [inR, IntKind.bits] at * <;> omega) | (simp_all; done) | (with_reducible assumption) | skip)
      refine G_lp [0] (i + 1) ?ok2 ?wk3
      case ok2 => exact ⟨⟨hk', by simp only [mpGn, hx2, h, Bool.or_self]⟩, by omega⟩
      case wk3 => (repeat' apply And.intro) <;> (first | exact rfl | exact trivial | omega | refine sigEq ?_ | skip)
  · have hk' : i = m5.length := by omega
    subst hk'
    refine G_run tOk eok_mgreat 60 (fun _ => none) (fun bs => rfl) (fun bs => ?_) (fun bs => ?_)
    · (repeat' apply And.intro) <;> (intros; first | exact trivial | exact rfl | omega | exact u8_lo _ | exact u8_hi _ | exact u8_in64 _ | exact u8_in63 _ | (simp only [inR, IntKind.bits]; omega) | (simp [inR, IntKind.bits]; done) | (simp [inR, IntKind.bits] at * <;> omega) | (simp_all; done) | (with_reducible assumption) | skip)
    exact G_ret tOk hM0 rfl rfl ⟨trivial, trivial⟩ (show false = _ by rw [hx2])
def mgreat_s : FSpec
  | [.g [.pv (.val (.int .i64 m0)), .pv (.val (.int .i64 m1)), .pv (.val (.string ⟨⟨m2⟩⟩)), .pv (.lst .tbl m3), .pv (.lst .sht m4), .pv (.lst .bms m5), .pv (.lst (.ints .i64) m6)]] => some ((MtaIn ⟨m0, m1, m2, m3, m4, m5, m6⟩), false, .x (.c (bv (gtM ⟨m0, m1, m2, m3, m4, m5, m6⟩))))
  | _ => none
theorem mgreat_s_ok : SpecOk Try.prog 15 mgreat_s := by
  intro args pre sh rv h hp; unfold mgreat_s at h; split at h
  · cases h; have hI := hp; exact mgreat_fn _ _ _ _ _ _ _ hI
  · cases h
def psi_mgreat : FuncId → Option FSpec := psiCons 15 mgreat_s psi_sized
theorem psi_mgreat_ok : PsiFn Try.prog psi_mgreat := psiCons_ok mgreat_s_ok psi_sized_ok
end Go.Proofs.Ytgobmfkffhomaaa
