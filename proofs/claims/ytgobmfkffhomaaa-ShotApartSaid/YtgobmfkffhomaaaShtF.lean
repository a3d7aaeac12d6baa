import Derived.Test.YtgobmfkffhomaaaShtT
set_option linter.unusedSimpArgs false
set_option linter.unusedVariables false
namespace Go.Proofs.Ytgobmfkffhomaaa
open Go.Mt

/-- A table of a size that is gone through. -/
structure TlOk (t : List (List Entry)) : Prop where
  len : t.length ≤ 1000000
  each : ∀ i, (Tt.leaf t i).length ≤ 1000000

def env_wcut : Env := ⟨T, Tt.psi_copied, pspNil, pscNil, 28, [], none, true⟩
theorem eok_wcut : PsiOk Try.prog env_wcut := ⟨Tt.psi_copied_ok, pspNil_ok, pscNil_ok⟩
theorem wcut_fn (t0 : List (List Entry)) (n : Int) (hn : n = 4096) (ht : TlOk t0) : Ctr Try.prog 52 true [.g [.pv (.lst .tbl t0)], int .i64 n] (.x (.g [.lst .tbl t0])) := by
  refine Ctr_intro (E := env_wcut) Try.func52 rfl (by decide) rfl rfl (fun M0 W hM0 => ?_)
  have hl : t0.length ≤ 1000000000 := by have := ht.len; omega
  have hf : ∀ i, (Tt.leaf t0 i).length ≤ 1000000000 := fun i => by have := ht.each i; omega
  have hm : max n 0 = 4096 := by omega
  refine G_run tOk eok_wcut 60 (fun _ => none) (fun bs => rfl) (fun bs => ?_) (fun bs => ?_)
  · (repeat' apply And.intro) <;> (intros; first | exact trivial | exact rfl | omega | exact u8_lo _ | exact u8_hi _ | exact u8_in64 _ | exact u8_in63 _ | (simp only [inR, IntKind.bits]; omega) | (simp [inR, IntKind.bits]; done) | (simp [inR, IntKind.bits] at * <;> omega) | (simp_all; done) | (with_reducible assumption) | skip)
  refine G_wkB2 (ns := [0, 1]) (fs := fun b c => [(2, .c (.ptr 0 b 0)), (4, .c (.ptr 1 c 0)), (5, int .i64 4096)]) (hs := fun b c => [.blk b 26 [.pv (.lst .tbl t0)], .blk c 26 [.pv (.nil .tbl)]]) ?b1 ?c1 rfl ?wk0 (fun b c => ?_)
  case wk0 =>
    (repeat' apply And.intro) <;> (first | exact rfl | exact trivial | omega | refine sigEq ?_ | skip)
    all_goals (show max n 0 = 4096; exact hm)
  refine G_loop (fun x : Unit => [(2, .c (.ptr 0 b 0)), (4, .c (.ptr 1 c 0)), (5, int .i64 4096)]) (fun x => [.blk b 26 [.pv (.lst .tbl t0)], .blk c 26 [.pv (.nil .tbl)]]) (fun x => True) (fun x => 0) rfl [0, 1] () trivial ?wk (fun x hx => ?_)
  case wk => (repeat' apply And.intro) <;> (first | exact rfl | exact trivial | omega | refine sigEq ?_ | skip)
  refine G_run tOk eok_wcut 60 (fun _ => none) (fun bs => rfl) (fun bs => ?_) (fun bs => ?_)
  · (repeat' apply And.intro) <;> (intros; first | exact trivial | exact rfl | omega | exact u8_lo _ | exact u8_hi _ | exact u8_in64 _ | exact u8_in63 _ | (simp only [inR, IntKind.bits]; omega) | (simp [inR, IntKind.bits]; done) | (simp [inR, IntKind.bits] at * <;> omega) | (simp_all; done) | (with_reducible assumption) | skip)
  refine G_if (p := (4096 : Int) < min ((t0.length : Int) * 8) 4096) rfl rfl (fun hk => ?_) (fun hk => ?_)
  · omega
  · refine G_run tOk eok_wcut 60 (fun _ => none) (fun bs => rfl) (fun bs => ?_) (fun bs => ?_)
    · (repeat' apply And.intro) <;> (intros; first | exact trivial | exact rfl | omega | exact u8_lo _ | exact u8_hi _ | exact u8_in64 _ | exact u8_in63 _ | (simp only [inR, IntKind.bits]; omega) | (simp [inR, IntKind.bits, hf]; done) | (simp [inR, IntKind.bits, hf] at * <;> omega) | (simp_all; done) | (with_reducible assumption) | skip)
    exact G_ret tOk hM0 rfl rfl ⟨rfl, trivial⟩ ⟨rfl, trivial⟩

def wcut_s : FSpec
  | [.g [.pv (.lst .tbl t0)], .c (.pv (.val (.int .i64 n)))] => some ((n = 4096) ∧ (TlOk t0), true, .x (.g [.lst .tbl t0]))
  | _ => none
theorem wcut_s_ok : SpecOk Try.prog 52 wcut_s := by
  intro args pre sh rv h hp; unfold wcut_s at h; split at h
  · cases h; obtain ⟨hn, ht⟩ := hp; exact wcut_fn _ _ hn ht
  · cases h
def psi_wcut : FuncId → Option FSpec := psiCons 52 wcut_s Tt.psi_copied
theorem psi_wcut_ok : PsiFn Try.prog psi_wcut := psiCons_ok wcut_s_ok Tt.psi_copied_ok
def env_whole : Env := ⟨T, psi_wcut, pspNil, pscNil, 5, [], none, true⟩
theorem eok_whole : PsiOk Try.prog env_whole := ⟨psi_wcut_ok, pspNil_ok, pscNil_ok⟩
theorem whole_fn (t0 : List (List Entry)) (ht : TlOk t0) : Ctr Try.prog 29 true [.g [.pv (.lst .tbl t0)]] (.x (.g [.lst .tbl t0])) := by
  refine Ctr_intro (E := env_whole) Try.func29 rfl (by decide) rfl rfl (fun M0 W hM0 => ?_)
  refine G_run tOk eok_whole 60 (fun _ => none) (fun bs => rfl) (fun bs => ?_) (fun bs => ?_)
  · (repeat' apply And.intro) <;> (intros; first | exact trivial | exact rfl | omega | exact u8_lo _ | exact u8_hi _ | exact u8_in64 _ | exact u8_in63 _ | (simp only [inR, IntKind.bits]; omega) | (simp [inR, IntKind.bits]; done) | (simp [inR, IntKind.bits] at * <;> omega) | (simp_all; done) | (with_reducible assumption) | skip)
  exact G_ret tOk hM0 rfl rfl ⟨rfl, trivial⟩ ⟨rfl, trivial⟩

def whole_s : FSpec
  | [.g [.pv (.lst .tbl t0)]] => some ((TlOk t0), true, .x (.g [.lst .tbl t0]))
  | _ => none
theorem whole_s_ok : SpecOk Try.prog 29 whole_s := by
  intro args pre sh rv h hp; unfold whole_s at h; split at h
  · cases h; have ht := hp; exact whole_fn _ ht
  · cases h
def psi_whole : FuncId → Option FSpec := psiCons 29 whole_s psi_wcut
theorem psi_whole_ok : PsiFn Try.prog psi_whole := psiCons_ok whole_s_ok psi_wcut_ok
def env_shclone : Env := ⟨T, psi_whole, pspNil, pscNil, 8, [], none, true⟩
theorem eok_shclone : PsiOk Try.prog env_shclone := ⟨psi_whole_ok, pspNil_ok, pscNil_ok⟩
theorem shclone_fn (l : List Shot) (hl : l.length ≤ 1000000) : Ctr Try.prog 48 true [lst .sht l] (.o 40 .sht l) := by
  refine Ctr_intro (E := env_shclone) Try.func48 rfl (by decide) rfl rfl (fun M0 W hM0 => ?_)
  refine G_run tOk eok_shclone 60 (fun _ => none) (fun bs => rfl) (fun bs => ?_) (fun bs => ?_)
  · (repeat' apply And.intro) <;> (intros; first | exact trivial | exact rfl | omega | exact u8_lo _ | exact u8_hi _ | exact u8_in64 _ | exact u8_in63 _ | (simp only [inR, IntKind.bits]; omega) | (simp [inR, IntKind.bits]; done) | (simp [inR, IntKind.bits] at * <;> omega) | (simp_all; done) | (with_reducible assumption) | skip)
  refine G_cond rfl rfl (fun h => ?_) (fun h => ?_)
  · have e := nilB_nil h
    subst e
    refine G_run tOk eok_shclone 60 (fun _ => none) (fun bs => rfl) (fun bs => ?_) (fun bs => ?_)
    · (repeat' apply And.intro) <;> (intros; first | exact trivial | exact rfl | omega | exact u8_lo _ | exact u8_hi _ | exact u8_in64 _ | exact u8_in63 _ | (simp only [inR, IntKind.bits]; omega) | (simp [inR, IntKind.bits]; done) | (simp [inR, IntKind.bits] at * <;> omega) | (simp_all; done) | (with_reducible assumption) | skip)
    exact G_ret tOk hM0 rfl rfl ⟨trivial, trivial⟩ rfl
  · refine G_run tOk eok_shclone 60 (fun _ => none) (fun bs => rfl) (fun bs => ?_) (fun bs => ?_)
    · (repeat' apply And.intro) <;> (intros; first | exact trivial | exact rfl | omega | exact u8_lo _ | exact u8_hi _ | exact u8_in64 _ | exact u8_in63 _ | (simp only [inR, IntKind.bits]; omega) | (simp [inR, IntKind.bits]; done) | (simp [inR, IntKind.bits] at * <;> omega) | (simp_all; done) | (with_reducible assumption) | skip)
    exact G_ret tOk hM0 rfl rfl ⟨trivial, trivial⟩ ⟨rfl, rfl, rfl, sigEq (List.nil_append l)⟩

def shclone_s : FSpec
  | [.c (.pv (.lst .sht l))] => some ((l.length ≤ 1000000), true, .o 40 .sht l)
  | _ => none
theorem shclone_s_ok : SpecOk Try.prog 48 shclone_s := by
  intro args pre sh rv h hp; unfold shclone_s at h; split at h
  · cases h; have hl := hp; exact shclone_fn _ hl
  · cases h
def psi_shclone : FuncId → Option FSpec := psiCons 48 shclone_s psi_whole
theorem psi_shclone_ok : PsiFn Try.prog psi_shclone := psiCons_ok shclone_s_ok psi_whole_ok
def env_iclone : Env := ⟨T, psi_shclone, pspNil, pscNil, 8, [], none, true⟩
theorem eok_iclone : PsiOk Try.prog env_iclone := ⟨psi_shclone_ok, pspNil_ok, pscNil_ok⟩
theorem iclone_fn (l : List Int) (hl : l.length ≤ 1000000) : Ctr Try.prog 51 false [lst (.ints .i64) l] (.o 3 (.ints .i64) l) := by
  refine Ctr_intro (E := env_iclone) Try.func51 rfl (by decide) rfl rfl (fun M0 W hM0 => ?_)
  refine G_run tOk eok_iclone 60 (fun _ => none) (fun bs => rfl) (fun bs => ?_) (fun bs => ?_)
  · (repeat' apply And.intro) <;> (intros; first | exact trivial | exact rfl | omega | exact u8_lo _ | exact u8_hi _ | exact u8_in64 _ | exact u8_in63 _ | (simp only [inR, IntKind.bits]; omega) | (simp [inR, IntKind.bits]; done) | (simp [inR, IntKind.bits] at * <;> omega) | (simp_all; done) | (with_reducible assumption) | skip)
  refine G_cond rfl rfl (fun h => ?_) (fun h => ?_)
  · have e := nilB_nil h
    subst e
    refine G_run tOk eok_iclone 60 (fun _ => none) (fun bs => rfl) (fun bs => ?_) (fun bs => ?_)
    · (repeat' apply And.intro) <;> (intros; first | exact trivial | exact rfl | omega | exact u8_lo _ | exact u8_hi _ | exact u8_in64 _ | exact u8_in63 _ | (simp only [inR, IntKind.bits]; omega) | (simp [inR, IntKind.bits]; done) | (simp [inR, IntKind.bits] at * <;> omega) | (simp_all; done) | (with_reducible assumption) | skip)
    exact G_ret tOk hM0 rfl rfl ⟨trivial, trivial⟩ rfl
  · refine G_run tOk eok_iclone 60 (fun _ => none) (fun bs => rfl) (fun bs => ?_) (fun bs => ?_)
    · (repeat' apply And.intro) <;> (intros; first | exact trivial | exact rfl | omega | exact u8_lo _ | exact u8_hi _ | exact u8_in64 _ | exact u8_in63 _ | (simp only [inR, IntKind.bits]; omega) | (simp [inR, IntKind.bits]; done) | (simp [inR, IntKind.bits] at * <;> omega) | (simp_all; done) | (with_reducible assumption) | skip)
    exact G_ret tOk hM0 rfl rfl ⟨trivial, trivial⟩ ⟨rfl, rfl, rfl, sigEq (List.nil_append l)⟩

/-! ### places -/
abbrev isS (nm : List UInt8) : Shot → Bool := fun b => decide (b.name = nm)
def iclone_s : FSpec
  | [.c (.pv (.lst (.ints .i64) l))] => some ((l.length ≤ 1000000), false, .o 3 (.ints .i64) l)
  | _ => none
theorem iclone_s_ok : SpecOk Try.prog 51 iclone_s := by
  intro args pre sh rv h hp; unfold iclone_s at h; split at h
  · cases h; have hl := hp; exact iclone_fn _ hl
  · cases h
def psi_iclone : FuncId → Option FSpec := psiCons 51 iclone_s psi_shclone
theorem psi_iclone_ok : PsiFn Try.prog psi_iclone := psiCons_ok iclone_s_ok psi_shclone_ok
def spl (l : List Shot) (nm : List UInt8) : Int := ixP (isS nm) LK.sht.dft l l.length

def env_splcl : Env := ⟨T, psi_iclone, pspNil, pscNil, 8, [], none, true⟩
theorem eok_splcl : PsiOk Try.prog env_splcl := ⟨psi_iclone_ok, pspNil_ok, pscNil_ok⟩
theorem splcl_fn (b0 : List UInt8) (b1 : Int) (b2 : List (List Entry)) (e0 : List UInt8)  : Ctr Try.prog 47 false [.g [.pv (.val (.string ⟨⟨b0⟩⟩)), .pv (.val (.int .i64 b1)), .pv (.lst .tbl b2)], .c (.cel [(.val (.string ⟨⟨e0⟩⟩))])] (.x (.c (bv (decide (b0 = e0))))) := by
  refine Ctr_intro (E := env_splcl) Try.func47 rfl (by decide) rfl rfl (fun M0 W hM0 => ?_)
  refine G_run tOk eok_splcl 60 (fun _ => none) (fun bs => rfl) (fun bs => ?_) (fun bs => ?_)
  · (repeat' apply And.intro) <;> (intros; first | exact trivial | exact rfl | omega | exact u8_lo _ | exact u8_hi _ | exact u8_in64 _ | exact u8_in63 _ | (simp only [inR, IntKind.bits]; omega) | (simp [inR, IntKind.bits]; done) | (simp [inR, IntKind.bits] at * <;> omega) | (simp_all; done) | (with_reducible assumption) | skip)
  exact G_ret tOk hM0 rfl rfl ⟨trivial, trivial⟩ rfl

def splcl_s : FSpec
  | [.g [.pv (.val (.string ⟨⟨b0⟩⟩)), .pv (.val (.int .i64 b1)), .pv (.lst .tbl b2)], .c (.cel [(.val (.string ⟨⟨e0⟩⟩))])] => some (True, false, .x (.c (bv (decide (b0 = e0)))))
  | _ => none
theorem splcl_s_ok : SpecOk Try.prog 47 splcl_s := by
  intro args pre sh rv h hp; unfold splcl_s at h; split at h
  · cases h; exact splcl_fn _ _ _ _ 
  · cases h
def psi_splcl : FuncId → Option FSpec := psiCons 47 splcl_s psi_iclone
theorem psi_splcl_ok : PsiFn Try.prog psi_splcl := psiCons_ok splcl_s_ok psi_iclone_ok
def env_sidx : Env := ⟨T, psi_splcl, pspNil, pscNil, 19, [], none, true⟩
theorem eok_sidx : PsiOk Try.prog env_sidx := ⟨psi_splcl_ok, pspNil_ok, pscNil_ok⟩
theorem sidx_fn (l : List Shot) (c0 : List UInt8) (hl : l.length ≤ 1000000) : Ctr Try.prog 46 false [lst .sht l, .c (.clo 47 [.cel [(.val (.string ⟨⟨c0⟩⟩))]])] (.x (.c (i64 (spl l c0)))) := by
  refine Ctr_intro (E := env_sidx) Try.func46 rfl (by decide) rfl rfl (fun M0 W hM0 => ?_)
  refine G_run tOk eok_sidx 60 (fun _ => none) (fun bs => rfl) (fun bs => ?_) (fun bs => ?_)
  · (repeat' apply And.intro) <;> (intros; first | exact trivial | exact rfl | omega | exact u8_lo _ | exact u8_hi _ | exact u8_in64 _ | exact u8_in63 _ | (simp only [inR, IntKind.bits]; omega) | (simp [inR, IntKind.bits]; done) | (simp [inR, IntKind.bits] at * <;> omega) | (simp_all; done) | (with_reducible assumption) | skip)
  refine G_loop (fun i : Nat => [(1, .c (.clo 47 [.cel [.val (.string ⟨⟨c0⟩⟩)]])), (0, lst .sht l), (7, int .i64 l.length), (8, int .i64 i)]) (fun i => []) (fun i => i ≤ l.length ∧ ixP (isS c0) LK.sht.dft l i = -1) (fun i => l.length - i) rfl [] 0 ⟨Nat.zero_le _, rfl⟩ ?wk (fun i hx => ?_)
  case wk => (repeat' apply And.intro) <;> (first | exact rfl | exact trivial | omega | refine sigEq ?_ | skip)
  obtain ⟨hx1, hx2⟩ := hx
  refine G_run tOk eok_sidx 60 (fun _ => none) (fun bs => rfl) (fun bs => ?_) (fun bs => ?_)
  · (repeat' apply And.intro) <;> (intros; first | exact trivial | exact rfl | omega | exact u8_lo _ | exact u8_hi _ | exact u8_in64 _ | exact u8_in63 _ | (simp only [inR, IntKind.bits]; omega) | (simp [inR, IntKind.bits]; done) | (simp [inR, IntKind.bits] at * <;> omega) | (simp_all; done) | (with_reducible assumption) | skip)
  refine G_if rfl rfl (fun hk => ?_) (fun hk => ?_)
  · have hk' : i < l.length := by omega
    refine G_run tOk eok_sidx 60 (fun _ => none) (fun bs => rfl) (fun bs => ?_) (fun bs => ?_)
    · (repeat' apply And.intro) <;> (intros; first | exact trivial | exact rfl | omega | exact u8_lo _ | exact u8_hi _ | exact u8_in64 _ | exact u8_in63 _ | (simp only [inR, IntKind.bits]; omega) | (simp [inR, IntKind.bits]; done) | (simp [inR, IntKind.bits] at * <;> omega) | (simp_all; done) | (with_reducible assumption) | skip)
    refine G_cond (b := isS c0 (l.getD i LK.sht.dft)) rfl rfl (fun h => ?_) (fun h => ?_)
    · have h1 : ixP (isS c0) LK.sht.dft l (i + 1) = i := by simp only [ixP, hx2, h]; rfl
      have h2 : spl l c0 = i := by unfold spl; rw [ixP_keep (i := i + 1) (by omega) (by omega), h1]
      refine G_run tOk eok_sidx 60 (fun _ => none) (fun bs => rfl) (fun bs => ?_) (fun bs => ?_)
      · (repeat' apply And.intro) <;> (intros; first | exact trivial | exact rfl | omega | exact u8_lo _ | exact u8_hi _ | exact u8_in64 _ | exact u8_in63 _ | (simp only [inR, IntKind.bits]; omega) | (simp [inR, IntKind.bits]; done) | (simp [inR, IntKind.bits] at * <;> omega) | (simp_all; done) | (with_reducible assumption) | skip)
      exact G_ret tOk hM0 rfl rfl ⟨trivial, trivial⟩ ⟨rfl, h2.symm⟩
    · have h1 : ixP (isS c0) LK.sht.dft l (i + 1) = -1 := by simp only [ixP, hx2, h]; rfl
      refine G_run tOk eok_sidx 60 (fun _ => none) (fun bs => rfl) (fun bs => ?_) (fun bs => ?_)
      · (repeat' apply And.intro) <;> (intros; first | exact trivial | exact rfl | omega | exact u8_lo _ | exact u8_hi _ | exact u8_in64 _ | exact u8_in63 _ | (simp only [inR, IntKind.bits]; omega) | (simp [inR, IntKind.bits]; done) | (simp [inR, IntKind.bits] at * <;> omega) | (simp_all; done) | (with_reducible assumption) | skip)
      refine G_lp [] (i + 1) ?ok ?wk1
      case ok => exact ⟨⟨hk', h1⟩, by omega⟩
      case wk1 => (repeat' apply And.intro) <;> (first | exact rfl | exact trivial | omega | refine sigEq ?_ | skip)
  · have hk' : i = l.length := by omega
    subst hk'
    refine G_run tOk eok_sidx 60 (fun _ => none) (fun bs => rfl) (fun bs => ?_) (fun bs => ?_)
    · (repeat' apply And.intro) <;> (intros; first | exact trivial | exact rfl | omega | exact u8_lo _ | exact u8_hi _ | exact u8_in64 _ | exact u8_in63 _ | (simp only [inR, IntKind.bits]; omega) | (simp [inR, IntKind.bits]; done) | (simp [inR, IntKind.bits] at * <;> omega) | (simp_all; done) | (with_reducible assumption) | skip)
    exact G_ret tOk hM0 rfl rfl ⟨trivial, trivial⟩ ⟨rfl, hx2.symm⟩

def sidx_s : FSpec
  | [.c (.pv (.lst .sht l)), .c (.clo 47 [.cel [(.val (.string ⟨⟨c0⟩⟩))]])] => some ((l.length ≤ 1000000), false, .x (.c (i64 (spl l c0))))
  | _ => none
theorem sidx_s_ok : SpecOk Try.prog 46 sidx_s := by
  intro args pre sh rv h hp; unfold sidx_s at h; split at h
  · cases h; have hl := hp; exact sidx_fn _ _ hl
  · cases h
def psi_sidx : FuncId → Option FSpec := psiCons 46 sidx_s psi_splcl
theorem psi_sidx_ok : PsiFn Try.prog psi_sidx := psiCons_ok sidx_s_ok psi_splcl_ok
def env_splace : Env := ⟨T, psi_sidx, pspNil, pscNil, 9, [], none, true⟩
theorem eok_splace : PsiOk Try.prog env_splace := ⟨psi_sidx_ok, pspNil_ok, pscNil_ok⟩
theorem splace_fn (m0 : Int) (m1 : Int) (m2 : List UInt8) (m3 : List (List Entry)) (m4 : List Shot) (m5 : List Bitmap) (m6 : List Int) (nm : List UInt8) (hl : m4.length ≤ 1000000) : Ctr Try.prog 27 false [.g [.pv (.val (.int .i64 m0)), .pv (.val (.int .i64 m1)), .pv (.val (.string ⟨⟨m2⟩⟩)), .pv (.lst .tbl m3), .pv (.lst .sht m4), .pv (.lst .bms m5), .pv (.lst (.ints .i64) m6)], str nm] (.x (.c (i64 (spl m4 nm)))) := by
  refine Ctr_intro (E := env_splace) Try.func27 rfl (by decide) rfl rfl (fun M0 W hM0 => ?_)
  refine G_run tOk eok_splace 60 (fun _ => none) (fun bs => rfl) (fun bs => ?_) (fun bs => ?_)
  · (repeat' apply And.intro) <;> (intros; first | exact trivial | exact rfl | omega | exact u8_lo _ | exact u8_hi _ | exact u8_in64 _ | exact u8_in63 _ | (simp only [inR, IntKind.bits]; omega) | (simp [inR, IntKind.bits]; done) | (simp [inR, IntKind.bits] at * <;> omega) | (simp_all; done) | (with_reducible assumption) | skip)
  exact G_ret tOk hM0 rfl rfl ⟨trivial, trivial⟩ ⟨rfl, rfl⟩
def splace_s : FSpec
  | [.g [.pv (.val (.int .i64 m0)), .pv (.val (.int .i64 m1)), .pv (.val (.string ⟨⟨m2⟩⟩)), .pv (.lst .tbl m3), .pv (.lst .sht m4), .pv (.lst .bms m5), .pv (.lst (.ints .i64) m6)], .c (.pv (.val (.string ⟨⟨nm⟩⟩)))] => some ((m4.length ≤ 1000000), false, .x (.c (i64 (spl m4 nm))))
  | _ => none
theorem splace_s_ok : SpecOk Try.prog 27 splace_s := by
  intro args pre sh rv h hp; unfold splace_s at h; split at h
  · cases h; have hl := hp; exact splace_fn _ _ _ _ _ _ _ _ hl
  · cases h
def psi_splace : FuncId → Option FSpec := psiCons 27 splace_s psi_sidx
theorem psi_splace_ok : PsiFn Try.prog psi_splace := psiCons_ok splace_s_ok psi_sidx_ok
end Go.Proofs.Ytgobmfkffhomaaa
