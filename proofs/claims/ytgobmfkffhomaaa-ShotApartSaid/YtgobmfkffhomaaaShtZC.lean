import Derived.Test.YtgobmfkffhomaaaShtZB
set_option linter.unusedSimpArgs false
set_option linter.unusedVariables false
set_option maxRecDepth 10000
set_option maxHeartbeats 3200000
namespace Go.Proofs.Ytgobmfkffhomaaa
open Go.Mt
def psi_vc := psiOff 62 (psiOff 52 (psiOff 29 psi_clone2))
theorem psi_vc_ok : PsiFn Try.prog psi_vc := psiOff_ok (psiOff_ok (psiOff_ok psi_clone2_ok))

def env_cutF : Env := ⟨T, psi_vc, pspNil, psc_del, 28, [], none, false⟩
theorem eok_cutF : PsiOk Try.prog env_cutF := ⟨psi_vc_ok, pspNil_ok, psc_del_ok⟩
theorem cutF (t : List (List Entry)) (n : Int) (hn : n = 4096) (ht : TlOk t) : CtrF Try.prog 52 [.g [.pv (.lst .tbl t)], int .i64 n] [] (fun x : Value × List TE => x.2.length = t.length ∧ AllV x.2) (fun x => .g [.own 0 x.1]) (fun x => [.own x.1 59 .tbh x.2]) (fun x => leafT (Tt.leaf t) x.2) := by
  refine CtrF_intro (E := env_cutF) Try.func52 rfl (by decide) rfl rfl (fun M0 W hM0 => ?_)
  have hl : t.length ≤ 1000000000 := by have := ht.len; omega
  have hf : ∀ i, (Tt.leaf t i).length ≤ 1000000000 := fun i => by have := ht.each i; omega
  have hm : max n 0 = 4096 := by omega
  refine G_run tOk eok_cutF 60 (fun _ => none) (fun bs => rfl) (fun bs => ?_) (fun bs => ?_)
  · (repeat' apply And.intro) <;> (intros; first | exact trivial | exact rfl | omega | exact u8_lo _ | exact u8_hi _ | exact u8_in64 _ | exact u8_in63 _ | (simp only [inR, IntKind.bits]; omega) | (simp [inR, IntKind.bits]; done) | (simp [inR, IntKind.bits] at * <;> omega) | (simp_all; done) | (with_reducible assumption) | skip)
  refine G_wkB2 (ns := [0, 1]) (fs := fun b c => [(2, .c (.ptr 0 b 0)), (4, .c (.ptr 1 c 0)), (5, int .i64 4096)]) (hs := fun b c => [.blk b 26 [.pv (.lst .tbl t)], .blk c 26 [.pv (.nil .tbl)]]) ?b1 ?c1 rfl ?wk0 (fun b c => ?_)
  case wk0 =>
    (repeat' apply And.intro) <;> (first | exact rfl | exact trivial | omega | refine sigEq ?_ | skip)
    all_goals (show max n 0 = 4096; exact hm)
  refine G_loop (fun x : Unit => [(2, .c (.ptr 0 b 0)), (4, .c (.ptr 1 c 0)), (5, int .i64 4096)]) (fun x => [.blk b 26 [.pv (.lst .tbl t)], .blk c 26 [.pv (.nil .tbl)]]) (fun x => True) (fun x => 0) rfl [0, 1] () trivial ?wk (fun x hx => ?_)
  case wk => (repeat' apply And.intro) <;> (first | exact rfl | exact trivial | omega | refine sigEq ?_ | skip)
  refine G_run tOk eok_cutF 60 (fun _ => none) (fun bs => rfl) (fun bs => ?_) (fun bs => ?_)
  · (repeat' apply And.intro) <;> (intros; first | exact trivial | exact rfl | omega | exact u8_lo _ | exact u8_hi _ | exact u8_in64 _ | exact u8_in63 _ | (simp only [inR, IntKind.bits]; omega) | (simp [inR, IntKind.bits]; done) | (simp [inR, IntKind.bits] at * <;> omega) | (simp_all; done) | (with_reducible assumption) | skip)
  refine G_if (p := (4096 : Int) < min ((t.length : Int) * 8) 4096) rfl rfl (fun hk => ?_) (fun hk => ?_)
  · omega
  refine G_run tOk eok_cutF 60 (fun _ => none) (fun bs => rfl) (fun bs => ?_) (fun bs => ?_)
  · (repeat' apply And.intro) <;> (intros; first | exact trivial | exact rfl | omega | exact u8_lo _ | exact u8_hi _ | exact u8_in64 _ | exact u8_in63 _ | (simp only [inR, IntKind.bits]; omega) | (simp [inR, IntKind.bits]; done) | (simp [inR, IntKind.bits] at * <;> omega) | (simp_all; done) | (with_reducible assumption) | skip)
  refine G_nx 2 rfl ?_
  refine G_callF [] id (copiedF t hl hf) (fun x => leafT_own) rfl trivial rfl rfl rfl rfl (by decide) rfl (fun x => rfl) (fun x => rfl) (fun x hx => ?_)
  obtain ⟨v, Lh⟩ := x
  dsimp only at hx ⊢
  refine G_run tOk eok_cutF 60 (fun _ => none) (fun bs => rfl) (fun bs => ?_) (fun bs => ?_)
  · (repeat' apply And.intro) <;> (intros; first | exact trivial | exact rfl | omega | exact u8_lo _ | exact u8_hi _ | exact u8_in64 _ | exact u8_in63 _ | (simp only [inR, IntKind.bits]; omega) | (simp [inR, IntKind.bits]; done) | (simp [inR, IntKind.bits] at * <;> omega) | (simp_all; done) | (with_reducible assumption) | skip)
  refine G_retF rfl tOk rfl rfl ⟨rfl, trivial⟩ (v, Lh) hx [2] (fun i => i + 40) (fun _ => 0) rfl (by decide) rfl (fun j y h => ⟨y, h, (leafT_own _ _ h _).symm⟩) (fun j y h => rfl) (fun j j' y z h1 h2 e => ?inj9)
  case inj9 => omega

def env_wholeF : Env := ⟨T, psi_vc, pspNil, psc_del, 5, [], none, false⟩
theorem eok_wholeF : PsiOk Try.prog env_wholeF := ⟨psi_vc_ok, pspNil_ok, psc_del_ok⟩
theorem wholeF (t : List (List Entry)) (ht : TlOk t) : CtrF Try.prog 29 [.g [.pv (.lst .tbl t)]] [] (fun x : Value × List TE => x.2.length = t.length ∧ AllV x.2) (fun x => .g [.own 0 x.1]) (fun x => [.own x.1 59 .tbh x.2]) (fun x => leafT (Tt.leaf t) x.2) := by
  refine CtrF_intro (E := env_wholeF) Try.func29 rfl (by decide) rfl rfl (fun M0 W hM0 => ?_)
  refine G_run tOk eok_wholeF 60 (fun _ => none) (fun bs => rfl) (fun bs => ?_) (fun bs => ?_)
  · (repeat' apply And.intro) <;> (intros; first | exact trivial | exact rfl | omega | exact u8_lo _ | exact u8_hi _ | exact u8_in64 _ | exact u8_in63 _ | (simp only [inR, IntKind.bits]; omega) | (simp [inR, IntKind.bits]; done) | (simp [inR, IntKind.bits] at * <;> omega) | (simp_all; done) | (with_reducible assumption) | skip)
  refine G_nx 2 rfl ?_
  refine G_callF [] id (cutF t 4096 rfl ht) (fun x => leafT_own) rfl trivial rfl rfl rfl rfl (by decide) rfl (fun x => rfl) (fun x => rfl) (fun x hx => ?_)
  obtain ⟨v, Lh⟩ := x
  dsimp only at hx ⊢
  refine G_run tOk eok_wholeF 60 (fun _ => none) (fun bs => rfl) (fun bs => ?_) (fun bs => ?_)
  · (repeat' apply And.intro) <;> (intros; first | exact trivial | exact rfl | omega | exact u8_lo _ | exact u8_hi _ | exact u8_in64 _ | exact u8_in63 _ | (simp only [inR, IntKind.bits]; omega) | (simp [inR, IntKind.bits]; done) | (simp [inR, IntKind.bits] at * <;> omega) | (simp_all; done) | (with_reducible assumption) | skip)
  refine G_retF rfl tOk rfl rfl ⟨rfl, trivial⟩ (v, Lh) hx [2] (fun i => i + 40) (fun _ => 0) rfl (by decide) rfl (fun j y h => ⟨y, h, (leafT_own _ _ h _).symm⟩) (fun j y h => rfl) (fun j j' y z h1 h2 e => ?inj9)
  case inj9 => omega

/-- All new. -/
theorem wholeC (t : List (List Entry)) (ht : TlOk t) : Ctr Try.prog 29 false [.g [.pv (.lst .tbl t)]] (.x (.g [.lst .tbl t])) :=
  CtrF.toC (wholeF t ht) (ty' := 62) (fun x hx => ⟨hx.1.symm, fun i hi => by
    obtain ⟨u, hu⟩ := hx.2 i (by rw [hx.1]; exact hi)
    refine ⟨u, hu, ?_⟩
    unfold leafT
    rw [hu]
    rfl⟩)
end Go.Proofs.Ytgobmfkffhomaaa
