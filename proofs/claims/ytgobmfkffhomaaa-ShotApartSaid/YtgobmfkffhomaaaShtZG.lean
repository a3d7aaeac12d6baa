import Derived.Test.YtgobmfkffhomaaaShtZF
set_option linter.unusedSimpArgs false
set_option linter.unusedVariables false
set_option maxRecDepth 10000
set_option maxHeartbeats 3200000
namespace Go.Proofs.Ytgobmfkffhomaaa
open Go.Mt

def env_sfindF : Env := ⟨T, psi_vc, pspNil, psc_del, 24, [], none, false⟩
theorem eok_sfindF : PsiOk Try.prog env_sfindF := ⟨psi_vc_ok, pspNil_ok, psc_del_ok⟩
theorem sfindF (cl sz : Int) (bk : List UInt8) (t : List (List Entry)) (S : List Shot) (M : List Bitmap) (C : List Int) (nm : List UInt8) (q : Nat) (hS : ShOk S) (hq : spl S nm = q) : CtrF Try.prog 18 [.g [.pv (i64 cl), .pv (i64 sz), .pv (.val (.string ⟨⟨bk⟩⟩)), .pv (.lst .tbl t), .pv (.lst .sht S), .pv (.lst .bms M), .pv (.lst (.ints .i64) C)], str nm] [] (fun x : Value × List TE => x.2.length = (S.getD q LK.sht.dft).t.length ∧ AllV x.2) (fun x => .t [.g [.pv (.val (.string ⟨⟨(S.getD q LK.sht.dft).name⟩⟩)), .pv (i64 (S.getD q LK.sht.dft).size), .own 0 x.1], bool true]) (fun x => [.own x.1 59 .tbh x.2]) (fun x => leafT (Tt.leaf (S.getD q LK.sht.dft).t) x.2) := by
  refine CtrF_intro (E := env_sfindF) Try.func18 rfl (by decide) rfl rfl (fun M0 W hM0 => ?_)
  have hSl := hS.len
  have hp := spl_spec S nm
  have hTi : TlOk (S.getD q LK.sht.dft).t := hS.get _
  refine G_run tOk eok_sfindF 60 (fun _ => none) (fun bs => rfl) (fun bs => ?_) (fun bs => ?_)
  · (repeat' apply And.intro) <;> (intros; first | exact trivial | exact rfl | omega | exact u8_lo _ | exact u8_hi _ | exact u8_in64 _ | exact u8_in63 _ | (simp only [inR, IntKind.bits]; omega) | (simp [inR, IntKind.bits]; done) | (simp [inR, IntKind.bits] at * <;> omega) | (simp_all; done) | (with_reducible assumption) | skip)
  rw [hq]
  refine G_els rfl rfl (by simp) ?_
  refine G_run tOk eok_sfindF 60 (fun _ => none) (fun bs => rfl) (fun bs => ?_) (fun bs => ?_)
  · (repeat' apply And.intro) <;> (intros; first | exact trivial | exact rfl | omega | exact u8_lo _ | exact u8_hi _ | exact u8_in64 _ | exact u8_in63 _ | (simp only [inR, IntKind.bits]; omega) | (simp [inR, IntKind.bits]; done) | (simp [inR, IntKind.bits] at * <;> omega) | (simp_all; done) | (with_reducible assumption) | skip)
  refine G_nx 3 rfl ?_
  refine G_callF [] id (wholeF (S.getD q LK.sht.dft).t hTi) (fun x => leafT_own) rfl trivial rfl rfl rfl rfl (by decide) rfl (fun x => rfl) (fun x => rfl) (fun x hx => ?_)
  obtain ⟨v, Lh⟩ := x
  dsimp only at hx ⊢
  refine G_run tOk eok_sfindF 60 (fun _ => none) (fun bs => rfl) (fun bs => ?_) (fun bs => ?_)
  · (repeat' apply And.intro) <;> (intros; first | exact trivial | exact rfl | omega | exact u8_lo _ | exact u8_hi _ | exact u8_in64 _ | exact u8_in63 _ | (simp only [inR, IntKind.bits]; omega) | (simp [inR, IntKind.bits]; done) | (simp [inR, IntKind.bits] at * <;> omega) | (simp_all; done) | (with_reducible assumption) | skip)
  refine G_wkFB2 (ns := [1, 3]) (fun i => i + 40) (fs := fun b c => [(4, .c (.ptr 0 c 0)), (5, bool true)]) (hs := fun b c => [.blk c 40 [.pv (.val (.string ⟨⟨(S.getD q LK.sht.dft).name⟩⟩)), .pv (i64 (S.getD q LK.sht.dft).size), .own 0 v], .own v 59 .tbh Lh]) (L := leafT (Tt.leaf (S.getD q LK.sht.dft).t) Lh) 0 ?c0 rfl ⟨?wkA, fun i y h => h, fun i y h => rfl, fun i j y z _ _ e => ?injA⟩ (fun b c => ?_)
  case wkA => (repeat' apply And.intro) <;> (first | exact rfl | exact trivial | omega | refine sigEq ?_ | skip)
  case injA => omega
  refine G_retF rfl tOk rfl rfl ⟨rfl, trivial, trivial⟩ (v, Lh) hx [1] (fun i => i + 40) id rfl (by decide) rfl (fun j y h => ⟨y, h, (leafT_own _ _ h _).symm⟩) (fun j y h => rfl) (fun j j' y z h1 h2 e => ?inj9)
  case inj9 => omega
end Go.Proofs.Ytgobmfkffhomaaa
