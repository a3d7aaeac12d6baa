import Derived.Test.YtgobmfkffhomaaaSpnI
set_option linter.unusedSimpArgs false
set_option linter.unusedVariables false
namespace Go.Proofs.Ytgobmfkffhomaaa
open Go.Mt

theorem mem_rightL {l : List Span} {y : Span} (h : y ∈ rightL l) : Sp y := by
  unfold rightL at h
  split at h
  · rename_i hb; exact (right_iff.1 hb).1 y h
  · simp at h
theorem getD_of {l : List Span} {i : Nat} {y : Span} (h : l[i]? = some y) : l.getD i ⟨0, 0⟩ = y := by simp [List.getD, h]
theorem take_succ_of {α : Type} {l : List α} {i : Nat} {y : α} (h : l[i]? = some y) : l.take (i + 1) = l.take i ++ [y] := by
  rw [List.take_add_one, h]; rfl
theorem lt_of_get {α : Type} {l : List α} {i : Nat} {y : α} (h : l[i]? = some y) : i < l.length := (List.getElem?_eq_some_iff.1 h).1
theorem rightL_len {l : List Span} (h : l.length ≤ 1000000) : (rightL l).length ≤ 1000000 := by unfold rightL; split <;> first | omega | simp
theorem may_mix {s y : Span} (h : mayB s.fr s.to = true) (h2 : Sp y) : mayB (min s.fr y.fr) (max s.to y.to) = true := by
  have h' : Sp s := mayB_iff.1 h
  exact (mayB_iff (x := ⟨min s.fr y.fr, max s.to y.to⟩)).2 (by unfold Sp at *; dsimp only; omega)

def saOk (l : List Span) (s0 s1 : Int) (i : Nat) (x : Value × Span × List Span × Bool) : Prop :=
  x.2.2.1.length ≤ 2 * i ∧ match mayB s0 s1 with
    | true => addN (rightL l) ⟨s0, s1⟩ i = x.2 ∧ mayB x.2.1.fr x.2.1.to = true
    | false => x.2.1 = ⟨s0, s1⟩ ∧ x.2.2.2 = true ∧ x.2.2.1 = (rightL l).take i

def env_sadd : Env := ⟨T, psi_sall, pspNil, pscNil, 71, [], none, true⟩
theorem eok_sadd : PsiOk Try.prog env_sadd := ⟨psi_sall_ok, pspNil_ok, pscNil_ok⟩
theorem sadd_fn (l : List Span) (s0 : Int) (s1 : Int) (hl : l.length ≤ 1000000) : Ctr Try.prog 38 false [lst .spn l, .g [.pv (.val (.int .i64 s0)), .pv (.val (.int .i64 s1))]] (.o 48 .spn (addL l ⟨s0, s1⟩)) := by
  refine Ctr_intro (E := env_sadd) Try.func38 rfl (by decide) rfl rfl (fun M0 W hM0 => ?_)
  have hr := rightL_len hl
  refine G_run tOk eok_sadd 60 (fun _ => none) (fun bs => rfl) (fun bs => ?_) (fun bs => ?_)
  · (repeat' apply And.intro) <;> (intros; first | exact trivial | exact rfl | omega | exact u8_lo _ | exact u8_hi _ | exact u8_in64 _ | exact u8_in63 _ | (simp only [inR, IntKind.bits]; omega) | (simp [inR, IntKind.bits]; done) | (simp [inR, IntKind.bits] at * <;> omega) | (simp_all; done) | (with_reducible assumption) | skip)
  refine G_ownB 1 0 48 rfl rfl ?_
  refine G_range all_it rfl rfl (c := _) (o := _) (p := 13) (l := l) rfl (by decide) rfl hl
    [(3, .c (.ptr 0 (bs 0 0).bn 0)), (5, .c (.ptr 1 (bs 1 0).bn 0)), (6, .c (.ptr 2 (bs 2 3).bn 0))]
    (fun x : Value × Span × List Span × Bool => [.blk (bs 0 0).bn 48 [.pv (i64 x.2.1.fr), .pv (i64 x.2.1.to)], .blk (bs 1 0).bn 49 [.own 3 x.1], .blk (bs 2 3).bn 4 [.pv (bv x.2.2.2)], .own x.1 48 .spn x.2.2.1])
    (saOk l s0 s1) (fun _ _ => False) [0, 1, 2, 3] (.slice none 0 0, ⟨s0, s1⟩, [], !mayB s0 s1) ?h0 ?wk rfl (fun lid M1 M2 J1 i x y hy hok hb => ?_) (fun x hx => ?_) (fun i x hi hx => hx.elim)
  case h0 => refine ⟨Nat.le_refl _, ?_⟩; cases mayB s0 s1 <;> simp [addN]
  case wk => (repeat' apply And.intro) <;> (first | exact rfl | exact trivial | omega | refine sigEq ?_ | skip)
  · obtain ⟨v, s, out, put⟩ := x
    have hi := lt_of_get hy
    have hyd := getD_of hy
    have hyS : Sp y := mem_rightL (List.mem_of_getElem? hy)
    obtain ⟨hlen, hok⟩ := hok
    dsimp only at hlen hok ⊢
    refine G_run tOk (rdPsi eok_sadd) 60 (fun _ => none) (fun bs => rfl) (fun bs => ?_) (fun bs => ?_)
    · (repeat' apply And.intro) <;> (intros; first | exact trivial | exact rfl | omega | exact u8_lo _ | exact u8_hi _ | exact u8_in64 _ | exact u8_in63 _ | (simp only [inR, IntKind.bits]; omega) | (simp [inR, IntKind.bits]; done) | (simp [inR, IntKind.bits] at * <;> omega) | (simp_all; done) | (with_reducible assumption) | skip)
    refine hb _ ?_
    have nxt : ∀ x' : Span × List Span × Bool, x' = addStep (s, out, put) y → mayB s.fr s.to = true → (mayB s0 s1 = true → x'.2.1.length ≤ 2 * (i + 1) → mayB x'.1.fr x'.1.to = true → ∀ v', saOk l s0 s1 (i + 1) (v', x')) := by
      intro x' e hm hm0 h1 h2 v'
      refine ⟨h1, ?_⟩
      rw [hm0] at hok ⊢
      refine ⟨?_, h2⟩
      simp only [addN, hok.1, hyd]; exact e.symm
    cases hm0 : mayB s0 s1 with
    | false =>
      rw [hm0] at hok
      obtain ⟨e1, e2, e3⟩ := hok
      subst e2
      have hm : mayB s.fr s.to = false := by rw [e1]; exact hm0
      refine G_run tOk (rdPsi eok_sadd) 60 (fun j => match j with | 1 => some true | 5 => some true | _ => none) (fun bs => rfl) (fun bs => ?_) (fun bs => ?_)
      · (repeat' apply And.intro) <;> (intros; first | exact trivial | exact rfl | omega | exact u8_lo _ | exact u8_hi _ | exact u8_in64 _ | exact u8_in63 _ | (simp only [inR, IntKind.bits]; omega) | (simp [inR, IntKind.bits, hm]; done) | (simp [inR, IntKind.bits, hm] at * <;> omega) | (simp_all; done) | (with_reducible assumption) | skip)
      refine G_thn rfl rfl rfl ?_
      refine G_run tOk (rdPsi eok_sadd) 60 (fun _ => none) (fun bs => rfl) (fun bs => ?_) (fun bs => ?_)
      · (repeat' apply And.intro) <;> (intros; first | exact trivial | exact rfl | omega | exact u8_lo _ | exact u8_hi _ | exact u8_in64 _ | exact u8_in63 _ | (simp only [inR, IntKind.bits]; omega) | (simp [inR, IntKind.bits]; done) | (simp [inR, IntKind.bits] at * <;> omega) | (simp_all; done) | (with_reducible assumption) | skip)
      refine G_lp [0, 1, 2, 6] (?v1, s, out ++ [y], true) ?ok1 ?wk1
      case ok1 =>
        refine ⟨by simp; omega, ?_⟩
        rw [hm0]
        exact ⟨e1, rfl, by simp only; rw [take_succ_of hy, e3]⟩
      case wk1 => (repeat' apply And.intro) <;> (first | exact rfl | exact trivial | omega | refine sigEq ?_ | skip)
    | true =>
      rw [hm0] at hok
      have hm : mayB s.fr s.to = true := hok.2
      cases put with
      | true =>
        refine G_run tOk (rdPsi eok_sadd) 60 (fun j => match j with | 1 => some true | 5 => some false | _ => none) (fun bs => rfl) (fun bs => ?_) (fun bs => ?_)
        · (repeat' apply And.intro) <;> (intros; first | exact trivial | exact rfl | omega | exact u8_lo _ | exact u8_hi _ | exact u8_in64 _ | exact u8_in63 _ | (simp only [inR, IntKind.bits]; omega) | (simp [inR, IntKind.bits, hm]; done) | (simp [inR, IntKind.bits, hm] at * <;> omega) | (simp_all; done) | (with_reducible assumption) | skip)
        refine G_cond rfl rfl (fun h => ?_) (fun h => ?_)
        · have h : decide (y.fr > s.to) = true := by simpa [hm] using h
          refine G_run tOk (rdPsi eok_sadd) 60 (fun _ => none) (fun bs => rfl) (fun bs => ?_) (fun bs => ?_)
          · (repeat' apply And.intro) <;> (intros; first | exact trivial | exact rfl | omega | exact u8_lo _ | exact u8_hi _ | exact u8_in64 _ | exact u8_in63 _ | (simp only [inR, IntKind.bits]; omega) | (simp [inR, IntKind.bits]; done) | (simp [inR, IntKind.bits] at * <;> omega) | (simp_all; done) | (with_reducible assumption) | skip)
          refine G_lp [0, 1, 2, 6] (?v2, s, out ++ [y], true) ?ok2 ?wk2
          case ok2 =>
            refine nxt _ ?_ hm hm0 (by simp; omega) hm _
            simp only [addStep, h]; split <;> rfl
          case wk2 => (repeat' apply And.intro) <;> (first | exact rfl | exact trivial | omega | refine sigEq ?_ | skip)
        · have h : decide (y.fr > s.to) = false := by simpa [hm] using h
          refine G_run tOk (rdPsi eok_sadd) 60 (fun _ => none) (fun bs => rfl) (fun bs => ?_) (fun bs => ?_)
          · (repeat' apply And.intro) <;> (intros; first | exact trivial | exact rfl | omega | exact u8_lo _ | exact u8_hi _ | exact u8_in64 _ | exact u8_in63 _ | (simp only [inR, IntKind.bits]; omega) | (simp [inR, IntKind.bits]; done) | (simp [inR, IntKind.bits] at * <;> omega) | (simp_all; done) | (with_reducible assumption) | skip)
          refine G_cond (b := decide (y.to < s.fr)) rfl rfl (fun h2 => ?_) (fun h2 => ?_)
          · refine G_run tOk (rdPsi eok_sadd) 60 (fun _ => none) (fun bs => rfl) (fun bs => ?_) (fun bs => ?_)
            · (repeat' apply And.intro) <;> (intros; first | exact trivial | exact rfl | omega | exact u8_lo _ | exact u8_hi _ | exact u8_in64 _ | exact u8_in63 _ | (simp only [inR, IntKind.bits]; omega) | (simp [inR, IntKind.bits]; done) | (simp [inR, IntKind.bits] at * <;> omega) | (simp_all; done) | (with_reducible assumption) | skip)
            refine G_lp [0, 1, 2, 6] (?v3, s, out ++ [y], true) ?ok3 ?wk3
            case ok3 =>
              refine nxt _ ?_ hm hm0 (by simp; omega) hm _
              simp only [addStep, h2]
            case wk3 => (repeat' apply And.intro) <;> (first | exact rfl | exact trivial | omega | refine sigEq ?_ | skip)
          · refine G_run tOk (rdPsi eok_sadd) 60 (fun _ => none) (fun bs => rfl) (fun bs => ?_) (fun bs => ?_)
            · (repeat' apply And.intro) <;> (intros; first | exact trivial | exact rfl | omega | exact u8_lo _ | exact u8_hi _ | exact u8_in64 _ | exact u8_in63 _ | (simp only [inR, IntKind.bits]; omega) | (simp [inR, IntKind.bits]; done) | (simp [inR, IntKind.bits] at * <;> omega) | (simp_all; done) | (with_reducible assumption) | skip)
            refine G_els rfl rfl h ?_
            refine G_run tOk (rdPsi eok_sadd) 60 (fun _ => none) (fun bs => rfl) (fun bs => ?_) (fun bs => ?_)
            · (repeat' apply And.intro) <;> (intros; first | exact trivial | exact rfl | omega | exact u8_lo _ | exact u8_hi _ | exact u8_in64 _ | exact u8_in63 _ | (simp only [inR, IntKind.bits]; omega) | (simp [inR, IntKind.bits]; done) | (simp [inR, IntKind.bits] at * <;> omega) | (simp_all; done) | (with_reducible assumption) | skip)
            refine G_lp [0, 1, 2, 3] (?v4, ⟨min s.fr y.fr, max s.to y.to⟩, out, true) ?ok4 ?wk4
            case ok4 =>
              refine nxt _ ?_ hm hm0 (by simp; omega) (may_mix hm hyS) _
              simp only [addStep, h, h2]
            case wk4 => (repeat' apply And.intro) <;> (first | exact rfl | exact trivial | omega | refine sigEq ?_ | skip)
      | false =>
        refine G_run tOk (rdPsi eok_sadd) 60 (fun j => match j with | 1 => some false | 5 => some false | _ => none) (fun bs => rfl) (fun bs => ?_) (fun bs => ?_)
        · (repeat' apply And.intro) <;> (intros; first | exact trivial | exact rfl | omega | exact u8_lo _ | exact u8_hi _ | exact u8_in64 _ | exact u8_in63 _ | (simp only [inR, IntKind.bits]; omega) | (simp [inR, IntKind.bits, hm]; done) | (simp [inR, IntKind.bits, hm] at * <;> omega) | (simp_all; done) | (with_reducible assumption) | skip)
        refine G_els rfl rfl rfl ?_
        refine G_run tOk (rdPsi eok_sadd) 60 (fun _ => none) (fun bs => rfl) (fun bs => ?_) (fun bs => ?_)
        · (repeat' apply And.intro) <;> (intros; first | exact trivial | exact rfl | omega | exact u8_lo _ | exact u8_hi _ | exact u8_in64 _ | exact u8_in63 _ | (simp only [inR, IntKind.bits]; omega) | (simp [inR, IntKind.bits]; done) | (simp [inR, IntKind.bits] at * <;> omega) | (simp_all; done) | (with_reducible assumption) | skip)
        refine G_cond (b := decide (y.to < s.fr)) rfl rfl (fun h2 => ?_) (fun h2 => ?_)
        · refine G_run tOk (rdPsi eok_sadd) 60 (fun _ => none) (fun bs => rfl) (fun bs => ?_) (fun bs => ?_)
          · (repeat' apply And.intro) <;> (intros; first | exact trivial | exact rfl | omega | exact u8_lo _ | exact u8_hi _ | exact u8_in64 _ | exact u8_in63 _ | (simp only [inR, IntKind.bits]; omega) | (simp [inR, IntKind.bits]; done) | (simp [inR, IntKind.bits] at * <;> omega) | (simp_all; done) | (with_reducible assumption) | skip)
          refine G_lp [0, 1, 2, 6] (?v5, s, out ++ [y], false) ?ok5 ?wk5
          case ok5 =>
            refine nxt _ ?_ hm hm0 (by simp; omega) hm _
            simp only [addStep, h2]
          case wk5 => (repeat' apply And.intro) <;> (first | exact rfl | exact trivial | omega | refine sigEq ?_ | skip)
        · refine G_run tOk (rdPsi eok_sadd) 60 (fun _ => none) (fun bs => rfl) (fun bs => ?_) (fun bs => ?_)
          · (repeat' apply And.intro) <;> (intros; first | exact trivial | exact rfl | omega | exact u8_lo _ | exact u8_hi _ | exact u8_in64 _ | exact u8_in63 _ | (simp only [inR, IntKind.bits]; omega) | (simp [inR, IntKind.bits]; done) | (simp [inR, IntKind.bits] at * <;> omega) | (simp_all; done) | (with_reducible assumption) | skip)
          refine G_cond rfl rfl (fun h => ?_) (fun h => ?_)
          · refine G_run tOk (rdPsi eok_sadd) 60 (fun _ => none) (fun bs => rfl) (fun bs => ?_) (fun bs => ?_)
            · (repeat' apply And.intro) <;> (intros; first | exact trivial | exact rfl | omega | exact u8_lo _ | exact u8_hi _ | exact u8_in64 _ | exact u8_in63 _ | (simp only [inR, IntKind.bits]; omega) | (simp [inR, IntKind.bits]; done) | (simp [inR, IntKind.bits] at * <;> omega) | (simp_all; done) | (with_reducible assumption) | skip)
            refine G_lp [0, 1, 2, 6] (?v6, s, out ++ [s, y], true) ?ok6 ?wk6
            case ok6 =>
              refine nxt _ ?_ hm hm0 (by simp; omega) hm _
              simp only [addStep, h, h2, List.append_assoc, List.cons_append, List.nil_append]
            case wk6 => (repeat' apply And.intro) <;> (first | exact rfl | exact trivial | omega | refine sigEq ?_ | skip)
          · refine G_run tOk (rdPsi eok_sadd) 60 (fun _ => none) (fun bs => rfl) (fun bs => ?_) (fun bs => ?_)
            · (repeat' apply And.intro) <;> (intros; first | exact trivial | exact rfl | omega | exact u8_lo _ | exact u8_hi _ | exact u8_in64 _ | exact u8_in63 _ | (simp only [inR, IntKind.bits]; omega) | (simp [inR, IntKind.bits]; done) | (simp [inR, IntKind.bits] at * <;> omega) | (simp_all; done) | (with_reducible assumption) | skip)
            refine G_lp [0, 1, 2, 3] (?v7, ⟨min s.fr y.fr, max s.to y.to⟩, out, false) ?ok7 ?wk7
            case ok7 =>
              refine nxt _ ?_ hm hm0 (by simp; omega) (may_mix hm hyS) _
              simp only [addStep, h, h2]
            case wk7 => (repeat' apply And.intro) <;> (first | exact rfl | exact trivial | omega | refine sigEq ?_ | skip)
  · obtain ⟨v, s, out, put⟩ := x
    obtain ⟨hlen, hok⟩ := hx
    dsimp only at hlen hok ⊢
    refine G_run tOk eok_sadd 60 (fun _ => none) (fun bs => rfl) (fun bs => ?_) (fun bs => ?_)
    · (repeat' apply And.intro) <;> (intros; first | exact trivial | exact rfl | omega | exact u8_lo _ | exact u8_hi _ | exact u8_in64 _ | exact u8_in63 _ | (simp only [inR, IntKind.bits]; omega) | (simp [inR, IntKind.bits]; done) | (simp [inR, IntKind.bits] at * <;> omega) | (simp_all; done) | (with_reducible assumption) | skip)
    cases hm0 : mayB s0 s1 with
    | false =>
      rw [hm0] at hok
      obtain ⟨e1, e2, e3⟩ := hok
      subst e2
      refine G_els rfl rfl rfl ?_
      refine G_run tOk eok_sadd 60 (fun _ => none) (fun bs => rfl) (fun bs => ?_) (fun bs => ?_)
      · (repeat' apply And.intro) <;> (intros; first | exact trivial | exact rfl | omega | exact u8_lo _ | exact u8_hi _ | exact u8_in64 _ | exact u8_in63 _ | (simp only [inR, IntKind.bits]; omega) | (simp [inR, IntKind.bits]; done) | (simp [inR, IntKind.bits] at * <;> omega) | (simp_all; done) | (with_reducible assumption) | skip)
      refine G_ret tOk hM0 rfl rfl ⟨trivial, trivial⟩ ⟨rfl, rfl, rfl, sigEq ?_⟩
      simp only [addL, hm0]; rw [e3, List.take_length]
    | true =>
      rw [hm0] at hok
      cases put with
      | true =>
        refine G_els rfl rfl rfl ?_
        refine G_run tOk eok_sadd 60 (fun _ => none) (fun bs => rfl) (fun bs => ?_) (fun bs => ?_)
        · (repeat' apply And.intro) <;> (intros; first | exact trivial | exact rfl | omega | exact u8_lo _ | exact u8_hi _ | exact u8_in64 _ | exact u8_in63 _ | (simp only [inR, IntKind.bits]; omega) | (simp [inR, IntKind.bits]; done) | (simp [inR, IntKind.bits] at * <;> omega) | (simp_all; done) | (with_reducible assumption) | skip)
        refine G_ret tOk hM0 rfl rfl ⟨trivial, trivial⟩ ⟨rfl, rfl, rfl, sigEq ?_⟩
        simp only [addL, hm0, hok.1]
      | false =>
        refine G_thn rfl rfl rfl ?_
        refine G_run tOk eok_sadd 60 (fun _ => none) (fun bs => rfl) (fun bs => ?_) (fun bs => ?_)
        · (repeat' apply And.intro) <;> (intros; first | exact trivial | exact rfl | omega | exact u8_lo _ | exact u8_hi _ | exact u8_in64 _ | exact u8_in63 _ | (simp only [inR, IntKind.bits]; omega) | (simp [inR, IntKind.bits]; done) | (simp [inR, IntKind.bits] at * <;> omega) | (simp_all; done) | (with_reducible assumption) | skip)
        refine G_ret tOk hM0 rfl rfl ⟨trivial, trivial⟩ ⟨rfl, rfl, rfl, sigEq ?_⟩
        simp only [addL, hm0, hok.1]
def sadd_s : FSpec
  | [.c (.pv (.lst .spn l)), .g [.pv (.val (.int .i64 s0)), .pv (.val (.int .i64 s1))]] => some ((l.length ≤ 1000000), false, .o 48 .spn (addL l ⟨s0, s1⟩))
  | _ => none
theorem sadd_s_ok : SpecOk Try.prog 38 sadd_s := by
  intro args pre sh rv h hp; unfold sadd_s at h; split at h
  · cases h; have hl := hp; exact sadd_fn _ _ _ hl
  · cases h
def psi_sadd : FuncId → Option FSpec := psiCons 38 sadd_s psi_sall
theorem psi_sadd_ok : PsiFn Try.prog psi_sadd := psiCons_ok sadd_s_ok psi_sall_ok
end Go.Proofs.Ytgobmfkffhomaaa
