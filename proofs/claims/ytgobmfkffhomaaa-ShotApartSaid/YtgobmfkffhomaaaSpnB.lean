import Derived.Test.YtgobmfkffhomaaaSpnA
set_option linter.unusedSimpArgs false
set_option linter.unusedVariables false
namespace Go.Proofs.Ytgobmfkffhomaaa
open Go.Mt

def subX (s x : Span) : List Span :=
  (match decide (x.fr < s.fr) with | true => [⟨x.fr, min x.to s.fr⟩] | false => []) ++ (match decide (x.to > s.to) with | true => [⟨max x.fr s.to, x.to⟩] | false => [])
def subL (l : List Span) (s : Span) : List Span := match mayB s.fr s.to with
  | true => (rightL l).flatMap (subX s)
  | false => rightL l
def hasX (n : Int) (x : Span) : Bool := decide (x.fr ≤ n) && decide (n < x.to)
def hasL (l : List Span) (n : Int) : Bool := (rightL l).any (hasX n)
def cntS (l : List Span) : Int := (l.map (fun x => x.to - x.fr)).sum
def countL (l : List Span) : Int := cntS (rightL l)
theorem cntS_snoc (l : List Span) (x : Span) : cntS (l ++ [x]) = cntS l + (x.to - x.fr) := by simp [cntS]
theorem cntS_le : ∀ {l : List Span}, (∀ x ∈ l, Sp x) → 0 ≤ cntS l ∧ cntS l ≤ l.length * 1073741824 := by
  refine fun {l} => snoc_ind (p := fun l => (∀ x ∈ l, Sp x) → 0 ≤ cntS l ∧ cntS l ≤ l.length * 1073741824) (fun _ => ⟨Int.le_refl _, by simp [cntS]⟩) (fun l x ih h => ?_) l
  obtain ⟨h1, h2⟩ := ih (fun y hy => h y (by simp [hy]))
  have h3 := h x (by simp)
  unfold Sp at h3
  rw [cntS_snoc]
  simp only [List.length_append, List.length_singleton]
  omega
theorem cnt_take {l : List Span} (i : Nat) (hl : l.length ≤ 1000000) (hi : i ≤ l.length) : 0 ≤ cntS ((rightL l).take i) ∧ cntS ((rightL l).take i) ≤ 1073741824000000 := by
  have := @cntS_le ((rightL l).take i) (fun x hx => mem_rightL (List.mem_of_mem_take hx))
  have h2 := rightL_len hl
  simp only [List.length_take] at this
  omega
theorem subX_low {s x : Span} (hs : Sp s) (hx : Sp x) (h : x.to ≤ s.fr) : subX s x = [x] := by
  obtain ⟨xf, xt⟩ := x; obtain ⟨sf, st⟩ := s
  unfold Sp at *; dsimp only at *
  have e1 : decide (xf < sf) = true := by simp; omega
  have e2 : decide (xt > st) = false := by simp; omega
  simp only [subX, e1, e2]; rw [Int.min_eq_left h]; rfl
theorem subX_high {s x : Span} (hs : Sp s) (hx : Sp x) (h : x.fr ≥ s.to) : subX s x = [x] := by
  obtain ⟨xf, xt⟩ := x; obtain ⟨sf, st⟩ := s
  unfold Sp at *; dsimp only at *
  have e1 : decide (xf < sf) = false := by simp; omega
  have e2 : decide (xt > st) = true := by simp; omega
  simp only [subX, e1, e2]; rw [Int.max_eq_left h]; rfl
theorem subX_mid {s x : Span} (hs : Sp s) (hx : Sp x) (h1 : ¬ x.to ≤ s.fr) (h2 : ¬ x.fr ≥ s.to) :
    subX s x = (match decide (x.fr < s.fr) with | true => [⟨x.fr, s.fr⟩] | false => []) ++ (match decide (x.to > s.to) with | true => [⟨s.to, x.to⟩] | false => []) := by
  unfold subX; rw [Int.min_eq_right (by omega), Int.max_eq_right (by omega)]
theorem subX_len (s x : Span) : (subX s x).length ≤ 2 := by
  unfold subX
  cases decide (x.fr < s.fr) <;> cases decide (x.to > s.to) <;> simp

def ssOk (l : List Span) (s : Span) (i : Nat) (x : Value × List Span) : Prop :=
  x.2.length ≤ 2 * i ∧ x.2 = match mayB s.fr s.to with | true => ((rightL l).take i).flatMap (subX s) | false => (rightL l).take i

def env_ssub : Env := ⟨T, psi_sadd, pspNil, pscNil, 58, [], none, true⟩
theorem eok_ssub : PsiOk Try.prog env_ssub := ⟨psi_sadd_ok, pspNil_ok, pscNil_ok⟩
theorem ssub_fn (l : List Span) (s0 : Int) (s1 : Int) (hl : l.length ≤ 1000000) : Ctr Try.prog 37 false [lst .spn l, .g [.pv (.val (.int .i64 s0)), .pv (.val (.int .i64 s1))]] (.o 48 .spn (subL l ⟨s0, s1⟩)) := by
  refine Ctr_intro (E := env_ssub) Try.func37 rfl (by decide) rfl rfl (fun M0 W hM0 => ?_)
  have hr := rightL_len hl
  refine G_run tOk eok_ssub 60 (fun _ => none) (fun bs => rfl) (fun bs => ?_) (fun bs => ?_)
  · (repeat' apply And.intro) <;> (intros; first | exact trivial | exact rfl | omega | exact u8_lo _ | exact u8_hi _ | exact u8_in64 _ | exact u8_in63 _ | (simp only [inR, IntKind.bits]; omega) | (simp [inR, IntKind.bits]; done) | (simp [inR, IntKind.bits] at * <;> omega) | (simp_all; done) | (with_reducible assumption) | skip)
  refine G_ownB 1 0 48 rfl rfl ?_
  refine G_range all_it rfl rfl (c := _) (o := _) (p := 9) (l := l) rfl (by decide) rfl hl
    [(3, .c (.ptr 0 (bs 0 0).bn 0)), (5, .c (.ptr 1 (bs 1 0).bn 0))]
    (fun x : Value × List Span => [.blk (bs 0 0).bn 48 [.pv (i64 s0), .pv (i64 s1)], .blk (bs 1 0).bn 49 [.own 2 x.1], .own x.1 48 .spn x.2])
    (ssOk l ⟨s0, s1⟩) (fun _ _ => False) [0, 1, 2] (.slice none 0 0, []) ?h0 ?wk rfl (fun lid M1 M2 J1 i x y hy hok hb => ?_) (fun x hx => ?_) (fun i x hi hx => hx.elim)
  case h0 => refine ⟨Nat.le_refl _, ?_⟩; cases mayB s0 s1 <;> simp
  case wk => (repeat' apply And.intro) <;> (first | exact rfl | exact trivial | omega | refine sigEq ?_ | skip)
  · obtain ⟨v, out⟩ := x
    have hi := lt_of_get hy
    have hyd := getD_of hy
    have hyS : Sp y := mem_rightL (List.mem_of_getElem? hy)
    obtain ⟨hlen, hok⟩ := hok
    dsimp only at hlen hok ⊢
    refine G_run tOk (rdPsi eok_ssub) 60 (fun _ => none) (fun bs => rfl) (fun bs => ?_) (fun bs => ?_)
    · (repeat' apply And.intro) <;> (intros; first | exact trivial | exact rfl | omega | exact u8_lo _ | exact u8_hi _ | exact u8_in64 _ | exact u8_in63 _ | (simp only [inR, IntKind.bits]; omega) | (simp [inR, IntKind.bits]; done) | (simp [inR, IntKind.bits] at * <;> omega) | (simp_all; done) | (with_reducible assumption) | skip)
    refine hb _ ?_
    have nxt : ∀ x' : List Span, x' = out ++ (match mayB s0 s1 with | true => subX ⟨s0, s1⟩ y | false => [y]) → ∀ v', ssOk l ⟨s0, s1⟩ (i + 1) (v', x') := by
      intro x' e v'
      subst e
      refine ⟨?_, ?_⟩
      · have := subX_len ⟨s0, s1⟩ y
        cases mayB s0 s1 <;> simp <;> omega
      · dsimp only
        rw [hok, take_succ_of hy]
        cases mayB s0 s1 <;> simp
    cases hm : mayB s0 s1 with
    | false =>
      refine G_run tOk (rdPsi eok_ssub) 60 (fun j => match j with | 3 => some true | 10 => some true | _ => none) (fun bs => rfl) (fun bs => ?_) (fun bs => ?_)
      · (repeat' apply And.intro) <;> (intros; first | exact trivial | exact rfl | omega | exact u8_lo _ | exact u8_hi _ | exact u8_in64 _ | exact u8_in63 _ | (simp only [inR, IntKind.bits]; omega) | (simp [inR, IntKind.bits, hm]; done) | (simp [inR, IntKind.bits, hm] at * <;> omega) | (simp_all; done) | (with_reducible assumption) | skip)
      refine G_thn rfl rfl rfl ?_
      refine G_run tOk (rdPsi eok_ssub) 60 (fun _ => none) (fun bs => rfl) (fun bs => ?_) (fun bs => ?_)
      · (repeat' apply And.intro) <;> (intros; first | exact trivial | exact rfl | omega | exact u8_lo _ | exact u8_hi _ | exact u8_in64 _ | exact u8_in63 _ | (simp only [inR, IntKind.bits]; omega) | (simp [inR, IntKind.bits]; done) | (simp [inR, IntKind.bits] at * <;> omega) | (simp_all; done) | (with_reducible assumption) | skip)
      refine G_lp [0, 1, 5] (?v1, out ++ [y]) ?ok1 ?wk1
      case ok1 => exact nxt _ (by rw [hm]) _
      case wk1 => (repeat' apply And.intro) <;> (first | exact rfl | exact trivial | omega | refine sigEq ?_ | skip)
    | true =>
      have hs : Sp ⟨s0, s1⟩ := mayB_iff.1 hm
      rw [hm] at nxt
      by_cases c1 : y.to ≤ s0
      · refine G_run tOk (rdPsi eok_ssub) 60 (fun j => match j with | 3 => some false | 10 => some true | _ => none) (fun bs => rfl) (fun bs => ?_) (fun bs => ?_)
        · (repeat' apply And.intro) <;> (intros; first | exact trivial | exact rfl | omega | exact u8_lo _ | exact u8_hi _ | exact u8_in64 _ | exact u8_in63 _ | (simp only [inR, IntKind.bits]; omega) | (simp [inR, IntKind.bits, hm, c1]; done) | (simp [inR, IntKind.bits, hm, c1] at * <;> omega) | (simp_all; done) | (with_reducible assumption) | skip)
        refine G_cond rfl rfl (fun h => ?_) (fun h => ?_)
        · refine G_run tOk (rdPsi eok_ssub) 60 (fun _ => none) (fun bs => rfl) (fun bs => ?_) (fun bs => ?_)
          · (repeat' apply And.intro) <;> (intros; first | exact trivial | exact rfl | omega | exact u8_lo _ | exact u8_hi _ | exact u8_in64 _ | exact u8_in63 _ | (simp only [inR, IntKind.bits]; omega) | (simp [inR, IntKind.bits]; done) | (simp [inR, IntKind.bits] at * <;> omega) | (simp_all; done) | (with_reducible assumption) | skip)
          refine G_lp [0, 1, 5] (?v2, out ++ [y]) ?ok2 ?wk2
          case ok2 => exact nxt _ (by simp only [subX_low hs hyS c1]) _
          case wk2 => (repeat' apply And.intro) <;> (first | exact rfl | exact trivial | omega | refine sigEq ?_ | skip)
        · simp [hm, c1] at h
      · refine G_run tOk (rdPsi eok_ssub) 60 (fun j => match j with | 3 => some false | 10 => some false | _ => none) (fun bs => rfl) (fun bs => ?_) (fun bs => ?_)
        · (repeat' apply And.intro) <;> (intros; first | exact trivial | exact rfl | omega | exact u8_lo _ | exact u8_hi _ | exact u8_in64 _ | exact u8_in63 _ | (simp only [inR, IntKind.bits]; omega) | (simp [inR, IntKind.bits, hm, c1]; done) | (simp [inR, IntKind.bits, hm, c1] at * <;> omega) | (simp_all; done) | (with_reducible assumption) | skip)
        refine G_cond rfl rfl (fun h => ?_) (fun h => ?_)
        · have h : y.fr ≥ s1 := by simp [hm, c1] at h; exact h
          refine G_run tOk (rdPsi eok_ssub) 60 (fun _ => none) (fun bs => rfl) (fun bs => ?_) (fun bs => ?_)
          · (repeat' apply And.intro) <;> (intros; first | exact trivial | exact rfl | omega | exact u8_lo _ | exact u8_hi _ | exact u8_in64 _ | exact u8_in63 _ | (simp only [inR, IntKind.bits]; omega) | (simp [inR, IntKind.bits]; done) | (simp [inR, IntKind.bits] at * <;> omega) | (simp_all; done) | (with_reducible assumption) | skip)
          refine G_lp [0, 1, 5] (?v3, out ++ [y]) ?ok3 ?wk3
          case ok3 => exact nxt _ (by simp only [subX_high hs hyS h]) _
          case wk3 => (repeat' apply And.intro) <;> (first | exact rfl | exact trivial | omega | refine sigEq ?_ | skip)
        · have h : ¬ y.fr ≥ s1 := by simp [hm, c1] at h; omega
          have hx := subX_mid hs hyS c1 h
          dsimp only at hx
          simp only [hx] at nxt
          refine G_run tOk (rdPsi eok_ssub) 60 (fun _ => none) (fun bs => rfl) (fun bs => ?_) (fun bs => ?_)
          · (repeat' apply And.intro) <;> (intros; first | exact trivial | exact rfl | omega | exact u8_lo _ | exact u8_hi _ | exact u8_in64 _ | exact u8_in63 _ | (simp only [inR, IntKind.bits]; omega) | (simp [inR, IntKind.bits]; done) | (simp [inR, IntKind.bits] at * <;> omega) | (simp_all; done) | (with_reducible assumption) | skip)
          refine G_cond (b := decide (y.fr < s0)) rfl rfl (fun h1 => ?_) (fun h1 => ?_)
          · refine G_run tOk (rdPsi eok_ssub) 60 (fun _ => none) (fun bs => rfl) (fun bs => ?_) (fun bs => ?_)
            · (repeat' apply And.intro) <;> (intros; first | exact trivial | exact rfl | omega | exact u8_lo _ | exact u8_hi _ | exact u8_in64 _ | exact u8_in63 _ | (simp only [inR, IntKind.bits]; omega) | (simp [inR, IntKind.bits]; done) | (simp [inR, IntKind.bits] at * <;> omega) | (simp_all; done) | (with_reducible assumption) | skip)
            refine G_cond (b := decide (y.to > s1)) rfl rfl (fun h2 => ?_) (fun h2 => ?_)
            · refine G_run tOk (rdPsi eok_ssub) 60 (fun _ => none) (fun bs => rfl) (fun bs => ?_) (fun bs => ?_)
              · (repeat' apply And.intro) <;> (intros; first | exact trivial | exact rfl | omega | exact u8_lo _ | exact u8_hi _ | exact u8_in64 _ | exact u8_in63 _ | (simp only [inR, IntKind.bits]; omega) | (simp [inR, IntKind.bits]; done) | (simp [inR, IntKind.bits] at * <;> omega) | (simp_all; done) | (with_reducible assumption) | skip)
              refine G_lp [0, 1, 7] (?v4, out ++ [⟨y.fr, s0⟩] ++ [⟨s1, y.to⟩]) ?ok4 ?wk4
              case ok4 => exact nxt _ (by simp only [h1, h2, List.append_assoc]) _
              case wk4 => (repeat' apply And.intro) <;> (first | exact rfl | exact trivial | omega | refine sigEq ?_ | skip)
            · refine G_run tOk (rdPsi eok_ssub) 60 (fun _ => none) (fun bs => rfl) (fun bs => ?_) (fun bs => ?_)
              · (repeat' apply And.intro) <;> (intros; first | exact trivial | exact rfl | omega | exact u8_lo _ | exact u8_hi _ | exact u8_in64 _ | exact u8_in63 _ | (simp only [inR, IntKind.bits]; omega) | (simp [inR, IntKind.bits]; done) | (simp [inR, IntKind.bits] at * <;> omega) | (simp_all; done) | (with_reducible assumption) | skip)
              refine G_lp [0, 1, 5] (?v5, out ++ [⟨y.fr, s0⟩]) ?ok5 ?wk5
              case ok5 => exact nxt _ (by simp only [h1, h2, List.append_nil]) _
              case wk5 => (repeat' apply And.intro) <;> (first | exact rfl | exact trivial | omega | refine sigEq ?_ | skip)
          · refine G_run tOk (rdPsi eok_ssub) 60 (fun _ => none) (fun bs => rfl) (fun bs => ?_) (fun bs => ?_)
            · (repeat' apply And.intro) <;> (intros; first | exact trivial | exact rfl | omega | exact u8_lo _ | exact u8_hi _ | exact u8_in64 _ | exact u8_in63 _ | (simp only [inR, IntKind.bits]; omega) | (simp [inR, IntKind.bits]; done) | (simp [inR, IntKind.bits] at * <;> omega) | (simp_all; done) | (with_reducible assumption) | skip)
            refine G_cond (b := decide (y.to > s1)) rfl rfl (fun h2 => ?_) (fun h2 => ?_)
            · refine G_run tOk (rdPsi eok_ssub) 60 (fun _ => none) (fun bs => rfl) (fun bs => ?_) (fun bs => ?_)
              · (repeat' apply And.intro) <;> (intros; first | exact trivial | exact rfl | omega | exact u8_lo _ | exact u8_hi _ | exact u8_in64 _ | exact u8_in63 _ | (simp only [inR, IntKind.bits]; omega) | (simp [inR, IntKind.bits]; done) | (simp [inR, IntKind.bits] at * <;> omega) | (simp_all; done) | (with_reducible assumption) | skip)
              refine G_lp [0, 1, 5] (?v6, out ++ [⟨s1, y.to⟩]) ?ok6 ?wk6
              case ok6 => exact nxt _ (by simp only [h1, h2, List.nil_append]) _
              case wk6 => (repeat' apply And.intro) <;> (first | exact rfl | exact trivial | omega | refine sigEq ?_ | skip)
            · refine G_run tOk (rdPsi eok_ssub) 60 (fun _ => none) (fun bs => rfl) (fun bs => ?_) (fun bs => ?_)
              · (repeat' apply And.intro) <;> (intros; first | exact trivial | exact rfl | omega | exact u8_lo _ | exact u8_hi _ | exact u8_in64 _ | exact u8_in63 _ | (simp only [inR, IntKind.bits]; omega) | (simp [inR, IntKind.bits]; done) | (simp [inR, IntKind.bits] at * <;> omega) | (simp_all; done) | (with_reducible assumption) | skip)
              refine G_lp [0, 1, 2] (?v7, out) ?ok7 ?wk7
              case ok7 => exact nxt _ (by simp only [h1, h2, List.append_nil]) _
              case wk7 => (repeat' apply And.intro) <;> (first | exact rfl | exact trivial | omega | refine sigEq ?_ | skip)
  · obtain ⟨v, out⟩ := x
    obtain ⟨hlen, hok⟩ := hx
    dsimp only at hlen hok ⊢
    refine G_run tOk eok_ssub 60 (fun _ => none) (fun bs => rfl) (fun bs => ?_) (fun bs => ?_)
    · (repeat' apply And.intro) <;> (intros; first | exact trivial | exact rfl | omega | exact u8_lo _ | exact u8_hi _ | exact u8_in64 _ | exact u8_in63 _ | (simp only [inR, IntKind.bits]; omega) | (simp [inR, IntKind.bits]; done) | (simp [inR, IntKind.bits] at * <;> omega) | (simp_all; done) | (with_reducible assumption) | skip)
    refine G_ret tOk hM0 rfl rfl ⟨trivial, trivial⟩ ⟨rfl, rfl, rfl, sigEq ?_⟩
    rw [hok]; unfold subL; cases mayB s0 s1 <;> simp only [List.take_length]
def ssub_s : FSpec
  | [.c (.pv (.lst .spn l)), .g [.pv (.val (.int .i64 s0)), .pv (.val (.int .i64 s1))]] => some ((l.length ≤ 1000000), false, .o 48 .spn (subL l ⟨s0, s1⟩))
  | _ => none
theorem ssub_s_ok : SpecOk Try.prog 37 ssub_s := by
  intro args pre sh rv h hp; unfold ssub_s at h; split at h
  · cases h; have hl := hp; exact ssub_fn _ _ _ hl
  · cases h
def psi_ssub : FuncId → Option FSpec := psiCons 37 ssub_s psi_sadd
theorem psi_ssub_ok : PsiFn Try.prog psi_ssub := psiCons_ok ssub_s_ok psi_sadd_ok
end Go.Proofs.Ytgobmfkffhomaaa
