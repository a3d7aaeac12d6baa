import Derived.Test.YtbhemhmdmeomdaaIdxG
set_option linter.unusedSimpArgs false
set_option linter.unusedVariables false
namespace Go.Proofs.Ytbhemhmdmeomdaa
open Go.Mt

abbrev withoutE (e : Entry) (l : List Known) : List Known := l.filter (fun x => !isE e x)
theorem withoutE_snoc {e : Entry} {l : List Known} {j : Nat} (h : j < l.length) : withoutE e (l.take (j + 1)) = withoutE e (l.take j) ++ (if isE e (l.getD j LK.knw.dft) = true then [] else [l.getD j LK.knw.dft]) := by
  unfold withoutE
  rw [take_succ_getD (d := LK.knw.dft) h, List.filter_append]
  congr 1
  cases hp : isE e (l.getD j LK.knw.dft) with
  | true => rw [if_pos rfl, List.filter_cons, hp]; rfl
  | false => rw [if_neg (by simp), List.filter_cons, hp]; rfl
def DelOk (e : Entry) (l : List Known) (x : Nat × Nat × List Known) : Prop := x.2.1 < x.1 ∧ x.1 ≤ l.length ∧ x.2.2.length = l.length ∧ x.2.2.take x.2.1 = withoutE e (l.take x.1) ∧ x.2.2.drop x.1 = l.drop x.1

def env_hdelf : Env := ⟨T, psi_eidx, pspNil, psc_del, 42, [], none, false⟩
theorem eok_hdelf : PsiOk Try.prog env_hdelf := ⟨psi_eidx_ok, pspNil_ok, psc_del_ok⟩
theorem hdelf (v : Value) (l : List Known) (c0 c1 c2 c3 c4 : Int) (hl : l.length ≤ 1000) : CtrH Try.prog 25 [.c (.own 0 v), .c (.clo 26 [.cel [i64 c0, i64 c1, i64 c2, i64 c3, .val (.int .u32 c4)]])] [.own v 58 .knw l] (fun _ => True) (fun u : Value => .c (.own 0 u)) (fun u => [.own u 58 .knw (withoutE ⟨c0, c1, c2, c3, c4⟩ l)]) := by
  refine CtrH_intro (E := env_hdelf) Try.func25 rfl (by decide) rfl rfl (fun M0 W hM0 => ?_)
  generalize hE : (⟨c0, c1, c2, c3, c4⟩ : Entry) = e
  refine G_run tOk eok_hdelf 60 (fun _ => none) (fun bs => rfl) (fun bs => ?_) (fun bs => ?_)
  · (repeat' apply And.intro) <;> (intros; first | exact trivial | exact rfl | omega | exact u8_lo _ | exact u8_hi _ | exact u8_in64 _ | exact u8_in63 _ | (simp only [inR, IntKind.bits]; omega) | (simp [inR, IntKind.bits]; done) | (simp [inR, IntKind.bits] at * <;> omega) | (simp_all; done) | (with_reducible assumption) | skip)
  have hsp := ixP_spec (isE e) LK.knw.dft l l.length
  have hr := ixP_lt (isE e) LK.knw.dft l l.length
  rw [hE]
  refine G_if rfl rfl (fun hk => ?_) (fun hk => ?_)
  · have hw : withoutE e l = l := by
      rcases hsp with ⟨_, h2⟩ | ⟨i, _, h2, _⟩
      · have := filter_take (i := l.length) h2
        simpa using this
      · omega
    rw [hw]
    refine G_run tOk eok_hdelf 60 (fun _ => none) (fun bs => rfl) (fun bs => ?_) (fun bs => ?_)
    · (repeat' apply And.intro) <;> (intros; first | exact trivial | exact rfl | omega | exact u8_lo _ | exact u8_hi _ | exact u8_in64 _ | exact u8_in63 _ | (simp only [inR, IntKind.bits]; omega) | (simp [inR, IntKind.bits]; done) | (simp [inR, IntKind.bits] at * <;> omega) | (simp_all; done) | (with_reducible assumption) | skip)
    refine G_retH rfl tOk rfl rfl ⟨trivial, trivial⟩ v trivial [0] id rfl (by decide) rfl
  · obtain ⟨i0, g1, g2, g3, g4⟩ := hsp.resolve_left (fun h => hk h.1)
    refine G_run tOk eok_hdelf 60 (fun _ => none) (fun bs => rfl) (fun bs => ?_) (fun bs => ?_)
    · (repeat' apply And.intro) <;> (intros; first | exact trivial | exact rfl | omega | exact u8_lo _ | exact u8_hi _ | exact u8_in64 _ | exact u8_in63 _ | (simp only [inR, IntKind.bits]; omega) | (simp [inR, IntKind.bits]; done) | (simp [inR, IntKind.bits] at * <;> omega) | (simp_all; done) | (with_reducible assumption) | skip)
    refine G_loop (fun x : Nat × Nat × List Known => [(0, .c (.own 0 v)), (1, .c (.clo 26 [.cel [i64 c0, i64 c1, i64 c2, i64 c3, .val (.int .u32 c4)]])), (5, int .i64 x.2.1), (6, int .i64 x.1)]) (fun x => [.own v 58 .knw x.2.2]) (DelOk e l) (fun x => l.length - x.1) rfl [0] (i0 + 1, i0, l) ⟨Nat.lt_succ_self _, g1, rfl, ?hi, rfl⟩ ?wk (fun x hx => ?_)
    case hi =>
      rw [withoutE_snoc g1, if_pos g3, List.append_nil]
      exact (filter_take g4).symm
    case wk =>
      (repeat' apply And.intro) <;> (first | exact rfl | exact trivial | omega | refine sigEq ?_ | skip)
      all_goals (simp only; omega)
    obtain ⟨j, i, s⟩ := x
    obtain ⟨h1, h2, h3, h4, h5⟩ := hx
    simp only at h1 h2 h3 h4 h5 ⊢
    refine G_run tOk eok_hdelf 60 (fun _ => none) (fun bs => rfl) (fun bs => ?_) (fun bs => ?_)
    · (repeat' apply And.intro) <;> (intros; first | exact trivial | exact rfl | omega | exact u8_lo _ | exact u8_hi _ | exact u8_in64 _ | exact u8_in63 _ | (simp only [inR, IntKind.bits]; omega) | (simp [inR, IntKind.bits]; done) | (simp [inR, IntKind.bits] at * <;> omega) | (simp_all; done) | (with_reducible assumption) | skip)
    refine G_if rfl rfl (fun hk2 => ?_) (fun hk2 => ?_)
    · have hj : j < l.length := by omega
      have hget : s.getD j LK.knw.dft = l.getD j LK.knw.dft := getD_of_drop h5 (Nat.le_refl _)
      have hdr : s.drop (j + 1) = l.drop (j + 1) := by
        have := congrArg (List.drop 1) h5
        simpa [List.drop_drop] using this
      have hs := withoutE_snoc (e := e) hj
      refine G_run tOk eok_hdelf 60 (fun _ => none) (fun bs => rfl) (fun bs => ?_) (fun bs => ?_)
      · (repeat' apply And.intro) <;> (intros; first | exact trivial | exact rfl | omega | exact u8_lo _ | exact u8_hi _ | exact u8_in64 _ | exact u8_in63 _ | (simp only [inR, IntKind.bits]; omega) | (simp [inR, IntKind.bits]; done) | (simp [inR, IntKind.bits] at * <;> omega) | (simp_all; done) | (with_reducible assumption) | skip)
      refine G_cond (b := !isE ⟨c0, c1, c2, c3, c4⟩ (s.getD j LK.knw.dft)) rfl rfl (fun h => ?_) (fun h => ?_)
      · rw [hE] at h
        have hp : isE e (l.getD j LK.knw.dft) = false := by rw [← hget]; simpa using h
        rw [hp, if_neg (by simp)] at hs
        refine G_run tOk eok_hdelf 60 (fun _ => none) (fun bs => rfl) (fun bs => ?_) (fun bs => ?_)
        · (repeat' apply And.intro) <;> (intros; first | exact trivial | exact rfl | omega | exact u8_lo _ | exact u8_hi _ | exact u8_in64 _ | exact u8_in63 _ | (simp only [inR, IntKind.bits]; omega) | (simp [inR, IntKind.bits]; done) | (simp [inR, IntKind.bits] at * <;> omega) | (simp_all; done) | (with_reducible assumption) | skip)
        refine G_lp [0] (j + 1, i + 1, s.set i (s.getD j LK.knw.dft)) ?ok ?wk1
        case ok => exact ⟨⟨by simp only; omega, hj, by simp only [List.length_set]; exact h3, by simp only; rw [take_set_self (by omega), h4, hs, hget], by simp only; rw [drop_set_lt (by omega)]; exact hdr⟩, by simp only; omega⟩
        case wk1 => (repeat' apply And.intro) <;> (first | exact rfl | exact trivial | omega | refine sigEq ?_ | skip)
      · rw [hE] at h
        have hp : isE e (l.getD j LK.knw.dft) = true := by rw [← hget]; simpa using h
        rw [hp, if_pos rfl, List.append_nil] at hs
        refine G_run tOk eok_hdelf 60 (fun _ => none) (fun bs => rfl) (fun bs => ?_) (fun bs => ?_)
        · (repeat' apply And.intro) <;> (intros; first | exact trivial | exact rfl | omega | exact u8_lo _ | exact u8_hi _ | exact u8_in64 _ | exact u8_in63 _ | (simp only [inR, IntKind.bits]; omega) | (simp [inR, IntKind.bits]; done) | (simp [inR, IntKind.bits] at * <;> omega) | (simp_all; done) | (with_reducible assumption) | skip)
        refine G_lp [0] (j + 1, i, s) ?ok2 ?wk2
        case ok2 => exact ⟨⟨by simp only; omega, hj, h3, by simp only; rw [h4, hs], hdr⟩, by simp only; omega⟩
        case wk2 => (repeat' apply And.intro) <;> (first | exact rfl | exact trivial | omega | refine sigEq ?_ | skip)
    · have hj : j = l.length := by omega
      subst hj
      have hw : s.take i = withoutE e l := by rw [h4, List.take_length]
      refine G_unown 0 rfl (fun e1 _ => ?_) (fun b cap e hc hm => ?_)
      · exfalso; rw [e1] at h3; simp at h3; omega
      subst e
      refine G_slot 0 (y := pv (.val (.slice (some ⟨b, 0, none⟩) s.length cap))) rfl (fun M v h => by rw [h.own_inv]; exact .c (.pv (.val rfl))) ?_
      refine G_trunc 0 i rfl (by omega) ?_
      refine G_run tOk eok_hdelf 60 (fun _ => none) (fun bs => rfl) (fun bs => ?_) (fun bs => ?_)
      · (repeat' apply And.intro) <;> (intros; first | exact trivial | exact rfl | omega | exact u8_lo _ | exact u8_hi _ | exact u8_in64 _ | exact u8_in63 _ | (simp only [inR, IntKind.bits]; omega) | (simp [inR, IntKind.bits]; done) | (simp [inR, IntKind.bits] at * <;> omega) | (simp_all; done) | (with_reducible assumption) | skip)
      refine G_clearRaw 0 (lo := i) (hi := s.length) tOk rfl rfl rfl rfl rfl rfl rfl rfl rfl ?_ hc rfl ?_
      · simp; omega
      refine G_run tOk eok_hdelf 60 (fun _ => none) (fun bs => rfl) (fun bs => ?_) (fun bs => ?_)
      · (repeat' apply And.intro) <;> (intros; first | exact trivial | exact rfl | omega | exact u8_lo _ | exact u8_hi _ | exact u8_in64 _ | exact u8_in63 _ | (simp only [inR, IntKind.bits]; omega) | (simp [inR, IntKind.bits]; done) | (simp [inR, IntKind.bits] at * <;> omega) | (simp_all; done) | (with_reducible assumption) | skip)
      refine G_slot 4 (y := pv (.val (.slice (some ⟨b, 0, none⟩) i cap))) rfl (fun M v h => by rw [h.val_inv]; simp [sli]; exact .c (.pv (.val rfl))) ?_
      refine G_link 4 0 rfl rfl rfl ?_
      refine G_retH rfl tOk rfl rfl ⟨trivial, trivial⟩ _ trivial [0] id rfl (by decide) ?_
      rw [← hw]
      rfl

def env_hforg : Env := ⟨T, psi_eidx, pspNil, psc_del, 29, [], none, false⟩
theorem eok_hforg : PsiOk Try.prog env_hforg := ⟨psi_eidx_ok, pspNil_ok, psc_del_ok⟩
theorem hforg (b : Nat) (v : Value) (c : Int) (l : List Known) (e0 e1 e2 e3 e4 : Int) (hl : l.length ≤ 1000) : CtrH Try.prog 15 [.c (.ptr 0 b 0), .g [.pv (i64 e0), .pv (i64 e1), .pv (i64 e2), .pv (i64 e3), .pv (.val (.int .u32 e4))]] (kH b v c l) (fun _ => True) (fun _ : Value => bool (decide ((withoutE ⟨e0, e1, e2, e3, e4⟩ l).length < l.length))) (fun u => kH b u c (withoutE ⟨e0, e1, e2, e3, e4⟩ l)) := by
  refine CtrH_intro (E := env_hforg) Try.func15 rfl (by decide) rfl rfl (fun M0 W hM0 => ?_)
  refine G_run tOk eok_hforg 60 (fun _ => none) (fun bs => rfl) (fun bs => ?_) (fun bs => ?_)
  · (repeat' apply And.intro) <;> (intros; first | exact trivial | exact rfl | omega | exact u8_lo _ | exact u8_hi _ | exact u8_in64 _ | exact u8_in63 _ | (simp only [inR, IntKind.bits]; omega) | (simp [inR, IntKind.bits]; done) | (simp [inR, IntKind.bits] at * <;> omega) | (simp_all; done) | (with_reducible assumption) | skip)
  refine G_els rfl rfl rfl ?_
  refine G_run tOk eok_hforg 60 (fun _ => none) (fun bs => rfl) (fun bs => ?_) (fun bs => ?_)
  · (repeat' apply And.intro) <;> (intros; first | exact trivial | exact rfl | omega | exact u8_lo _ | exact u8_hi _ | exact u8_in64 _ | exact u8_in63 _ | (simp only [inR, IntKind.bits]; omega) | (simp [inR, IntKind.bits]; done) | (simp [inR, IntKind.bits] at * <;> omega) | (simp_all; done) | (with_reducible assumption) | skip)
  refine G_freezeB 18 2 (ys := [i64 e0, i64 e1, i64 e2, i64 e3, .val (.int .u32 e4)]) rfl rfl ?_
  refine G_nx 3 rfl ?_
  refine G_callH [1] (fun _ => 0) (hdelf v l e0 e1 e2 e3 e4 hl) rfl trivial rfl rfl rfl rfl (by decide) rfl rfl (fun x => rfl) (fun u _ => ?_)
  refine G_run tOk eok_hforg 60 (fun _ => none) (fun bs => rfl) (fun bs => ?_) (fun bs => ?_)
  · (repeat' apply And.intro) <;> (intros; first | exact trivial | exact rfl | omega | exact u8_lo _ | exact u8_hi _ | exact u8_in64 _ | exact u8_in63 _ | (simp only [inR, IntKind.bits]; omega) | (simp [inR, IntKind.bits]; done) | (simp [inR, IntKind.bits] at * <;> omega) | (simp_all; done) | (with_reducible assumption) | skip)
  refine G_retH rfl tOk rfl rfl ⟨trivial, trivial⟩ u trivial [0, 1] id ?_ (by decide) rfl
  simp only [oneA, renA, renC]
  congr 4
  simp
end Go.Proofs.Ytbhemhmdmeomdaa
