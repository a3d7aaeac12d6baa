import Derived.Test.YtfpfmpanmnjjhaaSlot2
set_option linter.unusedSimpArgs false
set_option linter.unusedVariables false
namespace Go.Proofs.Ytfpfmpanmnjjhaa
open Go.Mt

def env_rget_ : Env := ⟨T, psi_sget, pspNil, 30, [19]⟩
theorem eok_rget_ : PsiOk Try.prog env_rget_ := ⟨psi_sget_ok, pspNil_ok⟩
theorem rget__fn (b : List UInt8) (hb : b.length ≤ 1000000) : Ctr Try.prog 14 false [lst .byt b] (.t [.g [i64 (gX b).seq, i64 (gX b).start, i64 (gX b).count, .val (.int .u32 (gX b).sum)], .c (i64 (gE b))]) := by
  refine Ctr_intro (E := env_rget_) Try.func14 rfl (by decide) rfl rfl (fun M0 W hM0 => ?_)
  refine G_run tOk eok_rget_ 60 (fun _ => none) (fun bs => rfl) (fun bs => ?_) (fun bs => ?_)
  · (repeat' apply And.intro) <;> (intros; first | exact trivial | exact rfl | omega | exact u8_lo _ | exact u8_hi _ | exact u8_in64 _ | exact u8_in63 _ | (simp only [inR, IntKind.bits]; omega) | (simp [inR, IntKind.bits]; done) | (simp [inR, IntKind.bits] at * <;> omega) | (simp_all; done) | skip)
  refine G_cond rfl rfl (fun h => ?_) (fun h => ?_)
  · refine G_run tOk eok_rget_ 60 (fun _ => none) (fun bs => rfl) (fun bs => ?_) (fun bs => ?_)
    · (repeat' apply And.intro) <;> (intros; first | exact trivial | exact rfl | omega | exact u8_lo _ | exact u8_hi _ | exact u8_in64 _ | exact u8_in63 _ | (simp only [inR, IntKind.bits]; omega) | (simp [inR, IntKind.bits]; done) | (simp [inR, IntKind.bits] at * <;> omega) | (simp_all; done) | skip)
    have he : gE b = 3 := by
      unfold gE; rw [if_neg]
      rintro ⟨a1, a2⟩
      simp at h; omega
    refine G_ret tOk hM0 rfl rfl ⟨rfl, trivial, trivial⟩ ?_
    simp only [gX, he]
    exact ⟨⟨⟨rfl, rfl⟩, ⟨rfl, rfl⟩, ⟨rfl, rfl⟩, ⟨rfl, rfl⟩, trivial⟩, ⟨rfl, rfl⟩, trivial⟩
  have h1 : b.length = 16 := by simp at h; omega
  clear h
  have g0 := getV4_lt b 0
  have g4 := getV4_lt b 4
  have g8 := getV4_lt b 8
  have g12 := getV4_lt b 12
  refine G_run tOk eok_rget_ 60 (fun _ => none) (fun bs => rfl) (fun bs => ?_) (fun bs => ?_)
  · (repeat' apply And.intro) <;> (intros; first | exact trivial | exact rfl | omega | exact u8_lo _ | exact u8_hi _ | exact u8_in64 _ | exact u8_in63 _ | (simp only [inR, IntKind.bits]; omega) | (simp [inR, IntKind.bits]; done) | (simp [inR, IntKind.bits] at * <;> omega) | (simp_all; done) | skip)
  by_cases hm : mayS (gF b).seq (gF b).start (gF b).count = true
  · have hE : slE (getV b 0 4 false) (getV b 4 4 false) (getV b 8 4 false) = 0 := by simp only [slE]; exact if_pos hm
    refine G_els rfl rfl ?_ ?_
    · simp only [hE]; simp
    refine G_run tOk eok_rget_ 60 (fun _ => none) (fun bs => rfl) (fun bs => ?_) (fun bs => ?_)
    · (repeat' apply And.intro) <;> (intros; first | exact trivial | exact rfl | omega | exact u8_lo _ | exact u8_hi _ | exact u8_in64 _ | exact u8_in63 _ | (simp only [inR, IntKind.bits]; omega) | (simp [inR, IntKind.bits]; done) | (simp [inR, IntKind.bits] at * <;> omega) | (simp_all; done) | skip)
    have he : gE b = 0 := by unfold gE; rw [if_pos ⟨h1, hm⟩]
    refine G_ret tOk hM0 rfl rfl ⟨rfl, trivial, trivial⟩ ?_
    simp only [gX, he, if_true]
    exact ⟨⟨⟨rfl, rfl⟩, ⟨rfl, rfl⟩, ⟨rfl, rfl⟩, ⟨rfl, rfl⟩, trivial⟩, ⟨rfl, rfl⟩, trivial⟩
  · have hE : slE (getV b 0 4 false) (getV b 4 4 false) (getV b 8 4 false) = 1 := by simp only [slE]; exact if_neg hm
    refine G_thn rfl rfl ?_ ?_
    · simp only [hE]; simp
    refine G_run tOk eok_rget_ 60 (fun _ => none) (fun bs => rfl) (fun bs => ?_) (fun bs => ?_)
    · (repeat' apply And.intro) <;> (intros; first | exact trivial | exact rfl | omega | exact u8_lo _ | exact u8_hi _ | exact u8_in64 _ | exact u8_in63 _ | (simp only [inR, IntKind.bits]; omega) | (simp [inR, IntKind.bits]; done) | (simp [inR, IntKind.bits] at * <;> omega) | (simp_all; done) | skip)
    have he : gE b = 3 := by
      unfold gE; rw [if_neg]
      rintro ⟨a1, a2⟩
      exact hm a2
    refine G_ret tOk hM0 rfl rfl ⟨rfl, trivial, trivial⟩ ?_
    simp only [gX, he]
    exact ⟨⟨⟨rfl, rfl⟩, ⟨rfl, rfl⟩, ⟨rfl, rfl⟩, ⟨rfl, rfl⟩, trivial⟩, ⟨rfl, rfl⟩, trivial⟩

def rget__s : FSpec
  | [.c (.pv (.lst .byt b))] => some ((b.length ≤ 1000000), false, .t [.g [i64 (gX b).seq, i64 (gX b).start, i64 (gX b).count, .val (.int .u32 (gX b).sum)], .c (i64 (gE b))])
  | _ => none
theorem rget__s_ok : SpecOk Try.prog 14 rget__s := by
  intro args pre sh rv h hp; unfold rget__s at h; split at h
  · cases h; have hb := hp; exact rget__fn _ hb
  · cases h
def psi_rget_ : FuncId → Option FSpec := psiCons 14 rget__s psi_sget
theorem psi_rget__ok : PsiFn Try.prog psi_rget_ := psiCons_ok rget__s_ok psi_sget_ok
def ordL (a b : List UInt8) : List Slot := if gE a ≠ 0 ∧ gE b ≠ 0 then [] else if gE b ≠ 0 then [gX a] else if gE a ≠ 0 then [gX b] else if (gX a).seq < (gX b).seq then [gX b, gX a] else [gX a, gX b]
theorem ordL_len (a b : List UInt8) : (ordL a b).length ≤ 2 := by unfold ordL; (repeat' split) <;> simp

def env_order : Env := ⟨T, psi_rget_, pspNil, 48, []⟩
theorem eok_order : PsiOk Try.prog env_order := ⟨psi_rget__ok, pspNil_ok⟩
theorem order_fn (a : List UInt8) (b : List UInt8) (ha : a.length ≤ 1000000) (hb : b.length ≤ 1000000) : Ctr Try.prog 16 false [lst .byt a, lst .byt b] (.o 24 .slt (ordL a b)) := by
  refine Ctr_intro (E := env_order) Try.func16 rfl (by decide) rfl rfl (fun M0 W hM0 => ?_)
  refine G_run tOk eok_order 60 (fun _ => none) (fun bs => rfl) (fun bs => ?_) (fun bs => ?_)
  · (repeat' apply And.intro) <;> (intros; first | exact trivial | exact rfl | omega | exact u8_lo _ | exact u8_hi _ | exact u8_in64 _ | exact u8_in63 _ | (simp only [inR, IntKind.bits]; omega) | (simp [inR, IntKind.bits]; done) | (simp [inR, IntKind.bits] at * <;> omega) | (simp_all; done) | skip)
  refine G_cond rfl rfl (fun h => ?_) (fun h => ?_)
  · refine G_run tOk eok_order 60 (fun _ => none) (fun bs => rfl) (fun bs => ?_) (fun bs => ?_)
    · (repeat' apply And.intro) <;> (intros; first | exact trivial | exact rfl | omega | exact u8_lo _ | exact u8_hi _ | exact u8_in64 _ | exact u8_in63 _ | (simp only [inR, IntKind.bits]; omega) | (simp [inR, IntKind.bits]; done) | (simp [inR, IntKind.bits] at * <;> omega) | (simp_all; done) | skip)
    have hb : ordL a b = [] := by unfold ordL; rw [if_pos (by simpa using h)]
    exact G_ret tOk hM0 rfl rfl ⟨trivial, trivial⟩ hb
  have h1 : ¬ (gE a ≠ 0 ∧ gE b ≠ 0) := by simpa using h
  clear h
  refine G_run tOk eok_order 60 (fun _ => none) (fun bs => rfl) (fun bs => ?_) (fun bs => ?_)
  · (repeat' apply And.intro) <;> (intros; first | exact trivial | exact rfl | omega | exact u8_lo _ | exact u8_hi _ | exact u8_in64 _ | exact u8_in63 _ | (simp only [inR, IntKind.bits]; omega) | (simp [inR, IntKind.bits]; done) | (simp [inR, IntKind.bits] at * <;> omega) | (simp_all; done) | skip)
  refine G_cond rfl rfl (fun h => ?_) (fun h => ?_)
  · refine G_run tOk eok_order 60 (fun _ => none) (fun bs => rfl) (fun bs => ?_) (fun bs => ?_)
    · (repeat' apply And.intro) <;> (intros; first | exact trivial | exact rfl | omega | exact u8_lo _ | exact u8_hi _ | exact u8_in64 _ | exact u8_in63 _ | (simp only [inR, IntKind.bits]; omega) | (simp [inR, IntKind.bits]; done) | (simp [inR, IntKind.bits] at * <;> omega) | (simp_all; done) | skip)
    have h2 : gE b ≠ 0 := by simpa using h
    refine G_ret tOk hM0 rfl rfl ⟨trivial, trivial⟩ ⟨rfl, rfl, rfl, sigEq ?_⟩
    unfold ordL; rw [if_neg h1, if_pos h2]
  have h2 : ¬ gE b ≠ 0 := by simpa using h
  clear h
  refine G_run tOk eok_order 60 (fun _ => none) (fun bs => rfl) (fun bs => ?_) (fun bs => ?_)
  · (repeat' apply And.intro) <;> (intros; first | exact trivial | exact rfl | omega | exact u8_lo _ | exact u8_hi _ | exact u8_in64 _ | exact u8_in63 _ | (simp only [inR, IntKind.bits]; omega) | (simp [inR, IntKind.bits]; done) | (simp [inR, IntKind.bits] at * <;> omega) | (simp_all; done) | skip)
  refine G_cond rfl rfl (fun h => ?_) (fun h => ?_)
  · refine G_run tOk eok_order 60 (fun _ => none) (fun bs => rfl) (fun bs => ?_) (fun bs => ?_)
    · (repeat' apply And.intro) <;> (intros; first | exact trivial | exact rfl | omega | exact u8_lo _ | exact u8_hi _ | exact u8_in64 _ | exact u8_in63 _ | (simp only [inR, IntKind.bits]; omega) | (simp [inR, IntKind.bits]; done) | (simp [inR, IntKind.bits] at * <;> omega) | (simp_all; done) | skip)
    have h3 : gE a ≠ 0 := by simpa using h
    refine G_ret tOk hM0 rfl rfl ⟨trivial, trivial⟩ ⟨rfl, rfl, rfl, sigEq ?_⟩
    unfold ordL; rw [if_neg h1, if_neg h2, if_pos h3]
  have h3 : ¬ gE a ≠ 0 := by simpa using h
  clear h
  refine G_run tOk eok_order 60 (fun _ => none) (fun bs => rfl) (fun bs => ?_) (fun bs => ?_)
  · (repeat' apply And.intro) <;> (intros; first | exact trivial | exact rfl | omega | exact u8_lo _ | exact u8_hi _ | exact u8_in64 _ | exact u8_in63 _ | (simp only [inR, IntKind.bits]; omega) | (simp [inR, IntKind.bits]; done) | (simp [inR, IntKind.bits] at * <;> omega) | (simp_all; done) | skip)
  refine G_if rfl rfl (fun h => ?_) (fun h => ?_)
  · have h4 : (gX a).seq < (gX b).seq := h
    refine G_run tOk eok_order 60 (fun _ => none) (fun bs => rfl) (fun bs => ?_) (fun bs => ?_)
    · (repeat' apply And.intro) <;> (intros; first | exact trivial | exact rfl | omega | exact u8_lo _ | exact u8_hi _ | exact u8_in64 _ | exact u8_in63 _ | (simp only [inR, IntKind.bits]; omega) | (simp [inR, IntKind.bits]; done) | (simp [inR, IntKind.bits] at * <;> omega) | (simp_all; done) | skip)
    refine G_ret tOk hM0 rfl rfl ⟨trivial, trivial⟩ ⟨rfl, rfl, rfl, sigEq ?_⟩
    unfold ordL; rw [if_neg h1, if_neg h2, if_neg h3, if_pos h4]
  · have h4 : ¬ (gX a).seq < (gX b).seq := h
    refine G_run tOk eok_order 60 (fun _ => none) (fun bs => rfl) (fun bs => ?_) (fun bs => ?_)
    · (repeat' apply And.intro) <;> (intros; first | exact trivial | exact rfl | omega | exact u8_lo _ | exact u8_hi _ | exact u8_in64 _ | exact u8_in63 _ | (simp only [inR, IntKind.bits]; omega) | (simp [inR, IntKind.bits]; done) | (simp [inR, IntKind.bits] at * <;> omega) | (simp_all; done) | skip)
    refine G_ret tOk hM0 rfl rfl ⟨trivial, trivial⟩ ⟨rfl, rfl, rfl, sigEq ?_⟩
    unfold ordL; rw [if_neg h1, if_neg h2, if_neg h3, if_neg h4]

def order_s : FSpec
  | [.c (.pv (.lst .byt a)), .c (.pv (.lst .byt b))] => some ((a.length ≤ 1000000) ∧ (b.length ≤ 1000000), false, .o 24 .slt (ordL a b))
  | _ => none
theorem order_s_ok : SpecOk Try.prog 16 order_s := by
  intro args pre sh rv h hp; unfold order_s at h; split at h
  · cases h; obtain ⟨ha, hb⟩ := hp; exact order_fn _ _ ha hb
  · cases h
def psi_order : FuncId → Option FSpec := psiCons 16 order_s psi_rget_
theorem psi_order_ok : PsiFn Try.prog psi_order := psiCons_ok order_s_ok psi_rget__ok
def env_rorder : Env := ⟨T, psi_order, pspNil, 48, []⟩
theorem eok_rorder : PsiOk Try.prog env_rorder := ⟨psi_order_ok, pspNil_ok⟩
theorem rorder_fn (a : List UInt8) (b : List UInt8) (ha : a.length ≤ 1000000) (hb : b.length ≤ 1000000) : Ctr Try.prog 17 false [lst .byt a, lst .byt b] (.o 24 .slt (ordL a b)) := by
  refine Ctr_intro (E := env_rorder) Try.func17 rfl (by decide) rfl rfl (fun M0 W hM0 => ?_)
  refine G_run tOk eok_rorder 60 (fun _ => none) (fun bs => rfl) (fun bs => ?_) (fun bs => ?_)
  · (repeat' apply And.intro) <;> (intros; first | exact trivial | exact rfl | omega | exact u8_lo _ | exact u8_hi _ | exact u8_in64 _ | exact u8_in63 _ | (simp only [inR, IntKind.bits]; omega) | (simp [inR, IntKind.bits]; done) | (simp [inR, IntKind.bits] at * <;> omega) | (simp_all; done) | skip)
  refine G_cond rfl rfl (fun h => ?_) (fun h => ?_)
  · refine G_run tOk eok_rorder 60 (fun _ => none) (fun bs => rfl) (fun bs => ?_) (fun bs => ?_)
    · (repeat' apply And.intro) <;> (intros; first | exact trivial | exact rfl | omega | exact u8_lo _ | exact u8_hi _ | exact u8_in64 _ | exact u8_in63 _ | (simp only [inR, IntKind.bits]; omega) | (simp [inR, IntKind.bits]; done) | (simp [inR, IntKind.bits] at * <;> omega) | (simp_all; done) | skip)
    have hb : ordL a b = [] := by unfold ordL; rw [if_pos (by simpa using h)]
    exact G_ret tOk hM0 rfl rfl ⟨trivial, trivial⟩ hb
  have h1 : ¬ (gE a ≠ 0 ∧ gE b ≠ 0) := by simpa using h
  clear h
  refine G_run tOk eok_rorder 60 (fun _ => none) (fun bs => rfl) (fun bs => ?_) (fun bs => ?_)
  · (repeat' apply And.intro) <;> (intros; first | exact trivial | exact rfl | omega | exact u8_lo _ | exact u8_hi _ | exact u8_in64 _ | exact u8_in63 _ | (simp only [inR, IntKind.bits]; omega) | (simp [inR, IntKind.bits]; done) | (simp [inR, IntKind.bits] at * <;> omega) | (simp_all; done) | skip)
  refine G_cond rfl rfl (fun h => ?_) (fun h => ?_)
  · refine G_run tOk eok_rorder 60 (fun _ => none) (fun bs => rfl) (fun bs => ?_) (fun bs => ?_)
    · (repeat' apply And.intro) <;> (intros; first | exact trivial | exact rfl | omega | exact u8_lo _ | exact u8_hi _ | exact u8_in64 _ | exact u8_in63 _ | (simp only [inR, IntKind.bits]; omega) | (simp [inR, IntKind.bits]; done) | (simp [inR, IntKind.bits] at * <;> omega) | (simp_all; done) | skip)
    have h2 : gE b ≠ 0 := by simpa using h
    refine G_ret tOk hM0 rfl rfl ⟨trivial, trivial⟩ ⟨rfl, rfl, rfl, sigEq ?_⟩
    unfold ordL; rw [if_neg h1, if_pos h2]
  have h2 : ¬ gE b ≠ 0 := by simpa using h
  clear h
  refine G_run tOk eok_rorder 60 (fun _ => none) (fun bs => rfl) (fun bs => ?_) (fun bs => ?_)
  · (repeat' apply And.intro) <;> (intros; first | exact trivial | exact rfl | omega | exact u8_lo _ | exact u8_hi _ | exact u8_in64 _ | exact u8_in63 _ | (simp only [inR, IntKind.bits]; omega) | (simp [inR, IntKind.bits]; done) | (simp [inR, IntKind.bits] at * <;> omega) | (simp_all; done) | skip)
  refine G_cond rfl rfl (fun h => ?_) (fun h => ?_)
  · refine G_run tOk eok_rorder 60 (fun _ => none) (fun bs => rfl) (fun bs => ?_) (fun bs => ?_)
    · (repeat' apply And.intro) <;> (intros; first | exact trivial | exact rfl | omega | exact u8_lo _ | exact u8_hi _ | exact u8_in64 _ | exact u8_in63 _ | (simp only [inR, IntKind.bits]; omega) | (simp [inR, IntKind.bits]; done) | (simp [inR, IntKind.bits] at * <;> omega) | (simp_all; done) | skip)
    have h3 : gE a ≠ 0 := by simpa using h
    refine G_ret tOk hM0 rfl rfl ⟨trivial, trivial⟩ ⟨rfl, rfl, rfl, sigEq ?_⟩
    unfold ordL; rw [if_neg h1, if_neg h2, if_pos h3]
  have h3 : ¬ gE a ≠ 0 := by simpa using h
  clear h
  refine G_run tOk eok_rorder 60 (fun _ => none) (fun bs => rfl) (fun bs => ?_) (fun bs => ?_)
  · (repeat' apply And.intro) <;> (intros; first | exact trivial | exact rfl | omega | exact u8_lo _ | exact u8_hi _ | exact u8_in64 _ | exact u8_in63 _ | (simp only [inR, IntKind.bits]; omega) | (simp [inR, IntKind.bits]; done) | (simp [inR, IntKind.bits] at * <;> omega) | (simp_all; done) | skip)
  refine G_if rfl rfl (fun h => ?_) (fun h => ?_)
  · have h4 : (gX a).seq < (gX b).seq := h
    refine G_run tOk eok_rorder 60 (fun _ => none) (fun bs => rfl) (fun bs => ?_) (fun bs => ?_)
    · (repeat' apply And.intro) <;> (intros; first | exact trivial | exact rfl | omega | exact u8_lo _ | exact u8_hi _ | exact u8_in64 _ | exact u8_in63 _ | (simp only [inR, IntKind.bits]; omega) | (simp [inR, IntKind.bits]; done) | (simp [inR, IntKind.bits] at * <;> omega) | (simp_all; done) | skip)
    refine G_ret tOk hM0 rfl rfl ⟨trivial, trivial⟩ ⟨rfl, rfl, rfl, sigEq ?_⟩
    unfold ordL; rw [if_neg h1, if_neg h2, if_neg h3, if_pos h4]
  · have h4 : ¬ (gX a).seq < (gX b).seq := h
    refine G_run tOk eok_rorder 60 (fun _ => none) (fun bs => rfl) (fun bs => ?_) (fun bs => ?_)
    · (repeat' apply And.intro) <;> (intros; first | exact trivial | exact rfl | omega | exact u8_lo _ | exact u8_hi _ | exact u8_in64 _ | exact u8_in63 _ | (simp only [inR, IntKind.bits]; omega) | (simp [inR, IntKind.bits]; done) | (simp [inR, IntKind.bits] at * <;> omega) | (simp_all; done) | skip)
    refine G_ret tOk hM0 rfl rfl ⟨trivial, trivial⟩ ⟨rfl, rfl, rfl, sigEq ?_⟩
    unfold ordL; rw [if_neg h1, if_neg h2, if_neg h3, if_neg h4]

def rorder_s : FSpec
  | [.c (.pv (.lst .byt a)), .c (.pv (.lst .byt b))] => some ((a.length ≤ 1000000) ∧ (b.length ≤ 1000000), false, .o 24 .slt (ordL a b))
  | _ => none
theorem rorder_s_ok : SpecOk Try.prog 17 rorder_s := by
  intro args pre sh rv h hp; unfold rorder_s at h; split at h
  · cases h; obtain ⟨ha, hb⟩ := hp; exact rorder_fn _ _ ha hb
  · cases h
def psi_rorder : FuncId → Option FSpec := psiCons 17 rorder_s psi_order
theorem psi_rorder_ok : PsiFn Try.prog psi_rorder := psiCons_ok rorder_s_ok psi_order_ok
theorem sl_eq (x y : Slot) : (decide (x.seq = y.seq) && (decide (x.start = y.start) && (decide (x.count = y.count) && (decide (x.sum = y.sum) && true)))) = decide (x = y) := by
  cases x; cases y; simp
theorem take_eq {α : Type} {l m : List α} {i : Nat} (d : α) (h : l.take i = m.take i) (hl : i < l.length) (hm : i < m.length) : l.take (i + 1) = m.take (i + 1) ↔ l.getD i d = m.getD i d := by
  have e1 : l.getD i d = l[i] := by simp [List.getD, List.getElem?_eq_getElem hl]
  have e2 : m.getD i d = m[i] := by simp [List.getD, List.getElem?_eq_getElem hm]
  rw [List.take_succ_eq_append_getElem hl, List.take_succ_eq_append_getElem hm, h, e1, e2]
  constructor
  · intro h; simpa using List.append_cancel_left h
  · intro h; rw [h]

def env_slots : Env := ⟨T, psi_rorder, pspNil, 26, []⟩
theorem eok_slots : PsiOk Try.prog env_slots := ⟨psi_rorder_ok, pspNil_ok⟩
theorem slots_fn (l : List Slot) (m : List Slot) (hl : l.length ≤ 1000000000) (hm : m.length ≤ 1000000000) : Ctr Try.prog 15 false [lst .slt l, lst .slt m] (.x (.c (bv (decide (l = m))))) := by
  refine Ctr_intro (E := env_slots) Try.func15 rfl (by decide) rfl rfl (fun M0 W hM0 => ?_)
  refine G_run tOk eok_slots 60 (fun _ => none) (fun bs => rfl) (fun bs => ?_) (fun bs => ?_)
  · (repeat' apply And.intro) <;> (intros; first | exact trivial | exact rfl | omega | exact u8_lo _ | exact u8_hi _ | exact u8_in64 _ | exact u8_in63 _ | (simp only [inR, IntKind.bits]; omega) | (simp [inR, IntKind.bits]; done) | (simp [inR, IntKind.bits] at * <;> omega) | (simp_all; done) | skip)
  refine G_cond rfl rfl (fun h => ?_) (fun h => ?_)
  · refine G_run tOk eok_slots 60 (fun _ => none) (fun bs => rfl) (fun bs => ?_) (fun bs => ?_)
    · (repeat' apply And.intro) <;> (intros; first | exact trivial | exact rfl | omega | exact u8_lo _ | exact u8_hi _ | exact u8_in64 _ | exact u8_in63 _ | (simp only [inR, IntKind.bits]; omega) | (simp [inR, IntKind.bits]; done) | (simp [inR, IntKind.bits] at * <;> omega) | (simp_all; done) | skip)
    have hb : decide (l = m) = false := by simp; intro e; subst e; simp at h
    exact G_ret tOk hM0 rfl rfl ⟨trivial, trivial⟩ hb.symm
  have hlm : l.length = m.length := by simp at h; omega
  refine G_run tOk eok_slots 60 (fun _ => none) (fun bs => rfl) (fun bs => ?_) (fun bs => ?_)
  · (repeat' apply And.intro) <;> (intros; first | exact trivial | exact rfl | omega | exact u8_lo _ | exact u8_hi _ | exact u8_in64 _ | exact u8_in63 _ | (simp only [inR, IntKind.bits]; omega) | (simp [inR, IntKind.bits]; done) | (simp [inR, IntKind.bits] at * <;> omega) | (simp_all; done) | skip)
  refine G_loop (fun x : Nat => [(0, lst .slt l), (1, lst .slt m), (5, int .i64 x)]) (fun x => []) (fun x => x ≤ l.length ∧ l.take x = m.take x) (fun x => l.length - x) rfl [] 0 ⟨Nat.zero_le _, rfl⟩ ?wk (fun x hx => ?_)
  case wk => (repeat' apply And.intro) <;> (first | exact rfl | exact trivial | omega | refine sigEq ?_ | skip)
  obtain ⟨hx, hr⟩ := hx
  refine G_run tOk eok_slots 60 (fun _ => none) (fun bs => rfl) (fun bs => ?_) (fun bs => ?_)
  · (repeat' apply And.intro) <;> (intros; first | exact trivial | exact rfl | omega | exact u8_lo _ | exact u8_hi _ | exact u8_in64 _ | exact u8_in63 _ | (simp only [inR, IntKind.bits]; omega) | (simp [inR, IntKind.bits]; done) | (simp [inR, IntKind.bits] at * <;> omega) | (simp_all; done) | skip)
  refine G_if rfl rfl (fun hk => ?_) (fun hk => ?_)
  · have hk' : x < l.length := by omega
    have ht := take_eq (LK.dft .slt) hr hk' (by omega)
    refine G_run tOk eok_slots 60 (fun _ => none) (fun bs => rfl) (fun bs => ?_) (fun bs => ?_)
    · (repeat' apply And.intro) <;> (intros; first | exact trivial | exact rfl | omega | exact u8_lo _ | exact u8_hi _ | exact u8_in64 _ | exact u8_in63 _ | (simp only [inR, IntKind.bits]; omega) | (simp [inR, IntKind.bits]; done) | (simp [inR, IntKind.bits] at * <;> omega) | (simp_all; done) | skip)
    refine G_draw tOk eok_slots rfl (fun _ => none) 8 [0, 0, 3, 7, 0, 0, 48, 112, 255] [] rfl (by decide +kernel) (fun bs => rfl) (fun bs => ?_) (fun bs => ?_)
    · (repeat' apply And.intro) <;> (intros; first | exact trivial | exact rfl | omega | exact u8_lo _ | exact u8_hi _ | exact u8_in64 _ | exact u8_in63 _ | (simp only [inR, IntKind.bits]; omega) | (simp [inR, IntKind.bits]; done) | (simp [inR, IntKind.bits] at * <;> omega) | (simp_all; done) | skip)
    refine G_run tOk eok_slots 60 (fun _ => none) (fun bs => rfl) (fun bs => by (repeat' apply And.intro) <;> (intros; first | exact trivial | exact rfl | omega | exact u8_lo _ | exact u8_hi _ | exact u8_in64 _ | exact u8_in63 _ | (simp only [inR, IntKind.bits]; omega) | (simp [inR, IntKind.bits]; done) | (simp [inR, IntKind.bits] at * <;> omega) | (simp_all; done) | skip)) (fun bs => ?_)
    refine G_cond (b := !decide (l.getD x (LK.dft .slt) = m.getD x (LK.dft .slt))) rfl (by rw [← sl_eq]; rfl) (fun h => ?_) (fun h => ?_)
    · refine G_run tOk eok_slots 60 (fun _ => none) (fun bs => rfl) (fun bs => ?_) (fun bs => ?_)
      · (repeat' apply And.intro) <;> (intros; first | exact trivial | exact rfl | omega | exact u8_lo _ | exact u8_hi _ | exact u8_in64 _ | exact u8_in63 _ | (simp only [inR, IntKind.bits]; omega) | (simp [inR, IntKind.bits]; done) | (simp [inR, IntKind.bits] at * <;> omega) | (simp_all; done) | skip)
      have hb : decide (l = m) = false := by
        simp only [Bool.not_eq_true', decide_eq_false_iff_not] at h ⊢
        rintro rfl; exact h rfl
      exact G_ret tOk hM0 rfl rfl ⟨trivial, trivial⟩ hb.symm
    · refine G_run tOk eok_slots 60 (fun _ => none) (fun bs => rfl) (fun bs => ?_) (fun bs => ?_)
      · (repeat' apply And.intro) <;> (intros; first | exact trivial | exact rfl | omega | exact u8_lo _ | exact u8_hi _ | exact u8_in64 _ | exact u8_in63 _ | (simp only [inR, IntKind.bits]; omega) | (simp [inR, IntKind.bits]; done) | (simp [inR, IntKind.bits] at * <;> omega) | (simp_all; done) | skip)
      refine G_lp [] (x + 1) ?ok ?wk2
      case ok =>
        refine ⟨⟨hk', ht.2 ?_⟩, by omega⟩
        simpa only [Bool.not_eq_false', decide_eq_true_eq] using h
      case wk2 => (repeat' apply And.intro) <;> (first | exact rfl | exact trivial | omega | refine sigEq ?_ | skip)
  · have hk' : x = l.length := by omega
    subst hk'
    refine G_run tOk eok_slots 60 (fun _ => none) (fun bs => rfl) (fun bs => ?_) (fun bs => ?_)
    · (repeat' apply And.intro) <;> (intros; first | exact trivial | exact rfl | omega | exact u8_lo _ | exact u8_hi _ | exact u8_in64 _ | exact u8_in63 _ | (simp only [inR, IntKind.bits]; omega) | (simp [inR, IntKind.bits]; done) | (simp [inR, IntKind.bits] at * <;> omega) | (simp_all; done) | skip)
    have hb : decide (l = m) = true := by
      simp only [decide_eq_true_eq]
      rw [List.take_length, hlm, List.take_length] at hr; exact hr
    exact G_ret tOk hM0 rfl rfl ⟨trivial, trivial⟩ hb.symm

def slots_s : FSpec
  | [.c (.pv (.lst .slt l)), .c (.pv (.lst .slt m))] => some ((l.length ≤ 1000000000) ∧ (m.length ≤ 1000000000), false, .x (.c (bv (decide (l = m)))))
  | _ => none
theorem slots_s_ok : SpecOk Try.prog 15 slots_s := by
  intro args pre sh rv h hp; unfold slots_s at h; split at h
  · cases h; obtain ⟨hl, hm⟩ := hp; exact slots_fn _ _ hl hm
  · cases h
def psi_slots : FuncId → Option FSpec := psiCons 15 slots_s psi_rorder
theorem psi_slots_ok : PsiFn Try.prog psi_slots := psiCons_ok slots_s_ok psi_rorder_ok
def env_awake : Env := ⟨T, psi_slots, pspNil, 34, []⟩
theorem eok_awake : PsiOk Try.prog env_awake := ⟨psi_slots_ok, pspNil_ok⟩
theorem awake_fn   : Ctr Try.prog 12 false [] (.x (.c (bv true))) := by
  refine Ctr_intro (E := env_awake) Try.func12 rfl (by decide) rfl rfl (fun M0 W hM0 => ?_)
  refine G_run tOk eok_awake 60 (fun _ => some true) (fun bs => rfl) (fun bs => ?_) (fun bs => ?_)
  · (repeat' apply And.intro) <;> (intros; first | exact trivial | exact rfl | decide +kernel | (simp [inR]; done))
  refine G_draw tOk eok_awake rfl (fun _ => some true) 18 [0, 1, 3, 7, 15, 31, 63, 127, 255, 511, 1023, 2047, 4095, 8191, 16383, 32767, 65535, 16383, 262143, 524287, 1048575] [] rfl (by decide +kernel) (fun bs => rfl) (fun bs => ?_) (fun bs => ?_)
  · (repeat' apply And.intro) <;> (intros; first | exact trivial | exact rfl | decide +kernel | (simp [inR]; done))
  refine G_run tOk eok_awake 60 (fun _ => some true) (fun bs => rfl) (fun bs => by (repeat' apply And.intro) <;> (intros; first | exact trivial | exact rfl | omega | exact u8_lo _ | exact u8_hi _ | exact u8_in64 _ | exact u8_in63 _ | (simp only [inR, IntKind.bits]; omega) | (simp [inR, IntKind.bits]; done) | (simp [inR, IntKind.bits] at * <;> omega) | (simp_all; done) | skip)) (fun bs => ?_)
  refine G_ret tOk hM0 rfl rfl ?_ ?_
  · (repeat' apply And.intro) <;> (intros; first | exact trivial | exact rfl | decide +kernel)
  · conv => whnf
    decide +kernel

def awake_s : FSpec
  | [] => some (True, false, .x (.c (bv true)))
  | _ => none
theorem awake_s_ok : SpecOk Try.prog 12 awake_s := by
  intro args pre sh rv h hp; unfold awake_s at h; split at h
  · cases h; exact awake_fn  
  · cases h
def psi_awake : FuncId → Option FSpec := psiCons 12 awake_s psi_slots
theorem psi_awake_ok : PsiFn Try.prog psi_awake := psiCons_ok awake_s_ok psi_slots_ok
def env_sputs : Env := ⟨T, psi_awake, pspNil, 31, []⟩
theorem eok_sputs : PsiOk Try.prog env_sputs := ⟨psi_awake_ok, pspNil_ok⟩
theorem sputs_fn (s0 : Int) (s1 : Int) (s2 : Int) (s3 : Int) (h3 : inR .u32 s3) : Ctr Try.prog 3 false [.g [.pv (.val (.int .i64 s0)), .pv (.val (.int .i64 s1)), .pv (.val (.int .i64 s2)), .pv (.val (.int .u32 s3))]] (.x (.c (bv true))) := by
  refine Ctr_intro (E := env_sputs) Try.func3 rfl (by decide) rfl rfl (fun M0 W hM0 => ?_)
  simp only [inR] at h3
  refine G_run tOk eok_sputs 60 (fun _ => some true) (fun bs => rfl) (fun bs => ?_) (fun bs => ?_)
  · (repeat' apply And.intro) <;> (intros; first | exact trivial | exact rfl | omega | exact u8_lo _ | exact u8_hi _ | exact u8_in64 _ | exact u8_in63 _ | (simp only [inR, IntKind.bits]; omega) | (simp [inR, IntKind.bits]; done) | (simp [inR, IntKind.bits] at * <;> omega) | (simp_all; done) | skip)
  refine G_ret tOk hM0 rfl rfl ⟨trivial, trivial⟩ ?_
  conv => whnf
  simp

def sputs_s : FSpec
  | [.g [.pv (.val (.int .i64 s0)), .pv (.val (.int .i64 s1)), .pv (.val (.int .i64 s2)), .pv (.val (.int .u32 s3))]] => some ((inR .u32 s3), false, .x (.c (bv true)))
  | _ => none
theorem sputs_s_ok : SpecOk Try.prog 3 sputs_s := by
  intro args pre sh rv h hp; unfold sputs_s at h; split at h
  · cases h; have h3 := hp; exact sputs_fn _ _ _ _ h3
  · cases h
def psi_sputs : FuncId → Option FSpec := psiCons 3 sputs_s psi_awake
theorem psi_sputs_ok : PsiFn Try.prog psi_sputs := psiCons_ok sputs_s_ok psi_awake_ok
def env_sgets : Env := ⟨T, psi_sputs, pspNil, 33, []⟩
theorem eok_sgets : PsiOk Try.prog env_sgets := ⟨psi_sputs_ok, pspNil_ok⟩
theorem sgets_fn (b : List UInt8)  : Ctr Try.prog 4 false [lst .byt b] (.x (.c (bv true))) := by
  refine Ctr_intro (E := env_sgets) Try.func4 rfl (by decide) rfl rfl (fun M0 W hM0 => ?_)
  refine G_run tOk eok_sgets 60 (fun _ => none) (fun bs => rfl) (fun bs => ?_) (fun bs => ?_)
  · (repeat' apply And.intro) <;> (intros; first | exact trivial | exact rfl | omega | exact u8_lo _ | exact u8_hi _ | exact u8_in64 _ | exact u8_in63 _ | (simp only [inR, IntKind.bits]; omega) | (simp [inR, IntKind.bits]; done) | (simp [inR, IntKind.bits] at * <;> omega) | (simp_all; done) | skip)
  refine G_if rfl rfl (fun h => ?_) (fun h => ?_)
  · refine G_run tOk eok_sgets 60 (fun _ => none) (fun bs => rfl) (fun bs => ?_) (fun bs => ?_)
    · (repeat' apply And.intro) <;> (intros; first | exact trivial | exact rfl | omega | exact u8_lo _ | exact u8_hi _ | exact u8_in64 _ | exact u8_in63 _ | (simp only [inR, IntKind.bits]; omega) | (simp [inR, IntKind.bits]; done) | (simp [inR, IntKind.bits] at * <;> omega) | (simp_all; done) | skip)
    exact G_ret tOk hM0 rfl rfl ⟨trivial, trivial⟩ rfl
  · have hl2 : b.length ≤ 1000 := by omega
    refine G_run tOk eok_sgets 60 (fun _ => some true) (fun bs => rfl) (fun bs => ?_) (fun bs => ?_)
    · (repeat' apply And.intro) <;> (intros; first | exact trivial | exact rfl | omega | exact u8_lo _ | exact u8_hi _ | exact u8_in64 _ | exact u8_in63 _ | (simp only [inR, IntKind.bits]; omega) | (simp [inR, IntKind.bits]; done) | (simp [inR, IntKind.bits] at * <;> omega) | (simp_all; done) | skip)
    refine G_ret tOk hM0 rfl rfl ⟨trivial, trivial⟩ ?_
    conv => whnf
    simp

def sgets_s : FSpec
  | [.c (.pv (.lst .byt b))] => some (True, false, .x (.c (bv true)))
  | _ => none
theorem sgets_s_ok : SpecOk Try.prog 4 sgets_s := by
  intro args pre sh rv h hp; unfold sgets_s at h; split at h
  · cases h; exact sgets_fn _ 
  · cases h
def psi_sgets : FuncId → Option FSpec := psiCons 4 sgets_s psi_sputs
theorem psi_sgets_ok : PsiFn Try.prog psi_sgets := psiCons_ok sgets_s_ok psi_sputs_ok
def env_sorders : Env := ⟨T, psi_sgets, pspNil, 41, []⟩
theorem eok_sorders : PsiOk Try.prog env_sorders := ⟨psi_sgets_ok, pspNil_ok⟩
theorem sorders_fn (a : List UInt8) (b : List UInt8) (s0 : Int) (s1 : Int) (s2 : Int) (s3 : Int) (t0 : Int) (t1 : Int) (t2 : Int) (t3 : Int) (made : Bool) (h3 : inR .u32 s3) (h4 : inR .u32 t3) : Ctr Try.prog 5 false [lst .byt a, lst .byt b, .g [.pv (.val (.int .i64 s0)), .pv (.val (.int .i64 s1)), .pv (.val (.int .i64 s2)), .pv (.val (.int .u32 s3))], .g [.pv (.val (.int .i64 t0)), .pv (.val (.int .i64 t1)), .pv (.val (.int .i64 t2)), .pv (.val (.int .u32 t3))], bool made] (.x (.c (bv true))) := by
  refine Ctr_intro (E := env_sorders) Try.func5 rfl (by decide) rfl rfl (fun M0 W hM0 => ?_)
  simp only [inR] at h3 h4
  refine G_run tOk eok_sorders 60 (fun _ => none) (fun bs => rfl) (fun bs => ?_) (fun bs => ?_)
  · (repeat' apply And.intro) <;> (intros; first | exact trivial | exact rfl | omega | exact u8_lo _ | exact u8_hi _ | exact u8_in64 _ | exact u8_in63 _ | (simp only [inR, IntKind.bits]; omega) | (simp [inR, IntKind.bits]; done) | (simp [inR, IntKind.bits] at * <;> omega) | (simp_all; done) | skip)
  refine G_cond rfl rfl (fun h => ?_) (fun h => ?_)
  · refine G_run tOk eok_sorders 60 (fun _ => none) (fun bs => rfl) (fun bs => ?_) (fun bs => ?_)
    · (repeat' apply And.intro) <;> (intros; first | exact trivial | exact rfl | omega | exact u8_lo _ | exact u8_hi _ | exact u8_in64 _ | exact u8_in63 _ | (simp only [inR, IntKind.bits]; omega) | (simp [inR, IntKind.bits]; done) | (simp [inR, IntKind.bits] at * <;> omega) | (simp_all; done) | skip)
    exact G_ret tOk hM0 rfl rfl ⟨trivial, trivial⟩ rfl
  have hl2 : a.length ≤ 1000 ∧ b.length ≤ 1000 := by simp at h; omega
  refine G_run tOk eok_sorders 60 (fun _ => none) (fun bs => rfl) (fun bs => ?_) (fun bs => ?_)
  · (repeat' apply And.intro) <;> (intros; first | exact trivial | exact rfl | omega | exact u8_lo _ | exact u8_hi _ | exact u8_in64 _ | exact u8_in63 _ | (simp only [inR, IntKind.bits]; omega) | (simp [inR, IntKind.bits]; done) | (simp [inR, IntKind.bits] at * <;> omega) | (simp_all; done) | skip)
  refine G_cut (X := List UInt8 × List UInt8) (fun x => [(0, lst .byt x.1), (1, lst .byt x.2)]) (fun _ => []) (fun x => x.1.length ≤ 1000 ∧ x.2.length ≤ 1000) rfl ?_ (fun x hx => ?_)
  · cases made with
    | true =>
      refine G_thn rfl rfl rfl ?_
      refine G_run tOk eok_sorders 60 (fun _ => none) (fun bs => rfl) (fun bs => ?_) (fun bs => ?_)
      · (repeat' apply And.intro) <;> (intros; first | exact trivial | exact rfl | omega | exact u8_lo _ | exact u8_hi _ | exact u8_in64 _ | exact u8_in63 _ | (simp only [inR, IntKind.bits]; omega) | (simp [inR, IntKind.bits]; done) | (simp [inR, IntKind.bits] at * <;> omega) | (simp_all; done) | skip)
      refine G_freeze 2 [0] rfl ⟨rfl, trivial⟩ ?_
      refine G_freeze 3 [1] rfl ⟨rfl, trivial⟩ ?_
      refine G_lp [] (slL s0 s1 s2 s3, slL t0 t1 t2 t3) ?ok ?wk
      case ok => have := slL_len s0 s1 s2 s3; have := slL_len t0 t1 t2 t3; exact ⟨by simp only; omega, by simp only; omega⟩
      case wk => (repeat' apply And.intro) <;> (first | exact rfl | exact trivial | omega | refine sigEq ?_ | skip)
    | false =>
      refine G_els rfl rfl rfl ?_
      refine G_run tOk eok_sorders 60 (fun _ => none) (fun bs => rfl) (fun bs => ?_) (fun bs => ?_)
      · (repeat' apply And.intro) <;> (intros; first | exact trivial | exact rfl | omega | exact u8_lo _ | exact u8_hi _ | exact u8_in64 _ | exact u8_in63 _ | (simp only [inR, IntKind.bits]; omega) | (simp [inR, IntKind.bits]; done) | (simp [inR, IntKind.bits] at * <;> omega) | (simp_all; done) | skip)
      refine G_lp [] (a, b) ?ok2 ?wk2
      case ok2 => exact hl2
      case wk2 => (repeat' apply And.intro) <;> (first | exact rfl | exact trivial | omega | refine sigEq ?_ | skip)
  obtain ⟨x, y⟩ := x
  obtain ⟨hx1, hx2⟩ := hx
  simp only at hx1 hx2
  dsimp only
  have ho := ordL_len x y
  refine G_run tOk eok_sorders 60 (fun _ => some true) (fun bs => rfl) (fun bs => ?_) (fun bs => ?_)
  · (repeat' apply And.intro) <;> (intros; first | exact trivial | exact rfl | omega | exact u8_lo _ | exact u8_hi _ | exact u8_in64 _ | exact u8_in63 _ | (simp only [inR, IntKind.bits]; omega) | (simp [inR, IntKind.bits]; done) | (simp [inR, IntKind.bits] at * <;> omega) | (simp_all; done) | skip)
  refine G_ret tOk hM0 rfl rfl ⟨trivial, trivial⟩ ?_
  conv => whnf
  simp
def sorders_s : FSpec
  | [.c (.pv (.lst .byt a)), .c (.pv (.lst .byt b)), .g [.pv (.val (.int .i64 s0)), .pv (.val (.int .i64 s1)), .pv (.val (.int .i64 s2)), .pv (.val (.int .u32 s3))], .g [.pv (.val (.int .i64 t0)), .pv (.val (.int .i64 t1)), .pv (.val (.int .i64 t2)), .pv (.val (.int .u32 t3))], .c (.pv (.val (.bool made)))] => some ((inR .u32 s3) ∧ (inR .u32 t3), false, .x (.c (bv true)))
  | _ => none
theorem sorders_s_ok : SpecOk Try.prog 5 sorders_s := by
  intro args pre sh rv h hp; unfold sorders_s at h; split at h
  · cases h; obtain ⟨h3, h4⟩ := hp; exact sorders_fn _ _ _ _ _ _ _ _ _ _ _ h3 h4
  · cases h
def psi_sorders : FuncId → Option FSpec := psiCons 5 sorders_s psi_sgets
theorem psi_sorders_ok : PsiFn Try.prog psi_sorders := psiCons_ok sorders_s_ok psi_sgets_ok
end Go.Proofs.Ytfpfmpanmnjjhaa
