/- Hunks that are put into a list and turned: both checks agree, and turned hunks lead back. -/
import Derived.Test.YtnjgofgogeileaaZA
namespace Go.Ab
open Go Go.Proofs Go.RowKit
set_option linter.unusedSimpArgs false
set_option linter.unusedVariables false

/-! ### when a list of lines is right -/
theorem listsE_one (a : List V) : listsE [.sl 1 a] = listErr a := by
  show (bif listErr a != 0 then listErr a else 0) = listErr a
  exact zero_or (x := listErr a) (fun e => e)
theorem listsE_two (o w : List V) : listsE [.sl 1 o, .sl 1 w] = bif listErr o != 0 then listErr o else listErr w := by
  show (bif listErr o != 0 then listErr o else bif listErr w != 0 then listErr w else 0) = _
  rw [zero_or (x := listErr w) (fun e => e)]
theorem listErr_zero {l : List V} (h : listErr l = 0) : l.length ≤ 1000 ∧ listE l = 0 := by
  unfold listErr at h
  by_cases hl : ((l.length : Int) > 1000)
  · rw [dec_true hl] at h; cases h
  · rw [dec_false hl] at h
    exact ⟨by omega, h⟩
theorem listE_zero : ∀ (l : List V), listE l = 0 ↔ ∀ x ∈ l, lineE x = 0
  | [] => ⟨fun _ _ hx => absurd hx List.not_mem_nil, fun _ => rfl⟩
  | x :: l => by
    have ih := listE_zero l
    show (bif lineE x != 0 then lineE x else listE l) = 0 ↔ _
    cases h : lineE x != 0 with
    | true =>
      have : lineE x ≠ 0 := by simpa using h
      exact ⟨fun e => absurd e this, fun e => absurd (e x (by simp)) this⟩
    | false =>
      have h0 : lineE x = 0 := by simpa using h
      rw [cond_false, ih]
      exact ⟨fun e y hy => (List.mem_cons.1 hy).elim (fun h => by rw [h]; exact h0) (fun h => e y h), fun e y hy => e y (by simp [hy])⟩
theorem listErr_of {l : List V} (h1 : l.length ≤ 1000) (h2 : ∀ x ∈ l, lineE x = 0) : listErr l = 0 := by
  unfold listErr
  rw [dec_false (by omega), (listE_zero l).2 h2]
  rfl
theorem eqS_eq : ∀ (a b : List V), a.all V.isStr = true → b.all V.isStr = true → eqS a b = true → a = b
  | [], [], _, _, _ => rfl
  | [], _ :: _, _, _, h => by cases h
  | _ :: _, [], _, _, h => by cases h
  | x :: a, y :: b, ha, hb, h => by
    rw [List.all_cons, Bool.and_eq_true] at ha hb
    unfold eqS at h
    rw [Bool.and_eq_true, strEq_iff] at h
    rw [isStr_eq ha.1, isStr_eq hb.1, h.1, eqS_eq a b ha.2 hb.2 h.2]

/-! ### hunks whose numbers are numbers of 64 bits -/
def inR (n : Int) : Bool := decide (-9223372036854775808 ≤ n) && decide (n ≤ 9223372036854775807)
def rngHs : List V → Bool
  | f :: t :: _ :: _ :: l => (inR f.intOf && inR t.intOf) && rngHs l
  | _ => true

/-! ### the two checks agree -/
theorem he_step (a : List V) (any to : Bool) (en mv : Int) (f t o w : V) (l : List V) : heRun a any to en mv (f :: t :: o :: w :: l) =
    bif listErr o.cellsOf != 0 then (listErr o.cellsOf, mv)
    else bif listErr w.cellsOf != 0 then (listErr w.cellsOf, mv)
    else bif IntKind.wrap .i64 ((o.cellsOf.length : Int) + (w.cellsOf.length : Int)) == 0 then (23, mv)
    else bif decide (f.intOf < en) then (9, mv)
    else bif (any && decide (f.intOf > 1000000)) || (!any && (decide (f.intOf > (a.length : Int)) || decide (IntKind.wrap .i64 (f.intOf + (o.cellsOf.length : Int)) > (a.length : Int)))) then (3, mv)
    else bif !any && !eqS ((a.drop f.intOf.toNat).take o.cellsOf.length) o.cellsOf then (19, mv)
    else bif to && (t.intOf != IntKind.wrap .i64 (f.intOf + mv)) then (19, mv)
    else heRun a any to (IntKind.wrap .i64 (f.intOf + (o.cellsOf.length : Int))) (dltI mv o.cellsOf w.cellsOf) l := rfl
/-- The walker's state and the reference's say the same. -/
structure Same (s : WS) (en mv : Int) : Prop where
  d : s.d = mv
  e : (s.any = false ∧ en = 0) ∨ (s.any = true ∧ 0 ≤ s.f ∧ s.f ≤ 2000000 ∧ en = s.f + (s.o.length : Int))
  l : s.o.length ≤ 1000
theorem same_en {s : WS} {en mv : Int} (h : Same s en mv) : 0 ≤ en ∧ en ≤ 2001000 := by
  have hl := h.l
  rcases h.e with ⟨_, h1⟩ | ⟨_, h1, h2, h3⟩ <;> omega
theorem ord_lt {s : WS} {en mv h : Int} (hs : Same s en mv) (hr : inR h = true) : (!ordB h s.f s.o s.any) = decide (h < en) := by
  unfold inR at hr
  simp only [Bool.and_eq_true, decide_eq_true_eq] at hr
  have hl := hs.l
  unfold ordB
  rcases hs.e with ⟨h1, h2⟩ | ⟨h1, h2, h3, h4⟩
  · rw [h1, h2]
    by_cases hh : h < 0
    · rw [dec_true hh]; rfl
    · rw [dec_false hh]; rfl
  · rw [h1, h4]
    by_cases hh : h < 0
    · rw [dec_true hh, dec_true (show h < s.f + (s.o.length : Int) by omega)]; rfl
    · rw [dec_false hh]
      by_cases hg : h ≥ s.f
      · rw [dec_true hg, wrap_id (n := h - s.f) (by omega) (by omega)]
        by_cases hk : h - s.f ≥ (s.o.length : Int)
        · rw [dec_true hk, dec_false (show ¬ h < s.f + (s.o.length : Int) by omega)]; rfl
        · rw [dec_false hk, dec_true (show h < s.f + (s.o.length : Int) by omega)]; rfl
      · rw [dec_false hg, dec_true (show h < s.f + (s.o.length : Int) by omega)]; rfl
theorem plac_eq (h t d : Int) (h1 : 0 ≤ h) (h2 : h ≤ 2000000) (hd : -1000000000000 ≤ d ∧ d ≤ 1000000000000) : placB h t d = (t == IntKind.wrap .i64 (h + d)) := by
  unfold placB
  by_cases hn : d < 0
  · rw [dec_true hn]; rfl
  · rw [dec_false hn, wrap_id (n := (9223372036854775807 : Int) - d) (by omega) (by omega), dec_true (show h ≤ 9223372036854775807 - d by omega)]; rfl
theorem dlt_eq (d : Int) (o w : List V) (ho : o.length ≤ 1000) (hw : w.length ≤ 1000) (hd : -1000000000000 ≤ d ∧ d ≤ 1000000000000) : dltI d o w = d + ((w.length : Int) - (o.length : Int)) := by
  unfold dltI
  rw [wrap_id (n := (w.length : Int) - (o.length : Int)) (by omega) (by omega), wrap_id (by omega) (by omega)]
theorem form_eq {s : WS} {en mv h : Int} (hs : Same s en mv) (hr : inR h = true) (o w : List V) : formE h o w s.f s.o s.any =
    bif listErr o != 0 then listErr o else bif listErr w != 0 then listErr w else bif IntKind.wrap .i64 ((o.length : Int) + (w.length : Int)) == 0 then 23 else bif decide (h < en) then 9 else 0 := by
  unfold formE
  rw [listsE_two, ord_lt hs hr]
  cases h1 : listErr o != 0 with
  | true => simp only [cond_true, h1]
  | false => rfl
theorem same_next {s : WS} {en mv : Int} (hs : Same s en mv) (f t : Int) (o w : List V) (h0 : en ≤ f) (h1 : f ≤ 2000000) (ho : o.length ≤ 1000) (d : Int) : Same ⟨f, t, o, w, true, d⟩ (IntKind.wrap .i64 (f + (o.length : Int))) d := by
  have := same_en hs
  refine ⟨rfl, .inr ⟨rfl, ?_, h1, ?_⟩, ho⟩
  · show 0 ≤ f
    omega
  · show IntKind.wrap .i64 (f + (o.length : Int)) = f + (o.length : Int)
    rw [wrap_id (by omega) (by omega)]
theorem of_he (a : List V) (la : a.length ≤ 2000000) (K : Nat) (hK : K ≤ 1000000000) : ∀ (l : List V) (s : WS) (en mv : Int), okHs l = true → rngHs l = true → Same s en mv → (-(1000 * ((K : Int) - (l.length : Int))) ≤ mv ∧ mv ≤ 1000 * ((K : Int) - (l.length : Int))) → l.length ≤ K →
    (ofRun a s l).1 = (heRun a false true en mv l).1 ∧ ((ofRun a s l).1 = 0 → (ofRun a s l).2.d = (heRun a false true en mv l).2)
  | [], s, en, mv, _, _, hs, _, _ => ⟨rfl, fun _ => hs.d⟩
  | [_], _, _, _, h, _, _, _, _ => by cases h
  | [_, _], _, _, _, h, _, _, _, _ => by cases h
  | [_, _, _], _, _, _, h, _, _, _, _ => by cases h
  | f :: t :: o :: w :: l, s, en, mv, h, hr, hs, hm, hl => by
    unfold okHs at h
    unfold rngHs at hr
    rw [Bool.and_eq_true] at h hr
    rw [Bool.and_eq_true] at hr
    simp only [List.length_cons] at hm hl
    have hen := same_en hs
    rw [ofRun, he_step, form_eq hs hr.1.1]
    cases h1 : listErr o.cellsOf != 0 with
    | true => simp only [cond_true, h1]; exact ⟨trivial, fun e => absurd e (by simpa using h1)⟩
    | false =>
    cases h2 : listErr w.cellsOf != 0 with
    | true => simp only [cond_true, cond_false, h2]; exact ⟨trivial, fun e => absurd e (by simpa using h2)⟩
    | false =>
    cases h3 : IntKind.wrap .i64 ((o.cellsOf.length : Int) + (w.cellsOf.length : Int)) == 0 with
    | true => exact ⟨rfl, fun e => by cases e⟩
    | false =>
    by_cases h4 : f.intOf < en
    · rw [dec_true h4]; exact ⟨rfl, fun e => by cases e⟩
    rw [dec_false h4]
    have lo := (listErr_zero (l := o.cellsOf) (by simpa using h1)).1
    have lw := (listErr_zero (l := w.cellsOf) (by simpa using h2)).1
    by_cases h5 : f.intOf > (a.length : Int)
    · rw [dec_true h5]; exact ⟨rfl, fun e => by cases e⟩
    rw [dec_false h5]
    have w1 : IntKind.wrap .i64 (f.intOf + (o.cellsOf.length : Int)) = f.intOf + (o.cellsOf.length : Int) := wrap_id (by omega) (by omega)
    by_cases h6 : f.intOf + (o.cellsOf.length : Int) > (a.length : Int)
    · rw [w1, dec_true h6]; exact ⟨rfl, fun e => by cases e⟩
    have hfit : fitsE a f.intOf o.cellsOf = eqS ((a.drop f.intOf.toNat).take o.cellsOf.length) o.cellsOf := by
      unfold fitsE
      rw [w1, show (f.intOf + (o.cellsOf.length : Int)).toNat - f.intOf.toNat = o.cellsOf.length by omega]
    have hmv : -1000000000000 ≤ mv ∧ mv ≤ 1000000000000 := by omega
    have IH := of_he a la K hK l ⟨f.intOf, t.intOf, o.cellsOf, w.cellsOf, true, dltI mv o.cellsOf w.cellsOf⟩ (IntKind.wrap .i64 (f.intOf + (o.cellsOf.length : Int))) (dltI mv o.cellsOf w.cellsOf) h.2 hr.2 (same_next hs _ _ _ _ (by omega) (by omega) lo _) (by rw [dlt_eq _ _ _ lo lw hmv]; omega) (by omega)
    rw [w1] at IH
    rw [w1, dec_false h6, hfit, hs.d, plac_eq _ _ _ (by omega) (by omega) hmv]
    cases h7 : eqS ((a.drop f.intOf.toNat).take o.cellsOf.length) o.cellsOf with
    | false => exact ⟨rfl, fun e => by cases e⟩
    | true =>
    cases h8 : t.intOf == IntKind.wrap .i64 (f.intOf + mv) with
    | false =>
      have e : (t.intOf != IntKind.wrap .i64 (f.intOf + mv)) = true := by simp only [bne, h8]; rfl
      rw [e]
      exact ⟨rfl, fun e => by cases e⟩
    | true =>
      have e : (t.intOf != IntKind.wrap .i64 (f.intOf + mv)) = false := by simp only [bne, h8]; rfl
      rw [e]
      exact IH
theorem tr_he (to : Bool) (K : Nat) (hK : K ≤ 1000000000) : ∀ (l : List V) (s : WS) (en mv : Int), okHs l = true → rngHs l = true → Same s en mv → (-(1000 * ((K : Int) - (l.length : Int))) ≤ mv ∧ mv ≤ 1000 * ((K : Int) - (l.length : Int))) → l.length ≤ K →
    trRun to s l = (heRun [] true to en mv l).1
  | [], s, en, mv, _, _, hs, _, _ => rfl
  | [_], _, _, _, h, _, _, _, _ => by cases h
  | [_, _], _, _, _, h, _, _, _, _ => by cases h
  | [_, _, _], _, _, _, h, _, _, _, _ => by cases h
  | f :: t :: o :: w :: l, s, en, mv, h, hr, hs, hm, hl => by
    unfold okHs at h
    unfold rngHs at hr
    rw [Bool.and_eq_true] at h hr
    rw [Bool.and_eq_true] at hr
    simp only [List.length_cons] at hm hl
    have hen := same_en hs
    rw [trRun, he_step, form_eq hs hr.1.1]
    cases h1 : listErr o.cellsOf != 0 with
    | true => simp only [cond_true, h1]
    | false =>
    cases h2 : listErr w.cellsOf != 0 with
    | true => simp only [cond_true, cond_false, h2]
    | false =>
    cases h3 : IntKind.wrap .i64 ((o.cellsOf.length : Int) + (w.cellsOf.length : Int)) == 0 with
    | true => rfl
    | false =>
    by_cases h4 : f.intOf < en
    · rw [dec_true h4]; rfl
    rw [dec_false h4]
    have lo := (listErr_zero (l := o.cellsOf) (by simpa using h1)).1
    have lw := (listErr_zero (l := w.cellsOf) (by simpa using h2)).1
    by_cases h5 : f.intOf > 1000000
    · rw [dec_true h5]; rfl
    rw [dec_false h5]
    have hmv : -1000000000000 ≤ mv ∧ mv ≤ 1000000000000 := by omega
    have IH := tr_he to K hK l ⟨f.intOf, t.intOf, o.cellsOf, w.cellsOf, true, dltI mv o.cellsOf w.cellsOf⟩ (IntKind.wrap .i64 (f.intOf + (o.cellsOf.length : Int))) (dltI mv o.cellsOf w.cellsOf) h.2 hr.2 (same_next hs _ _ _ _ (by omega) (by omega) lo _) (by rw [dlt_eq _ _ _ lo lw hmv]; omega) (by omega)
    rw [hs.d, plac_eq _ _ _ (by omega) (by omega) hmv, ← hs.d]
    rw [← hs.d] at IH
    cases to with
    | false => exact IH
    | true =>
    cases h8 : t.intOf == IntKind.wrap .i64 (f.intOf + s.d) with
    | false =>
      have e : (t.intOf != IntKind.wrap .i64 (f.intOf + s.d)) = true := by simp only [bne, h8]; rfl
      rw [e]
      rfl
    | true =>
      have e : (t.intOf != IntKind.wrap .i64 (f.intOf + s.d)) = false := by simp only [bne, h8]; rfl
      rw [e]
      exact IH
theorem same0 : Same w0 0 0 := ⟨rfl, .inl ⟨rfl, rfl⟩, Nat.zero_le _⟩
theorem ofE_he (a l : List V) (la : a.length ≤ 2000000) (h : okHs l = true) (hr : rngHs l = true) (hl : l.length ≤ 1000000000) : ofE a l = heE a false l true := by
  obtain ⟨h1, h2⟩ := of_he a la l.length hl l w0 0 0 h hr same0 (by omega) (Nat.le_refl _)
  unfold ofE heE
  rw [Bool.false_and, cond_false, h1]
  rw [h1] at h2
  cases hc : (heRun a false true 0 0 l).1 != 0 with
  | true => rfl
  | false => rw [h2 (by simpa using hc)]; rfl
theorem trE_he (to : Bool) (l : List V) (h : okHs l = true) (hr : rngHs l = true) (hl : l.length ≤ 1000000000) : trE to l = heE [] true l to := by
  unfold trE heE
  rw [tr_he to l.length hl l w0 0 0 h hr same0 (by omega) (Nat.le_refl _), Bool.true_and, Bool.not_true, Bool.false_and, cond_false]
  cases decide ((lenE 4 l.length : Int) > 1000) with
  | true => rfl
  | false =>
    rw [cond_false, cond_false]
    exact (zero_or (x := (heRun [] true to 0 0 l).1) (fun e => e)).symm

/-! ### what right hunks are -/
structure Right (a : List V) (en mv : Int) (f t : Int) (o w : List V) : Prop where
  lo : listErr o = 0
  lw : listErr w = 0
  ne : 0 < o.length + w.length
  f0 : en ≤ f
  f1 : f + (o.length : Int) ≤ (a.length : Int)
  c : eqS ((a.drop f.toNat).take o.length) o = true
  t : t = IntKind.wrap .i64 (f + mv)
theorem he_inv {a : List V} (la : a.length ≤ 2000000) {en mv : Int} (h0 : 0 ≤ en) {f t o w : V} {l : List V} (h : (heRun a false true en mv (f :: t :: o :: w :: l)).1 = 0) :
    Right a en mv f.intOf t.intOf o.cellsOf w.cellsOf ∧ heRun a false true en mv (f :: t :: o :: w :: l) = heRun a false true (f.intOf + (o.cellsOf.length : Int)) (dltI mv o.cellsOf w.cellsOf) l := by
  rw [he_step] at h ⊢
  cases h1 : listErr o.cellsOf != 0 with
  | true => rw [h1] at h; exact absurd h (by simpa using h1)
  | false =>
  rw [h1] at h
  cases h2 : listErr w.cellsOf != 0 with
  | true => rw [h2] at h; exact absurd h (by simpa using h2)
  | false =>
  rw [h2] at h
  cases h3 : IntKind.wrap .i64 ((o.cellsOf.length : Int) + (w.cellsOf.length : Int)) == 0 with
  | true => rw [h3] at h; cases h
  | false =>
  rw [h3] at h
  cases h4 : decide (f.intOf < en) with
  | true => rw [h4] at h; cases h
  | false =>
  rw [h4] at h
  cases h5 : (false && decide (f.intOf > 1000000)) || (!false && (decide (f.intOf > (a.length : Int)) || decide (IntKind.wrap .i64 (f.intOf + (o.cellsOf.length : Int)) > (a.length : Int)))) with
  | true => rw [h5] at h; cases h
  | false =>
  rw [h5] at h
  cases h6 : !false && !eqS ((a.drop f.intOf.toNat).take o.cellsOf.length) o.cellsOf with
  | true => rw [h6] at h; cases h
  | false =>
  rw [h6] at h
  cases h7 : true && (t.intOf != IntKind.wrap .i64 (f.intOf + mv)) with
  | true => rw [h7] at h; cases h
  | false =>
  have e1 : listErr o.cellsOf = 0 := by simpa using h1
  have e2 : listErr w.cellsOf = 0 := by simpa using h2
  have l1 := (listErr_zero e1).1
  have l2 := (listErr_zero e2).1
  have e4 := of_decide_eq_false h4
  simp only [Bool.false_and, Bool.not_false, Bool.true_and, Bool.false_or, Bool.or_eq_false_iff, decide_eq_false_iff_not] at h5
  have w1 : IntKind.wrap .i64 (f.intOf + (o.cellsOf.length : Int)) = f.intOf + (o.cellsOf.length : Int) := wrap_id (by omega) (by omega)
  rw [w1] at h5 ⊢
  have w2 : IntKind.wrap .i64 ((o.cellsOf.length : Int) + (w.cellsOf.length : Int)) = (o.cellsOf.length : Int) + (w.cellsOf.length : Int) := wrap_id (by omega) (by omega)
  rw [w2, beq_eq_false_iff_ne] at h3
  refine ⟨⟨e1, e2, by omega, by omega, by omega, by simpa using h6, by simpa using h7⟩, rfl⟩
theorem he_of {a : List V} (la : a.length ≤ 2000000) {en mv : Int} (h0 : 0 ≤ en) {f t o w : V} {l : List V} (h : Right a en mv f.intOf t.intOf o.cellsOf w.cellsOf) :
    heRun a false true en mv (f :: t :: o :: w :: l) = heRun a false true (f.intOf + (o.cellsOf.length : Int)) (dltI mv o.cellsOf w.cellsOf) l := by
  obtain ⟨e1, e2, e3, e4, e5, e6, e7⟩ := h
  have l1 := (listErr_zero e1).1
  have l2 := (listErr_zero e2).1
  have w1 : IntKind.wrap .i64 (f.intOf + (o.cellsOf.length : Int)) = f.intOf + (o.cellsOf.length : Int) := wrap_id (by omega) (by omega)
  have w2 : IntKind.wrap .i64 ((o.cellsOf.length : Int) + (w.cellsOf.length : Int)) = (o.cellsOf.length : Int) + (w.cellsOf.length : Int) := wrap_id (by omega) (by omega)
  have b1 : (((o.cellsOf.length : Int) + (w.cellsOf.length : Int)) == 0) = false := by rw [beq_eq_false_iff_ne]; omega
  rw [he_step, e1, e2, w1, w2, b1, dec_false (show ¬ f.intOf < en by omega), dec_false (show ¬ f.intOf > (a.length : Int) by omega), dec_false (show ¬ f.intOf + (o.cellsOf.length : Int) > (a.length : Int) by omega), e6, e7, bne_self_eq_false]
  simp only [bne_self_eq_false, cond_false, Bool.and_false, Bool.false_and, Bool.or_false, Bool.not_true, w1]
theorem he_rt {a : List V} (la : a.length ≤ 2000000) : ∀ (l : List V) (en mv : Int), okHs l = true → 0 ≤ en → en ≤ (a.length : Int) → (heRun a false true en mv l).1 = 0 → rtOk (a.length : Int) en l = true
  | [], en, mv, _, _, h1, _ => dec_true h1
  | [_], _, _, h, _, _, _ => by cases h
  | [_, _], _, _, h, _, _, _ => by cases h
  | [_, _, _], _, _, h, _, _, _ => by cases h
  | f :: t :: o :: w :: l, en, mv, h, h0, h1, he => by
    unfold okHs at h
    rw [Bool.and_eq_true] at h
    obtain ⟨hr, e⟩ := he_inv la h0 he
    rw [e] at he
    unfold rtOk
    rw [dec_true hr.f0, dec_true hr.f1, he_rt la l _ _ h.2 (by have := hr.f0; omega) hr.f1 he]
    rfl

/-! ### hunks that are turned lead back -/
def repT (a : List V) (p : Int) (l : List V) : List V := repC a p l ++ a.drop (endR p l).toNat
theorem repT_nil (a : List V) (p : Int) : repT a p [] = a.drop p.toNat := rfl
theorem repT_cons (a : List V) (p : Int) (f t o w : V) (l : List V) : repT a p (f :: t :: o :: w :: l) = (a.drop p.toNat).take (f.intOf.toNat - p.toNat) ++ (w.cellsOf ++ repT a (f.intOf + (o.cellsOf.length : Int)) l) := by
  show (((a.drop p.toNat).take (f.intOf.toNat - p.toNat) ++ w.cellsOf) ++ repC a (f.intOf + (o.cellsOf.length : Int)) l) ++ a.drop (endR (f.intOf + (o.cellsOf.length : Int)) l).toNat = _
  rw [List.append_assoc, List.append_assoc]
  rfl
theorem turned_ok {a : List V} (ha : a.all V.isStr = true) (la : a.length ≤ 1000000) (b : List V) (lb : b.length ≤ 1000000) : ∀ (l : List V) (p mv q : Int), okHs l = true → 0 ≤ p → p ≤ (a.length : Int) → 0 ≤ q → q ≤ (b.length : Int) → q = p + mv → b.drop q.toNat = repT a p l → (heRun a false true p mv l).1 = 0 →
    heRun b false true q (-mv) (turnC l) = (0, -(heRun a false true p mv l).2) ∧ repT b q (turnC l) = a.drop p.toNat ∧ ((repT a p l).length : Int) = (a.length : Int) - p + ((heRun a false true p mv l).2 - mv) ∧ ((∀ x ∈ a, lineE x = 0) → ∀ x ∈ repT a p l, lineE x = 0) ∧ (repT a p l).all V.isStr = true
  | [], p, mv, q, _, h0, h1, h2, hq, h3, hb, _ => by
    refine ⟨rfl, hb, ?_, fun hx x hm => hx x (List.mem_of_mem_drop hm), drop_str ha _⟩
    rw [repT_nil, List.length_drop]
    show _ = (a.length : Int) - p + (mv - mv)
    omega
  | [_], _, _, _, h, _, _, _, _, _, _, _ => by cases h
  | [_, _], _, _, _, h, _, _, _, _, _, _, _ => by cases h
  | [_, _, _], _, _, _, h, _, _, _, _, _, _, _ => by cases h
  | f :: t :: o :: w :: l, p, mv, q, h, h0, h1, h2, hq, h3, hb, he => by
    unfold okHs at h
    rw [Bool.and_eq_true] at h
    obtain ⟨p0, p1, ⟨p2, p3, p4⟩, ⟨p5, p6, p7⟩⟩ := okH_spec h.1
    obtain ⟨hr, e⟩ := he_inv (by omega) h0 he
    rw [e] at he ⊢
    obtain ⟨e1, e2, e3, e4, e5, e6, e7⟩ := hr
    have l1 := (listErr_zero e1).1
    have l2 := (listErr_zero e2).1
    have hmv : -1000000000000 ≤ mv ∧ mv ≤ 1000000000000 := by omega
    have et : t.intOf = f.intOf + mv := by rw [e7, wrap_id (by omega) (by omega)]
    have hd := dlt_eq mv o.cellsOf w.cellsOf l1 l2 hmv
    have hd2 := dlt_eq (-mv) w.cellsOf o.cellsOf l2 l1 (by omega)
    rw [repT_cons] at hb
    have hlen : ((a.drop p.toNat).take (f.intOf.toNat - p.toNat)).length = f.intOf.toNat - p.toNat := by
      rw [List.length_take, List.length_drop]; omega
    have ht : t.intOf.toNat = q.toNat + (f.intOf.toNat - p.toNat) := by omega
    have hbt : b.drop t.intOf.toNat = w.cellsOf ++ repT a (f.intOf + (o.cellsOf.length : Int)) l := by
      rw [ht, ← List.drop_drop, hb, List.drop_left' hlen]
    have hbq : b.drop (t.intOf + (w.cellsOf.length : Int)).toNat = repT a (f.intOf + (o.cellsOf.length : Int)) l := by
      rw [show (t.intOf + (w.cellsOf.length : Int)).toNat = t.intOf.toNat + w.cellsOf.length by omega, ← List.drop_drop, hbt, List.drop_left]
    have hbl : t.intOf + (w.cellsOf.length : Int) ≤ (b.length : Int) := by
      have := congrArg List.length hbt
      rw [List.length_drop, List.length_append] at this
      by_cases hz : w.cellsOf.length = 0
      · have h5 := congrArg List.length hb
        rw [List.length_drop, List.length_append, hlen] at h5
        omega
      · omega
    obtain ⟨i1, i2, i3, i4, i5⟩ := turned_ok ha la b lb l (f.intOf + (o.cellsOf.length : Int)) (dltI mv o.cellsOf w.cellsOf) (t.intOf + (w.cellsOf.length : Int)) h.2 (by omega) e5 (by omega) hbl (by omega) hbq he
    have hright : Right b q (-mv) t.intOf f.intOf w.cellsOf o.cellsOf := by
      refine ⟨e2, e1, by omega, by omega, hbl, ?_, ?_⟩
      · rw [hbt, List.take_left]; exact eqS_refl _
      · rw [wrap_id (by omega) (by omega)]; omega
    have ho : (a.drop f.intOf.toNat).take o.cellsOf.length = o.cellsOf := eqS_eq _ _ (by have := all_sub ha f.intOf.toNat o.cellsOf.length; exact this) p3 e6
    refine ⟨?_, ?_, ?_, ?_, ?_⟩
    · show heRun b false true q (-mv) (.sc (.int .i64 t.intOf) :: .sc (.int .i64 f.intOf) :: .sl 1 w.cellsOf :: .sl 1 o.cellsOf :: turnC l) = _
      rw [he_of (by omega) h2 (f := .sc (.int .i64 t.intOf)) (t := .sc (.int .i64 f.intOf)) (o := .sl 1 w.cellsOf) (w := .sl 1 o.cellsOf) hright]
      show heRun b false true (t.intOf + (w.cellsOf.length : Int)) (dltI (-mv) w.cellsOf o.cellsOf) (turnC l) = _
      rw [hd2, ← i1, hd]
      congr 1
      omega
    · show repT b q (.sc (.int .i64 t.intOf) :: .sc (.int .i64 f.intOf) :: .sl 1 w.cellsOf :: .sl 1 o.cellsOf :: turnC l) = _
      rw [repT_cons]
      show (b.drop q.toNat).take (t.intOf.toNat - q.toNat) ++ (o.cellsOf ++ repT b (t.intOf + (w.cellsOf.length : Int)) (turnC l)) = _
      rw [i2, hb, show t.intOf.toNat - q.toNat = f.intOf.toNat - p.toNat by omega, List.take_left' hlen]
      have s1 : a.drop f.intOf.toNat = o.cellsOf ++ a.drop (f.intOf + (o.cellsOf.length : Int)).toNat := by
        rw [show (f.intOf + (o.cellsOf.length : Int)).toNat = f.intOf.toNat + o.cellsOf.length by omega, ← List.drop_drop]
        conv => lhs; rw [← List.take_append_drop o.cellsOf.length (a.drop f.intOf.toNat), ho]
      rw [← s1]
      conv => rhs; rw [← List.take_append_drop (f.intOf.toNat - p.toNat) (a.drop p.toNat), List.drop_drop, show p.toNat + (f.intOf.toNat - p.toNat) = f.intOf.toNat by omega]
    · rw [repT_cons, List.length_append, List.length_append, hlen]
      rw [hd] at i3 ⊢
      omega
    · intro hx x hm
      rw [repT_cons, List.mem_append, List.mem_append] at hm
      rcases hm with hm | hm | hm
      · exact hx x (List.mem_of_mem_drop (List.mem_of_mem_take hm))
      · exact (listE_zero _).1 (listErr_zero e2).2 x hm
      · exact i4 hx x hm
    · rw [repT_cons, List.all_append, List.all_append, i5, p6, all_sub ha]; rfl
/-- How long the list is that right hunks make. -/
theorem he_len {a : List V} (ha : a.all V.isStr = true) (la : a.length ≤ 1000000) (K : Int) (hK : K ≤ 1000000000000) : ∀ (l : List V) (p mv : Int), okHs l = true → 0 ≤ p → p ≤ (a.length : Int) → (heRun a false true p mv l).1 = 0 → -(K - 1000 * (l.length : Int)) ≤ mv ∧ mv ≤ K - 1000 * (l.length : Int) → ((repT a p l).length : Int) = (a.length : Int) - p + ((heRun a false true p mv l).2 - mv) ∧ -K ≤ (heRun a false true p mv l).2 ∧ (heRun a false true p mv l).2 ≤ K
  | [], p, mv, _, h0, h1, _, hm => by
    rw [repT_nil, List.length_drop]
    refine ⟨?_, ?_, ?_⟩
    · show _ = (a.length : Int) - p + (mv - mv)
      omega
    · have h2 := hm.1
      rw [List.length_nil] at h2
      show _ ≤ mv
      omega
    · have h2 := hm.2
      rw [List.length_nil] at h2
      show mv ≤ _
      omega
  | [_], _, _, h, _, _, _, _ => by cases h
  | [_, _], _, _, h, _, _, _, _ => by cases h
  | [_, _, _], _, _, h, _, _, _, _ => by cases h
  | f :: t :: o :: w :: l, p, mv, h, h0, h1, he, hm => by
    unfold okHs at h
    rw [Bool.and_eq_true] at h
    simp only [List.length_cons] at hm
    obtain ⟨hr, e⟩ := he_inv (by omega) h0 he
    rw [e] at he ⊢
    obtain ⟨e1, e2, e3, e4, e5, e6, e7⟩ := hr
    have l1 := (listErr_zero e1).1
    have l2 := (listErr_zero e2).1
    have hd := dlt_eq mv o.cellsOf w.cellsOf l1 l2 (by omega)
    have hlen : ((a.drop p.toNat).take (f.intOf.toNat - p.toNat)).length = f.intOf.toNat - p.toNat := by
      rw [List.length_take, List.length_drop]; omega
    obtain ⟨i1, i2⟩ := he_len ha la K hK l (f.intOf + (o.cellsOf.length : Int)) (dltI mv o.cellsOf w.cellsOf) h.2 (by omega) e5 he (by rw [hd]; omega)
    refine ⟨?_, i2⟩
    rw [repT_cons, List.length_append, List.length_append, hlen]
    rw [hd] at i1 ⊢
    omega
theorem turnC_ok : ∀ (l : List V), okHs l = true → okHs (turnC l) = true ∧ (turnC l).length = l.length ∧ turnOk (turnC l) l = true ∧ newN (turnC l) = oldN l
  | [], _ => ⟨rfl, rfl, rfl, rfl⟩
  | [_], h => by cases h
  | [_, _], h => by cases h
  | [_, _, _], h => by cases h
  | f :: t :: o :: w :: l, h => by
    unfold okHs at h
    rw [Bool.and_eq_true] at h
    obtain ⟨p0, p1, ⟨p2, p3, p4⟩, ⟨p5, p6, p7⟩⟩ := okH_spec h.1
    obtain ⟨i1, i2, i3, i4⟩ := turnC_ok l h.2
    refine ⟨?_, ?_, ?_, ?_⟩
    · show ((true && (true && (okStrs (.sl 1 w.cellsOf) && okStrs (.sl 1 o.cellsOf)))) && okHs (turnC l)) = true
      rw [okStrs_sl p6 p7, okStrs_sl p3 p4, i1]; rfl
    · show (turnC l).length + 1 + 1 + 1 + 1 = l.length + 1 + 1 + 1 + 1
      rw [i2]
    · show (bif t.intOf != t.intOf then false else bif f.intOf != f.intOf then false else bif !eqS w.cellsOf w.cellsOf then false else bif !eqS o.cellsOf o.cellsOf then false else turnOk (turnC l) l) = true
      rw [bne_self_eq_false, bne_self_eq_false, eqS_refl, eqS_refl, i3]; rfl
    · show o.cellsOf.length + newN (turnC l) = o.cellsOf.length + oldN l
      rw [i4]
theorem turnC_rng : ∀ (l : List V), rngHs l = true → rngHs (turnC l) = true
  | [], _ => rfl
  | [_], _ => rfl
  | [_, _], _ => rfl
  | [_, _, _], _ => rfl
  | f :: t :: o :: w :: l, h => by
    unfold rngHs at h
    rw [Bool.and_eq_true, Bool.and_eq_true] at h
    show ((inR t.intOf && inR f.intOf) && rngHs (turnC l)) = true
    rw [h.1.1, h.1.2, turnC_rng l h.2]; rfl
theorem repC_len (a : List V) : ∀ (l : List V) (p : Int), okHs l = true → 0 ≤ p → rtOk (a.length : Int) p l = true → (repC a p l).length + p.toNat ≤ newN l + (endR p l).toNat ∧ 0 ≤ endR p l ∧ endR p l ≤ (a.length : Int)
  | [], p, _, h0, h => ⟨by simp [repC, newN, endR], h0, of_decide_eq_true h⟩
  | [_], _, h, _, _ => by cases h
  | [_, _], _, h, _, _ => by cases h
  | [_, _, _], _, h, _, _ => by cases h
  | f :: t :: o :: w :: l, p, h, h0, hr => by
    unfold okHs at h
    unfold rtOk at hr
    rw [Bool.and_eq_true] at h
    simp only [Bool.and_eq_true, decide_eq_true_eq] at hr
    obtain ⟨i1, i2, i3⟩ := repC_len a l (f.intOf + (o.cellsOf.length : Int)) h.2 (by omega) hr.2
    refine ⟨?_, i2, i3⟩
    show ((((a.drop p.toNat).take (f.intOf.toNat - p.toNat) ++ w.cellsOf) ++ repC a (f.intOf + (o.cellsOf.length : Int)) l)).length + p.toNat ≤ w.cellsOf.length + newN l + (endR (f.intOf + (o.cellsOf.length : Int)) l).toNat
    rw [List.length_append, List.length_append, List.length_take]
    omega

theorem of_rt_c {a : List V} (la : a.length ≤ 2000000) : ∀ (l : List V) (s : WS) (en mv : Int), okHs l = true → Same s en mv → en ≤ (a.length : Int) → (ofRun a s l).1 = 0 → rtOk (a.length : Int) en l = true
  | [], s, en, mv, _, _, h1, _ => dec_true h1
  | [_], _, _, _, h, _, _, _ => by cases h
  | [_, _], _, _, _, h, _, _, _ => by cases h
  | [_, _, _], _, _, _, h, _, _, _ => by cases h
  | f :: t :: o :: w :: l, s, en, mv, h, hs, hle, he => by
    unfold okHs at h
    rw [Bool.and_eq_true] at h
    rw [ofRun] at he
    have hen := same_en hs
    cases h1 : formE f.intOf o.cellsOf w.cellsOf s.f s.o s.any != 0 with
    | true => rw [h1] at he; exact absurd he (by simpa using h1)
    | false =>
    rw [h1, cond_false] at he
    by_cases h2 : f.intOf > (a.length : Int)
    · rw [dec_true h2] at he; cases he
    rw [dec_false h2, cond_false] at he
    have hf : 0 ≤ f.intOf := by
      have h1' := h1
      unfold formE at h1'
      cases c1 : listsE [.sl 1 o.cellsOf, .sl 1 w.cellsOf] != 0 with
      | true => rw [c1, cond_true, c1] at h1'; cases h1'
      | false =>
      rw [c1, cond_false] at h1'
      cases c2 : IntKind.wrap .i64 ((o.cellsOf.length : Int) + (w.cellsOf.length : Int)) == 0 with
      | true => rw [c2] at h1'; cases h1'
      | false =>
      rw [c2, cond_false] at h1'
      unfold ordB at h1'
      by_cases hh : f.intOf < 0
      · rw [dec_true hh] at h1'; cases h1'
      · omega
    have hr : inR f.intOf = true := by unfold inR; rw [dec_true (by omega), dec_true (by omega)]; rfl
    rw [form_eq hs hr] at h1
    cases c1 : listErr o.cellsOf != 0 with
    | true => rw [c1, cond_true, c1] at h1; cases h1
    | false =>
    rw [c1, cond_false] at h1
    cases c2 : listErr w.cellsOf != 0 with
    | true => rw [c2, cond_true, c2] at h1; cases h1
    | false =>
    rw [c2, cond_false] at h1
    cases c3 : IntKind.wrap .i64 ((o.cellsOf.length : Int) + (w.cellsOf.length : Int)) == 0 with
    | true => rw [c3] at h1; cases h1
    | false =>
    rw [c3, cond_false] at h1
    by_cases c4 : f.intOf < en
    · rw [dec_true c4] at h1; cases h1
    have lo := (listErr_zero (l := o.cellsOf) (by simpa using c1)).1
    have w1 : IntKind.wrap .i64 (f.intOf + (o.cellsOf.length : Int)) = f.intOf + (o.cellsOf.length : Int) := wrap_id (by omega) (by omega)
    rw [w1] at he
    by_cases h3 : f.intOf + (o.cellsOf.length : Int) > (a.length : Int)
    · rw [dec_true h3] at he; cases he
    rw [dec_false h3, cond_false] at he
    cases c5 : fitsE a f.intOf o.cellsOf with
    | false => rw [c5] at he; cases he
    | true =>
    rw [c5] at he
    cases c6 : placB f.intOf t.intOf s.d with
    | false => rw [c6] at he; cases he
    | true =>
    rw [c6] at he
    have hn := same_next hs f.intOf t.intOf o.cellsOf w.cellsOf (by omega) (by omega) lo (dltI s.d o.cellsOf w.cellsOf)
    rw [w1] at hn
    unfold rtOk
    rw [dec_true (show en ≤ f.intOf by omega), dec_true (show f.intOf + (o.cellsOf.length : Int) ≤ (a.length : Int) by omega), of_rt_c la l _ _ _ h.2 hn (by omega) he]
    rfl
theorem of_rt {a l : List V} (la : a.length ≤ 2000000) (h : okHs l = true) (he : ofE a l = 0) : rtOk (a.length : Int) 0 l = true := by
  refine of_rt_c la l w0 0 0 h same0 (by omega) ?_
  unfold ofE at he
  cases c : (ofRun a w0 l).1 != 0 with
  | true => rw [c, cond_true] at he; exact he
  | false => simpa using c
end Go.Ab
