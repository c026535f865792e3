/- The law MarkedMatches is true of the given program: whatever pieces are handed in, where what is read is of bulk at most 1048576. -/
import Derived.Test.YtnjgofgogeileaaGM
import Derived.Test.YtnjgofgogeileaaRows
import Derived.Test.YtnjgofgogeileaaEngD
import Derived.WalkKit
import Derived.ProofKit
import Derived.OpenShut
import Derived.JoinedCond
namespace Go.Ab
open Go Go.Proofs

theorem resB_bulk : ∀ (l : List V), l.all V.isStr = true → (resB l).size = bulkL l
  | [], _ => rfl
  | x :: l, h => by
    rw [List.all_cons, Bool.and_eq_true] at h
    have hx := isStr_eq h.1
    have e10 : (⟨#[10]⟩ : ByteArray).size = 1 := rfl
    unfold resB bulkL
    rw [ba_size_append, ba_size_append, resB_bulk l h.2, e10, hx]
    rfl
theorem len_bulk : ∀ (l : List V), l.all V.isStr = true → l.length ≤ bulkL l
  | [], _ => Nat.zero_le _
  | x :: l, h => by
    rw [List.all_cons, Bool.and_eq_true] at h
    have hx := isStr_eq h.1
    have := len_bulk l h.2
    unfold bulkL
    rw [List.length_cons, hx]
    simp only [V.bulk]
    omega

/-- Pieces as they are read. -/
def Piece (y : List V) : Prop := ∃ c l1 l2 l3 l4, y = [.sc (.bool c), .sl 1 l1, .sl 1 l2, .sl 1 l3, .sl 1 l4] ∧ l1.all V.isStr = true ∧ l2.all V.isStr = true ∧ l3.all V.isStr = true ∧ l4.all V.isStr = true
theorem pieces_ok : ∀ (l : List (List V)), (∀ y ∈ l, Piece y) → bulkL l.flatten ≤ 1048576 → okPs l.flatten = true ∧ (markB l.flatten).size ≤ 40 * bulkL l.flatten ∧ l.flatten.length ≤ 5 * bulkL l.flatten
  | [], _, _ => ⟨rfl, Nat.zero_le _, Nat.zero_le _⟩
  | y :: l, h, hb => by
    obtain ⟨c, l1, l2, l3, l4, rfl, a1, a2, a3, a4⟩ := h y (by simp)
    have e : ([.sc (.bool c), .sl 1 l1, .sl 1 l2, .sl 1 l3, .sl 1 l4] :: l : List (List V)).flatten = .sc (.bool c) :: .sl 1 l1 :: .sl 1 l2 :: .sl 1 l3 :: .sl 1 l4 :: l.flatten := rfl
    rw [e] at hb ⊢
    have hbulk : bulkL (.sc (.bool c) :: .sl 1 l1 :: .sl 1 l2 :: .sl 1 l3 :: .sl 1 l4 :: l.flatten) = 1 + ((bulkL l1 + 1) + ((bulkL l2 + 1) + ((bulkL l3 + 1) + ((bulkL l4 + 1) + bulkL l.flatten)))) := rfl
    rw [hbulk] at hb ⊢
    obtain ⟨i1, i2, i3⟩ := pieces_ok l (fun y hy => h y (by simp [hy])) (by omega)
    have b1 := len_bulk l1 a1
    have b2 := len_bulk l2 a2
    have b3 := len_bulk l3 a3
    have b4 := len_bulk l4 a4
    refine ⟨?_, ?_, ?_⟩
    · unfold okPs okP
      rw [okStrs_sl a1 (by omega), okStrs_sl a2 (by omega), okStrs_sl a3 (by omega), okStrs_sl a4 (by omega), i1]
      rfl
    · unfold markB pieceB
      have c1 : (⟨#[60, 60, 60, 60, 60, 60, 60, 10]⟩ : ByteArray).size = 8 := rfl
      have c2 : (⟨#[124, 124, 124, 124, 124, 124, 124, 10]⟩ : ByteArray).size = 8 := rfl
      have c3 : (⟨#[61, 61, 61, 61, 61, 61, 61, 10]⟩ : ByteArray).size = 8 := rfl
      have c4 : (⟨#[62, 62, 62, 62, 62, 62, 62, 10]⟩ : ByteArray).size = 8 := rfl
      have r1 := resB_bulk l1 a1
      have r2 := resB_bulk l2 a2
      have r3 := resB_bulk l3 a3
      have r4 := resB_bulk l4 a4
      rw [ba_size_append]
      cases c with
      | true =>
        simp only [V.boolOf, V.cellsOf, cond_true, ba_size_append, c1, c2, c3, c4, r1, r2, r3, r4]
        omega
      | false =>
        simp only [V.boolOf, V.cellsOf, cond_false, r1]
        omega
    · simp only [List.length_cons]
      omega

theorem isT_strs {P : Program} {t u : TypeId} (ht : P.underlying t = some (.slice u)) (hu : P.underlying u = some .string) (hz : szT P u = 1) {n : Nat} {xs : List V} (h : isT P (n + 2) t xs) : ∃ l : List V, xs = [.sl 1 l] ∧ l.all V.isStr = true := by
  unfold isT at h
  rw [ht] at h
  obtain ⟨l, rfl, hl, _⟩ := h
  refine ⟨l.flatten, by rw [hz], ?_⟩
  rw [List.all_eq_true]
  intro x hx
  obtain ⟨y, hy, hxy⟩ := List.mem_flatten.1 hx
  obtain ⟨s, hs⟩ := isT_string hu (hl y hy).1
  rw [hs, List.mem_singleton] at hxy
  rw [hxy]; rfl
theorem isF_cons {Q : TypeId → List V → Prop} {f : Field} {fs : List Field} {l : List (List V)} (h : isF Q (f :: fs) l) : ∃ y ys, l = y :: ys ∧ Q f.type y ∧ isF Q fs ys := by
  cases l with
  | nil => exact h.elim
  | cons y ys => exact ⟨y, ys, rfl, h.1, h.2⟩
theorem isF_nil {Q : TypeId → List V → Prop} {l : List (List V)} (h : isF Q [] l) : l = [] := by
  cases l with
  | nil => rfl
  | cons y ys => exact h.elim
theorem isV_pieces {P : Program} {t e u b : TypeId} {f1 f2 f3 f4 f5 : Field} (ht : P.underlying t = some (.slice e)) (he : P.underlying e = some (.struct #[f1, f2, f3, f4, f5])) (hz : szT P e = 5)
    (h1 : f1.type = b) (h2 : f2.type = u) (h3 : f3.type = u) (h4 : f4.type = u) (h5 : f5.type = u) (hb : P.underlying b = some .bool) {v : TypeId} (hu : P.underlying u = some (.slice v)) (hv : P.underlying v = some .string) (hzv : szT P v = 1)
    {x : V} (h : isV P t x) : ∃ l : List (List V), x = .sl 5 l.flatten ∧ ∀ y ∈ l, Piece y := by
  obtain ⟨xs, g1, g2⟩ := h
  unfold isT at g1
  rw [ht] at g1
  obtain ⟨l, rfl, hl, _⟩ := g1
  have ha : aggT P t = false := by unfold aggT; rw [ht]
  rcases g2 with ⟨g2, _⟩ | ⟨_, g2⟩
  · rw [ha] at g2; cases g2
  refine ⟨l, by rw [← hz]; simpa using g2.symm, fun y hy => ?_⟩
  have := (hl y hy).1
  unfold isT at this
  rw [he] at this
  obtain ⟨l', rfl, hf⟩ := this
  obtain ⟨y1, l', rfl, q1, hf⟩ := isF_cons hf
  obtain ⟨y2, l', rfl, q2, hf⟩ := isF_cons hf
  obtain ⟨y3, l', rfl, q3, hf⟩ := isF_cons hf
  obtain ⟨y4, l', rfl, q4, hf⟩ := isF_cons hf
  obtain ⟨y5, l', rfl, q5, hf⟩ := isF_cons hf
  obtain rfl := isF_nil hf
  rw [h1] at q1
  rw [h2] at q2
  rw [h3] at q3
  rw [h4] at q4
  rw [h5] at q5
  unfold isT at q1
  rw [hb] at q1
  obtain ⟨c, rfl⟩ := q1
  obtain ⟨l1, rfl, a1⟩ := isT_strs hu hv hzv q2
  obtain ⟨l2, rfl, a2⟩ := isT_strs hu hv hzv q3
  obtain ⟨l3, rfl, a3⟩ := isT_strs hu hv hzv q4
  obtain ⟨l4, rfl, a4⟩ := isT_strs hu hv hzv q5
  exact ⟨c, l1, l2, l3, l4, rfl, a1, a2, a3, a4⟩
end Go.Ab
namespace Go.Proofs.Ytnjgofgogeileaa.markedMatches
open Go.ChangeShapes Go.WideShapes Go.ChangeAt Go.RowKit

theorem own : ownKnob Try.prog.godebug = none := by kernel_rfl

set_option maxRecDepth 100000 in
theorem law (vs : List Go.Ab.V) (h : Go.Ab.isVs Try.prog [38] vs) (hb : Go.Ab.bulkL vs ≤ 1048576) : Go.Ab.CallR Go.Ab.C Go.Ab.prim 5 vs [] (.sc (.bool true), []) := by
  obtain ⟨x, rfl, hx⟩ := Go.Ab.isVs_one h
  obtain ⟨l, rfl, hl⟩ := Go.Ab.isV_pieces Try.underlying38 Try.underlying42 (by kernel_rfl) rfl rfl rfl rfl rfl Try.underlying4 Try.underlying22 Try.underlying9 (by kernel_rfl) hx
  simp only [Go.Ab.bulkL, Go.Ab.V.bulk] at hb
  obtain ⟨h1, h2, h3⟩ := Go.Ab.pieces_ok l hl (by omega)
  refine Go.Ab.f5_run _ _ (Go.Ab.f5_eq _ ?_)
  rw [h1, decide_eq_true (show l.flatten.length ≤ 1000000000 by omega), decide_eq_true (show (Go.Ab.markB l.flatten).size ≤ 100000000000 by omega)]
  rfl

set_option maxRecDepth 100000 in
theorem contract (H : Type) (enc : TypeId × Value → H) (W : World) (base : Nat) (args : Array Value) (ds gs : List (DataW H)) (before : List MemPlace)
    (hval : ∀ (j : Nat) t v, Try.f5.params[j]? = some t → args[j]? = some v → Value.okWide Try.prog W .any base t v)
    (hW : DataW.Whole enc Try.prog Try.f5.params.toList Rows.markedMatchesSpec.vars false W args.toList ds gs before) (hk : Rows.uptoSmall H (ds ++ gs) = true) :
    Calls Try.prog 5 args W fun e W' => ∃ v, e = .returned v ∧ Rows.markedMatchesSpec.post enc Try.prog Try.f5 false true false false W args v W' :=
  Go.Ab.law_contract (C := Go.Ab.C) (prim := Go.Ab.prim) (by kernel_rfl) (fun g p h => Go.Ab.prims_ok g p h) (by kernel_rfl) Try.func5 (by kernel_rfl) (by kernel_rfl) (by kernel_rfl) (by kernel_rfl) Try.underlying4
    rfl (fun ds h => match ds, h with | [_], _ => ⟨rfl, rfl, rfl⟩) hval hW
    (fun vs h hb => law vs h (Nat.le_trans hb (of_decide_eq_true hk)))

set_option maxRecDepth 100000 in
theorem lifted (os : Os) (started : os.Started) (H : Type) (enc : TypeId × Value → H) (F : Stop.Interp) :
    ReturnsInHanded {} Try.checked os 5 .any ((Rows.OpenSpec.upto Rows.markedMatchesSpec).pre6 enc Try.prog Try.f5 Rows.markedMatchesUptoRow.domain false) (((Rows.OpenSpec.upto Rows.markedMatchesSpec).at F).post enc Try.prog Try.f5 false true false false) := by
  refine returnsInHanded_of_cond (C := Try.checked) (s := Rows.OpenSpec.upto Rows.markedMatchesSpec) (k := Rows.uptoSmall) rfl own started (by kernel_rfl) Try.func5
    (OpenSpec.witness (enc := enc) (C := Try.checked) (s := Rows.OpenSpec.upto Rows.markedMatchesSpec) (k := Rows.uptoSmall) rfl false ⟨#[], #[.slice none 0 0], []⟩ 8 (by kernel_rfl) (by kernel_rfl) (by kernel_rfl)
      (x := ([.nil], [], [])) (by kernel_rfl) rfl (by kernel_rfl)) ?_
  intro W base args ds gs before hval hW _ hk _
  exact contract H enc W base args ds gs before hval hW hk

theorem proved : Rows.MarkedMatchesUptoSaid :=
  OpenClaim.holds_of_cond 5 Try.f5 rfl rfl rfl rfl rfl rfl rfl ⟨rfl, rfl, rfl, rfl, rfl⟩ rfl rfl rfl rfl rfl (by kernel_rfl) Try.func5 (by kernel_rfl)
    (of_decide_eq_true (by kernel_rfl)) (by unfold Func.isWrapper; first | (rw [if_pos (by decide +kernel)]; kernel_rfl) | (rw [if_neg (by decide +kernel)]; exact ⟨rfl, rfl⟩))
    (fun os started H enc _ F => lifted os started H enc F)
end Go.Proofs.Ytnjgofgogeileaa.markedMatches
