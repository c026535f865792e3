/- What the arguments of a law are. -/
import Derived.Test.YtbeemjiaohaamaaGreatDoorEngD
namespace Go.Ab
open Go Go.Proofs Go.RowKit
set_option linter.unusedSimpArgs false
set_option linter.unusedVariables false

/-! What the arguments of a law are, for slices and structs of plain things. -/
theorem isV_slice {P : Program} {t e : TypeId} (ht : P.underlying t = some (.slice e)) {x : V} (h : isV P t x) : ∃ (n : Nat) (l : List (List V)), x = .sl (szT P e) l.flatten ∧ ∀ y ∈ l, isT P n e y := by
  obtain ⟨xs, g1, g2⟩ := h
  unfold isT at g1
  rw [ht] at g1
  obtain ⟨l, rfl, hl, _⟩ := g1
  have ha : aggT P t = false := by unfold aggT; rw [ht]
  rcases g2 with ⟨g2, _⟩ | ⟨_, g2⟩
  · rw [ha] at g2; cases g2
  exact ⟨_, l, by simpa using g2.symm, fun y hy => (hl y hy).1⟩
theorem flat_all {f : V → Bool} : ∀ (l : List (List V)), (∀ y ∈ l, ∃ x, y = [x] ∧ f x = true) → l.flatten.all f = true
  | [], _ => rfl
  | y :: l, h => by
    obtain ⟨x, rfl, hx⟩ := h y (by simp)
    rw [List.flatten_cons, List.all_append, flat_all l (fun y hy => h y (by simp [hy])), List.all_cons, hx]
    rfl
theorem isT_pos {P : Program} {t : TypeId} {n : Nat} {xs : List V} (h : isT P n t xs) : ∃ m, n = m + 1 := by
  cases n with
  | zero => exact h.elim
  | succ m => exact ⟨m, rfl⟩
theorem isT_str1 {P : Program} {t : TypeId} (ht : P.underlying t = some .string) {n : Nat} {xs : List V} (h : isT P n t xs) : ∃ x, xs = [x] ∧ V.isStr x = true := by
  obtain ⟨m, rfl⟩ := isT_pos h
  obtain ⟨s, rfl⟩ := isT_string ht h
  exact ⟨_, rfl, rfl⟩
theorem isT_int1 {P : Program} {t : TypeId} {k : IntKind} (ht : P.underlying t = some (.int k)) {n : Nat} {xs : List V} (h : isT P n t xs) : ∃ m : Int, xs = [.sc (.int k m)] ∧ (Lit.int k m).wf = true := by
  obtain ⟨m, rfl⟩ := isT_pos h
  exact isT_int ht h
/-- A slice of texts. -/
theorem isV_strs {P : Program} {t u : TypeId} (ht : P.underlying t = some (.slice u)) (hu : P.underlying u = some .string) (hz : szT P u = 1) {x : V} (h : isV P t x) : ∃ l : List V, x = .sl 1 l ∧ l.all V.isStr = true := by
  obtain ⟨n, l, rfl, hl⟩ := isV_slice ht h
  exact ⟨l.flatten, by rw [hz], flat_all l fun y hy => isT_str1 hu (hl y hy)⟩
/-- A slice of integers. -/
theorem isV_ints {P : Program} {t u : TypeId} {k : IntKind} (ht : P.underlying t = some (.slice u)) (hu : P.underlying u = some (.int k)) (hz : szT P u = 1) {x : V} (h : isV P t x) : ∃ l : List V, x = .sl 1 l ∧ l.all (V.isInt k) = true := by
  obtain ⟨n, l, rfl, hl⟩ := isV_slice ht h
  refine ⟨l.flatten, by rw [hz], flat_all l fun y hy => ?_⟩
  obtain ⟨m, rfl, _⟩ := isT_int1 hu (hl y hy)
  exact ⟨_, rfl, by cases k <;> rfl⟩
theorem bulk_pos {x : V} (h : V.isStr x = true ∨ ∃ k, V.isInt k x = true) : 1 ≤ x.bulk := by
  rcases h with h | ⟨k, h⟩
  · have hx := isStr_eq h
    rw [hx]
    simp only [V.bulk]
    omega
  · unfold V.isInt at h
    split at h
    · simp [V.bulk]
    · cases h
theorem len_bulk' : ∀ (l : List V), (∀ x ∈ l, V.isStr x = true ∨ ∃ k, V.isInt k x = true) → l.length ≤ bulkL l
  | [], _ => Nat.zero_le _
  | x :: l, h => by
    have h1 := bulk_pos (h x (by simp))
    have h2 := len_bulk' l (fun y hy => h y (by simp [hy]))
    unfold bulkL
    rw [List.length_cons]
    omega
theorem len_strs {l : List V} (h : l.all V.isStr = true) : l.length ≤ bulkL l := len_bulk' l fun x hx => .inl (List.all_eq_true.1 h x hx)
theorem len_ints {k : IntKind} {l : List V} (h : l.all (V.isInt k) = true) : l.length ≤ bulkL l := len_bulk' l fun x hx => .inr ⟨k, List.all_eq_true.1 h x hx⟩
theorem isF_cons {Q : TypeId → List V → Prop} {f : Field} {fs : List Field} {l : List (List V)} (h : isF Q (f :: fs) l) : ∃ y ys, l = y :: ys ∧ Q f.type y ∧ isF Q fs ys := by
  cases l with
  | nil => exact h.elim
  | cons y ys => exact ⟨y, ys, rfl, h.1, h.2⟩
theorem isF_nil {Q : TypeId → List V → Prop} {l : List (List V)} (h : isF Q [] l) : l = [] := by
  cases l with
  | nil => rfl
  | cons y ys => exact h.elim
theorem isT_strs {P : Program} {t u : TypeId} (ht : P.underlying t = some (.slice u)) (hu : P.underlying u = some .string) (hz : szT P u = 1) {n : Nat} {xs : List V} (h : isT P n t xs) : ∃ l : List V, xs = [.sl 1 l] ∧ l.all V.isStr = true := by
  obtain ⟨m, rfl⟩ := isT_pos h
  unfold isT at h
  rw [ht] at h
  obtain ⟨l, rfl, hl, _⟩ := h
  exact ⟨l.flatten, by rw [hz], flat_all l fun y hy => isT_str1 hu (hl y hy).1⟩

end Go.Ab
