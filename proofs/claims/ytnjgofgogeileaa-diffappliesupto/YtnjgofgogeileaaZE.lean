/- Differences of lists: what is found from behind is what is found from the front. -/
import Derived.Test.YtnjgofgogeileaaZD
namespace Go.Ab
open Go Go.Proofs Go.RowKit
set_option linter.unusedSimpArgs false
set_option linter.unusedVariables false

/-- A loop over a list's places with a state: it is what `go` says. -/
theorem walkLoop {σ : Type} {R : Type} (L : Nat → Int → σ → Option R) (len : Nat) (I : Nat → σ → Prop) (go : Nat → σ → Option R)
    (hf : ∀ n s, I len s → L (n + 1) (len : Int) s = go len s)
    (hs : ∀ n k s, k < len → I k s → (∃ s', I (k + 1) s' ∧ L (n + 1) (k : Int) s = L n ((k + 1 : Nat) : Int) s' ∧ go k s = go (k + 1) s') ∨ L (n + 1) (k : Int) s = go k s) :
    ∀ (m k : Nat) (s : σ), k + m = len → I k s → ∀ n, m < n → L n (k : Int) s = go k s := by
  intro m
  induction m with
  | zero =>
    intro k s hk hi n hn
    obtain ⟨n, rfl⟩ : ∃ j, n = j + 1 := ⟨n - 1, by omega⟩
    obtain rfl : k = len := by omega
    exact hf n s hi
  | succ m ih =>
    intro k s hk hi n hn
    obtain ⟨n, rfl⟩ : ∃ j, n = j + 1 := ⟨n - 1, by omega⟩
    rcases hs n k s (by omega) hi with ⟨s', h1, h2, h3⟩ | h
    · rw [h2, h3]
      exact ih (k + 1) s' (by omega) h1 n (by omega)
    · exact h

theorem strEq_refl (x : ByteArray) : strEq x x = true := (strEq_iff x x).2 rfl
theorem eqS_refl : ∀ l : List V, eqS l l = true
  | [] => rfl
  | x :: l => by unfold eqS; rw [strEq_refl, eqS_refl l]; rfl
theorem eqS_drop {a b : List V} {k : Nat} (h : k < a.length) (hb : k < b.length) : eqS (a.drop k) (b.drop k) = (strEq a[k].strOf b[k].strOf && eqS (a.drop (k + 1)) (b.drop (k + 1))) := by
  rw [List.drop_eq_getElem_cons h, List.drop_eq_getElem_cons hb]
  rfl

/-! ### hunks as cells -/
theorem okHs_len : ∀ (l : List V), okHs l = true → ∃ q, l.length = 4 * q
  | [], _ => ⟨0, rfl⟩
  | [_], h => by cases h
  | [_, _], h => by cases h
  | [_, _, _], h => by cases h
  | f :: t :: o :: w :: l, h => by
    unfold okHs at h
    rw [Bool.and_eq_true] at h
    obtain ⟨q, hq⟩ := okHs_len l h.2
    exact ⟨q + 1, by simp only [List.length_cons, hq]; omega⟩
theorem okHs_cons {l : List V} (h : okHs l = true) (hn : l ≠ []) : ∃ f t o w r, l = f :: t :: o :: w :: r ∧ okH f t o w = true ∧ okHs r = true := by
  match l, h with
  | [], _ => exact absurd rfl hn
  | [_], h => cases h
  | [_, _], h => cases h
  | [_, _, _], h => cases h
  | f :: t :: o :: w :: r, h =>
    unfold okHs at h
    rw [Bool.and_eq_true] at h
    exact ⟨f, t, o, w, r, rfl, h.1, h.2⟩
theorem okHs_app : ∀ (a b : List V), okHs a = true → okHs b = true → okHs (a ++ b) = true
  | [], b, _, h => h
  | [_], _, h, _ => by cases h
  | [_, _], _, h, _ => by cases h
  | [_, _, _], _, h, _ => by cases h
  | f :: t :: o :: w :: a, b, h, hb => by
    unfold okHs at h
    rw [Bool.and_eq_true] at h
    show (okH f t o w && okHs (a ++ b)) = true
    rw [h.1, okHs_app a b h.2 hb]; rfl
theorem drop4 {l : List V} {k : Nat} {f t o w : V} {r : List V} (h : l.drop (k * 4) = f :: t :: o :: w :: r) :
    nthV l ((k : Int).toNat * 4 + 0) = f ∧ nthV l ((k : Int).toNat * 4 + 1) = t ∧ nthV l ((k : Int).toNat * 4 + 2) = o ∧ nthV l ((k : Int).toNat * 4 + 3) = w ∧ l.drop ((k + 1) * 4) = r ∧ k < lenE 4 l.length := by
  have hj : ∀ j, nthV l ((k : Int).toNat * 4 + j) = nthV (f :: t :: o :: w :: r) j := by
    intro j
    rw [Int.toNat_natCast, ← nthV_drop, h]
  refine ⟨hj 0, hj 1, hj 2, hj 3, ?_, ?_⟩
  · rw [Nat.add_mul, ← List.drop_drop, h]; rfl
  · have hl : (l.drop (k * 4)).length = r.length + 4 := by rw [h]; rfl
    rw [List.length_drop] at hl
    show k < l.length / 4
    omega
theorem drop2 {l : List V} {k : Nat} {p q : V} {r : List V} (h : l.drop (k * 2) = p :: q :: r) :
    nthV l ((k : Int).toNat * 2 + 0) = p ∧ nthV l ((k : Int).toNat * 2 + 0 + 1) = q ∧ l.drop ((k + 1) * 2) = r ∧ k < lenE 2 l.length := by
  have hj : ∀ j, nthV l ((k : Int).toNat * 2 + j) = nthV (p :: q :: r) j := by
    intro j
    rw [Int.toNat_natCast, ← nthV_drop, h]
  refine ⟨hj 0, hj 1, ?_, ?_⟩
  · rw [Nat.add_mul, ← List.drop_drop, h]; rfl
  · have hl : (l.drop (k * 2)).length = r.length + 2 := by rw [h]; rfl
    rw [List.length_drop] at hl
    show k < l.length / 2
    omega
theorem okStrs_spec {x : V} (h : okStrs x = true) : x.isSl 1 = true ∧ x.cellsOf.all V.isStr = true ∧ x.cellsOf.length ≤ 1000000000 := by
  unfold okStrs at h
  simp only [Bool.and_eq_true, decide_eq_true_eq] at h
  exact ⟨h.1.1, h.1.2, h.2⟩
theorem okH_spec {f t o w : V} (h : okH f t o w = true) : f.isInt .i64 = true ∧ t.isInt .i64 = true ∧ (o.isSl 1 = true ∧ o.cellsOf.all V.isStr = true ∧ o.cellsOf.length ≤ 1000000000) ∧ (w.isSl 1 = true ∧ w.cellsOf.all V.isStr = true ∧ w.cellsOf.length ≤ 1000000000) := by
  unfold okH at h
  simp only [Bool.and_eq_true] at h
  exact ⟨h.1, h.2.1, okStrs_spec h.2.2.1, okStrs_spec h.2.2.2⟩
theorem hEq_refl (f t : Int) (o w : List V) : hEq f t o w f t o w = true := by
  unfold hEq
  rw [beq_self_eq_true, beq_self_eq_true, eqS_refl, eqS_refl]
  rfl
theorem hsEq_refl : ∀ (l : List V), okHs l = true → hsEq l l = true
  | [], _ => rfl
  | [_], h => by cases h
  | [_, _], h => by cases h
  | [_, _, _], h => by cases h
  | f :: t :: o :: w :: l, h => by
    unfold okHs at h
    rw [Bool.and_eq_true] at h
    unfold hsEq
    rw [hEq_refl, hsEq_refl l h.2]
    rfl

/-! ### the longest common list -/
theorem lcs_nil (a : List V) : lcs a [] = 0 := by cases a <;> rfl
theorem lcs_cons (x y : V) (a b : List V) : lcs (x :: a) (y :: b) = bif strEq x.strOf y.strOf then lcs a b + 1 else max (lcs a (y :: b)) (lcs (x :: a) b) := rfl
theorem lcs_more (a : List V) : (∀ y b, lcs a b ≤ lcs a (y :: b)) ∧ (∀ y b, lcs a (y :: b) ≤ lcs a b + 1) ∧ (∀ x b, lcs a b ≤ lcs (x :: a) b) ∧ (∀ x b, lcs (x :: a) b ≤ lcs a b + 1) := by
  have step : ∀ a, (∀ y b, lcs a b ≤ lcs a (y :: b)) → (∀ y b, lcs a (y :: b) ≤ lcs a b + 1) → (∀ x b, lcs a b ≤ lcs (x :: a) b) ∧ (∀ x b, lcs (x :: a) b ≤ lcs a b + 1) := by
    intro a h1 h3
    refine ⟨fun x b => ?_, fun x b => ?_⟩
    · cases b with
      | nil => rw [lcs_nil]; exact Nat.zero_le _
      | cons y b =>
        rw [lcs_cons]
        cases strEq x.strOf y.strOf with
        | true => exact h3 y b
        | false => exact Nat.le_max_left _ _
    · induction b with
      | nil => rw [lcs_nil]; exact Nat.zero_le _
      | cons y b ih =>
        rw [lcs_cons]
        have := h1 y b
        cases strEq x.strOf y.strOf with
        | true => rw [cond_true]; omega
        | false => rw [cond_false]; exact Nat.max_le.2 ⟨by omega, by omega⟩
  induction a with
  | nil =>
    have h1 : ∀ (y : V) (b : List V), lcs [] b ≤ lcs [] (y :: b) := fun _ _ => Nat.le_refl _
    have h3 : ∀ (y : V) (b : List V), lcs [] (y :: b) ≤ lcs [] b + 1 := fun _ _ => Nat.zero_le _
    exact ⟨h1, h3, step [] h1 h3⟩
  | cons x a ih =>
    obtain ⟨g1, g3, g2, g4⟩ := ih
    have h1 : ∀ (y : V) (b : List V), lcs (x :: a) b ≤ lcs (x :: a) (y :: b) := by
      intro y b
      rw [lcs_cons]
      cases strEq x.strOf y.strOf with
      | true => exact g4 x b
      | false => exact Nat.le_max_right _ _
    have h3 : ∀ (y : V) (b : List V), lcs (x :: a) (y :: b) ≤ lcs (x :: a) b + 1 := by
      intro y b
      rw [lcs_cons]
      have e2 := g2 x b
      have e3 := g3 y b
      cases strEq x.strOf y.strOf with
      | true => rw [cond_true]; omega
      | false => rw [cond_false]; exact Nat.max_le.2 ⟨by omega, by omega⟩
    exact ⟨h1, h3, step (x :: a) h1 h3⟩
theorem lcs_le : ∀ a b : List V, lcs a b ≤ a.length
  | [], _ => Nat.le_refl _
  | x :: a, b => by
    have h1 := (lcs_more a).2.2.2 x b
    have h2 := lcs_le a b
    rw [List.length_cons]
    omega
theorem lcs_kept (x y : V) (a b : List V) : (bif strEq x.strOf y.strOf then max (max (lcs a (y :: b)) (lcs (x :: a) b)) (lcs a b + 1) else max (lcs a (y :: b)) (lcs (x :: a) b)) = lcs (x :: a) (y :: b) := by
  rw [lcs_cons]
  have h3 := (lcs_more a).2.1 y b
  have h4 := (lcs_more a).2.2.2 x b
  cases strEq x.strOf y.strOf with
  | false => rfl
  | true =>
    rw [cond_true, cond_true]
    exact Nat.max_eq_right (Nat.max_le.2 ⟨by omega, by omega⟩)

/-! ### tables -/
theorem rowV_len (a : List V) : ∀ b : List V, (rowV a b).length = b.length + 1
  | [] => rfl
  | y :: b => by rw [rowV, List.length_cons, rowV_len a b, List.length_cons]
theorem rowV_drop (a : List V) : ∀ (b : List V) (k : Nat), k ≤ b.length → (rowV a b).drop k = rowV a (b.drop k)
  | _, 0, _ => rfl
  | [], k + 1, h => by simp at h
  | y :: b, k + 1, h => by rw [rowV, List.drop_succ_cons, List.drop_succ_cons]; exact rowV_drop a b k (by simpa using h)
theorem rowV_head (a b : List V) : ∃ r, rowV a b = cellN (lcs a b) :: r := by
  cases b with
  | nil => exact ⟨[], by rw [lcs_nil]; rfl⟩
  | cons y b => exact ⟨_, rfl⟩
theorem rowV_nth (a b : List V) (k : Nat) (h : k ≤ b.length) : nthV (rowV a b) k = cellN (lcs a (b.drop k)) := by
  have := nthV_drop (rowV a b) k 0
  rw [Nat.add_zero] at this
  rw [← this, rowV_drop a b k h]
  obtain ⟨r, hr⟩ := rowV_head a (b.drop k)
  rw [hr]
  rfl
theorem rowV_nil : ∀ b : List V, rowV [] b = zeros b
  | [] => rfl
  | y :: b => by rw [rowV, rowV_nil b]; rfl
theorem tabO_len (b : List V) : ∀ a : List V, (tabO a b).length = a.length + 1
  | [] => rfl
  | x :: a => by rw [tabO, List.length_cons, tabO_len b a, List.length_cons]
theorem tabS_len (b : List V) : ∀ a : List V, (tabS a b).length = a.length + 1
  | [] => rfl
  | x :: a => by rw [tabS, List.length_cons, tabS_len b a, List.length_cons]
theorem tabO_nth (b : List V) : ∀ (a : List V) (i : Nat), i ≤ a.length → nthV (tabO a b) i = rowO (a.drop i) b
  | [], 0, _ => rfl
  | [], i + 1, h => by simp at h
  | x :: a, 0, _ => rfl
  | x :: a, i + 1, h => by rw [tabO]; exact tabO_nth b a i (by simpa using h)
theorem tabS_nth (b : List V) : ∀ (a : List V) (i : Nat), i ≤ a.length → nthV (tabS a b) i = rowS (a.drop i) b
  | [], 0, _ => rfl
  | [], i + 1, h => by simp at h
  | x :: a, 0, _ => rfl
  | x :: a, i + 1, h => by rw [tabS]; exact tabS_nth b a i (by simpa using h)
theorem tabO_drop (b : List V) : ∀ (a : List V) (i : Nat), i ≤ a.length → (tabO a b).drop i = tabO (a.drop i) b
  | _, 0, _ => rfl
  | [], i + 1, h => by simp at h
  | x :: a, i + 1, h => by rw [tabO, List.drop_succ_cons, List.drop_succ_cons]; exact tabO_drop b a i (by simpa using h)
theorem eqCell_eq {x y : V} (h : eqCell x y = true) : x = y := by
  unfold eqCell at h
  split at h
  · rw [beq_iff_eq] at h; rw [h]
  · cases h
theorem eqCells_eq : ∀ (l r : List V), eqCells l r = true → l = r
  | [], [], _ => rfl
  | [], _ :: _, h => by cases h
  | _ :: _, [], h => by cases h
  | x :: l, y :: r, h => by
    unfold eqCells at h
    rw [Bool.and_eq_true] at h
    rw [eqCell_eq h.1, eqCells_eq l r h.2]
def intCell : V → Bool
  | .sc (.int .i64 _) => true
  | _ => false
theorem eqCells_refl : ∀ (l : List V), l.all intCell = true → eqCells l l = true
  | [], _ => rfl
  | x :: l, h => by
    rw [List.all_cons, Bool.and_eq_true] at h
    unfold eqCells
    rw [eqCells_refl l h.2, Bool.and_true]
    unfold intCell at h
    split at h
    · unfold eqCell; exact beq_self_eq_true _
    · cases h.1
theorem rowV_int (a : List V) : ∀ b : List V, (rowV a b).all intCell = true
  | [] => rfl
  | y :: b => by rw [rowV, List.all_cons, rowV_int a b]; rfl
theorem zeros_int (b : List V) : (zeros b).all intCell = true := by rw [← rowV_nil]; exact rowV_int [] b
theorem ownRow_eq {x : V} {ys : List V} (h : ownRow x ys = true) : x = .own 3 false ys := by
  unfold ownRow at h
  rw [Bool.and_eq_true] at h
  rw [isOwnD_eq h.1, eqCells_eq _ _ h.2]
theorem ownRow_refl {ys : List V} (h : ys.all intCell = true) : ownRow (.own 3 false ys) ys = true := by
  unfold ownRow
  show (true && eqCells ys ys) = true
  rw [eqCells_refl _ h]; rfl
theorem eqTabO_eq (b : List V) : ∀ (a l : List V), eqTabO l (tabO a b) = true → l = tabO a b
  | _, [], h => by cases ‹List V› <;> cases h
  | [], [x], h => by
    unfold tabO eqTabO at h
    rw [Bool.and_eq_true] at h
    rw [ownRow_eq h.1]; rfl
  | [], x :: y :: l, h => by
    unfold tabO eqTabO at h
    rw [Bool.and_eq_true] at h
    cases h.2
  | z :: a, x :: l, h => by
    unfold tabO eqTabO at h
    rw [Bool.and_eq_true] at h
    rw [ownRow_eq h.1, eqTabO_eq b a l h.2]; rfl
theorem eqTabO_refl (b : List V) : ∀ a : List V, eqTabO (tabO a b) (tabO a b) = true
  | [] => by
    unfold tabO eqTabO
    rw [show ownRow (rowO [] b) (rowO [] b).cellsOf = true from ownRow_refl (rowV_int [] b)]
    rfl
  | x :: a => by
    unfold tabO eqTabO
    rw [show ownRow (rowO (x :: a) b) (rowO (x :: a) b).cellsOf = true from ownRow_refl (rowV_int (x :: a) b), eqTabO_refl b a]
    rfl
theorem slRow_eq {x : V} {ys : List V} (h1 : V.isSl 1 x = true) (h2 : eqCells x.cellsOf ys = true) : x = .sl 1 ys := by
  rw [isSl_eq h1, eqCells_eq _ _ h2]
theorem eqTab_eq (b : List V) : ∀ (a l : List V), eqTab l (tabS a b) = true → l = tabS a b
  | _, [], h => by cases ‹List V› <;> cases h
  | [], [x], h => by
    unfold tabS eqTab at h
    rw [Bool.and_eq_true, Bool.and_eq_true] at h
    rw [slRow_eq h.1.1 h.1.2]; rfl
  | [], x :: y :: l, h => by
    unfold tabS eqTab at h
    rw [Bool.and_eq_true] at h
    cases h.2
  | z :: a, x :: l, h => by
    unfold tabS eqTab at h
    rw [Bool.and_eq_true, Bool.and_eq_true] at h
    rw [slRow_eq h.1.1 h.1.2, eqTab_eq b a l h.2]; rfl
theorem eqTab_refl (b : List V) : ∀ a : List V, eqTab (tabS a b) (tabS a b) = true
  | [] => by
    unfold tabS eqTab
    rw [show eqCells (rowS [] b).cellsOf (rowS [] b).cellsOf = true from eqCells_refl _ (rowV_int [] b)]
    rfl
  | x :: a => by
    unfold tabS eqTab
    rw [show eqCells (rowS (x :: a) b).cellsOf (rowS (x :: a) b).cellsOf = true from eqCells_refl _ (rowV_int (x :: a) b), eqTab_refl b a]
    rfl

/-! ### the first place of a line -/
theorem ixV_from (v : ByteArray) : ∀ (l : List V) (k : Nat), (ixV v l 0 = -1 → ixV v l (k : Int) = -1) ∧ (0 ≤ ixV v l 0 → ixV v l (k : Int) = (k : Int) + ixV v l 0) ∧ (ixV v l 0 = -1 ∨ 0 ≤ ixV v l 0)
  | [], k => ⟨fun _ => rfl, fun h => absurd h (show ¬ (0 : Int) ≤ -1 by decide), .inl rfl⟩
  | x :: l, k => by
    unfold ixV
    cases strEq v x.strOf with
    | true =>
      simp only [cond_true]
      exact ⟨fun h => absurd h (by decide), fun _ => by omega, .inr (by omega)⟩
    | false =>
      simp only [cond_false]
      obtain ⟨h1, h2, h3⟩ := ixV_from v l (k + 1)
      obtain ⟨g1, g2, g3⟩ := ixV_from v l 1
      have e : ((k : Int) + 1) = ((k + 1 : Nat) : Int) := by simp
      have e1 : ((0 : Int) + 1) = ((1 : Nat) : Int) := by simp
      rw [e, e1]
      rcases h3 with h | h
      · rw [h1 h, g1 h]
        exact ⟨fun _ => rfl, fun h => absurd h (by decide), .inl rfl⟩
      · rw [h2 h, g2 h]
        exact ⟨fun h => by omega, fun _ => by omega, .inr (by omega)⟩
theorem ixV_lt (v : ByteArray) : ∀ (l : List V), 0 ≤ ixV v l 0 → (ixV v l 0).toNat < l.length
  | [], h => absurd h (show ¬ (0 : Int) ≤ -1 by decide)
  | x :: l, h => by
    unfold ixV at h ⊢
    cases hs : strEq v x.strOf with
    | true => simp
    | false =>
      rw [hs] at h
      simp only [cond_false] at h ⊢
      obtain ⟨h1, h2, h3⟩ := ixV_from v l 1
      have e1 : ((0 : Int) + 1) = ((1 : Nat) : Int) := by simp
      rw [e1] at h ⊢
      rcases h3 with g | g
      · rw [h1 g] at h; exact absurd h (by decide)
      · have := ixV_lt v l g
        rw [h2 g, List.length_cons]
        omega
theorem ixV_cons (v : ByteArray) (x : V) (l : List V) : ixV v (x :: l) 0 = bif strEq v x.strOf then 0 else bif decide (0 ≤ ixV v l 0) then 1 + ixV v l 0 else -1 := by
  rw [ixV]
  cases strEq v x.strOf with
  | true => rfl
  | false =>
    rw [cond_false, cond_false]
    obtain ⟨h1, h2, h3⟩ := ixV_from v l 1
    have e1 : ((0 : Int) + 1) = ((1 : Nat) : Int) := by simp
    rw [e1]
    rcases h3 with g | g
    · rw [h1 g, dec_false (by omega)]; rfl
    · rw [h2 g, dec_true g]; rfl
theorem lcs_first (x : V) (a : List V) : ∀ b : List V, (ixV x.strOf b 0 < 0 → lcs (x :: a) b = lcs a b) ∧ (0 ≤ ixV x.strOf b 0 → lcs (x :: a) b = max (lcs a b) (lcs a (b.drop ((ixV x.strOf b 0).toNat + 1)) + 1))
  | [] => ⟨fun _ => by rw [lcs_nil, lcs_nil], fun h => absurd h (show ¬ (0 : Int) ≤ -1 by decide)⟩
  | y :: b => by
    obtain ⟨i1, i2⟩ := lcs_first x a b
    obtain ⟨m1, m3, _, _⟩ := lcs_more a
    have q1 := m1 y b
    have q3 := m3 y b
    rw [ixV_cons, lcs_cons]
    cases strEq x.strOf y.strOf with
    | true =>
      simp only [cond_true]
      refine ⟨fun h => absurd h (by decide), fun _ => ?_⟩
      show lcs a b + 1 = max (lcs a (y :: b)) (lcs a b + 1)
      rw [Nat.max_eq_right (by omega)]
    | false =>
      simp only [cond_false]
      by_cases h : 0 ≤ ixV x.strOf b 0
      · rw [dec_true h, cond_true, i2 h]
        refine ⟨fun g => absurd g (by omega), fun _ => ?_⟩
        have e : (1 + ixV x.strOf b 0).toNat + 1 = ((ixV x.strOf b 0).toNat + 1) + 1 := by omega
        rw [e, List.drop_succ_cons, ← Nat.max_assoc, Nat.max_eq_left q1]
      · rw [dec_false h, cond_false, i1 (by omega)]
        exact ⟨fun _ => Nat.max_eq_left q1, fun g => absurd g (by decide)⟩
theorem lcs_dropn (a : List V) : ∀ (b : List V) (n : Nat), lcs a (b.drop n) ≤ lcs a b
  | _, 0 => Nat.le_refl _
  | [], n + 1 => Nat.le_refl _
  | y :: b, n + 1 => by
    have := (lcs_more a).1 y b
    have := lcs_dropn a b n
    rw [List.drop_succ_cons]
    omega

/-! ### the search from behind finds the first -/
theorem qOf_none (x : V) (a : List V) (N : Nat) : ∀ (b : List V) (k : Nat), lcs a b + 1 < N ∨ N = 0 → qOf x (lcs a) N b k = -1
  | [], _, _ => rfl
  | y :: b, k, h => by
    have m1 := (lcs_more a).1 y b
    have hb : Nat.beq (lcs a b + 1) N = false := by
      cases e : Nat.beq (lcs a b + 1) N with
      | false => rfl
      | true => have := Nat.eq_of_beq_eq_true e; omega
    rw [qOf, hb, Bool.and_false, cond_false]
    exact qOf_none x a N b (k + 1) (by omega)
theorem qOf_first (x : V) (a : List V) (N : Nat) : ∀ (b : List V) (k : Nat),
    (ixV x.strOf b 0 < 0 → qOf x (lcs a) N b k = -1) ∧
    (0 ≤ ixV x.strOf b 0 → lcs a (b.drop ((ixV x.strOf b 0).toNat + 1)) + 1 = N → qOf x (lcs a) N b k = (k : Int) + ixV x.strOf b 0) ∧
    (0 ≤ ixV x.strOf b 0 → lcs a (b.drop ((ixV x.strOf b 0).toNat + 1)) + 1 < N → qOf x (lcs a) N b k = -1)
  | [], k => ⟨fun _ => rfl, fun h => absurd h (show ¬ (0 : Int) ≤ -1 by decide), fun h => absurd h (show ¬ (0 : Int) ≤ -1 by decide)⟩
  | y :: b, k => by
    obtain ⟨i1, i2, i3⟩ := qOf_first x a N b (k + 1)
    rw [ixV_cons, qOf]
    cases strEq x.strOf y.strOf with
    | true =>
      simp only [cond_true, Bool.true_and]
      refine ⟨fun h => absurd h (by decide), fun _ h => ?_, fun _ h => ?_⟩
      · have e : lcs a b + 1 = N := h
        rw [e, show Nat.beq N N = true from Nat.beq_refl N, cond_true]
        omega
      · have e : lcs a b + 1 < N := h
        have hb : Nat.beq (lcs a b + 1) N = false := by
          cases e' : Nat.beq (lcs a b + 1) N with
          | false => rfl
          | true => have := Nat.eq_of_beq_eq_true e'; omega
        rw [hb, cond_false]
        exact qOf_none x a N b (k + 1) (.inl e)
    | false =>
      simp only [cond_false, Bool.false_and]
      by_cases h : 0 ≤ ixV x.strOf b 0
      · rw [dec_true h, cond_true]
        have e : (1 + ixV x.strOf b 0).toNat + 1 = ((ixV x.strOf b 0).toNat + 1) + 1 := by omega
        rw [e, List.drop_succ_cons]
        refine ⟨fun g => absurd g (by omega), fun _ g => ?_, fun _ g => i3 h g⟩
        rw [i2 h g]
        omega
      · rw [dec_false h, cond_false]
        exact ⟨fun _ => i1 (by omega), fun g => absurd g (by decide), fun g => absurd g (by decide)⟩
theorem nbeq_false {m n : Nat} (h : m ≠ n) : Nat.beq m n = false := by
  cases e : Nat.beq m n with
  | false => rfl
  | true => exact absurd (Nat.eq_of_beq_eq_true e) h
theorem pOf_zero (x0 y0 : Int) (b : List V) (k : Nat) : ∀ (a : List V) (i : Nat), pOf x0 y0 0 b k a i = (x0, y0)
  | [], _ => rfl
  | x :: a, i => by
    rw [pOf, qOf_none x a 0 b k (.inr rfl), dec_false (by omega), cond_false]
    exact pOf_zero x0 y0 b k a (i + 1)
/-- One step of the pairs that stay: `hit` says where. -/
theorem stay_cases (x : V) (a b : List V) (i k : Nat) :
    (lcs (x :: a) b = 0 ∧ stayP (x :: a) i b k = []) ∨
    (0 < lcs (x :: a) b ∧ 0 ≤ ixV x.strOf b 0 ∧ lcs a (b.drop ((ixV x.strOf b 0).toNat + 1)) + 1 = lcs (x :: a) b ∧ stayP (x :: a) i b k = (i, k + (ixV x.strOf b 0).toNat) :: stayP a (i + 1) (b.drop ((ixV x.strOf b 0).toNat + 1)) (k + (ixV x.strOf b 0).toNat + 1)) ∨
    (0 < lcs (x :: a) b ∧ lcs (x :: a) b = lcs a b ∧ (0 ≤ ixV x.strOf b 0 → lcs a (b.drop ((ixV x.strOf b 0).toNat + 1)) + 1 < lcs (x :: a) b) ∧ stayP (x :: a) i b k = stayP a (i + 1) b k) := by
  obtain ⟨l1, l2⟩ := lcs_first x a b
  rw [stayP]
  by_cases h0 : lcs (x :: a) b = 0
  · left
    refine ⟨h0, ?_⟩
    rw [h0]; rfl
  right
  rw [nbeq_false h0, cond_false]
  by_cases h : 0 ≤ ixV x.strOf b 0
  · by_cases hq : lcs a (b.drop ((ixV x.strOf b 0).toNat + 1)) + 1 = lcs (x :: a) b
    · left
      refine ⟨by omega, h, hq, ?_⟩
      rw [dec_true h, hq, show Nat.beq (lcs (x :: a) b) (lcs (x :: a) b) = true from Nat.beq_refl _]
      rfl
    · right
      have hm := l2 h
      have : lcs (x :: a) b = lcs a b ∧ lcs a (b.drop ((ixV x.strOf b 0).toNat + 1)) + 1 < lcs (x :: a) b := by
        rw [Nat.max_def] at hm
        split at hm <;> omega
      refine ⟨by omega, this.1, fun _ => this.2, ?_⟩
      rw [nbeq_false hq, Bool.and_false]
      rfl
  · right
    refine ⟨by omega, l1 (by omega), fun g => absurd g h, ?_⟩
    rw [dec_false h]
    rfl
def headP (x0 y0 : Int) : List (Nat × Nat) → Int × Int
  | [] => (x0, y0)
  | x :: _ => ((x.1 : Int), (x.2 : Int))
theorem pOf_stay (x0 y0 : Int) (b : List V) (k : Nat) : ∀ (a : List V) (i : Nat), pOf x0 y0 (lcs a b) b k a i = headP x0 y0 (stayP a i b k)
  | [], _ => rfl
  | x :: a, i => by
    obtain ⟨q1, q2, q3⟩ := qOf_first x a (lcs (x :: a) b) b k
    rcases stay_cases x a b i k with ⟨h0, hs⟩ | ⟨h0, h1, h2, hs⟩ | ⟨h0, h1, h2, hs⟩
    · rw [hs, h0, pOf_zero]; rfl
    · rw [hs, pOf, q2 h1 h2, dec_true (by omega), cond_true]
      show ((i : Int), (k : Int) + ixV x.strOf b 0) = ((i : Int), ((k + (ixV x.strOf b 0).toNat : Nat) : Int))
      congr 1
      omega
    · have hq : qOf x (lcs a) (lcs (x :: a) b) b k = -1 := by
        by_cases h : 0 ≤ ixV x.strOf b 0
        · exact q3 h (h2 h)
        · exact q1 (by omega)
      rw [hs, pOf, hq, dec_false (by omega), cond_false, h1]
      exact pOf_stay x0 y0 b k a (i + 1)
theorem stay_head : ∀ (a b : List V) (i k p q : Nat) (l : List (Nat × Nat)), stayP a i b k = (p, q) :: l → lcs a b ≠ 0 ∧ ∃ m n, p = i + m ∧ q = k + n ∧ m < a.length ∧ n < b.length ∧ l = stayP (a.drop (m + 1)) (p + 1) (b.drop (n + 1)) (q + 1)
  | [], _, _, _, _, _, _, h => by cases h
  | x :: a, b, i, k, p, q, l, h => by
    rcases stay_cases x a b i k with ⟨h0, hs⟩ | ⟨h0, h1, h2, hs⟩ | ⟨h0, h1, h2, hs⟩
    · rw [hs] at h; cases h
    · rw [hs] at h
      simp only [List.cons.injEq, Prod.mk.injEq] at h
      obtain ⟨⟨rfl, rfl⟩, rfl⟩ := h
      exact ⟨by omega, 0, (ixV x.strOf b 0).toNat, rfl, rfl, Nat.succ_pos _, ixV_lt _ _ h1, rfl⟩
    · rw [hs] at h
      obtain ⟨g0, m, n, g1, g2, g3, g4, g5⟩ := stay_head a b (i + 1) k p q l h
      refine ⟨by omega, m + 1, n, by omega, g2, by simp only [List.length_cons]; omega, g4, g5⟩
theorem stay_len : ∀ (a b : List V) (i k : Nat), (stayP a i b k).length ≤ a.length
  | [], _, _, _ => Nat.le_refl _
  | x :: a, b, i, k => by
    rcases stay_cases x a b i k with ⟨h0, hs⟩ | ⟨h0, h1, h2, hs⟩ | ⟨h0, h1, h2, hs⟩
    · rw [hs]; exact Nat.zero_le _
    · rw [hs]
      have := stay_len a (b.drop ((ixV x.strOf b 0).toNat + 1)) (i + 1) (k + (ixV x.strOf b 0).toNat + 1)
      simp only [List.length_cons]
      omega
    · rw [hs]
      have := stay_len a b (i + 1) k
      simp only [List.length_cons]
      omega
theorem stay_okPr (la lb : Int) : ∀ (a b : List V) (i k : Nat) (f t : Int), ((i : Int) + (a.length : Int) ≤ la) → ((k : Int) + (b.length : Int) ≤ lb) → f ≤ (i : Int) → t ≤ (k : Int) → okPr la lb f t (pairsV (stayP a i b k)) = true
  | [], _, _, _, _, _, _, _, _, _ => rfl
  | x :: a, b, i, k, f, t, h1, h2, h3, h4 => by
    simp only [List.length_cons] at h1
    rcases stay_cases x a b i k with ⟨h0, hs⟩ | ⟨h0, g1, g2, hs⟩ | ⟨h0, g1, g2, hs⟩
    · rw [hs]; rfl
    · rw [hs]
      have hlt := ixV_lt _ _ g1
      show (true && true && decide (f ≤ (i : Int)) && decide ((i : Int) < la) && decide (t ≤ ((k + (ixV x.strOf b 0).toNat : Nat) : Int)) && decide (((k + (ixV x.strOf b 0).toNat : Nat) : Int) < lb) && okPr la lb ((i : Int) + 1) (((k + (ixV x.strOf b 0).toNat : Nat) : Int) + 1) (pairsV (stayP a (i + 1) (b.drop ((ixV x.strOf b 0).toNat + 1)) (k + (ixV x.strOf b 0).toNat + 1)))) = true
      rw [dec_true h3, dec_true (show (i : Int) < la by omega), dec_true (show t ≤ ((k + (ixV x.strOf b 0).toNat : Nat) : Int) by omega), dec_true (show ((k + (ixV x.strOf b 0).toNat : Nat) : Int) < lb by omega)]
      rw [stay_okPr la lb a _ _ _ ((i : Int) + 1) (((k + (ixV x.strOf b 0).toNat : Nat) : Int) + 1) (by omega) (by rw [List.length_drop]; omega) (by omega) (by omega)]
      rfl
    · rw [hs]
      exact stay_okPr la lb a b (i + 1) k f t (by omega) h2 (by omega) h4
theorem pairsV_len : ∀ l : List (Nat × Nat), (pairsV l).length = 2 * l.length
  | [] => rfl
  | x :: l => by simp only [pairsV, List.length_cons, pairsV_len l]; omega
theorem hunks_pairs (a b : List V) : ∀ (l : List (Nat × Nat)) (f t : Int), hksP a b f t (pairsV l) ++ hkI a b (endP f t (pairsV l)).1 (endP f t (pairsV l)).2 (a.length : Int) (b.length : Int) = hunksP a b l f t
  | [], _, _ => rfl
  | x :: l, f, t => by
    have := hunks_pairs a b l ((x.1 : Int) + 1) ((x.2 : Int) + 1)
    rw [hunksP, ← this, ← List.append_assoc]
    rfl
theorem hkI_len (a b : List V) (f t p q : Int) : (hkI a b f t p q).length ≤ 4 := by
  unfold hkI
  cases (decide (p > f) || decide (q > t)) with
  | true => exact Nat.le_refl _
  | false => exact Nat.zero_le _
theorem hksP_len (a b : List V) : ∀ (l : List (Nat × Nat)) (f t : Int), (hksP a b f t (pairsV l)).length ≤ 4 * l.length
  | [], _, _ => Nat.le_refl _
  | x :: l, f, t => by
    have h1 := hksP_len a b l ((x.1 : Int) + 1) ((x.2 : Int) + 1)
    have h2 := hkI_len a b f t (x.1 : Int) (x.2 : Int)
    show (hkI a b f t (x.1 : Int) (x.2 : Int) ++ hksP a b ((x.1 : Int) + 1) ((x.2 : Int) + 1) (pairsV l)).length ≤ _
    rw [List.length_append, List.length_cons]
    omega
theorem hunksP_len (a b : List V) : ∀ (l : List (Nat × Nat)) (f t : Int), (hunksP a b l f t).length ≤ 4 * l.length + 4
  | [], f, t => hkI_len ..
  | x :: l, f, t => by
    have h1 := hunksP_len a b l ((x.1 : Int) + 1) ((x.2 : Int) + 1)
    have h2 := hkI_len a b f t (x.1 : Int) (x.2 : Int)
    rw [hunksP, List.length_append, List.length_cons]
    omega
theorem endP_ok (la lb : Int) : ∀ (l : List V) (f t : Int), okPr la lb f t l = true → 0 ≤ f → f ≤ la → 0 ≤ t → t ≤ lb → 0 ≤ (endP f t l).1 ∧ (endP f t l).1 ≤ la ∧ 0 ≤ (endP f t l).2 ∧ (endP f t l).2 ≤ lb
  | [], f, t, _, h1, h2, h3, h4 => ⟨h1, h2, h3, h4⟩
  | [_], _, _, h, _, _, _, _ => by cases h
  | p :: q :: l, f, t, h, h1, h2, h3, h4 => by
    unfold okPr at h
    simp only [Bool.and_eq_true, decide_eq_true_eq] at h
    obtain ⟨⟨⟨⟨⟨⟨_, _⟩, a1⟩, a2⟩, a3⟩, a4⟩, a5⟩ := h
    exact endP_ok la lb l _ _ a5 (by omega) (by omega) (by omega) (by omega)
theorem all_sub {a : List V} (h : a.all V.isStr = true) (i n : Nat) : ((a.drop i).take n).all V.isStr = true := by
  rw [List.all_eq_true] at h ⊢
  exact fun x hx => h x (List.mem_of_mem_drop (List.mem_of_mem_take hx))
theorem len_sub (a : List V) (i n : Nat) : ((a.drop i).take n).length ≤ a.length := by
  rw [List.length_take, List.length_drop]; omega
theorem okHs_hk {a b : List V} (ha : a.all V.isStr = true) (hb : b.all V.isStr = true) (la : a.length ≤ 1000000000) (lb : b.length ≤ 1000000000) (f t p q : Int) : okHs (hkI a b f t p q) = true := by
  unfold hkI
  cases (decide (p > f) || decide (q > t)) with
  | false => rfl
  | true =>
    rw [cond_true]
    have l1 := len_sub a f.toNat (p.toNat - f.toNat)
    have l2 := len_sub b t.toNat (q.toNat - t.toNat)
    show ((true && (true && (okStrs _ && okStrs _))) && true) = true
    rw [okStrs_sl (all_sub ha _ _) (by omega), okStrs_sl (all_sub hb _ _) (by omega)]
    rfl
theorem okHs_hunks {a b : List V} (ha : a.all V.isStr = true) (hb : b.all V.isStr = true) (la : a.length ≤ 1000000000) (lb : b.length ≤ 1000000000) : ∀ (l : List (Nat × Nat)) (f t : Int), okHs (hunksP a b l f t) = true
  | [], f, t => okHs_hk ha hb la lb ..
  | x :: l, f, t => okHs_app _ _ (okHs_hk ha hb la lb ..) (okHs_hunks ha hb la lb l _ _)
theorem okHs_dif {a b : List V} (ha : a.all V.isStr = true) (hb : b.all V.isStr = true) (la : a.length ≤ 1000000000) (lb : b.length ≤ 1000000000) : okHs (difL a b) = true := okHs_hunks ha hb la lb _ _ _
theorem difL_len (a b : List V) : (difL a b).length ≤ 4 * a.length + 4 := by
  have h1 := hunksP_len a b (stayP a 0 b 0) 0 0
  have h2 := stay_len a b 0 0
  unfold difL
  omega


/-! ### searching loops -/
theorem findLoop {R : Type} (L : Nat → Int → Option R) (xs : List V) (p : V → Bool) (found : Int → Option R) (fin : Option R)
    (hs : ∀ n (k : Nat) (hk : k < xs.length), L (n + 1) (k : Int) = bif p xs[k] then found (k : Int) else L n ((k + 1 : Nat) : Int))
    (hf : ∀ n, L (n + 1) (xs.length : Int) = fin) :
    ∀ (m k : Nat), k + m = xs.length → ∀ n, m < n → L n (k : Int) = bif (xs.drop k).any p then found (ixBy p (xs.drop k) (k : Int)) else fin := by
  intro m
  induction m with
  | zero =>
    intro k hk n hn
    obtain ⟨n, rfl⟩ : ∃ j, n = j + 1 := ⟨n - 1, by omega⟩
    obtain rfl : k = xs.length := by omega
    rw [hf n, List.drop_length]
    rfl
  | succ m ih =>
    intro k hk n hn
    obtain ⟨n, rfl⟩ : ∃ j, n = j + 1 := ⟨n - 1, by omega⟩
    have hlt : k < xs.length := by omega
    rw [hs n k hlt, List.drop_eq_getElem_cons hlt, ih (k + 1) (by omega) n (by omega), List.any_cons, ixBy]
    cases p xs[k] with
    | true => rfl
    | false =>
      rw [cond_false, Bool.false_or, cond_false]
      congr 2
theorem ixBy_any (p : V → Bool) : ∀ (l : List V) (k : Nat), l.any p = decide (0 ≤ ixBy p l (k : Int)) ∧ (l.any p = false → ixBy p l (k : Int) = -1)
  | [], k => ⟨rfl, fun _ => rfl⟩
  | x :: l, k => by
    rw [List.any_cons, ixBy]
    cases p x with
    | true =>
      rw [cond_true, Bool.true_or, dec_true (by omega)]
      exact ⟨rfl, fun h => by cases h⟩
    | false =>
      rw [cond_false, Bool.false_or]
      have := ixBy_any p l (k + 1)
      rwa [show ((k + 1 : Nat) : Int) = (k : Int) + 1 by simp] at this
theorem ixV_by (v : ByteArray) : ∀ (l : List V) (k : Int), ixV v l k = ixBy (fun x => strEq v x.strOf) l k
  | [], _ => rfl
  | x :: l, k => by rw [ixV, ixBy, ixV_by v l (k + 1)]

/-! ### rows of a table -/
theorem isOwnD_own (xs : List V) : V.isOwnD 3 false (.own 3 false xs) = true := rfl
theorem cellsOf_own (e : TypeId) (d : Bool) (xs : List V) : V.cellsOf (.own e d xs) = xs := rfl
theorem setOwn_own (f : List V → List V) (e : TypeId) (d : Bool) (xs : List V) : setOwn f (.own e d xs) = .own e d (f xs) := rfl
theorem isSl_sl (xs : List V) : V.isSl 1 (.sl 1 xs) = true := rfl
theorem cellsOf_sl (n : Nat) (xs : List V) : V.cellsOf (.sl n xs) = xs := rfl
theorem intOf_cellN (n : Nat) : V.intOf (cellN n) = (n : Int) := rfl
theorem isInt_cellN (n : Nat) : V.isInt .i64 (cellN n) = true := rfl
theorem cellN_fold (n : Nat) : V.sc (.int .i64 (n : Int)) = cellN n := rfl
theorem nthV_set {l : List V} {k : Nat} {x : V} (h : k < l.length) : nthV (l.set k x) k = x := by
  rw [nthV_lt (by rw [List.length_set]; exact h), List.getElem_set_self]
theorem nthV_set_ne2 {l : List V} {k j : Nat} {x : V} (h : k ≠ j) : nthV (l.set k x) j = nthV l j := by
  by_cases hj : j < l.length
  · rw [nthV_lt (by rw [List.length_set]; exact hj), nthV_lt hj, List.getElem_set_ne h]
  · have e : ∀ (l : List V) (j : Nat), ¬ j < l.length → nthV l j = .bad := by
      intro l
      induction l with
      | nil => intro j _; rfl
      | cons x l ih =>
        intro j hj
        cases j with
        | zero => simp at hj
        | succ j => exact ih j (by simpa using hj)
    rw [e _ j (by rw [List.length_set]; exact hj), e _ j hj]
theorem maxI (p q : Nat) : (bif decide ((q : Int) > (p : Int)) then (q : Int) else (p : Int)) = ((max p q : Nat) : Int) := by
  by_cases h : p < q
  · rw [dec_true (by omega), cond_true, Nat.max_eq_right (by omega)]
  · rw [dec_false (by omega), cond_false, Nat.max_eq_left (by omega)]
theorem nthV_rep (z : V) (r : List V) (j : Nat) : ∀ m : Nat, nthV (List.replicate m z ++ r) (m + j) = nthV r j
  | 0 => by simp
  | m + 1 => by
    rw [List.replicate_succ, List.cons_append, show m + 1 + j = (m + j) + 1 by omega]
    exact nthV_rep z r j m
theorem set_rep (z x y : V) (r : List V) : ∀ m : Nat, (List.replicate m z ++ x :: r).set m y = List.replicate m z ++ y :: r
  | 0 => rfl
  | m + 1 => by rw [List.replicate_succ, List.cons_append, List.set_cons_succ, set_rep z x y r m]; rfl
theorem rep_more (z : V) (r : List V) (m : Nat) : List.replicate (m + 1) z ++ r = List.replicate m z ++ z :: r := by
  rw [List.replicate_succ', List.append_assoc]; rfl
theorem set_same2 {l : List V} {k : Nat} {x : V} (h : k < l.length) (hx : nthV l k = x) : l.set k x = l := by
  rw [nthV_lt h] at hx
  rw [← hx, List.set_getElem_self]
theorem flatten_rep (z : V) : ∀ m : Nat, (List.replicate m [z]).flatten = List.replicate m z
  | 0 => rfl
  | m + 1 => by rw [List.replicate_succ, List.flatten_cons, flatten_rep z m, List.replicate_succ]; rfl
theorem rows_zero (b : List V) : ∀ (l : List V), l.all (fun x => ownRow x (zeros b)) = true → l = List.replicate l.length (zrow b)
  | [], _ => rfl
  | x :: l, h => by
    rw [List.all_cons, Bool.and_eq_true] at h
    rw [List.length_cons, List.replicate_succ, ← rows_zero b l h.2, ownRow_eq h.1]
    rfl
theorem zrow_own (b : List V) : ∀ m : Nat, (List.replicate m (zrow b)).all (fun x => ownRow x (zeros b)) = true
  | 0 => rfl
  | m + 1 => by
    rw [List.replicate_succ, List.all_cons, zrow_own b m]
    show (ownRow (zrow b) (zeros b) && true) = true
    rw [show ownRow (zrow b) (zeros b) = true from ownRow_refl (zeros_int b)]
    rfl
theorem drop_str {a : List V} (h : a.all V.isStr = true) (k : Nat) : (a.drop k).all V.isStr = true := by
  rw [List.all_eq_true] at h ⊢
  exact fun x hx => h x (List.mem_of_mem_drop hx)
theorem wrap_pred {k : Nat} (h : k < 9223372036854775807) : IntKind.wrap .i64 ((k : Int) - 1) = (k : Int) - 1 := wrap_id (by omega) (by omega)

end Go.Ab
