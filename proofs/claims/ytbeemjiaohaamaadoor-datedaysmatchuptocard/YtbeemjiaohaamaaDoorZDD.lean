/- Days and their numbers, in plain words. -/
import Derived.Test.YtbeemjiaohaamaaDoorPC2
namespace Go.Ab
open Go Go.Proofs Go.RowKit
set_option linter.unusedSimpArgs false
set_option linter.unusedVariables false

def leapB (y : Int) : Bool := bif Int.tmod y 4 == 0 then bif Int.tmod y 100 != 0 then true else Int.tmod y 400 == 0 else false
def monthD (y m : Int) : Int := bif m == 2 then bif leapB y then 29 else 28 else bif m == 4 then 30 else bif m == 6 then 30 else bif m == 9 then 30 else bif m == 11 then 30 else 31
def yearsW (y : Int) : Int := IntKind.wrap .i64 ((IntKind.wrap .i64 ((IntKind.wrap .i64 ((IntKind.wrap .i64 ((365 : Int) * (IntKind.wrap .i64 (y - 1)))) + (IntKind.wrap .i64 (Int.tdiv (IntKind.wrap .i64 (y - 1)) 4)))) - (IntKind.wrap .i64 (Int.tdiv (IntKind.wrap .i64 (y - 1)) 100)))) + (IntKind.wrap .i64 (Int.tdiv (IntKind.wrap .i64 (y - 1)) 400)))
def ybegW (y : Int) : Int := IntKind.wrap .i64 (yearsW y - 719162)
/-- The number of January 1 of a year. -/
def yB (y : Int) : Int := 365 * (y - 1) + (y - 1) / 4 - (y - 1) / 100 + (y - 1) / 400 - 719162
def sumM (y : Int) : Nat → Int
  | 0 => 0
  | k + 1 => sumM y k + monthD y ((k : Int) + 1)
def dayN (y m d : Int) : Int := yB y + sumM y (m.toNat - 1) + d - 1
def isD (y m d : Int) : Bool := bif decide (y ≥ 1) && decide (y ≤ 9999) then bif decide (m ≥ 1) && decide (m ≤ 12) then decide (d ≥ 1) && decide (d ≤ monthD y m) else false else false
def inD (n : Int) : Bool := decide (-719162 ≤ n) && decide (n ≤ 2932896)
def yearF (n : Int) : Nat → Int → Int
  | 0, y => y
  | k + 1, y => bif decide (yB (y + 1) ≤ n) then yearF n k (y + 1) else y
def yearOf : Int → Int
  | .ofNat k => yearF (k : Int) 10000 1
  | .negSucc k => yearF (.negSucc k) 10000 1
def monF : Nat → Int → Int → Int → Int × Int
  | 0, _, m, r => (m, r)
  | k + 1, y, m, r => bif decide (r ≥ monthD y m) then monF k y (m + 1) (r - monthD y m) else (m, r)

-- LAWS
theorem leap_cases (y : Int) (h : 1 ≤ y) : (leapB y = true ∧ y % 4 = 0 ∧ (y % 100 ≠ 0 ∨ y % 400 = 0)) ∨ (leapB y = false ∧ (y % 4 ≠ 0 ∨ (y % 100 = 0 ∧ y % 400 ≠ 0))) := by
  unfold leapB
  rw [Int.tmod_eq_emod_of_nonneg (by omega), Int.tmod_eq_emod_of_nonneg (by omega), Int.tmod_eq_emod_of_nonneg (by omega)]
  cases h1 : y % 4 == 0 with
  | false => simp at h1; exact .inr ⟨rfl, .inl h1⟩
  | true =>
    simp at h1
    cases h2 : y % 100 != 0 with
    | true => simp at h2; exact .inl ⟨rfl, h1, .inl h2⟩
    | false =>
      simp at h2
      cases h3 : y % 400 == 0 with
      | true => simp at h3; exact .inl ⟨rfl, h1, .inr h3⟩
      | false => simp at h3; exact .inr ⟨rfl, .inr ⟨h2, h3⟩⟩
def leapI (y : Int) : Int := bif leapB y then 1 else 0
theorem leapI_bd (y : Int) : 0 ≤ leapI y ∧ leapI y ≤ 1 := by unfold leapI; cases leapB y <;> decide
theorem yB_succ (y : Int) (h : 1 ≤ y) : yB (y + 1) = yB y + 365 + leapI y := by
  unfold leapI yB
  rcases leap_cases y h with ⟨h1, h2, h3⟩ | ⟨h1, h2⟩
  · rw [h1]; simp only [cond_true]; omega
  · rw [h1]; simp only [cond_false]; omega
theorem sumM_succ (y : Int) (k : Nat) : sumM y (k + 1) = sumM y k + monthD y ((k : Int) + 1) := rfl
theorem sumM_zero (y : Int) : sumM y 0 = 0 := rfl
theorem sumM_year (y : Int) : sumM y 12 = 365 + leapI y := by
  simp only [sumM, monthD, leapI]
  cases leapB y <;> decide
theorem monthD_bd (y m : Int) : 28 ≤ monthD y m ∧ monthD y m ≤ 31 := by
  unfold monthD
  cases m == 2
  · simp only [cond_false]; cases m == 4 <;> cases m == 6 <;> cases m == 9 <;> cases m == 11 <;> decide
  · simp only [cond_true]; cases leapB y <;> decide
theorem sumM_bd (y : Int) : ∀ k : Nat, 28 * (k : Int) ≤ sumM y k ∧ sumM y k ≤ 31 * (k : Int)
  | 0 => by simp [sumM]
  | k + 1 => by
    have := sumM_bd y k
    have := monthD_bd y ((k : Int) + 1)
    simp only [sumM]
    omega
theorem yB_mono (a b : Int) (h1 : 1 ≤ a) (h : a ≤ b) : yB a ≤ yB b := by unfold yB; omega
theorem yB_one : yB 1 = -719162 := by decide
theorem yB_end : yB 10000 = 2932897 := by decide
theorem yB_bd (y : Int) (h1 : 1 ≤ y) (h2 : y ≤ 100000) : -719162 ≤ yB y ∧ yB y ≤ 40000000 := by unfold yB; omega
theorem yearsW_eq (y : Int) (h1 : 1 ≤ y) (h2 : y ≤ 100000) : yearsW y = yB y + 719162 := by
  unfold yearsW yB
  rw [wrap_id (n := y - 1) (by omega) (by omega), Int.tdiv_eq_ediv_of_nonneg (by omega), Int.tdiv_eq_ediv_of_nonneg (by omega), Int.tdiv_eq_ediv_of_nonneg (by omega)]
  rw [wrap_id (n := 365 * (y - 1)) (by omega) (by omega), wrap_id (n := (y - 1) / 4) (by omega) (by omega), wrap_id (n := (y - 1) / 100) (by omega) (by omega), wrap_id (n := (y - 1) / 400) (by omega) (by omega)]
  rw [wrap_id (n := 365 * (y - 1) + (y - 1) / 4) (by omega) (by omega), wrap_id (n := 365 * (y - 1) + (y - 1) / 4 - (y - 1) / 100) (by omega) (by omega), wrap_id (by omega) (by omega)]
  omega
theorem ybegW_eq (y : Int) (h1 : 1 ≤ y) (h2 : y ≤ 100000) : ybegW y = yB y := by
  have := yB_bd y h1 h2
  unfold ybegW
  rw [yearsW_eq y h1 h2, wrap_id (by omega) (by omega)]
  omega
theorem yearF_spec (n : Int) : ∀ (k : Nat) (y : Int), 1 ≤ y → yB y ≤ n → n < yB (y + k) → yB (yearF n k y) ≤ n ∧ n < yB (yearF n k y + 1) ∧ y ≤ yearF n k y
  | 0, y, _, h2, h3 => by simp at h3; omega
  | k + 1, y, h1, h2, h3 => by
    unfold yearF
    by_cases h : yB (y + 1) ≤ n
    · simp only [h, decide_true, cond_true]
      have := yearF_spec n k (y + 1) (by omega) h (by rw [show y + 1 + (k : Int) = y + ((k + 1 : Nat) : Int) by omega]; exact h3)
      omega
    · simp only [h, decide_false, cond_false]
      omega
theorem yearOf_eq (n : Int) (K : Nat) (hK : K = 10000) : yearOf n = yearF n K 1 := by
  subst hK
  cases n <;> rfl
theorem yearOf_spec (n : Int) (h1 : -719162 ≤ n) (h2 : n ≤ 2932896) : yB (yearOf n) ≤ n ∧ n < yB (yearOf n + 1) ∧ 1 ≤ yearOf n ∧ yearOf n ≤ 9999 := by
  obtain ⟨K, hK⟩ : ∃ K : Nat, K = 10000 := ⟨_, rfl⟩
  rw [yearOf_eq n K hK]
  have h3 : n < yB (1 + (K : Int)) := by
    have := yB_mono 10000 (1 + (K : Int)) (by omega) (by omega)
    rw [yB_end] at this
    omega
  obtain ⟨a, b, c⟩ := yearF_spec n K 1 (by omega) (by rw [yB_one]; exact h1) h3
  refine ⟨a, b, c, ?_⟩
  rcases (show 9999 < yearF n K 1 ∨ yearF n K 1 ≤ 9999 by omega) with h | h
  · have := yB_mono 10000 _ (by omega) (show 10000 ≤ yearF n K 1 by omega)
    rw [yB_end] at this
    omega
  · exact h
theorem le_yearOf (n y : Int) (h1 : -719162 ≤ n) (h2 : n ≤ 2932896) (hy : 1 ≤ y) (h : yB y ≤ n) : y ≤ yearOf n := by
  obtain ⟨a, b, c, d⟩ := yearOf_spec n h1 h2
  rcases (show yearOf n < y ∨ y ≤ yearOf n by omega) with h' | h'
  · have := yB_mono (yearOf n + 1) y (by omega) (by omega)
    omega
  · exact h'
theorem yearOf_lt (n y : Int) (h1 : -719162 ≤ n) (h2 : n ≤ 2932896) (hy : 1 ≤ y) (h : n < yB y) : yearOf n < y := by
  obtain ⟨a, b, c, d⟩ := yearOf_spec n h1 h2
  rcases (show yearOf n < y ∨ y ≤ yearOf n by omega) with h' | h'
  · exact h'
  · have := yB_mono y (yearOf n) hy h'
    omega
theorem yearOf_rest (n : Int) (h1 : -719162 ≤ n) (h2 : n ≤ 2932896) : 0 ≤ n - yB (yearOf n) ∧ n - yB (yearOf n) < sumM (yearOf n) 12 := by
  obtain ⟨a, b, c, d⟩ := yearOf_spec n h1 h2
  rw [yB_succ _ c] at b
  rw [sumM_year]
  omega
theorem monF_spec (y : Int) : ∀ (k i : Nat) (r : Int), i + k = 12 → 0 ≤ r → r + sumM y i < sumM y 12 → 1 ≤ (monF k y ((i : Int) + 1) r).1 ∧ (monF k y ((i : Int) + 1) r).1 ≤ 12 ∧ 0 ≤ (monF k y ((i : Int) + 1) r).2 ∧ (monF k y ((i : Int) + 1) r).2 ≤ 30
  | 0, i, r, h, h0, h1 => by
    obtain rfl : i = 12 := by omega
    omega
  | k + 1, i, r, h, h0, h1 => by
    unfold monF
    have hb := monthD_bd y ((i : Int) + 1)
    by_cases hr : r ≥ monthD y ((i : Int) + 1)
    · simp only [hr, decide_true, cond_true]
      have := monF_spec y k (i + 1) (r - monthD y ((i : Int) + 1)) (by omega) (by omega) (by rw [sumM_succ]; omega)
      simpa using this
    · simp only [hr, decide_false, cond_false]
      omega
theorem start_neg (n : Int) (h1 : -719162 ≤ n) (h2 : n < 0) (h3 : 1 < 1970 + n.tdiv 365 - 1) : yB (1970 + n.tdiv 365 - 1) ≤ n := by
  obtain ⟨m, rfl⟩ : ∃ m : Int, n = -m := ⟨-n, by omega⟩
  rw [Int.neg_tdiv, Int.tdiv_eq_ediv_of_nonneg (by omega)] at *
  unfold yB
  omega
theorem start_pos (n : Int) (h1 : 0 ≤ n) (h2 : n ≤ 2932896) : yB (1970 + n.tdiv 366 - 1) ≤ n := by
  rw [Int.tdiv_eq_ediv_of_nonneg (by omega)]
  unfold yB
  omega

end Go.Ab
