/- Lines get numbers, in plain words. -/
import Derived.Test.YtbeemjiaohaamaaGreatDoorZSC
import Derived.Test.YtbeemjiaohaamaaGreatDoorP42z
import Derived.Lib.RepeatB
namespace Go.Ab
open Go Go.Proofs Go.RowKit
set_option linter.unusedSimpArgs false
set_option linter.unusedVariables false

def repL (c k : Nat) : ByteArray := ofL (List.replicate k (UInt8.ofNat c))
def repB (s : ByteArray) (n : Int) : ByteArray := ⟨(Lib.repeatL s.data.toList n.toNat).toArray⟩
def padS (c k : Nat) (s : ByteArray) : ByteArray := repL c k ++ s
def fillB (t : ByteArray) (w : Int) (z : Bool) : ByteArray :=
  bif z then (bif hasMinus t then (⟨#[45]⟩ : ByteArray) ++ padS 48 (w - ((t.size : Nat) : Int)).toNat (dropMinus t) else padS 48 (w - ((t.size : Nat) : Int)).toNat t) else padS 32 (w - ((t.size : Nat) : Int)).toNat t
def lineN (n w : Int) (z : Bool) (sep x : ByteArray) : ByteArray := (fillB (itoaB n) w z ++ sep) ++ x
def numF (st w : Int) (z em : Bool) (sep : ByteArray) : List V → Int → List V
  | [], _ => []
  | x :: l, n => bif strEq x.strOf ⟨#[]⟩ && !em then .sc (.string x.strOf) :: numF st w z em sep l n else .sc (.string (lineN n w z sep x.strOf)) :: numF st w z em sep l (n + st)
def okN (n st w : Int) (sep : ByteArray) : Bool := decide (-1000000 ≤ n) && (decide (n ≤ 1000000) && (decide (-1000000 ≤ st) && (decide (st ≤ 1000000) && (decide (0 ≤ w) && (decide (w ≤ 1000000) && decide (sep.size ≤ 1000000))))))
def numE (n st w : Int) (sep s : ByteArray) : Int :=
  bif !(decide (n ≥ (-1000000)) && decide (n ≤ 1000000)) || (!(decide (st ≥ (-1000000)) && decide (st ≤ 1000000)) || !(decide (w ≥ 0) && decide (w ≤ 1000))) then 3
  else bif hasB sep 10 || decide (((sep.size : Nat) : Int) > 1000) then 5 else bif largeB s then 2 else 0
def numS (n st w : Int) (z em : Bool) (sep s : ByteArray) : ByteArray := bif numE n st w sep s == 0 then resB (numF st w z em sep (linesV s) n) else ⟨#[]⟩

/-! ### plain laws -/
theorem repL_size (c k : Nat) : (repL c k).size = k := by unfold repL; rw [ofL_size, List.length_replicate]
theorem padS_size (c k : Nat) (s : ByteArray) : (padS c k s).size = k + s.size := by unfold padS; rw [ba_size_append, repL_size]
theorem padS_zero (c : Nat) (s : ByteArray) : padS c 0 s = s := ba_nil s
theorem padS_succ (c k : Nat) (s : ByteArray) : padS c k ((⟨#[UInt8.ofNat c]⟩ : ByteArray) ++ s) = padS c (k + 1) s := by
  unfold padS repL
  refine ba_ext ?_
  rw [ba_append, ba_append, ba_append]
  show List.replicate k _ ++ ([UInt8.ofNat c] ++ s.data.toList) = List.replicate (k + 1) _ ++ s.data.toList
  rw [List.replicate_succ', List.append_assoc]
theorem nDigits_le : ∀ (k u : Nat), u < 10 ^ (k + 1) → Lib.nDigits u ≤ k + 1
  | 0, u, h => by rw [Lib.nDigits_small (by simpa using h)]; omega
  | k + 1, u, h => by
    by_cases hu : u < 10
    · rw [Lib.nDigits_small hu]; omega
    · rw [Lib.nDigits_big hu]
      have := nDigits_le k (u / 10) (by rw [Nat.pow_succ] at h; omega)
      omega
theorem itoa_le {n : Int} (h1 : -10000000000000 < n) (h2 : n < 10000000000000) : (itoaB n).size ≤ 14 := by
  unfold itoaB
  rw [bl_size]
  show (Lib.itoa n).length ≤ 14
  unfold Lib.itoa
  split
  · have := nDigits_le 12 n.natAbs (by omega)
    rw [List.length_cons, Lib.decDigits_length]; omega
  · have := nDigits_le 12 n.toNat (by omega)
    rw [Lib.decDigits_length]; omega
theorem itoa_pos (n : Int) : 1 ≤ (itoaB n).size := by
  unfold itoaB
  rw [bl_size]
  show 1 ≤ (Lib.itoa n).length
  unfold Lib.itoa
  split
  · rw [List.length_cons]; omega
  · rw [Lib.decDigits_length]; exact Lib.nDigits_pos _
theorem dig_head (u : Nat) : ∀ b r, Lib.decDigits u = b :: r → (((b.toNat : Nat) : Int) == 45) = false := by
  intro b r h
  have hp := Lib.nDigits_pos u
  rw [Lib.decDigits_eq] at h
  have h0 : b = Lib.dg u (Lib.nDigits u - 1) := by
    obtain ⟨k, hk⟩ : ∃ k, Lib.nDigits u = k + 1 := ⟨Lib.nDigits u - 1, by omega⟩
    rw [hk, List.range_succ_eq_map, List.map_cons] at h
    have := (List.cons.inj h).1
    rw [← this, hk]
    rfl
  rw [h0, beq_eq_false_iff_ne]
  unfold Lib.dg
  intro h'
  have : ∀ d : Nat, d < 10 → ((UInt8.ofNat (48 + d)).toNat : Int) ≠ 45 := by decide
  exact this _ (Nat.mod_lt _ (by omega)) h'
theorem itoa_minus (n : Int) : hasMinus (itoaB n) = decide (n < 0) := by
  unfold hasMinus itoaB
  show (match Lib.itoa n with | b :: _ => ((b.toNat : Nat) : Int) == 45 | [] => false) = _
  unfold Lib.itoa
  by_cases h : n < 0
  · rw [if_pos h, dec_true h]; rfl
  · rw [if_neg h, dec_false h]
    cases hd : Lib.decDigits n.toNat with
    | nil => rfl
    | cons b r => exact dig_head _ b r hd
theorem fill_le (t : ByteArray) (w : Int) (z : Bool) : (fillB t w z).size ≤ t.size + w.toNat + 1 := by
  have h := dropMinus_le t
  have h3 : (⟨#[45]⟩ : ByteArray).size = 1 := rfl
  unfold fillB
  cases z
  · rw [cond_false, padS_size]; omega
  · cases hasMinus t
    · rw [cond_true, cond_false, padS_size]; omega
    · rw [cond_true, cond_true, ba_size_append, padS_size, h3]; omega
theorem okN_spec {n st w : Int} {sep : ByteArray} (h : okN n st w sep = true) : -1000000 ≤ n ∧ n ≤ 1000000 ∧ -1000000 ≤ st ∧ st ≤ 1000000 ∧ 0 ≤ w ∧ w ≤ 1000000 ∧ sep.size ≤ 1000000 := by
  unfold okN at h
  simpa only [Bool.and_eq_true, decide_eq_true_eq] using h
theorem numF_ok (st w : Int) (z em : Bool) (sep : ByteArray) (M : Nat) (hs : -1000000 ≤ st ∧ st ≤ 1000000) (hw : 0 ≤ w ∧ w ≤ 1000) (hp : sep.size ≤ 1000) : ∀ (l : List V) (n : Int) (i : Nat), l.all (leS M) = true → -1000000 * ((i : Int) + 1) ≤ n → n ≤ 1000000 * ((i : Int) + 1) → i + l.length ≤ 1000000 →
    (numF st w z em sep l n).all (leS (M + 3000)) = true ∧ (numF st w z em sep l n).length = l.length
  | [], _, _, _, _, _, _ => ⟨rfl, rfl⟩
  | x :: l, n, i, hl, h1, h2, h3 => by
    rw [List.all_cons, Bool.and_eq_true] at hl
    rw [List.length_cons] at h3
    have hx := (leS_spec hl.1).2
    obtain ⟨a1, a2⟩ := numF_ok st w z em sep M hs hw hp l (n + st) (i + 1) hl.2 (by omega) (by omega) (by omega)
    obtain ⟨b1, b2⟩ := numF_ok st w z em sep M hs hw hp l n (i + 1) hl.2 (by omega) (by omega) (by omega)
    rw [numF]
    cases strEq x.strOf ⟨#[]⟩ && !em
    · have hf := fill_le (itoaB n) w z
      have hi := itoa_le (n := n) (by omega) (by omega)
      have hsz : (lineN n w z sep x.strOf).size ≤ M + 3000 := by unfold lineN; rw [ba_size_append, ba_size_append]; omega
      rw [cond_false, List.all_cons, a1, List.length_cons, a2, List.length_cons]
      refine ⟨?_, rfl⟩
      show ((true && decide ((lineN n w z sep x.strOf).size ≤ M + 3000)) && true) = true
      rw [dec_true hsz]; rfl
    · rw [cond_true, List.all_cons, b1, List.length_cons, b2, List.length_cons]
      refine ⟨?_, rfl⟩
      show ((true && decide (x.strOf.size ≤ M + 3000)) && true) = true
      rw [dec_true (show x.strOf.size ≤ M + 3000 by omega)]; rfl
/-- What numbered lines are, where nothing is refused. -/
theorem num_ok {n st w : Int} {sep s : ByteArray} (z em : Bool) (h : numE n st w sep s = 0) : okN n st w sep = true ∧ largeB s = false ∧ (numF st w z em sep (linesV s) n).all V.isStr = true ∧ (numF st w z em sep (linesV s) n).length ≤ 1000000000 ∧ (resB (numF st w z em sep (linesV s) n)).size ≤ 100000000000 := by
  unfold numE at h
  cases h1 : (!(decide (n ≥ (-1000000)) && decide (n ≤ 1000000)) || (!(decide (st ≥ (-1000000)) && decide (st ≤ 1000000)) || !(decide (w ≥ 0) && decide (w ≤ 1000)))) with
  | true => rw [h1] at h; cases h
  | false =>
  rw [h1] at h
  cases h2 : (hasB sep 10 || decide (((sep.size : Nat) : Int) > 1000)) with
  | true => rw [h2] at h; cases h
  | false =>
  rw [h2] at h
  cases h3 : largeB s with
  | true => rw [h3] at h; cases h
  | false =>
  simp only [Bool.or_eq_false_iff, Bool.not_eq_false', Bool.and_eq_true, decide_eq_true_eq, decide_eq_false_iff_not] at h1 h2
  obtain ⟨⟨n1, n2⟩, ⟨s1, s2⟩, ⟨w1, w2⟩⟩ := h1
  obtain ⟨_, p1⟩ := h2
  obtain ⟨a1, a2⟩ := large_no h3
  obtain ⟨b1, b2⟩ := numF_ok st w z em sep 65536 ⟨s1, s2⟩ ⟨w1, w2⟩ (by omega) (linesV s) n 0 (all_leS a1 (linesV_leS s)) (by omega) (by omega) (by omega)
  have b3 := resB_le _ _ b1
  have b4 : (numF st w z em sep (linesV s) n).length * (65536 + 3000 + 1) ≤ 4096 * (65536 + 3000 + 1) := Nat.mul_le_mul_right _ (by omega)
  refine ⟨?_, rfl, leS_str b1, by omega, by omega⟩
  unfold okN
  rw [dec_true (show -1000000 ≤ n by omega), dec_true n2, dec_true (show -1000000 ≤ st by omega), dec_true s2, dec_true (show 0 ≤ w by omega), dec_true (show w ≤ 1000000 by omega), dec_true (show sep.size ≤ 1000000 by omega)]
  rfl
end Go.Ab
