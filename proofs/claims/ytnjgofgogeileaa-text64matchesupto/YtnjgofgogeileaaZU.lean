/- Texts to the base 64 and back: letters of bits, and line feeds among the letters do not matter. -/
import Derived.Test.YtnjgofgogeileaaZT
namespace Go.Ab
open Go Go.Proofs Go.RowKit
set_option linter.unusedSimpArgs false
set_option linter.unusedVariables false

/-! ### letters -/
set_option maxRecDepth 100000 in
theorem tblGet_all : ((List.range 64).all fun j => (⟨#[65, 66, 67, 68, 69, 70, 71, 72, 73, 74, 75, 76, 77, 78, 79, 80, 81, 82, 83, 84, 85, 86, 87, 88, 89, 90, 97, 98, 99, 100, 101, 102, 103, 104, 105, 106, 107, 108, 109, 110, 111, 112, 113, 114, 115, 116, 117, 118, 119, 120, 121, 122, 48, 49, 50, 51, 52, 53, 54, 55, 56, 57, 43, 47]⟩ : ByteArray).data.getD j 0 == l64 j) = true := by kernel_rfl
theorem tblGet (j : Nat) (h : j < 64) : (⟨#[65, 66, 67, 68, 69, 70, 71, 72, 73, 74, 75, 76, 77, 78, 79, 80, 81, 82, 83, 84, 85, 86, 87, 88, 89, 90, 97, 98, 99, 100, 101, 102, 103, 104, 105, 106, 107, 108, 109, 110, 111, 112, 113, 114, 115, 116, 117, 118, 119, 120, 121, 122, 48, 49, 50, 51, 52, 53, 54, 55, 56, 57, 43, 47]⟩ : ByteArray).data.getD j 0 = l64 j :=
  eq_of_beq (List.all_eq_true.1 tblGet_all j (List.mem_range.2 h))
set_option maxRecDepth 100000 in
theorem tblCut_all : ((List.range 64).all fun j => ((⟨#[65, 66, 67, 68, 69, 70, 71, 72, 73, 74, 75, 76, 77, 78, 79, 80, 81, 82, 83, 84, 85, 86, 87, 88, 89, 90, 97, 98, 99, 100, 101, 102, 103, 104, 105, 106, 107, 108, 109, 110, 111, 112, 113, 114, 115, 116, 117, 118, 119, 120, 121, 122, 48, 49, 50, 51, 52, 53, 54, 55, 56, 57, 43, 47]⟩ : ByteArray).data.toList.drop j).take 1 == [l64 j]) = true := by kernel_rfl
theorem tblCut (j : Nat) (h : j < 64) : (⟨#[65, 66, 67, 68, 69, 70, 71, 72, 73, 74, 75, 76, 77, 78, 79, 80, 81, 82, 83, 84, 85, 86, 87, 88, 89, 90, 97, 98, 99, 100, 101, 102, 103, 104, 105, 106, 107, 108, 109, 110, 111, 112, 113, 114, 115, 116, 117, 118, 119, 120, 121, 122, 48, 49, 50, 51, 52, 53, 54, 55, 56, 57, 43, 47]⟩ : ByteArray).extract j (j + 1) = u8S [l64 j] := by
  have := eq_of_beq (List.all_eq_true.1 tblCut_all j (List.mem_range.2 h))
  refine ba_ext ?_
  rw [ByteArray.data_extract, Array.toList_extract, List.extract_eq_take_drop, Nat.add_sub_cancel_left]
  exact this
theorem l64_mod (n : Nat) : l64 (n % 64) = l64 n := by unfold l64; rw [Nat.mod_mod]
set_option maxRecDepth 100000 in
theorem l64_all : ((List.range 64).all fun j => lt64 ((l64 j).toNat : Int) == (j : Int) && !((l64 j).toNat == 10) && !((l64 j).toNat == 61)) = true := by kernel_rfl
theorem l64_facts (n : Nat) : lt64 ((l64 n).toNat : Int) = ((n % 64 : Nat) : Int) ∧ (l64 n).toNat ≠ 10 := by
  have := List.all_eq_true.1 l64_all (n % 64) (List.mem_range.2 (Nat.mod_lt _ (by omega)))
  simp only [Bool.and_eq_true, beq_iff_eq, Bool.not_eq_true', beq_eq_false_iff_ne, l64_mod] at this
  exact ⟨this.1.1, this.1.2⟩

/-! ### the letters of bits -/
theorem bstep_eq : bstep' = bstep := by
  funext v b
  unfold bstep' bstep
  rw [Int.mul_comm]
theorem six_bits (n : Nat) (r : List UInt8) : six (bitsN n 6 ++ r) = ((n % 64 : Nat) : Int) := by
  unfold six
  rw [List.append_assoc, List.take_append_of_le_length (by rw [bitsN_len]; omega), List.take_of_length_le (by rw [bitsN_len]; omega), bstep_eq]
  have := foldl_bits 6 n 0 (by decide)
  rw [show (0 : Int) = ((0 : Nat) : Int) by rfl, this]
  simp
theorem bitsN_pad : ∀ (j k n : Nat), bitsN n k ++ List.replicate j (48 : UInt8) = bitsN (n * 2 ^ j) (k + j)
  | 0, k, n => by simp
  | j + 1, k, n => by
    have h1 : n * 2 ^ (j + 1) / 2 = n * 2 ^ j := by rw [Nat.pow_succ, ← Nat.mul_assoc, Nat.mul_div_cancel _ (by omega)]
    have h2 : n * 2 ^ (j + 1) % 2 = 0 := by rw [Nat.pow_succ, ← Nat.mul_assoc, Nat.mul_mod_left]
    rw [List.replicate_succ', ← List.append_assoc, bitsN_pad j k n, ← Nat.add_assoc, bitsN, h1]
    unfold bit1
    rw [h2]
    rfl
theorem six_short (n k : Nat) (hk : k ≤ 6) (h1 : 1 ≤ k) : six (bitsN n k) = ((n * 2 ^ (6 - k) % 64 : Nat) : Int) := by
  have h : (bitsN n k ++ [48, 48, 48, 48, 48]).take 6 = bitsN (n * 2 ^ (6 - k)) 6 := by
    have e : ([48, 48, 48, 48, 48] : List UInt8) = List.replicate (6 - k) 48 ++ List.replicate (k - 1) 48 := by
      rw [List.replicate_append_replicate, show 6 - k + (k - 1) = 5 by omega]; rfl
    rw [e, ← List.append_assoc, bitsN_pad, show k + (6 - k) = 6 by omega, List.take_append_of_le_length (by rw [bitsN_len]; omega), List.take_of_length_le (by rw [bitsN_len]; omega)]
  have := six_bits (n * 2 ^ (6 - k)) []
  rw [← this]
  unfold six
  rw [h, List.append_nil, List.take_append_of_le_length (by rw [bitsN_len]; omega), List.take_of_length_le (by rw [bitsN_len]; omega)]
theorem let6N_succ (k : Nat) (l : List UInt8) (h : l ≠ []) : let6N (k + 1) l = l64 (six l).toNat :: let6N k (l.drop 6) := by
  rw [let6N, if_neg h]
theorem let6N_nil : ∀ k : Nat, let6N k [] = []
  | 0 => rfl
  | _ + 1 => rfl
theorem bits_ne {n k : Nat} {r : List UInt8} (h : 1 ≤ k) : bitsN n k ++ r ≠ [] := by
  intro e
  have := congrArg List.length e
  rw [List.length_append, bitsN_len, List.length_nil] at this
  omega
theorem let6N_bits (n k : Nat) (r : List UInt8) : let6N (k + 1) (bitsN n 6 ++ r) = l64 n :: let6N k r := by
  rw [let6N_succ _ _ (bits_ne (by omega)), six_bits, Int.toNat_natCast, l64_mod, List.drop_append_of_le_length (by rw [bitsN_len]; omega), List.drop_of_length_le (by rw [bitsN_len]; omega), List.nil_append]
/-- Enough rounds are enough. -/
theorem let6N_more : ∀ (k j : Nat) (l : List UInt8), l.length ≤ k → l.length ≤ j → let6N k l = let6N j l
  | 0, j, l, h, _ => by
    obtain rfl := List.eq_nil_of_length_eq_zero (by omega : l.length = 0)
    rw [let6N_nil, let6N_nil]
  | k + 1, 0, l, _, h => by
    obtain rfl := List.eq_nil_of_length_eq_zero (by omega : l.length = 0)
    rw [let6N_nil, let6N_nil]
  | k + 1, j + 1, l, h1, h2 => by
    by_cases h : l = []
    · rw [h, let6N_nil, let6N_nil]
    · have hl : 0 < l.length := List.length_pos_iff.2 h
      rw [let6N_succ _ _ h, let6N_succ _ _ h, let6N_more k j (l.drop 6) (by rw [List.length_drop]; omega) (by rw [List.length_drop]; omega)]
theorem bin01_app (a b : List UInt8) : bin01 (a ++ b) = (bin01 a && bin01 b) := List.all_append
theorem bin01_bits : ∀ (k n : Nat), bin01 (bitsN n k) = true
  | 0, _ => rfl
  | k + 1, n => by
    rw [bitsN, bin01_app, bin01_bits k]
    unfold bit1
    rcases Nat.mod_two_eq_zero_or_one n with h | h <;> rw [h] <;> rfl
theorem bin01_L : ∀ l : List UInt8, bin01 (bitsL l) = true
  | [] => rfl
  | b :: l => by rw [bitsL, bin01_app, bin01_bits, bin01_L l]; rfl
def padL (l : List UInt8) : List UInt8 := l ++ List.replicate ((4 - l.length % 4) % 4) 61
theorem padL4 (a b c d : UInt8) (l : List UInt8) : padL (a :: b :: c :: d :: l) = a :: b :: c :: d :: padL l := by
  unfold padL
  have : (a :: b :: c :: d :: l).length % 4 = l.length % 4 := by simp only [List.length_cons]; omega
  rw [this]
  rfl
theorem enc_bits : ∀ (l : List UInt8) (k : Nat), 8 * l.length ≤ k → padL (let6N k (bitsL l)) = enc64 l
  | [], k, _ => by rw [bitsL, let6N_nil]; rfl
  | [a], k, h => by
    obtain ⟨k, rfl⟩ : ∃ j, k = j + 2 := ⟨k - 2, by simp only [List.length_cons] at h; omega⟩
    have e : bitsL [a] = bitsN (a.toNat / 4) 6 ++ bitsN a.toNat 2 := by
      rw [bitsL, bitsL, List.append_nil]; exact bitsN_add 6 2 a.toNat
    have hn : bitsN a.toNat 2 ≠ [] := by have := bits_ne (n := a.toNat) (k := 2) (r := []) (by omega); rwa [List.append_nil] at this
    rw [e, let6N_bits, let6N_succ _ _ hn, six_short _ _ (by omega) (by omega), List.drop_of_length_le (by rw [bitsN_len]; omega), let6N_nil, Int.toNat_natCast, l64_mod]
    show [l64 (a.toNat / 4), l64 (a.toNat * 2 ^ (6 - 2)), 61, 61] = let4 1 (a.toNat * 65536)
    unfold let4
    rw [show a.toNat * 65536 / 262144 = a.toNat / 4 by omega, show a.toNat * 65536 / 4096 = a.toNat * 2 ^ (6 - 2) by omega]
    rfl
  | [a, b], k, h => by
    obtain ⟨k, rfl⟩ : ∃ j, k = j + 3 := ⟨k - 3, by simp only [List.length_cons] at h; omega⟩
    have hb : b.toNat < 256 := b.toNat_lt
    have e0 : bitsL [a, b] = bitsN (a.toNat * 256 + b.toNat) 16 := by
      rw [bitsL, bitsL, bitsL, List.append_nil]
      have := bitsN_add 8 8 (a.toNat * 256 + b.toNat)
      rw [this, show (a.toNat * 256 + b.toNat) / 2 ^ 8 = a.toNat by omega, ← bitsN_mod 8 8 (a.toNat * 256 + b.toNat) (by omega), show (a.toNat * 256 + b.toNat) % 2 ^ 8 = b.toNat by omega]
    generalize hn : a.toNat * 256 + b.toNat = n at e0
    have e : bitsL [a, b] = bitsN (n / 1024) 6 ++ (bitsN (n / 16) 6 ++ bitsN n 4) := by
      rw [e0, show bitsN n 16 = _ from bitsN_add 12 4 n, show bitsN (n / 2 ^ 4) 12 = _ from bitsN_add 6 6 _, List.append_assoc, Nat.div_div_eq_div_mul]
    have hne : bitsN n 4 ≠ [] := by have := bits_ne (n := n) (k := 4) (r := []) (by omega); rwa [List.append_nil] at this
    rw [e, let6N_bits, let6N_bits, let6N_succ _ _ hne, six_short _ _ (by omega) (by omega), List.drop_of_length_le (by rw [bitsN_len]; omega), let6N_nil, Int.toNat_natCast, l64_mod]
    show [l64 (n / 1024), l64 (n / 16), l64 (n * 2 ^ (6 - 4)), 61] = let4 2 (a.toNat * 65536 + b.toNat * 256)
    unfold let4
    have q0 : a.toNat * 65536 + b.toNat * 256 = n * 256 := by rw [← hn, Nat.add_mul, Nat.mul_assoc]
    have q1 : n * 256 / 262144 = n / 1024 := by omega
    have q2 : n * 256 / 4096 = n / 16 := by omega
    have q3 : n * 256 / 64 = n * 2 ^ (6 - 4) := by omega
    rw [q0, q1, q2, q3, if_pos (by omega), if_pos (by omega), if_neg (by omega)]
  | a :: b :: c :: l, k, h => by
    obtain ⟨k, rfl⟩ : ∃ j, k = j + 4 := ⟨k - 4, by simp only [List.length_cons] at h; omega⟩
    have hb : b.toNat < 256 := b.toNat_lt
    have hc : c.toNat < 256 := c.toNat_lt
    have e0 : bitsL (a :: b :: c :: l) = bitsN (a.toNat * 65536 + b.toNat * 256 + c.toNat) 24 ++ bitsL l := by
      have := bitsN_add 8 16 (a.toNat * 65536 + b.toNat * 256 + c.toNat)
      have h2 := bitsN_add 8 8 (a.toNat * 65536 + b.toNat * 256 + c.toNat)
      rw [bitsL, bitsL, bitsL, this, h2, show (a.toNat * 65536 + b.toNat * 256 + c.toNat) / 2 ^ 16 = a.toNat by omega, ← bitsN_mod 8 8 ((a.toNat * 65536 + b.toNat * 256 + c.toNat) / 2 ^ 8) (by omega), show (a.toNat * 65536 + b.toNat * 256 + c.toNat) / 2 ^ 8 % 2 ^ 8 = b.toNat by omega, ← bitsN_mod 8 8 (a.toNat * 65536 + b.toNat * 256 + c.toNat) (by omega), show (a.toNat * 65536 + b.toNat * 256 + c.toNat) % 2 ^ 8 = c.toNat by omega]
      simp only [List.append_assoc]
    rw [enc64]
    generalize a.toNat * 65536 + b.toNat * 256 + c.toNat = n at e0 ⊢
    have e : bitsN n 24 = bitsN (n / 262144) 6 ++ (bitsN (n / 4096) 6 ++ (bitsN (n / 64) 6 ++ bitsN n 6)) := by
      have q1 : bitsN n (18 + 6) = bitsN (n / 2 ^ 6) 18 ++ bitsN n 6 := bitsN_add 18 6 n
      have q2 : bitsN (n / 2 ^ 6) 18 = bitsN (n / 2 ^ 6 / 2 ^ 6) 12 ++ bitsN (n / 2 ^ 6) 6 := bitsN_add 12 6 _
      have q3 : bitsN (n / 2 ^ 6 / 2 ^ 6) 12 = bitsN (n / 2 ^ 6 / 2 ^ 6 / 2 ^ 6) 6 ++ bitsN (n / 2 ^ 6 / 2 ^ 6) 6 := bitsN_add 6 6 _
      rw [show (24 : Nat) = 18 + 6 by decide, q1, q2, q3]
      simp only [List.append_assoc, Nat.div_div_eq_div_mul, Nat.reducePow, Nat.reduceMul]
    rw [e0, e, List.append_assoc, List.append_assoc, List.append_assoc, let6N_bits, let6N_bits, let6N_bits, let6N_bits, padL4, enc_bits l k (by simp only [List.length_cons] at h; omega)]
    unfold let4
    rfl
theorem pad4_u8 (l : List UInt8) : pad4 (u8S l) = u8S (padL l) := by
  refine ba_ext ?_
  unfold pad4
  rw [ba_append, ← ba_size]
  rfl
theorem letters_eq (l : List UInt8) : pad4 (u8S (let6s (bitsL l))) = u8S (enc64 l) := by
  rw [pad4_u8]
  unfold let6s
  rw [enc_bits l _ (by rw [bitsL_len]; omega)]

/-! ### reading them back -/
theorem zstep_letter (n v c m : Nat) (out : List UInt8) (hc : c ≠ 3) : zstep (l64 v) ⟨n, c, 0, m, out⟩ = some ⟨n * 64 + v % 64, c + 1, 0, m + 1, out⟩ := by
  obtain ⟨h1, h2⟩ := l64_facts v
  unfold zstep
  rw [if_neg h2, h1, if_pos ⟨by omega, rfl⟩, if_neg hc, Int.toNat_natCast]
theorem zstep_letter3 (n v m : Nat) (out : List UInt8) : zstep (l64 v) ⟨n, 3, 0, m, out⟩ = some ⟨0, 0, 0, m + 1, out ++ [UInt8.ofNat ((n * 64 + v % 64) / 65536), UInt8.ofNat ((n * 64 + v % 64) / 256), UInt8.ofNat (n * 64 + v % 64)]⟩ := by
  obtain ⟨h1, h2⟩ := l64_facts v
  unfold zstep
  rw [if_neg h2, h1, if_pos ⟨by omega, rfl⟩, if_pos rfl, Int.toNat_natCast]
theorem zstep_fill (n c f m : Nat) (out : List UInt8) (h1 : 2 ≤ c) (h2 : c + f < 4) (h3 : n % 2 ^ (2 * (4 - c)) = 0) : zstep 61 ⟨n, c, f, m, out⟩ = some ⟨n, c, f + 1, m + 1, out⟩ := by
  have hl : lt64 (((61 : UInt8).toNat : Nat) : Int) = -1 := (lt64_facts 61 (by omega)).2.2 (.inr rfl)
  unfold zstep
  rw [if_neg (by decide), hl, if_neg (fun h => by omega), if_pos ⟨rfl, h1, h2, h3⟩]
theorem zrun_enc : ∀ (l : List UInt8) (p m : Nat) (out : List UInt8), ∃ p' z', zrun (enc64 l) p ⟨0, 0, 0, m, out⟩ = ⟨false, p', z'⟩ ∧ (z'.c + z'.f) % 4 = 0 ∧ z'.out ++ ztail z' = out ++ l
  | [], p, m, out => ⟨p, _, rfl, rfl, by unfold ztail; simp⟩
  | [a], p, m, out => by
    have ha : a.toNat < 256 := a.toNat_lt
    unfold enc64 let4
    refine ⟨p + 4, ⟨a.toNat * 16, 2, 2, m + 4, out⟩, ?_, by simp, ?_⟩
    · rw [zrun_some (zstep_letter _ _ _ _ _ (by omega)), if_pos (by omega), zrun_some (zstep_letter _ _ _ _ _ (by omega)), if_neg (by omega), if_neg (by omega)]
      rw [show (0 * 64 + a.toNat * 65536 / 262144 % 64) * 64 + a.toNat * 65536 / 4096 % 64 = a.toNat * 16 by omega]
      rw [zrun_some (zstep_fill _ _ _ _ _ (by omega) (by omega) (by simp only [Nat.reduceAdd, Nat.reduceSub, Nat.reduceMul]; omega)), zrun_some (zstep_fill _ _ _ _ _ (by omega) (by omega) (by simp only [Nat.reduceAdd, Nat.reduceSub, Nat.reduceMul]; omega)), zrun]
    · unfold ztail
      simp only [if_true]
      rw [show a.toNat * 16 / 16 = a.toNat by omega, UInt8.ofNat_toNat]
  | [a, b], p, m, out => by
    have ha : a.toNat < 256 := a.toNat_lt
    have hb : b.toNat < 256 := b.toNat_lt
    unfold enc64 let4
    refine ⟨p + 4, ⟨a.toNat * 1024 + b.toNat * 4, 3, 1, m + 4, out⟩, ?_, by simp, ?_⟩
    · rw [zrun_some (zstep_letter _ _ _ _ _ (by omega)), if_pos (by omega), zrun_some (zstep_letter _ _ _ _ _ (by omega)), if_pos (by omega), zrun_some (zstep_letter _ _ _ _ _ (by omega)), if_neg (by omega)]
      rw [show ((0 * 64 + (a.toNat * 65536 + b.toNat * 256) / 262144 % 64) * 64 + (a.toNat * 65536 + b.toNat * 256) / 4096 % 64) * 64 + (a.toNat * 65536 + b.toNat * 256) / 64 % 64 = a.toNat * 1024 + b.toNat * 4 by omega]
      rw [zrun_some (zstep_fill _ _ _ _ _ (by omega) (by omega) (by simp only [Nat.reduceAdd, Nat.reduceSub, Nat.reduceMul]; omega)), zrun]
    · unfold ztail
      simp only [if_true]
      rw [if_neg (by omega), show (a.toNat * 1024 + b.toNat * 4) / 1024 = a.toNat by omega, UInt8.ofNat_toNat]
      have : UInt8.ofNat ((a.toNat * 1024 + b.toNat * 4) / 4) = b := by
        apply UInt8.toNat_inj.1
        rw [UInt8.toNat_ofNat']
        omega
      rw [this]
  | a :: b :: c :: l, p, m, out => by
    have ha : a.toNat < 256 := a.toNat_lt
    have hb : b.toNat < 256 := b.toNat_lt
    have hc : c.toNat < 256 := c.toNat_lt
    obtain ⟨p', z', h1, h2, h3⟩ := zrun_enc l (p + 4) (m + 4) (out ++ [a, b, c])
    refine ⟨p', z', ?_, h2, by rw [h3, List.append_assoc]; rfl⟩
    unfold enc64 let4
    generalize hn : a.toNat * 65536 + b.toNat * 256 + c.toNat = n
    simp only [List.cons_append, List.nil_append]
    rw [zrun_some (zstep_letter _ _ _ _ _ (by omega)), if_pos (by omega), zrun_some (zstep_letter _ _ _ _ _ (by omega)), if_pos (by omega), zrun_some (zstep_letter _ _ _ _ _ (by omega)), if_pos (by omega), zrun_some (zstep_letter3 _ _ _ _)]
    rw [show (((0 * 64 + n / 262144 % 64) * 64 + n / 4096 % 64) * 64 + n / 64 % 64) * 64 + n % 64 = n by omega]
    have e1 : UInt8.ofNat (n / 65536) = a := by
      apply UInt8.toNat_inj.1
      rw [UInt8.toNat_ofNat']
      omega
    have e2 : UInt8.ofNat (n / 256) = b := by
      apply UInt8.toNat_inj.1
      rw [UInt8.toNat_ofNat']
      omega
    have e3 : UInt8.ofNat n = c := by
      apply UInt8.toNat_inj.1
      rw [UInt8.toNat_ofNat']
      omega
    rw [e1, e2, e3]
    exact h1

/-! ### line feeds -/
def no10 (l : List UInt8) : List UInt8 := l.filter fun b => !(b.toNat == 10)
theorem zrun_no10 : ∀ (l : List UInt8) (p q : Nat) (z : Z), (zrun l p z).bad = (zrun (no10 l) q z).bad ∧ (zrun l p z).z = (zrun (no10 l) q z).z
  | [], _, _, _ => ⟨rfl, rfl⟩
  | b :: l, p, q, z => by
    by_cases h : b.toNat = 10
    · have e : no10 (b :: l) = no10 l := by unfold no10; rw [List.filter_cons_of_neg (by simp [h])]
      have hs : zstep b z = some z := by unfold zstep; rw [if_pos h]
      rw [e, zrun_some hs]
      exact zrun_no10 l (p + 1) q z
    · have e : no10 (b :: l) = b :: no10 l := by unfold no10; rw [List.filter_cons_of_pos (by simp [h])]
      rw [e]
      cases hs : zstep b z with
      | none => rw [zrun_none hs, zrun_none hs]; exact ⟨rfl, rfl⟩
      | some z' => rw [zrun_some hs, zrun_some hs]; exact zrun_no10 l (p + 1) (q + 1) z'
theorem no10_app (a b : List UInt8) : no10 (a ++ b) = no10 a ++ no10 b := List.filter_append ..
theorem no10_let4 (s n : Nat) : no10 (let4 s n) = let4 s n := by
  unfold no10 let4
  rw [List.filter_eq_self]
  intro b hb
  have hl : ∀ v, (!((l64 v).toNat == 10)) = true := fun v => by simp [(l64_facts v).2]
  simp only [List.mem_cons, List.not_mem_nil, or_false] at hb
  rcases hb with rfl | rfl | rfl | rfl
  · exact hl _
  all_goals (split <;> first | exact hl _ | rfl)
theorem no10_enc : ∀ l : List UInt8, no10 (enc64 l) = enc64 l
  | [] => rfl
  | [a] => no10_let4 ..
  | [a, b] => no10_let4 ..
  | a :: b :: c :: l => by rw [enc64, no10_app, no10_let4, no10_enc l]
theorem brk_no10 (t : ByteArray) (x : V) : no10 (brk t x).data.toList = no10 t.data.toList := by
  unfold brk
  rw [ba_append, ba_append, no10_app, no10_app, ByteArray.data_extract, ByteArray.data_extract, Array.toList_extract, Array.toList_extract, List.extract_eq_take_drop, List.extract_eq_take_drop]
  rw [show no10 (⟨#[10]⟩ : ByteArray).data.toList = [] from rfl, List.append_nil, ← no10_app, Nat.sub_zero, List.drop_zero]
  rw [List.take_of_length_le (i := t.size - brkAt t x.intOf) (by rw [List.length_drop, ba_size]; omega), List.take_append_drop]
theorem brk_size (t : ByteArray) (x : V) : (brk t x).size ≤ t.size + 1 := by
  unfold brk
  rw [ba_size_append, ba_size_append, ByteArray.size_extract, ByteArray.size_extract]
  have : (⟨#[10]⟩ : ByteArray).size = 1 := rfl
  omega
theorem brks_no10 : ∀ (l : List V) (t : ByteArray), no10 (brks t l).data.toList = no10 t.data.toList
  | [], _ => rfl
  | x :: l, t => by
    show no10 (brks (brk t x) l).data.toList = _
    rw [brks_no10 l, brk_no10]
theorem brks_size : ∀ (l : List V) (t : ByteArray), (brks t l).size ≤ t.size + l.length
  | [], _ => by simp [brks]
  | x :: l, t => by
    show (brks (brk t x) l).size ≤ _
    have := brks_size l (brk t x)
    have := brk_size t x
    simp only [List.length_cons]
    omega
theorem enc64_len : ∀ l : List UInt8, (enc64 l).length ≤ 2 * l.length + 4
  | [] => by simp [enc64]
  | [a] => by simp [enc64, let4]
  | [a, b] => by simp [enc64, let4]
  | a :: b :: c :: l => by
    have := enc64_len l
    rw [enc64, List.length_append]
    have h4 : ∀ s n, (let4 s n).length = 4 := fun _ _ => rfl
    simp only [List.length_cons, h4]
    omega
/-- What is read from the letters of a text among which line feeds stand. -/
theorem o64_brks (s : ByteArray) (l : List V) : o64 (brks (u8S (enc64 s.data.toList)) l) = ⟨true, 0, s.data.toList⟩ := by
  obtain ⟨p', z', h1, h2, h3⟩ := zrun_enc s.data.toList 0 0 []
  have hn : no10 (brks (u8S (enc64 s.data.toList)) l).data.toList = enc64 s.data.toList := by
    rw [brks_no10]
    exact no10_enc _
  obtain ⟨g1, g2⟩ := zrun_no10 (brks (u8S (enc64 s.data.toList)) l).data.toList 0 0 ⟨0, 0, 0, 0, []⟩
  rw [hn, h1] at g1 g2
  unfold o64 zr
  rw [map_bytesV, g1, g2]
  simp only [Bool.false_eq_true, if_false]
  rw [if_neg (by rw [h2]; simp)]
  rw [List.nil_append] at h3
  rw [h3]

end Go.Ab
