/- The lines of a text, in plain words. -/
import Derived.Test.YtbeemjiaohaamaaGreatDoorZN
namespace Go.Ab
open Go Go.Proofs Go.RowKit
set_option linter.unusedSimpArgs false
set_option linter.unusedVariables false

def strV (l : List UInt8) : V := .sc (.string ⟨l.toArray⟩)
def isNl (s : ByteArray) : Bool := match s.data.toList with
  | [b] => b == 10
  | _ => false
theorem isNl_eq {s : ByteArray} (h : isNl s = true) : s = ⟨#[10]⟩ := by
  unfold isNl at h
  split at h
  · next b hb =>
    have : b = 10 := by simpa using h
    subst this
    exact ba_ext hb
  · cases h
def headL : List UInt8 → List UInt8 → List V
  | _, [] => []
  | cur, b :: r => bif b == 10 then strV cur :: headL [] r else headL (cur ++ [b]) r
def lastL : List UInt8 → List UInt8 → List UInt8
  | cur, [] => cur
  | cur, b :: r => bif b == 10 then lastL [] r else lastL (cur ++ [b]) r
/-- The lines that end in a line feed. -/
def headP (s : ByteArray) : List V := headL [] s.data.toList
/-- What stands behind the last line feed. -/
def lastP (s : ByteArray) : ByteArray := ⟨(lastL [] s.data.toList).toArray⟩
def splitV (s : ByteArray) : List V := headP s ++ [.sc (.string (lastP s))]
def linesV (s : ByteArray) : List V := bif (lastP s).size == 0 then headP s else splitV s
def fromP (s : ByteArray) : Int := ((s.size : Nat) : Int) - (((lastP s).size : Nat) : Int)
def cntN (s : ByteArray) : Int := (((headP s).length : Nat) : Int)
def endNl (s : ByteArray) : Bool := match s.data.toList.getLast? with
  | some b => b == 10
  | none => false
def trimNl (s : ByteArray) : ByteArray := bif endNl s then s.extract 0 (s.size - 1) else s
def largeB (s : ByteArray) : Bool := decide (((s.size : Nat) : Int) > 65536) || decide ((((linesV s).length : Nat) : Int) > 4096)
def largeV (x : V) : Bool := largeB x.strOf
def shortS (x : V) : Bool := x.isStr && decide (x.strOf.size ≤ 1000000000)
def fstN (p : V → Bool) : List V → Nat
  | [] => 0
  | x :: l => bif p x then 0 else fstN p l + 1
def idxV (p : V → Bool) (l : List V) : Int := bif l.any p then ((fstN p l : Nat) : Int) else -1
def isFn (f : Nat) : List V → Bool
  | [_, .fn g _ _] => Nat.beq g f
  | _ => false
def eqS : List V → List V → Bool
  | [], [] => true
  | x :: a, y :: b => strEq x.strOf y.strOf && eqS a b
  | _, _ => false

/-! ### plain laws -/
theorem bl_extract (s : ByteArray) (a b : Nat) : (s.extract a b).data.toList = (s.data.toList.take b).drop a := by
  rw [ByteArray.data_extract, Array.toList_extract, List.extract_eq_drop_take']
theorem bl_size (s : ByteArray) : s.size = s.data.toList.length := (ba_size s).symm
theorem strV_extract (s : ByteArray) (a b : Nat) : V.sc (.string (s.extract a b)) = strV ((s.data.toList.take b).drop a) := by
  unfold strV
  rw [← bl_extract]
theorem headL_cons (cur : List UInt8) (b : UInt8) (r : List UInt8) : headL cur (b :: r) = bif b == 10 then strV cur :: headL [] r else headL (cur ++ [b]) r := rfl
theorem lastL_cons (cur : List UInt8) (b : UInt8) (r : List UInt8) : lastL cur (b :: r) = bif b == 10 then lastL [] r else lastL (cur ++ [b]) r := rfl
theorem head_neg : ∀ (l cur : List UInt8), Lib.indexByte l 10 < 0 → headL cur l = [] ∧ lastL cur l = cur ++ l
  | [], cur, _ => ⟨rfl, (List.append_nil cur).symm⟩
  | b :: r, cur, h => by
    have hg := Lib.indexByte_ge r 10
    unfold Lib.indexByte at h
    cases hb : b == 10 with
    | true => rw [hb] at h; simp at h
    | false =>
      rw [hb] at h
      simp only [Bool.false_eq_true, if_false, beq_iff_eq] at h
      have hr : Lib.indexByte r 10 < 0 := by
        by_cases hm : Lib.indexByte r 10 = -1
        · omega
        · rw [if_neg hm] at h; omega
      obtain ⟨h1, h2⟩ := head_neg r (cur ++ [b]) hr
      rw [headL_cons, lastL_cons, hb, cond_false, cond_false, h1, h2]
      simp
theorem head_idx : ∀ (l cur : List UInt8) (m : Nat), Lib.indexByte l 10 = (m : Int) → headL cur l = strV (cur ++ l.take m) :: headL [] (l.drop (m + 1)) ∧ lastL cur l = lastL [] (l.drop (m + 1)) ∧ m < l.length
  | [], cur, m, h => by simp [Lib.indexByte] at h
  | b :: r, cur, m, h => by
    have hg := Lib.indexByte_ge r 10
    unfold Lib.indexByte at h
    cases hb : b == 10 with
    | true =>
      rw [hb] at h
      simp only [if_true] at h
      obtain rfl : m = 0 := by omega
      rw [headL_cons, lastL_cons, hb]
      simp
    | false =>
      rw [hb] at h
      simp only [Bool.false_eq_true, if_false, beq_iff_eq] at h
      by_cases hm : Lib.indexByte r 10 = -1
      · rw [if_pos hm] at h; omega
      · rw [if_neg hm] at h
        obtain ⟨k, rfl⟩ : ∃ k, m = k + 1 := ⟨m - 1, by omega⟩
        obtain ⟨h1, h2, h3⟩ := head_idx r (cur ++ [b]) k (by omega)
        rw [headL_cons, lastL_cons, hb, cond_false, cond_false, h1, h2]
        refine ⟨by simp, by simp, by simp; omega⟩
theorem head_len : ∀ (l cur : List UInt8), (headL cur l).length = Lib.countByte l 10
  | [], cur => rfl
  | b :: r, cur => by
    have h1 := head_len r []
    have h2 := head_len r (cur ++ [b])
    unfold Lib.countByte at *
    rw [headL_cons, List.count_cons]
    cases hb : b == 10 with
    | true => simp [h1]
    | false => simp [h2]
theorem head_pos (l cur : List UInt8) (h : 0 < (headL cur l).length) : ∃ m : Nat, Lib.indexByte l 10 = (m : Int) := by
  rcases (show Lib.indexByte l 10 < 0 ∨ 0 ≤ Lib.indexByte l 10 by omega) with h' | h'
  · rw [(head_neg l cur h').1] at h; simp at h
  · exact ⟨(Lib.indexByte l 10).toNat, by omega⟩
theorem head_snoc : ∀ (t cur : List UInt8), headL cur (t ++ [10]) = headL cur t ++ [strV (lastL cur t)] ∧ lastL cur (t ++ [10]) = []
  | [], cur => ⟨rfl, rfl⟩
  | b :: t, cur => by
    obtain ⟨h1, h2⟩ := head_snoc t []
    obtain ⟨h3, h4⟩ := head_snoc t (cur ++ [b])
    rw [List.cons_append, headL_cons, lastL_cons, headL_cons, lastL_cons]
    cases b == 10
    · simp only [cond_false]; exact ⟨h3, h4⟩
    · simp only [cond_true]; exact ⟨by rw [h1]; rfl, h2⟩
theorem last_snoc (b : UInt8) (hb : (b == 10) = false) : ∀ (t cur : List UInt8), headL cur (t ++ [b]) = headL cur t ∧ lastL cur (t ++ [b]) = lastL cur t ++ [b]
  | [], cur => by rw [List.nil_append, headL_cons, lastL_cons, hb]; exact ⟨rfl, rfl⟩
  | c :: t, cur => by
    obtain ⟨h1, h2⟩ := last_snoc b hb t []
    obtain ⟨h3, h4⟩ := last_snoc b hb t (cur ++ [c])
    rw [List.cons_append, headL_cons, lastL_cons, headL_cons, lastL_cons]
    cases c == 10
    · simp only [cond_false]; exact ⟨h3, h4⟩
    · simp only [cond_true]; exact ⟨by rw [h1], h2⟩
theorem last_le : ∀ (l cur : List UInt8), (lastL cur l).length ≤ cur.length + l.length
  | [], cur => by simp [lastL]
  | b :: r, cur => by
    have h1 := last_le r []
    have h2 := last_le r (cur ++ [b])
    rw [lastL_cons]
    cases b == 10
    · simp only [cond_false, List.length_cons, List.length_append, List.length_nil] at *; omega
    · simp only [cond_true, List.length_cons, List.length_nil] at *; omega
theorem head_le (l cur : List UInt8) : (headL cur l).length ≤ l.length := by
  rw [head_len]; exact List.count_le_length
theorem lastP_size (s : ByteArray) : (lastP s).size = (lastL [] s.data.toList).length := by rw [bl_size]; rfl
theorem lastP_le (s : ByteArray) : (lastP s).size ≤ s.size := by
  have := last_le s.data.toList []
  rw [lastP_size, bl_size s]
  simpa using this
theorem headP_le (s : ByteArray) : (headP s).length ≤ s.size := by rw [bl_size s]; exact head_le _ _
theorem snoc_cases (l : List UInt8) : l = [] ∨ ∃ t b, l = t ++ [b] := by
  rcases List.eq_nil_or_concat l with h | ⟨t, b, h⟩
  · exact .inl h
  · exact .inr ⟨t, b, by rw [h]; simp⟩
theorem end_nil (s : ByteArray) (h : s.data.toList = []) : endNl s = false := by unfold endNl; rw [h]; rfl
theorem end_snoc (s : ByteArray) {t : List UInt8} {b : UInt8} (h : s.data.toList = t ++ [b]) : endNl s = (b == 10) := by
  unfold endNl; rw [h]; simp
theorem linesV_trim (s : ByteArray) (h : s.data.toList ≠ []) : linesV s = splitV (trimNl s) := by
  rcases snoc_cases s.data.toList with h' | ⟨t, b, h'⟩
  · exact absurd h' h
  unfold trimNl
  rw [end_snoc s h']
  cases hb : b == 10 with
  | true =>
    have : b = 10 := by simpa using hb
    subst this
    obtain ⟨h1, h2⟩ := head_snoc t []
    have ht : (s.extract 0 (s.size - 1)).data.toList = t := by rw [bl_extract, bl_size, h']; simp
    have hl : (lastP s).size = 0 := by rw [lastP_size, h', h2]; rfl
    rw [cond_true]
    unfold linesV splitV headP
    rw [hl, h', h1, ht, beq_self_eq_true, cond_true]
    unfold lastP
    rw [ht]
    rfl
  | false =>
    obtain ⟨h1, h2⟩ := last_snoc b hb t []
    have hl : ((lastP s).size == 0) = false := by rw [lastP_size, h', h2, List.length_append]; simp
    unfold linesV
    rw [hl, cond_false, cond_false]
theorem linesV_nil (s : ByteArray) (h : s.data.toList = []) : linesV s = [] := by
  have h1 : (lastP s).size = 0 := by rw [lastP_size, h]; rfl
  unfold linesV headP
  rw [h1, h]
  rfl
theorem linesV_len (s : ByteArray) : (linesV s).length ≤ s.size + 1 := by
  have := headP_le s
  unfold linesV splitV
  cases (lastP s).size == 0
  · simp only [cond_false, List.length_append, List.length_cons, List.length_nil]; omega
  · simp only [cond_true]; omega
theorem headL_str : ∀ (l cur : List UInt8), (headL cur l).all V.isStr = true
  | [], _ => rfl
  | b :: r, cur => by
    rw [headL_cons]
    cases b == 10
    · exact headL_str r _
    · exact headL_str r _
theorem headL_short : ∀ (l cur : List UInt8), cur.length + l.length ≤ 1000000000 → (headL cur l).all shortS = true
  | [], _, _ => rfl
  | b :: r, cur, h => by
    rw [List.length_cons] at h
    rw [headL_cons]
    cases b == 10
    · exact headL_short r _ (by simp only [List.length_append, List.length_cons, List.length_nil]; omega)
    · simp only [cond_true, List.all_cons, headL_short r [] (by simp only [List.length_nil]; omega), Bool.and_true]
      unfold shortS strV
      have : (⟨cur.toArray⟩ : ByteArray).size = cur.length := by rw [bl_size]
      simp only [V.isStr, V.strOf, this, Bool.true_and, decide_eq_true_eq]
      omega
theorem linesV_str (s : ByteArray) : (linesV s).all V.isStr = true := by
  have h := headL_str s.data.toList []
  unfold linesV splitV headP
  cases (lastP s).size == 0
  · simp only [cond_false, List.all_append, h]; rfl
  · exact h
theorem linesV_short (s : ByteArray) (hs : s.size ≤ 1000000000) : (linesV s).all shortS = true := by
  have h := headL_short s.data.toList [] (by rw [ba_size]; simpa using hs)
  have hl := lastP_le s
  unfold linesV splitV headP
  cases (lastP s).size == 0
  · simp only [cond_false, List.all_append, h, Bool.true_and, List.all_cons, List.all_nil, Bool.and_true]
    have hd : decide ((lastP s).size ≤ 1000000000) = true := dec_true (by omega)
    exact hd
  · exact h
theorem eqS_refl : ∀ l : List V, eqS l l = true
  | [] => rfl
  | x :: l => by unfold eqS; rw [strEq_self, eqS_refl l]; rfl
theorem eqS_drop {a b : List V} {k : Nat} (h : k < a.length) (hb : k < b.length) : eqS (a.drop k) (b.drop k) = (strEq a[k].strOf b[k].strOf && eqS (a.drop (k + 1)) (b.drop (k + 1))) := by
  rw [List.drop_eq_getElem_cons h, List.drop_eq_getElem_cons hb]
  rfl
theorem idxV_ge (p : V → Bool) (l : List V) : decide (idxV p l ≥ 0) = l.any p := by
  unfold idxV
  cases l.any p
  · rfl
  · simp
theorem fstN_drop {l : List V} {p : V → Bool} {k : Nat} (h : k < l.length) : fstN p (l.drop k) = bif p l[k] then 0 else fstN p (l.drop (k + 1)) + 1 := by
  rw [List.drop_eq_getElem_cons h]; rfl
theorem any_drop {l : List V} {p : V → Bool} {k : Nat} (h : k < l.length) : (l.drop k).any p = (p l[k] || (l.drop (k + 1)).any p) := by
  rw [List.drop_eq_getElem_cons h, List.any_cons]
theorem shortS_spec {x : V} (h : shortS x = true) : x.isStr = true ∧ x.strOf.size ≤ 1000000000 := by
  unfold shortS at h
  simpa using h
theorem short_str {l : List V} (h : l.all shortS = true) : l.all V.isStr = true := by
  rw [List.all_eq_true] at h ⊢
  exact fun x hx => (shortS_spec (h x hx)).1

end Go.Ab
