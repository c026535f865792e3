/- Texts cut at a byte, and what is taken of them, in plain words. -/
import Derived.Test.YtbeemjiaohaamaaGreatDoorZSC
import Derived.Test.YtbeemjiaohaamaaGreatDoorP57z
import Derived.Test.YtbeemjiaohaamaaGreatDoorP40
namespace Go.Ab
open Go Go.Proofs Go.RowKit
set_option linter.unusedSimpArgs false
set_option linter.unusedVariables false

def headG (c : UInt8) : List UInt8 → List UInt8 → List V
  | _, [] => []
  | cur, b :: r => bif b == c then strV cur :: headG c [] r else headG c (cur ++ [b]) r
def lastG (c : UInt8) : List UInt8 → List UInt8 → List UInt8
  | cur, [] => cur
  | cur, b :: r => bif b == c then lastG c [] r else lastG c (cur ++ [b]) r
/-- The pieces that end in the byte; what stands behind the last one. -/
def headQ (c s : ByteArray) : List V := headG (byt0 c) [] s.data.toList
def lastQ (c s : ByteArray) : ByteArray := ⟨(lastG (byt0 c) [] s.data.toList).toArray⟩
def splitQ (c s : ByteArray) : List V := headQ c s ++ [.sc (.string (lastQ c s))]
def cntQ (c s : ByteArray) : Int := (((headQ c s).length : Nat) : Int)

theorem headL_consG (c : UInt8) (cur : List UInt8) (b : UInt8) (r : List UInt8) : headG c cur (b :: r) = bif b == c then strV cur :: headG c [] r else headG c (cur ++ [b]) r := rfl
theorem lastL_consG (c : UInt8) (cur : List UInt8) (b : UInt8) (r : List UInt8) : lastG c cur (b :: r) = bif b == c then lastG c [] r else lastG c (cur ++ [b]) r := rfl
theorem head_negG (c : UInt8) : ∀ (l cur : List UInt8), Lib.indexByte l c < 0 → headG c cur l = [] ∧ lastG c cur l = cur ++ l
  | [], cur, _ => ⟨rfl, (List.append_nil cur).symm⟩
  | b :: r, cur, h => by
    have hg := Lib.indexByte_ge r c
    unfold Lib.indexByte at h
    cases hb : b == c with
    | true => rw [hb] at h; simp at h
    | false =>
      rw [hb] at h
      simp only [Bool.false_eq_true, if_false, beq_iff_eq] at h
      have hr : Lib.indexByte r c < 0 := by
        by_cases hm : Lib.indexByte r c = -1
        · omega
        · rw [if_neg hm] at h; omega
      obtain ⟨h1, h2⟩ := head_negG c r (cur ++ [b]) hr
      rw [headL_consG c, lastL_consG c, hb, cond_false, cond_false, h1, h2]
      simp
theorem head_idxG (c : UInt8) : ∀ (l cur : List UInt8) (m : Nat), Lib.indexByte l c = (m : Int) → headG c cur l = strV (cur ++ l.take m) :: headG c [] (l.drop (m + 1)) ∧ lastG c cur l = lastG c [] (l.drop (m + 1)) ∧ m < l.length
  | [], cur, m, h => by simp [Lib.indexByte] at h
  | b :: r, cur, m, h => by
    have hg := Lib.indexByte_ge r c
    unfold Lib.indexByte at h
    cases hb : b == c with
    | true =>
      rw [hb] at h
      simp only [if_true] at h
      obtain rfl : m = 0 := by omega
      rw [headL_consG c, lastL_consG c, hb]
      simp
    | false =>
      rw [hb] at h
      simp only [Bool.false_eq_true, if_false, beq_iff_eq] at h
      by_cases hm : Lib.indexByte r c = -1
      · rw [if_pos hm] at h; omega
      · rw [if_neg hm] at h
        obtain ⟨k, rfl⟩ : ∃ k, m = k + 1 := ⟨m - 1, by omega⟩
        obtain ⟨h1, h2, h3⟩ := head_idxG c r (cur ++ [b]) k (by omega)
        rw [headL_consG c, lastL_consG c, hb, cond_false, cond_false, h1, h2]
        refine ⟨by simp, by simp, by simp; omega⟩
theorem head_lenG (c : UInt8) : ∀ (l cur : List UInt8), (headG c cur l).length = Lib.countByte l c
  | [], cur => rfl
  | b :: r, cur => by
    have h1 := head_lenG c r []
    have h2 := head_lenG c r (cur ++ [b])
    unfold Lib.countByte at *
    rw [headL_consG c, List.count_cons]
    cases hb : b == c with
    | true => simp [h1]
    | false => simp [h2]
theorem head_posG (c : UInt8) (l cur : List UInt8) (h : 0 < (headG c cur l).length) : ∃ m : Nat, Lib.indexByte l c = (m : Int) := by
  rcases (show Lib.indexByte l c < 0 ∨ 0 ≤ Lib.indexByte l c by omega) with h' | h'
  · rw [(head_negG c l cur h').1] at h; simp at h
  · exact ⟨(Lib.indexByte l c).toNat, by omega⟩
theorem last_leG (c : UInt8) : ∀ (l cur : List UInt8), (lastG c cur l).length ≤ cur.length + l.length
  | [], cur => by simp [lastG]
  | b :: r, cur => by
    have h1 := last_leG c r []
    have h2 := last_leG c r (cur ++ [b])
    rw [lastL_consG c]
    cases b == c
    · simp only [cond_false, List.length_cons, List.length_append, List.length_nil] at *; omega
    · simp only [cond_true, List.length_cons, List.length_nil] at *; omega
theorem head_leG (c : UInt8) (l cur : List UInt8) : (headG c cur l).length ≤ l.length := by
  rw [head_lenG c]; exact List.count_le_length
theorem headL_strG (c : UInt8) : ∀ (l cur : List UInt8), (headG c cur l).all V.isStr = true
  | [], _ => rfl
  | b :: r, cur => by
    rw [headL_consG c]
    cases b == c
    · exact headL_strG c r _
    · exact headL_strG c r _
theorem headL_shortG (c : UInt8) : ∀ (l cur : List UInt8), cur.length + l.length ≤ 1000000000 → (headG c cur l).all shortS = true
  | [], _, _ => rfl
  | b :: r, cur, h => by
    rw [List.length_cons] at h
    rw [headL_consG c]
    cases b == c
    · exact headL_shortG c r _ (by simp only [List.length_append, List.length_cons, List.length_nil]; omega)
    · simp only [cond_true, List.all_cons, headL_shortG c r [] (by simp only [List.length_nil]; omega), Bool.and_true]
      unfold shortS strV
      have : (⟨cur.toArray⟩ : ByteArray).size = cur.length := by rw [bl_size]
      simp only [V.isStr, V.strOf, this, Bool.true_and, decide_eq_true_eq]
      omega
theorem lastQ_size (c s : ByteArray) : (lastQ c s).size = (lastG (byt0 c) [] s.data.toList).length := by rw [bl_size]; rfl
theorem lastQ_le (c s : ByteArray) : (lastQ c s).size ≤ s.size := by
  have := last_leG (byt0 c) s.data.toList []
  rw [lastQ_size, bl_size s]
  simpa using this
theorem headQ_le (c s : ByteArray) : (headQ c s).length ≤ s.size := by rw [bl_size s]; exact head_leG _ _ _
theorem idx_lenQ (c s : ByteArray) : ((headQ c s).length = 0 → idxS s c < 0) ∧ (0 < (headQ c s).length → ∃ m : Nat, idxS s c = (m : Int) ∧ m < s.size ∧ headQ c s = strV (s.data.toList.take m) :: headQ c (s.extract (m + 1) s.size) ∧ lastQ c s = lastQ c (s.extract (m + 1) s.size)) := by
  have hd : ∀ m : Nat, (s.extract (m + 1) s.size).data.toList = s.data.toList.drop (m + 1) := by
    intro m
    rw [bl_extract, List.take_of_length_le (by rw [bl_size]; exact Nat.le_refl _)]
  have hx : idxS s c = Lib.indexByte s.data.toList (byt0 c) := rfl
  constructor
  · intro h
    rw [hx]
    rcases (show Lib.indexByte s.data.toList (byt0 c) < 0 ∨ 0 ≤ Lib.indexByte s.data.toList (byt0 c) by omega) with h' | h'
    · exact h'
    · obtain ⟨h1, _, _⟩ := head_idxG (byt0 c) s.data.toList [] (Lib.indexByte s.data.toList (byt0 c)).toNat (by omega)
      unfold headQ at h
      rw [h1] at h
      cases h
  · intro h
    obtain ⟨m, hm⟩ := head_posG (byt0 c) s.data.toList [] h
    obtain ⟨h1, h2, h3⟩ := head_idxG (byt0 c) s.data.toList [] m hm
    refine ⟨m, by rw [hx]; exact hm, by rw [bl_size]; exact h3, ?_, ?_⟩
    · unfold headQ
      rw [h1, hd]
      rfl
    · unfold lastQ
      rw [h2, hd]
theorem last_negQ (c s : ByteArray) (h : (headQ c s).length = 0) : headQ c s = [] ∧ lastQ c s = s := by
  have h1 : Lib.indexByte s.data.toList (byt0 c) < 0 := (idx_lenQ c s).1 h
  obtain ⟨h2, h3⟩ := head_negG (byt0 c) s.data.toList [] h1
  refine ⟨h2, ba_ext ?_⟩
  unfold lastQ
  rw [h3]
  simp
theorem cntB_one {c : ByteArray} (h : one1 c = true) (s : ByteArray) : cntB s c = (((headQ c s).length : Nat) : Int) := by
  unfold one1 at h
  split at h
  · next b hb =>
    unfold headQ byt0 cntB
    rw [hb, head_lenG]
  · cases h
theorem one1_size {c : ByteArray} (h : one1 c = true) : c.size = 1 := by
  unfold one1 at h
  split at h
  · next b hb => rw [bl_size, hb]; rfl
  · cases h
theorem headG_nl : ∀ (l cur : List UInt8), headG 10 cur l = headL cur l ∧ lastG 10 cur l = lastL cur l
  | [], cur => ⟨rfl, rfl⟩
  | b :: r, cur => by
    obtain ⟨h1, h2⟩ := headG_nl r []
    obtain ⟨h3, h4⟩ := headG_nl r (cur ++ [b])
    rw [headL_consG, lastL_consG, headL_cons, lastL_cons, h1, h2, h3, h4]
    exact ⟨rfl, rfl⟩
theorem splitQ_nl (s : ByteArray) : splitQ ⟨#[10]⟩ s = splitV s := by
  obtain ⟨h1, h2⟩ := headG_nl s.data.toList []
  unfold splitQ splitV headQ lastQ headP lastP
  show headG 10 [] s.data.toList ++ [.sc (.string ⟨(lastG 10 [] s.data.toList).toArray⟩)] = _
  rw [h1, h2]
theorem idxS_nl (s : ByteArray) : idxS s ⟨#[10]⟩ = idxB s 10 := rfl
/-! ### what is taken -/
def hasS (s c : ByteArray) : Bool := decide (idxS s c ≥ 0)
def rgI (n a b : Int) : Bool := decide (n ≥ a) && ((b == 0) || decide (n ≤ b))
def okR : List V → Bool
  | [] => true
  | [_] => false
  | x :: y :: r => (x.isInt .i64 && y.isInt .i64) && okR r
def anyR (n : Int) : List V → Bool
  | x :: y :: r => rgI n x.intOf y.intOf || anyR n r
  | _ => false
def fstR (n : Int) : List V → Nat
  | x :: y :: r => bif rgI n x.intOf y.intOf then 0 else fstR n r + 1
  | _ => 0
def idxR (n : Int) (l : List V) : Int := bif anyR n l then ((fstR n l : Nat) : Int) else -1
def tkR (l : List V) (c : Bool) (n : Int) : Bool := !((anyR n l) == c)
def rowBad (a b : Int) : Bool := !(decide (a ≥ 1) && decide (a ≤ 4096)) || ((b != 0) && !(decide (b ≥ a) && decide (b ≤ 4096)))
def rowsBad : List V → Bool
  | x :: y :: r => rowBad x.intOf y.intOf || rowsBad r
  | _ => false
def formBad (o0 : Bool) (o3 o5 : ByteArray) : Bool :=
  (o0 && ((((o3.size : Nat) : Int) != 1) || strEq o3 ⟨#[10]⟩)) || ((!o0 && !strEq o3 ⟨#[]⟩) || (hasB o5 10 || decide (((o5.size : Nat) : Int) > 4096)))
def cutE (o0 : Bool) (o1 : List V) (o3 o5 : ByteArray) : Int :=
  bif ((lenE 2 o1.length : Nat) : Int) == 0 then 23 else bif decide (((lenE 2 o1.length : Nat) : Int) > 64) then 2 else bif rowsBad o1 then 3 else bif formBad o0 o3 o5 then 5 else 0
def bytF (l : List V) (c : Bool) (bt line : ByteArray) : Nat → Nat → Bool → ByteArray
  | 0, _, _ => ⟨#[]⟩
  | k + 1, i, sm => bif tkR l c ((i + 1 : Nat) : Int) then ((bif sm && !tkR l c ((i : Nat) : Int) then bt else ⟨#[]⟩) ++ line.extract i (i + 1)) ++ bytF l c bt line k (i + 1) true else bytF l c bt line k (i + 1) sm
def bytB (l : List V) (c : Bool) (bt line : ByteArray) : ByteArray := bytF l c bt line line.size 0 false
def fldB (line : ByteArray) (l : List V) (c : Bool) (bt : ByteArray) : Nat → Bool → List V → ByteArray
  | i, sm, x :: y :: r => bif tkR l c ((i + 1 : Nat) : Int) then ((bif sm then bt else ⟨#[]⟩) ++ line.extract x.intOf.toNat y.intOf.toNat) ++ fldB line l c bt (i + 1) true r else fldB line l c bt (i + 1) sm r
  | _, _, _ => ⟨#[]⟩
def fldW (l : List V) (c : Bool) : Nat → List V → List V
  | _, [] => []
  | i, x :: r => bif tkR l c ((i + 1 : Nat) : Int) then .sc (.string x.strOf) :: fldW l c (i + 1) r else fldW l c (i + 1) r
def in0 (o3 line : ByteArray) : Bool := hasB line (((o3.data.getD 0 0).toNat : Nat) : Int)
def cutS (o0 : Bool) (o1 : List V) (o2 : Bool) (o3 o5 line : ByteArray) : ByteArray := bif o0 then (bif in0 o3 line then fldB line o1 o2 o5 0 false (fieldsV line o3) else line) else bytB o1 o2 o5 line
def cutK (o0 : Bool) (o3 : ByteArray) (o4 : Bool) (line : ByteArray) : Bool := bif o0 then (bif in0 o3 line then true else !o4) else true
def cutsV (o0 : Bool) (o1 : List V) (o2 : Bool) (o3 : ByteArray) (o4 : Bool) (o5 : ByteArray) : List V → List V
  | [] => []
  | x :: r => bif cutK o0 o3 o4 x.strOf then .sc (.string (cutS o0 o1 o2 o3 o5 x.strOf)) :: cutsV o0 o1 o2 o3 o4 o5 r else cutsV o0 o1 o2 o3 o4 o5 r
def cttE (o0 : Bool) (o1 : List V) (o3 o5 s : ByteArray) : Int := bif cutE o0 o1 o3 o5 != 0 then cutE o0 o1 o3 o5 else bif largeB s then 2 else 0
def cttS (o0 : Bool) (o1 : List V) (o2 : Bool) (o3 : ByteArray) (o4 : Bool) (o5 s : ByteArray) : ByteArray := bif cttE o0 o1 o3 o5 s == 0 then resB (cutsV o0 o1 o2 o3 o4 o5 (linesV s)) else ⟨#[]⟩
end Go.Ab
