/- Parts of a text, and its counts, in plain words. -/
import Derived.Test.YtbeemjiaohaamaaDoorZCM
import Derived.Test.YtbeemjiaohaamaaDoorP40
namespace Go.Ab
open Go Go.Proofs Go.RowKit
set_option linter.unusedSimpArgs false
set_option linter.unusedVariables false

def spaceI (c : Int) : Bool := (decide (c ≥ 9) && decide (c ≤ 13)) || (c == 32)
def spaceU (b : UInt8) : Bool := spaceI ((b.toNat : Nat) : Int)
def wordsL : Bool → List UInt8 → Nat
  | _, [] => 0
  | sp, b :: r => (bif sp && !spaceU b then 1 else 0) + wordsL (spaceU b) r
def longL : Nat → List UInt8 → Nat
  | _, [] => 0
  | lg, b :: r => bif b == 10 then longL 0 r else max (lg + 1) (longL (lg + 1) r)
def maxS : List V → Nat
  | [] => 0
  | x :: l => max x.strOf.size (maxS l)
def max0 (x : Int) : Int := bif decide ((0 : Int) > x) then 0 else x
def minI (a b : Int) : Int := bif decide (a < b) then a else b
def partF (k n size : Int) : Int := bif k == 1 then 0 else bif k == 2 then 0 else bif k == 3 then max0 (IntKind.wrap .i64 (size - n)) else minI size (max0 (IntKind.wrap .i64 (n - 1)))
def partT (k n size : Int) : Int := bif k == 1 then minI size n else bif k == 2 then max0 (IntKind.wrap .i64 (size - n)) else size
def headNL : List UInt8 → List UInt8 → List V
  | _, [] => []
  | cur, b :: r => bif b == 10 then strV (cur ++ [b]) :: headNL [] r else headNL (cur ++ [b]) r
/-- The lines that end in a line feed, with it. -/
def headN (s : ByteArray) : List V := headNL [] s.data.toList
def headW (s : ByteArray) (v : Int) : List V := bif v == 0 then headP s else headN s
def splitW (s : ByteArray) (v : Int) : List V := headW s v ++ [.sc (.string (lastP s))]
def unitsL : List UInt8 → List UInt8 → List (List UInt8)
  | cur, [] => if cur = [] then [] else [cur]
  | cur, b :: r => bif b == 10 then (cur ++ [b]) :: unitsL [] r else unitsL (cur ++ [b]) r
def unitsN (s : ByteArray) : List (List UInt8) := unitsL [] s.data.toList
def unitsV (s : ByteArray) : List V := (unitsN s).map strV
def begL : Bool → Bool → Nat → List UInt8 → List V
  | _, _, _, [] => []
  | al, fst, i, b :: r => (bif al || fst then [.sc (.int .i64 ((i : Nat) : Int))] else []) ++ begL al (b == 10) (i + 1) r
def begV (s : ByteArray) (al : Bool) : List V := begL al true 0 s.data.toList
def placeI (l : List V) (s : ByteArray) (k : Int) : Int :=
  bif decide (max0 k ≥ ((l.length : Nat) : Int)) then ((s.size : Nat) : Int) else (nthV l (max0 k).toNat).intOf
def partsB (s : ByteArray) (k : Int) (al : Bool) (n : Int) : ByteArray :=
  bif al then s.extract (partF k n ((s.size : Nat) : Int)).toNat (partT k n ((s.size : Nat) : Int)).toNat
  else joinB (((unitsV s).drop (partF k n (((unitsV s).length : Nat) : Int)).toNat).take ((partT k n (((unitsV s).length : Nat) : Int)).toNat - (partF k n (((unitsV s).length : Nat) : Int)).toNat)) ⟨#[]⟩
def partE (s : ByteArray) (k n : Int) : Int := bif !(decide (k ≥ 1) && decide (k ≤ 4)) then 4 else bif !(decide (n ≥ 0) && decide (n ≤ 65536)) then 3 else bif largeB s then 2 else 0
def partS (s : ByteArray) (k : Int) (al : Bool) (n : Int) : ByteArray := bif partE s k n == 0 then partsB s k al n else ⟨#[]⟩

/-! ### plain laws -/
theorem max0_eq (x : Int) : max0 x = max 0 x := by
  unfold max0
  by_cases h : (0 : Int) > x
  · rw [dec_true h, cond_true]; omega
  · rw [dec_false h, cond_false]; omega
theorem minI_eq (a b : Int) : minI a b = min a b := by
  unfold minI
  by_cases h : a < b
  · rw [dec_true h, cond_true]; omega
  · rw [dec_false h, cond_false]; omega
theorem part_bounds {k n size : Int} (k1 : 1 ≤ k) (k2 : k ≤ 4) (n1 : 0 ≤ n) (n2 : n ≤ 65536) (s1 : 0 ≤ size) (s2 : size ≤ 1000000) :
    0 ≤ partF k n size ∧ partF k n size ≤ partT k n size ∧ partT k n size ≤ size := by
  unfold partF partT
  rw [wrap_id (n := size - n) (by omega) (by omega), wrap_id (n := n - 1) (by omega) (by omega), max0_eq, max0_eq, minI_eq, minI_eq]
  cases k == 1 <;> cases k == 2 <;> cases k == 3 <;> simp only [cond_true, cond_false] <;> omega
theorem headNL_cons (cur : List UInt8) (b : UInt8) (r : List UInt8) : headNL cur (b :: r) = bif b == 10 then strV (cur ++ [b]) :: headNL [] r else headNL (cur ++ [b]) r := rfl
theorem headN_neg : ∀ (l cur : List UInt8), Lib.indexByte l 10 < 0 → headNL cur l = []
  | [], cur, _ => rfl
  | b :: r, cur, h => by
    have hg := Lib.indexByte_ge r 10
    unfold Lib.indexByte at h
    cases hb : b == 10 with
    | true => rw [hb] at h; simp at h
    | false =>
      rw [hb] at h
      simp only [Bool.false_eq_true, if_false, beq_iff_eq] at h
      have hr : Lib.indexByte r 10 < 0 := by
        by_cases hm : Lib.indexByte r 10 = -1
        · omega
        · rw [if_neg hm] at h; omega
      rw [headNL_cons, hb, cond_false, headN_neg r (cur ++ [b]) hr]
theorem headN_idx : ∀ (l cur : List UInt8) (m : Nat), Lib.indexByte l 10 = (m : Int) → headNL cur l = strV (cur ++ l.take (m + 1)) :: headNL [] (l.drop (m + 1))
  | [], cur, m, h => by simp [Lib.indexByte] at h
  | b :: r, cur, m, h => by
    have hg := Lib.indexByte_ge r 10
    unfold Lib.indexByte at h
    cases hb : b == 10 with
    | true =>
      rw [hb] at h
      simp only [if_true] at h
      obtain rfl : m = 0 := by omega
      rw [headNL_cons, hb]
      simp
    | false =>
      rw [hb] at h
      simp only [Bool.false_eq_true, if_false, beq_iff_eq] at h
      by_cases hm : Lib.indexByte r 10 = -1
      · rw [if_pos hm] at h; omega
      · rw [if_neg hm] at h
        obtain ⟨k, rfl⟩ : ∃ k, m = k + 1 := ⟨m - 1, by omega⟩
        rw [headNL_cons, hb, cond_false, headN_idx r (cur ++ [b]) k (by omega)]
        simp
theorem headN_len : ∀ (l cur : List UInt8), (headNL cur l).length = (headL cur l).length
  | [], _ => rfl
  | b :: r, cur => by
    have h1 := headN_len r []
    have h2 := headN_len r (cur ++ [b])
    rw [headNL_cons, headL_cons]
    cases b == 10
    · exact h2
    · simp [h1]
theorem units_head : ∀ (l cur : List UInt8), (unitsL cur l).map strV = headNL cur l ++ (if lastL cur l = [] then [] else [strV (lastL cur l)])
  | [], cur => by
    unfold unitsL headNL lastL
    by_cases h : cur = [] <;> simp [h]
  | b :: r, cur => by
    have h1 := units_head r []
    have h2 := units_head r (cur ++ [b])
    rw [headNL_cons, lastL_cons, unitsL]
    cases b == 10
    · exact h2
    · simp only [cond_true, List.map_cons, h1, List.cons_append]
theorem unitsV_eq (s : ByteArray) : unitsV s = bif (lastP s).size == 0 then headN s else headN s ++ [.sc (.string (lastP s))] := by
  unfold unitsV unitsN
  rw [units_head, lastP_size]
  unfold headN
  cases h : lastL [] s.data.toList with
  | nil => simp
  | cons x l =>
    have : ((x :: l).length == 0) = false := rfl
    rw [this, cond_false]
    unfold lastP
    rw [h]
    simp [strV]
theorem units_flat : ∀ (l cur : List UInt8), (unitsL cur l).flatten = cur ++ l
  | [], cur => by unfold unitsL; by_cases h : cur = [] <;> simp [h]
  | b :: r, cur => by
    have h1 := units_flat r []
    have h2 := units_flat r (cur ++ [b])
    rw [unitsL]
    cases b == 10
    · simpa using h2
    · simp only [cond_true, List.flatten_cons, h1]; simp
theorem units_ne : ∀ (l cur : List UInt8), cur ≠ [] → unitsL cur l ≠ []
  | [], cur, h => by unfold unitsL; rw [if_neg h]; simp
  | b :: r, cur, h => by
    rw [unitsL]
    cases b == 10
    · exact units_ne r _ (by simp)
    · simp
def offs : Nat → List (List UInt8) → List V
  | _, [] => []
  | j, u :: us => .sc (.int .i64 ((j : Nat) : Int)) :: offs (j + u.length) us
theorem beg_offs : ∀ (l : List UInt8), (∀ (j : Nat) (cur : List UInt8), cur ≠ [] → begL false false (j + cur.length) l = (offs j (unitsL cur l)).tail) ∧ (∀ j : Nat, begL false true j l = offs j (unitsL [] l))
  | [] => by
    refine ⟨fun j cur h => ?_, fun j => rfl⟩
    unfold unitsL begL
    rw [if_neg h]; rfl
  | b :: r => by
    obtain ⟨h1, h2⟩ := beg_offs r
    constructor
    · intro j cur h
      rw [begL, unitsL]
      cases hb : b == 10 with
      | true =>
        rw [h2]
        simp only [Bool.or_self, cond_false, cond_true, List.nil_append]
        rw [offs, List.tail_cons, List.length_append]; rfl
      | false =>
        have := h1 j (cur ++ [b]) (by simp)
        rw [List.length_append, ← Nat.add_assoc] at this
        exact this
    · intro j
      rw [begL, unitsL]
      cases hb : b == 10 with
      | true => rw [h2]; rfl
      | false =>
        have := h1 j [b] (by simp)
        simp only [Bool.or_true, cond_true, cond_false, List.nil_append]
        rw [show j + 1 = j + [b].length from rfl, this]
        cases hu : unitsL [b] r with
        | nil => exact absurd hu (units_ne r [b] (by simp))
        | cons u us => rfl
theorem offs_len : ∀ (us : List (List UInt8)) (j : Nat), (offs j us).length = us.length
  | [], _ => rfl
  | u :: us, j => by rw [offs, List.length_cons, offs_len us, List.length_cons]
theorem offs_nth : ∀ (us : List (List UInt8)) (j k : Nat), k < us.length → nthV (offs j us) k = .sc (.int .i64 ((j + (us.take k).flatten.length : Nat) : Int))
  | [], _, _, h => by simp at h
  | u :: us, j, 0, _ => by rw [offs]; rfl
  | u :: us, j, k + 1, h => by
    rw [offs]
    have := offs_nth us (j + u.length) k (by simpa using h)
    show nthV (offs (j + u.length) us) k = _
    rw [this, List.take_succ_cons, List.flatten_cons, List.length_append, Nat.add_assoc]
theorem offs_int : ∀ (us : List (List UInt8)) (j : Nat), (offs j us).all (V.isInt .i64) = true
  | [], _ => rfl
  | u :: us, j => by rw [offs, List.all_cons, offs_int us]; rfl
theorem begL_all : ∀ (l : List UInt8) (f : Bool) (j : Nat), begL true f j l = (List.range' j l.length).map fun (i : Nat) => V.sc (.int .i64 (i : Int))
  | [], _, _ => rfl
  | b :: r, f, j => by rw [begL, begL_all r _ (j + 1), List.length_cons, List.range'_succ]; rfl
theorem begV_lines (s : ByteArray) : begV s false = offs 0 (unitsN s) := (beg_offs s.data.toList).2 0
theorem begV_all (s : ByteArray) : begV s true = (List.range' 0 s.size).map fun (i : Nat) => V.sc (.int .i64 (i : Int)) := by
  unfold begV; rw [begL_all, ba_size]
theorem begV_int (s : ByteArray) (al : Bool) : (begV s al).all (V.isInt .i64) = true := by
  cases al
  · rw [begV_lines]; exact offs_int _ _
  · rw [begV_all, List.all_map, List.all_eq_true]; intro _ _; rfl
/-- The bytes ahead of the unit with a number. -/
def ahead (s : ByteArray) (al : Bool) (k : Nat) : Nat := bif al then min k s.size else ((unitsN s).take k).flatten.length
def many (s : ByteArray) (al : Bool) : Nat := bif al then s.size else (unitsV s).length
theorem begV_len (s : ByteArray) (al : Bool) : (begV s al).length = many s al := by
  cases al
  · rw [begV_lines, offs_len]; unfold many unitsV; rw [cond_false, List.length_map]
  · rw [begV_all, List.length_map, List.length_range']; rfl
theorem ahead_all {s : ByteArray} {al : Bool} {k : Nat} (h : many s al ≤ k) : ahead s al k = s.size := by
  unfold ahead many at *
  cases al
  · simp only [cond_false] at *
    unfold unitsV at h
    rw [List.length_map] at h
    unfold unitsN at *
    rw [List.take_of_length_le h, units_flat, List.nil_append, ba_size]
  · simp only [cond_true] at *; omega
theorem place_eq (s : ByteArray) (al : Bool) (k : Int) : placeI (begV s al) s k = ((ahead s al (max0 k).toNat : Nat) : Int) := by
  have hm := max0_eq k
  unfold placeI
  rw [begV_len]
  by_cases h : max0 k ≥ ((many s al : Nat) : Int)
  · rw [dec_true h, cond_true, ahead_all (by omega)]
  · rw [dec_false h, cond_false]
    have hk : (max0 k).toNat < many s al := by omega
    cases al
    · rw [begV_lines]
      unfold many unitsV at hk
      rw [cond_false, List.length_map] at hk
      rw [offs_nth _ _ _ hk, Nat.zero_add]; rfl
    · rw [begV_all]
      unfold many at hk
      rw [cond_true] at hk
      rw [nthV_lt (by rw [List.length_map, List.length_range']; exact hk), List.getElem_map, List.getElem_range']
      unfold ahead
      rw [cond_true, Nat.min_eq_left (by omega)]
      simp [V.intOf]
theorem ahead_mono (s : ByteArray) (al : Bool) {f t : Nat} (h : f ≤ t) : ahead s al f ≤ ahead s al t ∧ ahead s al t ≤ s.size := by
  unfold ahead
  cases al
  · simp only [cond_false]
    have e : (unitsN s).take t = (unitsN s).take f ++ ((unitsN s).drop f).take (t - f) := by
      rw [show t = f + (t - f) by omega, List.take_add, show f + (t - f) - f = t - f by omega]
    have e2 : ((unitsN s).take t).flatten.length + ((unitsN s).drop t).flatten.length = s.size := by
      rw [← List.length_append, ← List.flatten_append, List.take_append_drop]
      unfold unitsN
      rw [units_flat, List.nil_append, ba_size]
    rw [e] at e2 ⊢
    rw [List.flatten_append, List.length_append] at *
    omega
  · simp only [cond_true]; omega
theorem join_nil (l : List (List UInt8)) : Lib.join l [] = l.flatten := by
  cases l with
  | nil => rfl
  | cons x l =>
    rw [Lib.join_cons, Lib.joinTail, List.flatten_cons]
    simp
theorem joinB_units (us : List (List UInt8)) : joinB (us.map strV) ⟨#[]⟩ = ⟨us.flatten.toArray⟩ := by
  unfold joinB
  have e : (⟨#[]⟩ : ByteArray).data.toList = [] := rfl
  have e2 : ((us.map strV).map fun x => x.strOf.data.toList) = us := by
    rw [List.map_map]
    exact List.map_id'' (fun x => rfl) us
  rw [e, join_nil, e2]
theorem cut_units (s : ByteArray) {f t : Nat} (h : f ≤ t) : (⟨(((unitsN s).drop f).take (t - f)).flatten.toArray⟩ : ByteArray) = s.extract (ahead s false f) (ahead s false t) := by
  refine ba_ext ?_
  have e : (unitsN s).take t = (unitsN s).take f ++ ((unitsN s).drop f).take (t - f) := by
    rw [show t = f + (t - f) by omega, List.take_add, show f + (t - f) - f = t - f by omega]
  have e2 : s.data.toList = ((unitsN s).take t).flatten ++ ((unitsN s).drop t).flatten := by
    rw [← List.flatten_append, List.take_append_drop]
    unfold unitsN
    rw [units_flat, List.nil_append]
  rw [bl_extract]
  unfold ahead
  simp only [cond_false]
  rw [e2, List.take_left', e, List.flatten_append, List.drop_left']
  · rfl
  · rfl
theorem partsB_eq (s : ByteArray) {k n : Int} (al : Bool) (k1 : 1 ≤ k) (k2 : k ≤ 4) (n1 : 0 ≤ n) (n2 : n ≤ 65536) (hs : ((many s al : Nat) : Int) ≤ 1000000) :
    partsB s k al n = s.extract (ahead s al (partF k n ((many s al : Nat) : Int)).toNat) (ahead s al (partT k n ((many s al : Nat) : Int)).toNat) := by
  obtain ⟨b1, b2, b3⟩ := part_bounds (size := ((many s al : Nat) : Int)) k1 k2 n1 n2 (by omega) hs
  cases al
  · have hm : many s false = (unitsV s).length := rfl
    unfold partsB
    rw [hm] at b1 b2 b3 hs ⊢
    simp only [cond_false]
    rw [← cut_units s (show (partF k n (((unitsV s).length : Nat) : Int)).toNat ≤ (partT k n (((unitsV s).length : Nat) : Int)).toNat by omega)]
    unfold unitsV
    rw [← List.map_drop, ← List.map_take, joinB_units]
  · have hm : many s true = s.size := rfl
    unfold partsB ahead
    rw [hm] at b1 b2 b3 hs ⊢
    simp only [cond_true]
    rw [Nat.min_eq_left (by omega), Nat.min_eq_left (by omega)]
/-! ### counts -/
theorem ten_eq (b : UInt8) : ((((b.toNat : Nat) : Int)) == 10) = (b == 10) := by
  rw [Bool.eq_iff_iff, beq_iff_eq, beq_iff_eq, ← UInt8.toNat_inj]
  show _ ↔ b.toNat = 10
  omega
theorem long_max : ∀ (l cur : List UInt8), maxS (headL cur l ++ (if lastL cur l = [] then [] else [strV (lastL cur l)])) = max cur.length (longL cur.length l)
  | [], cur => by
    unfold headL lastL longL
    by_cases h : cur = []
    · simp [h, maxS]
    · rw [if_neg h]
      show max (⟨cur.toArray⟩ : ByteArray).size 0 = max cur.length 0
      rw [bl_size]
  | b :: r, cur => by
    have h1 := long_max r []
    have h2 := long_max r (cur ++ [b])
    rw [headL_cons, lastL_cons, longL]
    cases b == 10 with
    | true =>
      simp only [cond_true, List.cons_append, maxS]
      have e : (strV cur).strOf.size = cur.length := by show (⟨cur.toArray⟩ : ByteArray).size = _; rw [bl_size]
      rw [show ([] : List UInt8).length = 0 from rfl, Nat.zero_max] at h1
      rw [e, h1]
    | false =>
      simp only [cond_false]
      rw [List.length_append] at h2
      have : [b].length = 1 := rfl
      rw [this] at h2
      rw [h2]
      omega
theorem long_eq (s : ByteArray) : maxS (linesV s) = longL 0 s.data.toList := by
  have h := long_max s.data.toList []
  have e : linesV s = headL [] s.data.toList ++ (if lastL [] s.data.toList = [] then [] else [strV (lastL [] s.data.toList)]) := by
    unfold linesV splitV
    rw [lastP_size]
    unfold headP
    cases hl : lastL [] s.data.toList with
    | nil => simp
    | cons x l =>
      have : ((x :: l).length == 0) = false := rfl
      rw [this, cond_false]
      unfold lastP
      rw [hl]
      simp [strV]
  rw [e, h]
  exact Nat.zero_max _
theorem words_take (sp : Bool) (l : List UInt8) : wordsL sp l ≤ l.length := by
  induction l generalizing sp with
  | nil => exact Nat.le_refl _
  | cons b r ih =>
    have := ih (spaceU b)
    rw [wordsL, List.length_cons]
    cases sp && !spaceU b
    · simp only [cond_false]; omega
    · simp only [cond_true]; omega
theorem long_le : ∀ (l : List UInt8) (lg : Nat), longL lg l ≤ lg + l.length
  | [], _ => Nat.zero_le _
  | b :: r, lg => by
    have h1 := long_le r 0
    have h2 := long_le r (lg + 1)
    rw [longL, List.length_cons]
    cases b == 10
    · simp only [cond_false]; omega
    · simp only [cond_true]; omega

end Go.Ab
