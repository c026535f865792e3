/- What is cut out of lines: plain laws. -/
import Derived.Test.YtbeemjiaohaamaaGreatDoorZCT
namespace Go.Ab
open Go Go.Proofs Go.RowKit
set_option linter.unusedSimpArgs false
set_option linter.unusedVariables false
theorem getD_at {s : ByteArray} {i : Nat} (h : i < s.data.toList.length) : s.data.getD i 0 = s.data.toList[i] := by
  rw [Array.getD_eq_getD_getElem?, ← Array.getElem?_toList, List.getElem?_eq_getElem h]
  rfl
theorem pair_at : ∀ (l : List V) (j : Nat), okR l = true → j < lenE 2 l.length → ∃ x y, nthV l (j * 2 + 0) = x ∧ nthV l (j * 2 + 1) = y ∧ l.drop (2 * j) = x :: y :: l.drop (2 * (j + 1)) ∧ x.isInt .i64 = true ∧ y.isInt .i64 = true
  | [], j, _, h => by simp [lenE] at h
  | [_], j, h, _ => by cases h
  | x :: y :: r, 0, h, _ => by
    unfold okR at h
    simp only [Bool.and_eq_true] at h
    exact ⟨x, y, rfl, rfl, rfl, h.1.1, h.1.2⟩
  | x :: y :: r, j + 1, h, hj => by
    unfold okR at h
    simp only [Bool.and_eq_true] at h
    have hj' : j < lenE 2 r.length := by
      have e : lenE 2 (x :: y :: r).length = (r.length + 2) / 2 := rfl
      have e2 : lenE 2 r.length = r.length / 2 := rfl
      rw [e] at hj
      rw [e2]
      omega
    obtain ⟨a, b, h1, h2, h3, h4, h5⟩ := pair_at r j h.2 hj'
    refine ⟨a, b, ?_, ?_, ?_, h4, h5⟩
    · rw [show (j + 1) * 2 + 0 = (j * 2 + 0) + 2 by omega]; exact h1
    · rw [show (j + 1) * 2 + 1 = (j * 2 + 1) + 2 by omega]; exact h2
    · rw [show 2 * (j + 1) = 2 * j + 2 by omega, show 2 * (j + 1 + 1) = 2 * (j + 1) + 2 by omega]; exact h3
theorem okR_even : ∀ l : List V, okR l = true → l.length = 2 * lenE 2 l.length
  | [], _ => rfl
  | [_], h => by cases h
  | x :: y :: r, h => by
    unfold okR at h
    simp only [Bool.and_eq_true] at h
    have := okR_even r h.2
    have e : lenE 2 (x :: y :: r).length = (r.length + 2) / 2 := rfl
    have e2 : lenE 2 r.length = r.length / 2 := rfl
    rw [e]; rw [e2] at this
    simp only [List.length_cons]
    omega
theorem pair_end {l : List V} {j : Nat} (h : okR l = true) (hj : lenE 2 l.length ≤ j) : l.drop (2 * j) = [] :=
  List.drop_of_length_le (by have := okR_even l h; omega)
theorem rowBad_eq (a b : Int) : rowBad a b = (decide (a < 1) || (decide (a > 4096) || ((b != 0) && (decide (b < a) || decide (b > 4096))))) := by
  unfold rowBad
  by_cases h1 : a < 1
  · rw [dec_true h1, dec_false (show ¬ a ≥ 1 by omega)]; rfl
  · rw [dec_false h1, dec_true (show a ≥ 1 by omega)]
    by_cases h2 : a > 4096
    · rw [dec_true h2, dec_false (show ¬ a ≤ 4096 by omega)]; rfl
    · rw [dec_false h2, dec_true (show a ≤ 4096 by omega)]
      by_cases h3 : b < a
      · rw [dec_true h3, dec_false (show ¬ b ≥ a by omega)]; rfl
      · rw [dec_false h3, dec_true (show b ≥ a by omega)]
        by_cases h4 : b > 4096
        · rw [dec_true h4, dec_false (show ¬ b ≤ 4096 by omega)]; rfl
        · rw [dec_false h4, dec_true (show b ≤ 4096 by omega)]; rfl
theorem u8_eq (b c : UInt8) : (((b.toNat : Nat) : Int) == ((c.toNat : Nat) : Int)) = (b == c) := by
  rw [Bool.eq_iff_iff, beq_iff_eq, beq_iff_eq]
  constructor
  · intro h
    exact UInt8.toNat_inj.1 (by omega)
  · rintro rfl; rfl
theorem one1_spec {c : ByteArray} (h : one1 c = true) : c = ⟨#[byt0 c]⟩ ∧ c.data.getD 0 0 = byt0 c := by
  unfold one1 at h
  split at h
  · next b hb =>
    have e : byt0 c = b := by unfold byt0; rw [hb]
    have hc : c = ⟨#[b]⟩ := ba_ext hb
    rw [e, hc]
    exact ⟨rfl, rfl⟩
  · cases h
theorem one1_ne {c : ByteArray} (h : one1 c = true) : strEq c ⟨#[]⟩ = false := by
  cases he : strEq c (⟨#[]⟩ : ByteArray) with
  | false => rfl
  | true =>
    rw [strEq_iff] at he
    rw [he] at h
    cases h
theorem idx_has (c : UInt8) : ∀ l : List UInt8, decide (Lib.indexByte l c ≥ 0) = l.any fun b => (((b.toNat : Nat) : Int) == ((c.toNat : Nat) : Int))
  | [] => rfl
  | b :: r => by
    have IH := idx_has c r
    have hg := Lib.indexByte_ge r c
    have hu : Lib.indexByte (b :: r) c = (if b == c then 0 else if Lib.indexByte r c == -1 then -1 else Lib.indexByte r c + 1) := rfl
    rw [List.any_cons, u8_eq, ← IH, hu]
    cases hb : b == c with
    | true => rfl
    | false =>
      simp only [Bool.false_eq_true, if_false, Bool.false_or, decide_eq_decide, beq_iff_eq]
      by_cases hm : Lib.indexByte r c = -1
      · rw [if_pos hm, hm]
      · rw [if_neg hm]; omega
theorem hasS_in {c : ByteArray} (h : one1 c = true) (s : ByteArray) : hasS s c = in0 c s := by
  unfold hasS in0 hasB idxS
  rw [(one1_spec h).2]
  exact idx_has _ _
theorem hasS_nl (s : ByteArray) : hasS s ⟨#[10]⟩ = hasB s 10 := hasS_in (c := ⟨#[10]⟩) rfl s

/-! ### fields -/
def pcs (line : ByteArray) : List V → List V
  | x :: y :: r => .sc (.string (line.extract x.intOf.toNat y.intOf.toNat)) :: pcs line r
  | _ => []
theorem okSp_R (n : Nat) : ∀ l : List V, okSp n l = true → okR l = true
  | [], _ => rfl
  | [_], h => by cases h
  | x :: y :: r, h => by
    unfold okSp at h
    simp only [Bool.and_eq_true] at h
    unfold okR
    rw [h.1.1, h.1.2.1, okSp_R n r h.2]; rfl
theorem pcs_app (line : ByteArray) : ∀ (a b : List V), okR a = true → pcs line (a ++ b) = pcs line a ++ pcs line b
  | [], b, _ => rfl
  | [_], b, h => by cases h
  | x :: y :: r, b, h => by
    unfold okR at h
    simp only [Bool.and_eq_true] at h
    show V.sc _ :: pcs line (r ++ b) = V.sc _ :: (pcs line r ++ pcs line b)
    rw [pcs_app line r b h.2]
theorem fld_pcs {line sep : ByteArray} (hs : one1 sep = true) : ∀ (k i fr : Nat), i + k = line.size → fr ≤ i →
    pcs line (fldF line sep k i fr).1 = headG (byt0 sep) ((line.data.toList.take i).drop fr) (line.data.toList.drop i) ∧ line.data.toList.drop (fldF line sep k i fr).2 = lastG (byt0 sep) ((line.data.toList.take i).drop fr) (line.data.toList.drop i)
  | 0, i, fr, h, hf => by
    have hl : line.data.toList.length ≤ i := by rw [← bl_size]; omega
    rw [List.drop_of_length_le hl, List.take_of_length_le hl]
    exact ⟨rfl, rfl⟩
  | k + 1, i, fr, h, hf => by
    have hi : i < line.data.toList.length := by rw [← bl_size]; omega
    have hc : cutAt line sep i = (line.data.toList[i] == byt0 sep) := by
      unfold cutAt byteI
      rw [one1_ne hs, cond_false, getD_at hi, (one1_spec hs).2, u8_eq]
    have hx : nxF sep i = i + 1 := by unfold nxF; rw [one1_ne hs]; rfl
    obtain ⟨a1, a2⟩ := fld_pcs (line := line) hs k (i + 1) fr (by omega) (by omega)
    obtain ⟨b1, b2⟩ := fld_pcs (line := line) hs k (i + 1) (i + 1) (by omega) (by omega)
    have hcur : (line.data.toList.take (i + 1)).drop fr = (line.data.toList.take i).drop fr ++ [line.data.toList[i]] := by
      rw [List.take_succ_eq_append_getElem hi, List.drop_append_of_le_length (by rw [List.length_take]; omega)]
    have hnil : (line.data.toList.take (i + 1)).drop (i + 1) = [] := List.drop_of_length_le (by rw [List.length_take]; omega)
    rw [hcur] at a1 a2
    rw [hnil] at b1 b2
    rw [fldF, hc, hx, List.drop_eq_getElem_cons hi, headL_consG, lastL_consG]
    cases line.data.toList[i] == byt0 sep
    · exact ⟨a1, a2⟩
    · refine ⟨?_, b2⟩
      show V.sc (.string (line.extract fr i)) :: pcs line (fldF line sep k (i + 1) (i + 1)).1 = _
      rw [b1, strV_extract]
      rfl
theorem split_pcs {line sep : ByteArray} (hs : one1 sep = true) : pcs line (fieldsV line sep) = splitQ sep line := by
  obtain ⟨h1, h2⟩ := fld_pcs (line := line) hs line.size 0 0 (by omega) (Nat.le_refl _)
  obtain ⟨a1, _, _⟩ := fldF_ok line sep line.size line.size 0 0 (by omega) (Nat.le_refl _)
  unfold fieldsV
  rw [show fldC line sep = (fldF line sep line.size 0 0).1 from rfl, pcs_app line _ _ (okSp_R _ _ a1)]
  show pcs line (fldF line sep line.size 0 0).1 ++ [V.sc (.string (line.extract (fldF line sep line.size 0 0).2 line.size))] = _
  rw [h1]
  have : line.extract (fldF line sep line.size 0 0).2 line.size = lastQ sep line := by
    refine ba_ext ?_
    rw [bl_extract, List.take_of_length_le (by rw [← bl_size]; exact Nat.le_refl _), h2]
    rfl
  rw [this]
  rfl
def fldP (l : List V) (c : Bool) (bt : ByteArray) : Nat → Bool → List V → ByteArray
  | _, _, [] => ⟨#[]⟩
  | i, sm, x :: r => bif tkR l c ((i + 1 : Nat) : Int) then ((bif sm then bt else ⟨#[]⟩) ++ x.strOf) ++ fldP l c bt (i + 1) true r else fldP l c bt (i + 1) sm r
theorem fldB_P (line : ByteArray) (l : List V) (c : Bool) (bt : ByteArray) : ∀ (r : List V) (i : Nat) (sm : Bool), fldB line l c bt i sm r = fldP l c bt i sm (pcs line r)
  | [], i, sm => by simp [fldB, pcs, fldP]
  | [_], i, sm => by simp [fldB, pcs, fldP]
  | x :: y :: r, i, sm => by
    have h1 := fldB_P line l c bt r (i + 1) true
    have h2 := fldB_P line l c bt r (i + 1) sm
    rw [fldB, pcs, fldP, h1, h2]
    rfl
theorem fldP_join (l : List V) (c : Bool) (bt : ByteArray) : ∀ (r : List V) (i : Nat),
    (fldP l c bt i false r).data.toList = Lib.join ((fldW l c i r).map fun x => x.strOf.data.toList) bt.data.toList ∧ (fldP l c bt i true r).data.toList = Lib.joinTail bt.data.toList ((fldW l c i r).map fun x => x.strOf.data.toList)
  | [], i => ⟨rfl, rfl⟩
  | x :: r, i => by
    obtain ⟨h1, h2⟩ := fldP_join l c bt r (i + 1)
    rw [fldP, fldP, fldW]
    cases tkR l c ((i + 1 : Nat) : Int)
    · exact ⟨h1, h2⟩
    · simp only [cond_true, cond_false, List.map_cons]
      rw [ba_append, ba_append, ba_append, ba_append, h2, Lib.join_cons]
      refine ⟨rfl, ?_⟩
      simp [Lib.joinTail, V.strOf]
theorem cut_law {line sep : ByteArray} (hs : one1 sep = true) (l : List V) (c : Bool) (bt : ByteArray) : joinB (fldW l c 0 (splitQ sep line)) bt = fldB line l c bt 0 false (fieldsV line sep) := by
  rw [fldB_P, split_pcs hs]
  exact ba_ext (fldP_join l c bt (splitQ sep line) 0).1.symm
theorem fldW_ok (l : List V) (c : Bool) : ∀ (r : List V) (i : Nat), (fldW l c i r).length ≤ r.length ∧ (fldW l c i r).all V.isStr = true
  | [], i => ⟨Nat.le_refl _, rfl⟩
  | x :: r, i => by
    obtain ⟨h1, h2⟩ := fldW_ok l c r (i + 1)
    rw [fldW, List.length_cons]
    cases tkR l c ((i + 1 : Nat) : Int)
    · exact ⟨by rw [cond_false]; omega, h2⟩
    · rw [cond_true, List.length_cons, List.all_cons, h2]
      exact ⟨by omega, rfl⟩

/-! ### sizes -/
theorem headG_le (c : UInt8) (M : Nat) : ∀ (l cur : List UInt8), cur.length + l.length ≤ M → (headG c cur l).all (leS M) = true
  | [], _, _ => rfl
  | b :: r, cur, h => by
    rw [List.length_cons] at h
    rw [headL_consG]
    cases b == c
    · exact headG_le c M r _ (by simp only [List.length_append, List.length_cons, List.length_nil]; omega)
    · rw [cond_true, List.all_cons, headG_le c M r [] (by simp only [List.length_nil]; omega), Bool.and_true]
      have : (⟨cur.toArray⟩ : ByteArray).size = cur.length := by rw [bl_size]
      show (true && decide ((⟨cur.toArray⟩ : ByteArray).size ≤ M)) = true
      rw [this, dec_true (by omega)]; rfl
theorem splitQ_ok (c s : ByteArray) : (splitQ c s).all (leS s.size) = true ∧ (splitQ c s).length ≤ s.size + 1 := by
  have h1 := headG_le (byt0 c) s.size s.data.toList [] (by rw [← bl_size]; simp)
  have h2 := lastQ_le c s
  have h3 := headQ_le c s
  unfold splitQ
  refine ⟨?_, by simp only [List.length_append, List.length_cons, List.length_nil]; omega⟩
  rw [List.all_append]
  show ((headG (byt0 c) [] s.data.toList).all (leS s.size) && ((true && decide ((lastQ c s).size ≤ s.size)) && true)) = true
  rw [h1, dec_true h2]; rfl
theorem ba_none (x : ByteArray) (b : Bool) : (bif b then x else (⟨#[]⟩ : ByteArray)).size ≤ x.size := by
  cases b
  · exact Nat.zero_le _
  · exact Nat.le_refl _
theorem fldP_size (l : List V) (c : Bool) (bt : ByteArray) (M : Nat) : ∀ (r : List V) (i : Nat) (sm : Bool), r.all (leS M) = true → (fldP l c bt i sm r).size ≤ r.length * (bt.size + M)
  | [], _, _, _ => Nat.zero_le _
  | x :: r, i, sm, h => by
    rw [List.all_cons, Bool.and_eq_true] at h
    have h1 := fldP_size l c bt M r (i + 1) true h.2
    have h2 := fldP_size l c bt M r (i + 1) sm h.2
    have hx := (leS_spec h.1).2
    have hb := ba_none bt sm
    rw [fldP, List.length_cons, Nat.add_mul, Nat.one_mul]
    cases tkR l c ((i + 1 : Nat) : Int)
    · rw [cond_false]; omega
    · rw [cond_true, ba_size_append, ba_size_append]; omega
theorem ext_one {s : ByteArray} {i : Nat} (h : i < s.size) : s.extract i (i + 1) = ⟨#[s.data.getD i 0]⟩ := by
  have hi : i < s.data.toList.length := by rw [← bl_size]; exact h
  refine ba_ext ?_
  rw [bl_extract, getD_at hi, List.take_succ_eq_append_getElem hi, List.drop_append_of_le_length (by rw [List.length_take]; omega), List.drop_of_length_le (by rw [List.length_take]; omega)]
  rfl
theorem bytF_size (l : List V) (c : Bool) (bt line : ByteArray) : ∀ (k i : Nat) (sm : Bool), i + k = line.size → (bytF l c bt line k i sm).size ≤ k * (bt.size + 1)
  | 0, _, _, _ => Nat.zero_le _
  | k + 1, i, sm, h => by
    have h1 := bytF_size l c bt line k (i + 1) true (by omega)
    have h2 := bytF_size l c bt line k (i + 1) sm (by omega)
    have hb := ba_none bt (sm && !tkR l c ((i : Nat) : Int))
    have he : (line.extract i (i + 1)).size = 1 := by rw [ext_one (by omega)]; rfl
    rw [bytF, Nat.add_mul, Nat.one_mul]
    cases tkR l c ((i + 1 : Nat) : Int)
    · rw [cond_false]; omega
    · rw [cond_true, ba_size_append, ba_size_append]; omega
theorem cutS_size {o0 : Bool} {o3 o5 x : ByteArray} (o1 : List V) (o2 : Bool) (h1 : (!o0 || one1 o3) = true) (h5 : o5.size ≤ 5000) (hx : x.size ≤ 65536) : (cutS o0 o1 o2 o3 o5 x).size ≤ (x.size + 1) * 80000 := by
  have e : (x.size + 1) * 80000 = x.size * 80000 + 80000 := by rw [Nat.add_mul]
  unfold cutS
  cases o0
  · rw [cond_false]
    have := bytF_size o1 o2 o5 x x.size 0 false (by omega)
    have h2 : x.size * (o5.size + 1) ≤ x.size * 80000 := Nat.mul_le_mul_left _ (by omega)
    unfold bytB
    omega
  · cases in0 o3 x
    · rw [cond_true, cond_false]; omega
    · have ho : one1 o3 = true := h1
      rw [cond_true, cond_true, fldB_P, split_pcs ho]
      obtain ⟨a1, a2⟩ := splitQ_ok o3 x
      have h3 := fldP_size o1 o2 o5 x.size (splitQ o3 x) 0 false a1
      have h4 : (splitQ o3 x).length * (o5.size + x.size) ≤ (x.size + 1) * 80000 := Nat.mul_le_mul a2 (by omega)
      omega
theorem cuts_ok {o0 : Bool} {o3 o5 : ByteArray} (o1 : List V) (o2 o4 : Bool) (h1 : (!o0 || one1 o3) = true) (h5 : o5.size ≤ 5000) : ∀ l : List V, l.all (leS 65536) = true → (cutsV o0 o1 o2 o3 o4 o5 l).all V.isStr = true ∧ (cutsV o0 o1 o2 o3 o4 o5 l).length ≤ l.length ∧ (resB (cutsV o0 o1 o2 o3 o4 o5 l)).size ≤ 80001 * (resB l).size
  | [], _ => ⟨rfl, Nat.le_refl _, Nat.zero_le _⟩
  | x :: l, h => by
    rw [List.all_cons, Bool.and_eq_true] at h
    obtain ⟨a1, a2, a3⟩ := cuts_ok o1 o2 o4 h1 h5 l h.2
    have hs := cutS_size o1 o2 h1 h5 (leS_spec h.1).2
    have e10 : (⟨#[10]⟩ : ByteArray).size = 1 := rfl
    have er : (resB (x :: l)).size = x.strOf.size + 1 + (resB l).size := by rw [resB, ba_size_append, ba_size_append, e10]
    rw [cutsV, List.length_cons, er]
    cases cutK o0 o3 o4 x.strOf
    · exact ⟨a1, by rw [cond_false]; omega, by rw [cond_false]; omega⟩
    · rw [cond_true, List.all_cons, a1, List.length_cons, resB, ba_size_append, ba_size_append, e10]
      refine ⟨rfl, by omega, ?_⟩
      show (cutS o0 o1 o2 o3 o5 x.strOf).size + 1 + _ ≤ _
      omega
theorem res_head : ∀ (l cur : List UInt8), (resB (headL cur l)).size + (lastL cur l).length = cur.length + l.length
  | [], cur => by
    show 0 + cur.length = cur.length + 0
    omega
  | b :: r, cur => by
    have h1 := res_head r []
    have h2 := res_head r (cur ++ [b])
    rw [headL_cons, lastL_cons, List.length_cons]
    cases b == 10
    · rw [List.length_append, List.length_cons, List.length_nil] at h2
      rw [cond_false, cond_false]; omega
    · have e10 : (⟨#[10]⟩ : ByteArray).size = 1 := rfl
      have ec : (V.strOf (strV cur)).size = cur.length := by show (⟨cur.toArray⟩ : ByteArray).size = _; rw [bl_size]
      rw [List.length_nil] at h1
      rw [cond_true, cond_true, resB, ba_size_append, ba_size_append, e10, ec]; omega
theorem res_lines (s : ByteArray) : (resB (linesV s)).size ≤ s.size + 1 := by
  have h := res_head s.data.toList []
  rw [← bl_size, List.length_nil] at h
  have hp := lastP_size s
  unfold linesV splitV headP
  cases (lastP s).size == 0
  · have e10 : (⟨#[10]⟩ : ByteArray).size = 1 := rfl
    rw [cond_false, resB_app, ba_size_append]
    show _ + (resB [V.sc (.string (lastP s))]).size ≤ _
    rw [resB, ba_size_append, ba_size_append, e10]
    show _ + ((lastP s).size + 1 + 0) ≤ _
    omega
  · rw [cond_true]; omega
theorem cut_ok {o0 : Bool} {o3 o5 s : ByteArray} (o1 : List V) (o2 o4 : Bool) (h1 : (!o0 || one1 o3) = true) (h5 : o5.size ≤ 5000) (hl : largeB s = false) : (cutsV o0 o1 o2 o3 o4 o5 (linesV s)).all V.isStr = true ∧ (cutsV o0 o1 o2 o3 o4 o5 (linesV s)).length ≤ 1000000000 ∧ (resB (cutsV o0 o1 o2 o3 o4 o5 (linesV s))).size ≤ 100000000000 := by
  obtain ⟨a1, a2⟩ := large_no hl
  obtain ⟨b1, b2, b3⟩ := cuts_ok o1 o2 o4 h1 h5 (linesV s) (all_leS a1 (linesV_leS s))
  have hr := res_lines s
  exact ⟨b1, by omega, by omega⟩
theorem cutE_zero {o0 : Bool} {o1 : List V} {o3 o5 : ByteArray} (h : cutE o0 o1 o3 o5 = 0) : (!o0 || one1 o3) = true ∧ o5.size ≤ 5000 := by
  unfold cutE at h
  cases h1 : (((lenE 2 o1.length : Nat) : Int) == 0) with
  | true => rw [h1] at h; cases h
  | false =>
  cases h2 : decide (((lenE 2 o1.length : Nat) : Int) > 64) with
  | true => rw [h1, h2] at h; cases h
  | false =>
  cases h3 : rowsBad o1 with
  | true => rw [h1, h2, h3] at h; cases h
  | false =>
  cases h4 : formBad o0 o3 o5 with
  | true => rw [h1, h2, h3, h4] at h; cases h
  | false =>
  unfold formBad at h4
  simp only [Bool.or_eq_false_iff, decide_eq_false_iff_not, Bool.and_eq_false_iff, bne_eq_false_iff_eq] at h4
  obtain ⟨g1, g2, g3, g4⟩ := h4
  refine ⟨?_, by omega⟩
  cases o0 with
  | false => rfl
  | true =>
    rcases g1 with g | g
    · cases g
    · have hz : o3.data.toList.length = 1 := by rw [← bl_size]; omega
      show one1 o3 = true
      unfold one1
      match ho : o3.data.toList, hz with
      | [b], _ => rfl
theorem ext_le (E : ByteArray) (a b : Nat) : (E.extract a b).size ≤ E.size := by
  have hb := bl_size E
  rw [bl_size (E.extract a b), bl_extract, List.length_drop, List.length_take]; omega
theorem ba_zero0 {s : ByteArray} (h : s.size = 0) : s = ⟨#[]⟩ := ba_ext (by rw [bl_size] at h; exact List.eq_nil_of_length_eq_zero h)
theorem ba_asc (a b c : ByteArray) : (a ++ b) ++ c = a ++ (b ++ c) := ba_ext (by simp [ba_append])
theorem join_size {o3 o5 x : ByteArray} (o1 : List V) (o2 : Bool) (ho : one1 o3 = true) (h5 : o5.size ≤ 5000) (hx : x.size ≤ 65536) : (joinB (fldW o1 o2 0 (splitQ o3 x)) o5).size ≤ (x.size + 1) * 80000 := by
  rw [cut_law ho, fldB_P, split_pcs ho]
  obtain ⟨a1, a2⟩ := splitQ_ok o3 x
  exact Nat.le_trans (fldP_size o1 o2 o5 x.size (splitQ o3 x) 0 false a1) (Nat.mul_le_mul a2 (by omega))
theorem cttE_zero {o0 : Bool} {o1 : List V} {o3 o5 s : ByteArray} (h : cttE o0 o1 o3 o5 s = 0) : cutE o0 o1 o3 o5 = 0 ∧ largeB s = false := by
  unfold cttE at h
  cases hE : cutE o0 o1 o3 o5 != 0 with
  | true =>
    rw [hE, cond_true] at h
    rw [h] at hE; cases hE
  | false =>
    rw [hE, cond_false] at h
    cases hl : largeB s with
    | true => rw [hl] at h; cases h
    | false => exact ⟨by simpa using hE, rfl⟩
end Go.Ab
