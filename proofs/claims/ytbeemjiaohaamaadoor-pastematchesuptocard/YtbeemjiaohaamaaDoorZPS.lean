/- Texts side by side, in plain words. -/
import Derived.Test.YtbeemjiaohaamaaDoorZCM
import Derived.Test.YtbeemjiaohaamaaDoorP40
namespace Go.Ab
open Go Go.Proofs Go.RowKit
set_option linter.unusedSimpArgs false
set_option linter.unusedVariables false

def sepB (bt : ByteArray) (i : Nat) : ByteArray := bif decide (0 < i) && !strEq bt ⟨#[]⟩ then ⟨#[bt.data.getD ((i - 1) % bt.size) 0]⟩ else ⟨#[]⟩
def altF (bt : ByteArray) : Nat → List V → ByteArray
  | _, [] => ⟨#[]⟩
  | i, x :: l => (sepB bt i ++ x.strOf) ++ altF bt (i + 1) l
def altB (l : List V) (bt : ByteArray) : ByteArray := altF bt 0 l
def serV (l : List V) (bt : ByteArray) : List V := l.map fun x => .sc (.string (altB x.cellsOf bt))
def atS (x : V) (n : Int) : ByteArray := bif decide (n < ((x.cellsOf.length : Nat) : Int)) then (nthV x.cellsOf n.toNat).strOf else ⟨#[]⟩
def rowV (l : List V) (n : Int) : List V := l.map fun x => .sc (.string (atS x n))
def moreV (l : List V) (n : Int) : Bool := l.any fun x => decide (n < ((x.cellsOf.length : Nat) : Int))
def maxL : List V → Nat
  | [] => 0
  | x :: l => max x.cellsOf.length (maxL l)
def gridF (l : List V) (bt : ByteArray) : Nat → Nat → List V
  | 0, _ => []
  | k + 1, i => .sc (.string (altB (rowV l ((i : Nat) : Int)) bt)) :: gridF l bt k (i + 1)
def gridV (l : List V) (bt : ByteArray) : List V := gridF l bt (maxL l) 0
def okAlt (bt : ByteArray) (x : V) : Bool := x.isSl 1 && x.cellsOf.all V.isStr && decide (x.cellsOf.length ≤ 1000000000) && decide ((altB x.cellsOf bt).size ≤ 10000000000)
def okRowG (l : List V) (bt : ByteArray) (n : Nat) : Bool := decide ((altB (rowV l ((n : Nat) : Int)) bt).size ≤ 10000000000)
def okGrid (l : List V) (bt : ByteArray) : Bool := decide (maxL l ≤ 100000000) && (List.range (maxL l)).all (okRowG l bt)
def linesA (l : List V) : List V := l.map fun x => .sl 1 (linesV x.strOf)
def pasteE (l : List V) (bt : ByteArray) : Int := bif ((l.length : Nat) : Int) == 0 then 23 else bif decide (((l.length : Nat) : Int) > 16) then 2 else bif hasB bt 10 then 5 else bif decide (((bt.size : Nat) : Int) > 16) then 5 else bif l.any largeV then 2 else 0
def pasteV (l : List V) (bt : ByteArray) (serial : Bool) : List V := bif serial then serV (linesA l) bt else gridV (linesA l) bt
def pasteS (l : List V) (bt : ByteArray) (serial : Bool) : ByteArray := bif pasteE l bt == 0 then resB (pasteV l bt serial) else ⟨#[]⟩

/-! ### plain laws -/
theorem sep_le (bt : ByteArray) (i : Nat) : (sepB bt i).size ≤ 1 := by
  unfold sepB
  cases decide (0 < i) && !strEq bt ⟨#[]⟩
  · exact Nat.zero_le _
  · exact Nat.le_refl _
theorem alt_le (bt : ByteArray) (M : Nat) : ∀ (l : List V) (i : Nat), l.all (leS M) = true → (altF bt i l).size ≤ l.length * (M + 1)
  | [], _, _ => Nat.zero_le _
  | x :: l, i, h => by
    rw [List.all_cons, Bool.and_eq_true] at h
    have h1 := alt_le bt M l (i + 1) h.2
    have h2 := (leS_spec h.1).2
    have h3 := sep_le bt i
    rw [altF, ba_size_append, ba_size_append, List.length_cons, Nat.add_mul]
    omega
theorem row_len (l : List V) (n : Int) : (rowV l n).length = l.length := by unfold rowV; rw [List.length_map]
theorem row_str (l : List V) (n : Int) : (rowV l n).all V.isStr = true := by
  unfold rowV
  rw [List.all_map, List.all_eq_true]
  intro x _
  rfl
theorem at_leS {M : Nat} {x : V} (h : x.cellsOf.all (leS M) = true) (n : Int) (hn : 0 ≤ n) : (atS x n).size ≤ M := by
  unfold atS
  by_cases hd : n < ((x.cellsOf.length : Nat) : Int)
  · have hk : n.toNat < x.cellsOf.length := by omega
    rw [dec_true hd, cond_true, nthV_lt hk]
    exact (leS_spec (List.all_eq_true.1 h _ (List.getElem_mem hk))).2
  · rw [dec_false hd]; exact Nat.zero_le _
theorem row_leS {M : Nat} {l : List V} (h : l.all (fun x => x.cellsOf.all (leS M)) = true) (n : Int) (hn : 0 ≤ n) : (rowV l n).all (leS M) = true := by
  unfold rowV
  rw [List.all_map, List.all_eq_true]
  intro x hx
  have := at_leS (List.all_eq_true.1 h x hx) n hn
  show (true && decide ((atS x n).size ≤ M)) = true
  rw [dec_true this]; rfl
theorem more_max : ∀ (l : List V) (n : Nat), moreV l ((n : Nat) : Int) = decide (n < maxL l)
  | [], n => by simp [moreV, maxL]
  | x :: l, n => by
    have ih := more_max l n
    unfold moreV at *
    rw [List.any_cons, ih, maxL, Bool.eq_iff_iff, Bool.or_eq_true, decide_eq_true_eq, decide_eq_true_eq, decide_eq_true_eq]
    omega
theorem grid_len (l : List V) (bt : ByteArray) : ∀ (k i : Nat), (gridF l bt k i).length = k
  | 0, _ => rfl
  | k + 1, i => by rw [gridF, List.length_cons, grid_len l bt k (i + 1)]
theorem grid_leS {M : Nat} {l : List V} (bt : ByteArray) (h : l.all (fun x => x.cellsOf.all (leS M)) = true) : ∀ (k i : Nat), (gridF l bt k i).all (leS (l.length * (M + 1))) = true
  | 0, _ => rfl
  | k + 1, i => by
    have h1 := alt_le bt M (rowV l ((i : Nat) : Int)) 0 (row_leS h _ (by omega))
    rw [row_len] at h1
    rw [gridF, List.all_cons, grid_leS bt h k (i + 1), Bool.and_true]
    show (true && decide ((altB (rowV l ((i : Nat) : Int)) bt).size ≤ l.length * (M + 1))) = true
    rw [dec_true (show (altB (rowV l ((i : Nat) : Int)) bt).size ≤ l.length * (M + 1) from h1)]; rfl
theorem ser_leS {M N : Nat} {l : List V} (bt : ByteArray) (h : l.all (fun x => x.cellsOf.all (leS M) && decide (x.cellsOf.length ≤ N)) = true) : (serV l bt).all (leS (N * (M + 1))) = true := by
  unfold serV
  rw [List.all_map, List.all_eq_true]
  intro x hx
  have hx := List.all_eq_true.1 h x hx
  simp only [Bool.and_eq_true, decide_eq_true_eq] at hx
  have h1 := alt_le bt M x.cellsOf 0 hx.1
  have h2 : x.cellsOf.length * (M + 1) ≤ N * (M + 1) := Nat.mul_le_mul_right _ hx.2
  show (true && decide ((altB x.cellsOf bt).size ≤ N * (M + 1))) = true
  rw [dec_true (show (altB x.cellsOf bt).size ≤ N * (M + 1) from Nat.le_trans h1 h2)]; rfl
theorem linesA_len (l : List V) : (linesA l).length = l.length := by unfold linesA; rw [List.length_map]
theorem linesA_ok {l : List V} (h : l.any largeV = false) : (linesA l).all (fun x => x.cellsOf.all (leS 65536) && decide (x.cellsOf.length ≤ 4096)) = true := by
  unfold linesA
  rw [List.all_map, List.all_eq_true]
  intro x hx
  have hl : largeV x = false := by
    cases hb : largeV x with
    | false => rfl
    | true => rw [List.any_eq_true.2 ⟨x, hx, hb⟩] at h; cases h
  obtain ⟨h1, h2⟩ := large_no (s := x.strOf) hl
  show ((linesV x.strOf).all (leS 65536) && decide ((linesV x.strOf).length ≤ 4096)) = true
  rw [all_leS h1 (linesV_leS x.strOf), dec_true h2]; rfl
theorem linesA_ok' {l : List V} (h : l.any largeV = false) : (linesA l).all (fun x => x.cellsOf.all (leS 65536)) = true := by
  have := linesA_ok h
  rw [List.all_eq_true] at *
  intro x hx
  have := this x hx
  simp only [Bool.and_eq_true] at this
  exact this.1
theorem maxL_le : ∀ (l : List V) (N : Nat), l.all (fun x => x.cellsOf.all (leS 65536) && decide (x.cellsOf.length ≤ N)) = true → maxL l ≤ N
  | [], _, _ => Nat.zero_le _
  | x :: l, N, h => by
    rw [List.all_cons, Bool.and_eq_true, Bool.and_eq_true, decide_eq_true_eq] at h
    have := maxL_le l N h.2
    rw [maxL]
    omega
/-- What a paste is made of, where nothing is refused. -/
theorem paste_ok {l : List V} (bt : ByteArray) (h1 : l.length ≤ 16) (h2 : l.any largeV = false) (serial : Bool) :
    (linesA l).all okStrs = true ∧ (linesA l).all (okAlt bt) = true ∧ okGrid (linesA l) bt = true ∧ maxL (linesA l) ≤ 4096 ∧ (pasteV l bt serial).all V.isStr = true ∧ (pasteV l bt serial).length ≤ 1000000000 ∧ (resB (pasteV l bt serial)).size ≤ 100000000000 := by
  have a1 := linesA_ok h2
  have a2 := linesA_ok' h2
  have a3 := maxL_le _ _ a1
  have a4 := linesA_len l
  refine ⟨?_, ?_, ?_, a3, ?_⟩
  · rw [List.all_eq_true] at *
    intro x hx
    have := a1 x hx
    simp only [Bool.and_eq_true, decide_eq_true_eq] at this
    obtain ⟨y, _, rfl⟩ := List.mem_map.1 hx
    exact okStrs_sl (leS_str this.1) (by have h := this.2; simp only [V.cellsOf] at h; omega)
  · rw [List.all_eq_true] at *
    intro x hx
    have := a1 x hx
    simp only [Bool.and_eq_true, decide_eq_true_eq] at this
    have h3 := alt_le bt 65536 x.cellsOf 0 this.1
    have h4 : x.cellsOf.length * (65536 + 1) ≤ 4096 * (65536 + 1) := Nat.mul_le_mul_right _ this.2
    obtain ⟨y, _, rfl⟩ := List.mem_map.1 hx
    unfold okAlt
    rw [leS_str this.1, dec_true (show (V.sl 1 (linesV y.strOf)).cellsOf.length ≤ 1000000000 by omega), dec_true (show (altB (V.sl 1 (linesV y.strOf)).cellsOf bt).size ≤ 10000000000 by unfold altB; omega)]
    rfl
  · unfold okGrid
    rw [dec_true (show maxL (linesA l) ≤ 100000000 by omega), Bool.true_and, List.all_eq_true]
    intro n _
    have h3 := alt_le bt 65536 (rowV (linesA l) ((n : Nat) : Int)) 0 (row_leS a2 _ (by omega))
    rw [row_len, a4] at h3
    have h4 : l.length * (65536 + 1) ≤ 16 * (65536 + 1) := Nat.mul_le_mul_right _ h1
    exact dec_true (by unfold altB; omega)
  · unfold pasteV
    cases serial
    · have h3 := grid_leS bt a2 (maxL (linesA l)) 0
      have h4 := grid_len (linesA l) bt (maxL (linesA l)) 0
      have h5 := resB_le _ _ h3
      simp only [cond_false]
      unfold gridV
      refine ⟨leS_str h3, by omega, ?_⟩
      rw [h4] at h5
      have h6 : (linesA l).length ≤ 16 := by omega
      have h8 : (linesA l).length * (65536 + 1) + 1 ≤ 1048593 := by omega
      have h7 := Nat.mul_le_mul a3 h8
      omega
    · have h3 := ser_leS bt a1
      have h4 : (serV (linesA l) bt).length = l.length := by unfold serV; rw [List.length_map, a4]
      have h5 := resB_le _ _ h3
      simp only [cond_true]
      refine ⟨leS_str h3, by omega, ?_⟩
      rw [h4] at h5
      have h6 : l.length * (4096 * (65536 + 1) + 1) ≤ 16 * (4096 * (65536 + 1) + 1) := Nat.mul_le_mul_right _ h1
      omega
theorem ba_zero {s : ByteArray} (h : s.size = 0) : s = ⟨#[]⟩ := ba_ext (by rw [bl_size] at h; exact List.eq_nil_of_length_eq_zero h)
theorem okAlt_spec {bt : ByteArray} {x : V} (h : okAlt bt x = true) : V.isSl 1 x = true ∧ (x.cellsOf.all V.isStr && decide (x.cellsOf.length ≤ 1000000000) && decide ((altB x.cellsOf bt).size ≤ 10000000000)) = true := by
  unfold okAlt at h
  simp only [Bool.and_eq_true] at h ⊢
  exact ⟨h.1.1.1, ⟨h.1.1.2, h.1.2⟩, h.2⟩
theorem ser_drop {l : List V} {bt : ByteArray} {i : Nat} (h : i < l.length) : serV (l.drop i) bt = .sc (.string (altB l[i].cellsOf bt)) :: serV (l.drop (i + 1)) bt := by
  rw [List.drop_eq_getElem_cons h]; rfl
theorem okStrs_spec {x : V} (h : okStrs x = true) : V.isSl 1 x = true ∧ x.cellsOf.all V.isStr = true ∧ x.cellsOf.length ≤ 1000000000 := by
  unfold okStrs at h
  simp only [Bool.and_eq_true, decide_eq_true_eq] at h
  exact ⟨h.1.1, h.1.2, h.2⟩
theorem row_drop {l : List V} {n : Int} {i : Nat} (h : i < l.length) : rowV (l.drop i) n = .sc (.string (atS l[i] n)) :: rowV (l.drop (i + 1)) n := by
  rw [List.drop_eq_getElem_cons h]; rfl
theorem more_drop {l : List V} {n : Int} {i : Nat} (h : i < l.length) : moreV (l.drop i) n = (decide (n < ((l[i].cellsOf.length : Nat) : Int)) || moreV (l.drop (i + 1)) n) := by
  rw [List.drop_eq_getElem_cons h]; rfl
theorem okGrid_at {l : List V} {bt : ByteArray} (h : okGrid l bt = true) {i : Nat} (hi : i < maxL l) : (altB (rowV l ((i : Nat) : Int)) bt).size ≤ 10000000000 := by
  unfold okGrid at h
  simp only [Bool.and_eq_true, decide_eq_true_eq] at h
  exact of_decide_eq_true (List.all_eq_true.1 h.2 i (List.mem_range.2 hi))
theorem okGrid_max {l : List V} {bt : ByteArray} (h : okGrid l bt = true) : maxL l ≤ 100000000 := by
  unfold okGrid at h
  simp only [Bool.and_eq_true, decide_eq_true_eq] at h
  exact h.1

end Go.Ab
