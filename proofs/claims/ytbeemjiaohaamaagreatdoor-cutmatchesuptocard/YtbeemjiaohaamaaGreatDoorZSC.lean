/- Two lines are compared by an order, in plain words. -/
import Derived.Test.YtbeemjiaohaamaaGreatDoorZCM
namespace Go.Ab
open Go Go.Proofs Go.RowKit
set_option linter.unusedSimpArgs false
set_option linter.unusedVariables false

def ofL (l : List UInt8) : ByteArray := ⟨l.toArray⟩
def cmpII (x y : Int) : Int := bif decide (x < y) then -1 else bif decide (x > y) then 1 else 0
def blankI (c : Int) : Bool := (c == 9) || (c == 32)
def digI (c : Int) : Bool := decide (c ≥ 48) && decide (c ≤ 57)
def blankU (b : UInt8) : Bool := blankI ((b.toNat : Nat) : Int)
def digU (b : UInt8) : Bool := digI ((b.toNat : Nat) : Int)
def zeroU (b : UInt8) : Bool := ((b.toNat : Nat) : Int) == 48
def leadN (p : UInt8 → Bool) : List UInt8 → Nat
  | [] => 0
  | b :: r => bif p b then leadN p r + 1 else 0
def dropP (p : UInt8 → Bool) : List UInt8 → List UInt8
  | [] => []
  | b :: r => bif p b then dropP p r else b :: r
def digN (s : ByteArray) : Nat := leadN digU s.data.toList
def blkN (s : ByteArray) : Nat := leadN blankU s.data.toList
def scanD (s : ByteArray) (i : Int) : Int := ((i.toNat + leadN digU (s.data.toList.drop i.toNat) : Nat) : Int)
def skipB (s : ByteArray) : ByteArray := ofL (dropP blankU s.data.toList)
def trimLB (s : ByteArray) : ByteArray := ofL (dropP zeroU s.data.toList)
def trimRB (s : ByteArray) : ByteArray := ofL (dropP zeroU s.data.toList.reverse).reverse
def hasMinus (s : ByteArray) : Bool := match s.data.toList with
  | b :: _ => ((b.toNat : Nat) : Int) == 45
  | [] => false
def dropMinus (s : ByteArray) : ByteArray := bif hasMinus s then ofL (s.data.toList.drop 1) else s
def aB (s : ByteArray) : ByteArray := dropMinus (skipB s)
def wB (s : ByteArray) : ByteArray := trimLB (ofL ((aB s).data.toList.take (digN (aB s))))
def rB (s : ByteArray) : ByteArray := ofL ((aB s).data.toList.drop (digN (aB s)))
def dotB (s : ByteArray) : Bool := match (rB s).data.toList with
  | b :: _ => ((b.toNat : Nat) : Int) == 46
  | [] => false
def pB (s : ByteArray) : ByteArray := bif dotB s then trimRB (ofL (((rB s).data.toList.drop 1).take (leadN digU ((rB s).data.toList.drop 1)))) else ⟨#[]⟩
def nB (s : ByteArray) : Bool := hasMinus (skipB s) && !strEq (wB s ++ pB s) ⟨#[]⟩
def sgn (r : Bool) (n : Int) : Int := bif r then 0 - n else n
def n3 (a1 a2 b1 b2 : ByteArray) : Int := firstBy V.intOf [.sc (.int .i64 (cmpII ((a1.size : Nat) : Int) ((b1.size : Nat) : Int))), .sc (.int .i64 (bwI a1 b1)), .sc (.int .i64 (bwI a2 b2))]
def numC (a0 : Bool) (a1 a2 : ByteArray) (b0 : Bool) (b1 b2 : ByteArray) : Int := bif !(a0 == b0) then (bif a0 then -1 else 1) else sgn a0 (n3 a1 a2 b1 b2)
def numI (a b : ByteArray) : Int := numC (nB a) (wB a) (pB a) (nB b) (wB b) (pB b)
def capU (b : UInt8) : Int := bif decide (((b.toNat : Nat) : Int) ≥ 97) && decide (((b.toNat : Nat) : Int) ≤ 122) then ((b.toNat : Nat) : Int) - 32 else ((b.toNat : Nat) : Int)
def capI (c : Int) : Int := bif decide (c ≥ 97) && decide (c ≤ 122) then c - 32 else c
def capV (x : V) : V := .sc (.int .u8 (capI x.intOf))
def capB (s : ByteArray) : ByteArray := strOfCells ((bytesV s).map capV)
def byteI (s : ByteArray) (i : Nat) : Int := (((s.data.getD i 0).toNat : Nat) : Int)
def cutAt (line sep : ByteArray) (i : Nat) : Bool := bif strEq sep ⟨#[]⟩ then decide (0 < i) && (blankI (byteI line i) && !blankI (byteI line (i - 1))) else byteI line i == byteI sep 0
def nxF (sep : ByteArray) (i : Nat) : Nat := bif strEq sep ⟨#[]⟩ then i else i + 1
def celI (n : Nat) : V := .sc (.int .i64 ((n : Nat) : Int))
def fldF (line sep : ByteArray) : Nat → Nat → Nat → List V × Nat
  | 0, _, fr => ([], fr)
  | k + 1, i, fr => bif cutAt line sep i then (celI fr :: celI i :: (fldF line sep k (i + 1) (nxF sep i)).1, (fldF line sep k (i + 1) (nxF sep i)).2) else fldF line sep k (i + 1) fr
def fldC (line sep : ByteArray) : List V := (fldF line sep line.size 0 0).1
def fldZ (line sep : ByteArray) : Nat := (fldF line sep line.size 0 0).2
def fieldsV (line sep : ByteArray) : List V := fldC line sep ++ [celI (fldZ line sep), celI line.size]
def begI (line : ByteArray) (a t : Int) (bl : Bool) : Int := bif bl then ((a.toNat + leadN blankU ((line.data.toList.take t.toNat).drop a.toNat) : Nat) : Int) else a
def fstC (l : List V) (k : Int) : Int := (nthV l (k.toNat * 2 + 0)).intOf
def sndC (l : List V) (k : Int) : Int := (nthV l (k.toNat * 2 + 0 + 1)).intOf
def mnI (a b : Int) : Int := bif decide (a < b) then a else b
def fromK (line : ByteArray) (l : List V) (k0 k1 : Int) (bl : Bool) : Int :=
  bif decide (k0 ≤ ((lenE 2 l.length : Nat) : Int)) then mnI (sndC l (k0 - 1)) (begI line (fstC l (k0 - 1)) (sndC l (k0 - 1)) bl + k1 - 1) else ((line.size : Nat) : Int)
def toK (line : ByteArray) (l : List V) (k2 k3 : Int) (bl : Bool) : Int :=
  bif decide (k2 > 0) && decide (k2 ≤ ((lenE 2 l.length : Nat) : Int)) then (bif decide (k3 > 0) then mnI (sndC l (k2 - 1)) (begI line (fstC l (k2 - 1)) (sndC l (k2 - 1)) bl + k3) else sndC l (k2 - 1)) else ((line.size : Nat) : Int)
def keyB (line sep : ByteArray) (k0 k1 k2 k3 : Int) (bl : Bool) : ByteArray :=
  bif decide (toK line (fieldsV line sep) k2 k3 bl < fromK line (fieldsV line sep) k0 k1 bl) then ⟨#[]⟩ else line.extract (fromK line (fieldsV line sep) k0 k1 bl).toNat (toK line (fieldsV line sep) k2 k3 bl).toNat
def okKey (k0 k1 k2 k3 : Int) : Bool := (decide (k0 ≥ 1) && decide (k0 ≤ 4096)) && ((decide (k1 ≥ 1) && decide (k1 ≤ 4096)) && ((decide (k2 ≥ 0) && decide (k2 ≤ 4096)) && ((decide (k3 ≥ 0) && decide (k3 ≤ 4096)) && !((k2 == 0) && (k3 != 0)))))
def allF (p : Nat → Bool) : Nat → Nat → Bool
  | 0, _ => true
  | k + 1, i => p i && allF p k (i + 1)
def firstF (f : Nat → Int) : Nat → Nat → Int
  | 0, _ => 0
  | k + 1, i => bif f i != 0 then f i else firstF f k (i + 1)
def kI (l : List V) (k j : Nat) : Int := V.intOf (nthV l (k * 8 + j))
def kB (l : List V) (k j : Nat) : Bool := V.boolOf (nthV l (k * 8 + j))
def okK (l : List V) (k : Nat) : Bool := (V.isInt .i64 (nthV l (k * 8 + 0))) && ((V.isInt .i64 (nthV l (k * 8 + 1))) && ((V.isInt .i64 (nthV l (k * 8 + 2))) && ((V.isInt .i64 (nthV l (k * 8 + 3))) && ((V.isBool (nthV l (k * 8 + 4))) && ((V.isBool (nthV l (k * 8 + 5))) && ((V.isBool (nthV l (k * 8 + 6))) && ((V.isBool (nthV l (k * 8 + 7))) && true)))))))
def goodK (l : List V) (k : Nat) : Bool := okKey (kI l k 0) (kI l k 1) (kI l k 2) (kI l k 3)
def okKeys (l : List V) : Bool := allF (okK l) (lenE 8 l.length) 0
def badKeys (l : List V) : Bool := !allF (goodK l) (lenE 8 l.length) 0
def valE (sep : ByteArray) (l : List V) : Int := bif decide (((sep.size : Nat) : Int) > 1) then 5 else bif strEq sep ⟨#[10]⟩ then 5 else bif decide (((lenE 8 l.length : Nat) : Int) > 8) then 2 else bif badKeys l then 3 else 0
def kX (l : List V) (sep a : ByteArray) (k : Nat) : ByteArray := keyB a sep (kI l k 0) (kI l k 1) (kI l k 2) (kI l k 3) (kB l k 7)
def kC (l : List V) (sep a b : ByteArray) (k : Nat) : Int :=
  sgn (kB l k 5) (bif kB l k 4 then numI (kX l sep a k) (kX l sep b k) else bif kB l k 6 then bwI (capB (kX l sep a k)) (capB (kX l sep b k)) else bwI (kX l sep a k) (kX l sep b k))
def keysI (l : List V) (sep a b : ByteArray) : Int := firstF (kC l sep a b) (lenE 8 l.length) 0
def ordI (l : List V) (sep : ByteArray) (rev stab uniq : Bool) (a b : ByteArray) : Int :=
  bif keysI l sep a b != 0 then keysI l sep a b else bif decide (((lenE 8 l.length : Nat) : Int) > 0) && (stab || uniq) then 0 else sgn rev (bwI a b)
def cpE (l : List V) (sep a b : ByteArray) : Int := bif valE sep l != 0 then valE sep l else bif hasB a 10 || hasB b 10 then 5 else bif decide (((a.size : Nat) : Int) > 65536) || decide (((b.size : Nat) : Int) > 65536) then 2 else 0
def cpS (l : List V) (sep : ByteArray) (rev stab uniq : Bool) (a b : ByteArray) : Int := bif cpE l sep a b == 0 then ordI l sep rev stab uniq a b else 0

/-! ### plain laws -/
theorem ofL_self (s : ByteArray) : ofL s.data.toList = s := ba_ext rfl
theorem ofL_size (l : List UInt8) : (ofL l).size = l.length := bl_size (ofL l)
theorem ext_tail (s : ByteArray) (a : Nat) : s.extract a s.size = ofL (s.data.toList.drop a) := ba_ext (by rw [bl_extract, List.take_of_length_le (by rw [bl_size]; exact Nat.le_refl _)]; rfl)
theorem ext_head (s : ByteArray) (b : Nat) : s.extract 0 b = ofL (s.data.toList.take b) := ba_ext (by rw [bl_extract, List.drop_zero]; rfl)
theorem ext_mid (s : ByteArray) (a b : Nat) : s.extract a b = ofL ((s.data.toList.take b).drop a) := ba_ext (by rw [bl_extract]; rfl)
theorem strEq_nil (s : ByteArray) : strEq s ⟨#[]⟩ = s.data.toList.isEmpty := by
  rw [Bool.eq_iff_iff, strEq_iff, List.isEmpty_iff]
  constructor
  · rintro rfl; rfl
  · intro h; exact ba_ext h
theorem getD_head {s : ByteArray} {b : UInt8} {r : List UInt8} (h : s.data.toList = b :: r) : s.data.getD 0 0 = b := by
  rw [getD_list' s 0 (by rw [h]; simp)]
  simp [h]
theorem cons_size {s : ByteArray} {b : UInt8} {r : List UInt8} (h : s.data.toList = b :: r) : s.size = r.length + 1 := by rw [bl_size, h]; rfl
theorem leadN_le (p : UInt8 → Bool) : ∀ l : List UInt8, leadN p l ≤ l.length
  | [] => Nat.le_refl _
  | b :: r => by
    have := leadN_le p r
    rw [leadN, List.length_cons]
    cases p b
    · exact Nat.zero_le _
    · simp only [cond_true]; omega
theorem dropP_eq (p : UInt8 → Bool) : ∀ l : List UInt8, dropP p l = l.drop (leadN p l)
  | [] => rfl
  | b :: r => by
    rw [dropP, leadN, dropP_eq p r]
    cases p b <;> rfl
theorem dropP_le (p : UInt8 → Bool) (l : List UInt8) : (dropP p l).length ≤ l.length := by rw [dropP_eq, List.length_drop]; omega
theorem trimLB_le (s : ByteArray) : (trimLB s).size ≤ s.size := by unfold trimLB; rw [ofL_size, bl_size s]; exact dropP_le _ _
theorem trimRB_le (s : ByteArray) : (trimRB s).size ≤ s.size := by
  unfold trimRB
  rw [ofL_size, List.length_reverse, bl_size s]
  have := dropP_le zeroU s.data.toList.reverse
  rw [List.length_reverse] at this
  exact this
theorem skipB_le (s : ByteArray) : (skipB s).size ≤ s.size := by unfold skipB; rw [ofL_size, bl_size s]; exact dropP_le _ _
theorem dropMinus_le (s : ByteArray) : (dropMinus s).size ≤ s.size := by
  unfold dropMinus
  cases hasMinus s
  · exact Nat.le_refl _
  · rw [cond_true, ofL_size, List.length_drop, bl_size s]; omega
theorem aB_le (s : ByteArray) : (aB s).size ≤ s.size := Nat.le_trans (dropMinus_le _) (skipB_le _)
theorem digN_le (s : ByteArray) : digN s ≤ s.size := by rw [bl_size]; exact leadN_le _ _
theorem wB_le (s : ByteArray) : (wB s).size ≤ s.size := by
  have h1 := aB_le s
  have h2 := trimLB_le (ofL ((aB s).data.toList.take (digN (aB s))))
  rw [ofL_size, List.length_take] at h2
  rw [bl_size (aB s)] at h1
  unfold wB
  omega
theorem rB_le (s : ByteArray) : (rB s).size ≤ s.size := by
  have h1 := aB_le s
  unfold rB
  rw [ofL_size, List.length_drop]
  rw [bl_size (aB s)] at h1
  omega
theorem pB_le (s : ByteArray) : (pB s).size ≤ s.size := by
  have h1 := rB_le s
  have h2 := trimRB_le (ofL (((rB s).data.toList.drop 1).take (leadN digU ((rB s).data.toList.drop 1))))
  rw [ofL_size, List.length_take, List.length_drop] at h2
  rw [bl_size (rB s)] at h1
  unfold pB
  cases dotB s
  · exact Nat.zero_le _
  · simp only [cond_true]; omega
theorem cmpL_one : ∀ a b : List UInt8, -1 ≤ cmpL a b ∧ cmpL a b ≤ 1
  | [], [] => by simp [cmpL]
  | [], _ :: _ => by simp [cmpL]
  | _ :: _, [] => by simp [cmpL]
  | x :: a, y :: b => by
    have := cmpL_one a b
    unfold cmpL
    cases x == y
    · cases decide (x < y) <;> simp
    · exact this
theorem bw_one (a b : ByteArray) : -1 ≤ bwI a b ∧ bwI a b ≤ 1 := cmpL_one _ _
theorem cmpII_one (x y : Int) : -1 ≤ cmpII x y ∧ cmpII x y ≤ 1 := by
  unfold cmpII
  cases decide (x < y) <;> cases decide (x > y) <;> simp
theorem n3_one (a1 a2 b1 b2 : ByteArray) : -1 ≤ n3 a1 a2 b1 b2 ∧ n3 a1 a2 b1 b2 ≤ 1 := by
  have h1 := cmpII_one ((a1.size : Nat) : Int) ((b1.size : Nat) : Int)
  have h2 := bw_one a1 b1
  have h3 := bw_one a2 b2
  have e : n3 a1 a2 b1 b2 = bif cmpII ((a1.size : Nat) : Int) ((b1.size : Nat) : Int) != 0 then cmpII ((a1.size : Nat) : Int) ((b1.size : Nat) : Int) else bif bwI a1 b1 != 0 then bwI a1 b1 else bif bwI a2 b2 != 0 then bwI a2 b2 else 0 := rfl
  rw [e]
  cases cmpII ((a1.size : Nat) : Int) ((b1.size : Nat) : Int) != 0
  · cases bwI a1 b1 != 0
    · cases bwI a2 b2 != 0
      · simp
      · simpa using h3
    · simpa using h2
  · simpa using h1
theorem sgn_one {r : Bool} {n : Int} (h : -1 ≤ n ∧ n ≤ 1) : -1 ≤ sgn r n ∧ sgn r n ≤ 1 := by
  unfold sgn
  cases r
  · exact h
  · simp only [cond_true]; omega
theorem numI_one (a b : ByteArray) : -1 ≤ numI a b ∧ numI a b ≤ 1 := by
  unfold numI numC
  cases nB a == nB b
  · cases nB a <;> simp
  · exact sgn_one (n3_one _ _ _ _)
theorem w_neg {n : Int} (h : -1 ≤ n ∧ n ≤ 1) : IntKind.wrap .i64 (0 - n) = 0 - n := wrap_id (by omega) (by omega)
/-! fields -/
def okSp (n : Nat) : List V → Bool
  | x :: y :: r => (x.isInt .i64 && (y.isInt .i64 && (decide (0 ≤ x.intOf) && (decide (x.intOf ≤ y.intOf) && decide (y.intOf ≤ ((n : Nat) : Int)))))) && okSp n r
  | [] => true
  | _ => false
theorem okSp_app (n : Nat) : ∀ (a b : List V), okSp n a = true → okSp n b = true → okSp n (a ++ b) = true
  | [], b, _, hb => hb
  | [_], b, ha, _ => by cases ha
  | x :: y :: r, b, ha, hb => by
    unfold okSp at ha
    rw [Bool.and_eq_true] at ha
    show ((x.isInt .i64 && (y.isInt .i64 && (decide (0 ≤ x.intOf) && (decide (x.intOf ≤ y.intOf) && decide (y.intOf ≤ ((n : Nat) : Int)))))) && okSp n (r ++ b)) = true
    rw [ha.1, okSp_app n r b ha.2 hb]; rfl
theorem okSp_two {n i j : Nat} (h1 : i ≤ j) (h2 : j ≤ n) {r : List V} (hr : okSp n r = true) : okSp n (celI i :: celI j :: r) = true := by
  show ((true && (true && (decide ((0 : Int) ≤ ((i : Nat) : Int)) && (decide (((i : Nat) : Int) ≤ ((j : Nat) : Int)) && decide (((j : Nat) : Int) ≤ ((n : Nat) : Int)))))) && okSp n r) = true
  rw [dec_true (show (0 : Int) ≤ ((i : Nat) : Int) by omega), dec_true (show ((i : Nat) : Int) ≤ ((j : Nat) : Int) by omega), dec_true (show ((j : Nat) : Int) ≤ ((n : Nat) : Int) by omega), hr]; rfl
theorem okSp_at (n : Nat) : ∀ (l : List V) (j : Nat), okSp n l = true → j < lenE 2 l.length →
    V.isInt .i64 (nthV l (j * 2 + 0)) = true ∧ V.isInt .i64 (nthV l (j * 2 + 0 + 1)) = true ∧ 0 ≤ (nthV l (j * 2 + 0)).intOf ∧ (nthV l (j * 2 + 0)).intOf ≤ (nthV l (j * 2 + 0 + 1)).intOf ∧ (nthV l (j * 2 + 0 + 1)).intOf ≤ ((n : Nat) : Int)
  | [], j, _, hj => by simp [lenE] at hj
  | [_], _, h, _ => by cases h
  | x :: y :: r, 0, h, _ => by
    unfold okSp at h
    simp only [Bool.and_eq_true, decide_eq_true_eq] at h
    exact ⟨h.1.1, h.1.2.1, h.1.2.2.1, h.1.2.2.2.1, h.1.2.2.2.2⟩
  | x :: y :: r, j + 1, h, hj => by
    unfold okSp at h
    rw [Bool.and_eq_true] at h
    have hj' : j < lenE 2 r.length := by
      have e : lenE 2 (x :: y :: r).length = (r.length + 2) / 2 := rfl
      have e2 : lenE 2 r.length = r.length / 2 := rfl
      rw [e] at hj
      rw [e2]
      omega
    have := okSp_at n r j h.2 hj'
    have e : (j + 1) * 2 + 0 = (j * 2 + 0) + 2 := by omega
    rw [e]
    exact this
theorem fldF_ok (line sep : ByteArray) (n : Nat) : ∀ (k i fr : Nat), i + k = n → fr ≤ i → okSp n (fldF line sep k i fr).1 = true ∧ (fldF line sep k i fr).2 ≤ n ∧ (fldF line sep k i fr).1.length ≤ 2 * k
  | 0, i, fr, h, hf => ⟨rfl, by show fr ≤ n; omega, Nat.le_refl _⟩
  | k + 1, i, fr, h, hf => by
    have hx : nxF sep i ≤ i + 1 := by unfold nxF; cases strEq sep ⟨#[]⟩ <;> simp
    obtain ⟨a1, a2, a3⟩ := fldF_ok line sep n k (i + 1) (nxF sep i) (by omega) hx
    obtain ⟨b1, b2, b3⟩ := fldF_ok line sep n k (i + 1) fr (by omega) (by omega)
    rw [fldF]
    cases cutAt line sep i
    · exact ⟨b1, b2, by simp only [cond_false]; omega⟩
    · exact ⟨okSp_two hf (by omega) a1, a2, by simp only [cond_true, List.length_cons]; omega⟩
theorem fieldsV_ok (line sep : ByteArray) : okSp line.size (fieldsV line sep) = true := by
  obtain ⟨a1, a2, _⟩ := fldF_ok line sep line.size line.size 0 0 (by omega) (Nat.le_refl _)
  exact okSp_app _ _ _ a1 (okSp_two a2 (Nat.le_refl _) rfl)
theorem begI_ok {line : ByteArray} {a t : Int} (bl : Bool) (h0 : 0 ≤ a) (h1 : a ≤ t) (h2 : t ≤ ((line.size : Nat) : Int)) : a ≤ begI line a t bl ∧ begI line a t bl ≤ t := by
  unfold begI
  cases bl
  · simp only [cond_false]; omega
  · have := leadN_le blankU ((line.data.toList.take t.toNat).drop a.toNat)
    rw [List.length_drop, List.length_take] at this
    simp only [cond_true]
    omega
theorem allF_at {p : Nat → Bool} : ∀ {k i : Nat}, allF p k i = true → ∀ j, i ≤ j → j < i + k → p j = true
  | 0, i, _, j, h1, h2 => absurd h2 (by omega)
  | k + 1, i, h, j, h1, h2 => by
    unfold allF at h
    rw [Bool.and_eq_true] at h
    by_cases e : j = i
    · rw [e]; exact h.1
    · exact allF_at h.2 j (by omega) (by omega)
theorem mnI_eq (a b : Int) : mnI a b = min a b := by
  unfold mnI
  by_cases h : a < b
  · rw [dec_true h, cond_true]; omega
  · rw [dec_false h, cond_false]; omega
theorem okKey_spec {k0 k1 k2 k3 : Int} (h : okKey k0 k1 k2 k3 = true) : (1 ≤ k0 ∧ k0 ≤ 4096) ∧ (1 ≤ k1 ∧ k1 ≤ 4096) ∧ (0 ≤ k2 ∧ k2 ≤ 4096) ∧ (0 ≤ k3 ∧ k3 ≤ 4096) := by
  unfold okKey at h
  simp only [Bool.and_eq_true, decide_eq_true_eq] at h
  exact ⟨h.1, h.2.1, h.2.2.1, h.2.2.2.1⟩
theorem from_ok {line sep : ByteArray} {k0 k1 : Int} {bl : Bool} (h0 : 1 ≤ k0) (h1 : 1 ≤ k1) : 0 ≤ fromK line (fieldsV line sep) k0 k1 bl ∧ fromK line (fieldsV line sep) k0 k1 bl ≤ ((line.size : Nat) : Int) := by
  unfold fromK
  by_cases h : k0 ≤ ((lenE 2 (fieldsV line sep).length : Nat) : Int)
  · obtain ⟨_, _, a3, a4, a5⟩ := okSp_at line.size (fieldsV line sep) (k0 - 1).toNat (fieldsV_ok line sep) (by omega)
    have hb := begI_ok (line := line) (a := fstC (fieldsV line sep) (k0 - 1)) (t := sndC (fieldsV line sep) (k0 - 1)) bl a3 a4 a5
    have a3' : 0 ≤ fstC (fieldsV line sep) (k0 - 1) := a3
    have a4' : fstC (fieldsV line sep) (k0 - 1) ≤ sndC (fieldsV line sep) (k0 - 1) := a4
    have a5' : sndC (fieldsV line sep) (k0 - 1) ≤ ((line.size : Nat) : Int) := a5
    rw [dec_true h, cond_true, mnI_eq]
    omega
  · rw [dec_false h, cond_false]; omega
theorem to_ok {line sep : ByteArray} {k2 k3 : Int} {bl : Bool} (h3 : 0 ≤ k3) : 0 ≤ toK line (fieldsV line sep) k2 k3 bl ∧ toK line (fieldsV line sep) k2 k3 bl ≤ ((line.size : Nat) : Int) := by
  unfold toK
  by_cases h : k2 > 0 ∧ k2 ≤ ((lenE 2 (fieldsV line sep).length : Nat) : Int)
  · obtain ⟨_, _, a3, a4, a5⟩ := okSp_at line.size (fieldsV line sep) (k2 - 1).toNat (fieldsV_ok line sep) (by omega)
    have hb := begI_ok (line := line) (a := fstC (fieldsV line sep) (k2 - 1)) (t := sndC (fieldsV line sep) (k2 - 1)) bl a3 a4 a5
    have a3' : 0 ≤ fstC (fieldsV line sep) (k2 - 1) := a3
    have a4' : fstC (fieldsV line sep) (k2 - 1) ≤ sndC (fieldsV line sep) (k2 - 1) := a4
    have a5' : sndC (fieldsV line sep) (k2 - 1) ≤ ((line.size : Nat) : Int) := a5
    rw [dec_true h.1, dec_true h.2, Bool.and_self, cond_true, mnI_eq]
    cases decide (k3 > 0)
    · simp only [cond_false]; omega
    · simp only [cond_true]; omega
  · have : (decide (k2 > 0) && decide (k2 ≤ ((lenE 2 (fieldsV line sep).length : Nat) : Int))) = false := by
      rw [Bool.and_eq_false_iff, decide_eq_false_iff_not, decide_eq_false_iff_not]; omega
    rw [this, cond_false]; omega
theorem keyB_le (line sep : ByteArray) (k0 k1 k2 k3 : Int) (bl : Bool) : (keyB line sep k0 k1 k2 k3 bl).size ≤ line.size := by
  unfold keyB
  cases decide (toK line (fieldsV line sep) k2 k3 bl < fromK line (fieldsV line sep) k0 k1 bl)
  · rw [cond_false, bl_size, bl_extract, List.length_drop, List.length_take, bl_size line]; omega
  · exact Nat.zero_le _
theorem capB_size (s : ByteArray) : (capB s).size = s.size := by
  unfold capB strOfCells
  rw [bl_size]
  show (((bytesV s).map capV).map byteOfV).length = _
  rw [List.length_map, List.length_map, bytesV_len]
theorem hasB_app (a b : ByteArray) (c : Int) : hasB (a ++ b) c = (hasB a c || hasB b c) := by
  unfold hasB; rw [ba_append, List.any_append]
theorem dlt (x c : Int) : decide (x < c) = !decide (x ≥ c) := by
  by_cases h : x < c
  · rw [dec_true h, dec_false (show ¬ x ≥ c by omega)]; rfl
  · rw [dec_false h, dec_true (show x ≥ c by omega)]; rfl
theorem dgt (x c : Int) : decide (x > c) = !decide (x ≤ c) := by
  by_cases h : x > c
  · rw [dec_true h, dec_false (show ¬ x ≤ c by omega)]; rfl
  · rw [dec_false h, dec_true (show x ≤ c by omega)]; rfl
theorem valE_zero {sep : ByteArray} {l : List V} (h : valE sep l = 0) : badKeys l = false := by
  unfold valE at h
  cases h1 : decide (((sep.size : Nat) : Int) > 1) with
  | true => rw [h1] at h; cases h
  | false =>
  rw [h1] at h
  cases h2 : strEq sep ⟨#[10]⟩ with
  | true => rw [h2] at h; cases h
  | false =>
  rw [h2] at h
  cases h3 : decide (((lenE 8 l.length : Nat) : Int) > 8) with
  | true => rw [h3] at h; cases h
  | false =>
  rw [h3] at h
  cases h4 : badKeys l with
  | true => rw [h4] at h; cases h
  | false => rfl

theorem ba_cases (s : ByteArray) : s.data.toList = [] ∨ ∃ b r, s.data.toList = b :: r := by
  cases s.data.toList with
  | nil => exact .inl rfl
  | cons b r => exact .inr ⟨b, r, rfl⟩
theorem nil_size {s : ByteArray} (h : s.data.toList = []) : s.size = 0 := by rw [bl_size, h]; rfl

end Go.Ab
