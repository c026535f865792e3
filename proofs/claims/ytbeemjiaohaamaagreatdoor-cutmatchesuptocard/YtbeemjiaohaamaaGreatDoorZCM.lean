/- Two texts in order are compared, in plain words. -/
import Derived.Test.YtbeemjiaohaamaaGreatDoorZLN
namespace Go.Ab
open Go Go.Proofs Go.RowKit
set_option linter.unusedSimpArgs false
set_option linter.unusedVariables false

def hB (h i : Int) : Bool := (h.toNat / 2 ^ i.toNat) % 2 == 1
def bitP (c : Int) : Int := bif c == 0 then 1 else bif c == 1 then 2 else 4
def tabB (h c : Int) : ByteArray := bif c == 0 then ⟨#[]⟩ else bif c == 1 then (bif hB h 0 then ⟨#[]⟩ else ⟨#[9]⟩) else bif hB h 0 then (bif hB h 1 then ⟨#[]⟩ else ⟨#[9]⟩) else bif hB h 1 then ⟨#[9]⟩ else ⟨#[9, 9]⟩
def tellV (h c : Int) (line : ByteArray) : List V := bif hB h c then [] else [.sc (.string (tabB h c ++ line))]
def cmpL : List UInt8 → List UInt8 → Int
  | [], [] => 0
  | [], _ :: _ => -1
  | _ :: _, [] => 1
  | x :: a, y :: b => bif x == y then cmpL a b else bif decide (x < y) then -1 else 1
def prefL : List UInt8 → List UInt8 → Bool
  | [], _ => true
  | _ :: _, [] => false
  | x :: a, y :: b => bif x == y then prefL a b else false
def bwI (a b : ByteArray) : Int := cmpL a.data.toList b.data.toList
def prefB (a b : ByteArray) : Bool := prefL a.data.toList b.data.toList
def sortedV : List V → Bool
  | x :: y :: l => bif strLt y.strOf x.strOf then false else sortedV (y :: l)
  | _ => true
def sortC (x : V) : Bool := x.isSl 1 && x.cellsOf.all shortS && decide (x.cellsOf.length ≤ 1000000000)
def sortedC (x : V) : Bool := sortedV x.cellsOf
def commF (h : Int) : Nat → List V → List V → List V
  | 0, _, _ => []
  | _ + 1, [], [] => []
  | n + 1, x :: a, [] => tellV h 0 x.strOf ++ commF h n a []
  | n + 1, [], y :: b => tellV h 1 y.strOf ++ commF h n [] b
  | n + 1, x :: a, y :: b => bif strLt x.strOf y.strOf then tellV h 0 x.strOf ++ commF h n a (y :: b) else bif strLt y.strOf x.strOf then tellV h 1 y.strOf ++ commF h n (x :: a) b else tellV h 2 x.strOf ++ commF h n a b
def commV (h : Int) (a b : List V) : List V := commF h (a.length + b.length) a b
def commE (a b : ByteArray) (hide : Int) : Int := bif !(decide (hide ≥ 0) && decide (hide ≤ 7)) then 3 else bif largeB a || largeB b then 2 else bif sortedV (linesV a) && sortedV (linesV b) then 0 else 9
def commS (a b : ByteArray) (hide : Int) : ByteArray := bif commE a b hide == 0 then resB (commV hide (linesV a) (linesV b)) else ⟨#[]⟩

/-! ### plain laws -/
theorem cmp_lt : ∀ a b : List UInt8, Op.bytesLess a b = decide (cmpL a b < 0)
  | [], [] => rfl
  | [], _ :: _ => rfl
  | _ :: _, [] => rfl
  | x :: a, y :: b => by
    have ih := cmp_lt a b
    unfold Op.bytesLess cmpL
    by_cases h : x = y
    · subst h
      simp only [beq_self_eq_true, cond_true, Bool.true_and, ih, UInt8.lt_irrefl, decide_false, Bool.false_or]
    · have h1 : (x == y) = false := by simpa using h
      rw [h1]
      simp only [cond_false, Bool.false_and, Bool.or_false]
      by_cases h2 : x < y
      · simp [h2]
      · simp [h2]
theorem cmp_gt : ∀ a b : List UInt8, Op.bytesLess b a = decide (cmpL a b > 0)
  | [], [] => rfl
  | [], _ :: _ => rfl
  | _ :: _, [] => rfl
  | x :: a, y :: b => by
    have ih := cmp_gt a b
    unfold Op.bytesLess cmpL
    by_cases h : x = y
    · subst h
      simp only [beq_self_eq_true, cond_true, Bool.true_and, ih, UInt8.lt_irrefl, decide_false, Bool.false_or]
    · have h1 : (x == y) = false := by simpa using h
      have h3 : (y == x) = false := by simpa using fun e => h e.symm
      rw [h1, h3]
      simp only [cond_false, Bool.false_and, Bool.or_false]
      by_cases h2 : x < y
      · have : ¬ y < x := UInt8.lt_asymm h2
        simp [h2, this]
      · have : y < x := by
          rw [UInt8.lt_iff_toNat_lt] at *
          have : x.toNat ≠ y.toNat := fun e => h (UInt8.toNat_inj.1 e)
          omega
        simp [h2, this]
theorem strLt_cmp (a b : ByteArray) : strLt a b = decide (bwI a b < 0) := by
  unfold strLt bwI
  rw [ByteArray.toList_eq, ByteArray.toList_eq, cmp_lt]
theorem strLt_cmp' (a b : ByteArray) : strLt b a = decide (bwI a b > 0) := by
  unfold strLt bwI
  rw [ByteArray.toList_eq, ByteArray.toList_eq, cmp_gt]
theorem pref_cmp : ∀ a b : List UInt8, prefL a b = true → cmpL a b = (if a.length < b.length then -1 else 0)
  | [], [], _ => rfl
  | [], _ :: _, _ => by simp [cmpL]
  | _ :: _, [], h => by cases h
  | x :: a, y :: b, h => by
    unfold prefL at h
    unfold cmpL
    cases hx : x == y with
    | false => rw [hx] at h; cases h
    | true =>
      rw [hx] at h
      rw [cond_true, pref_cmp a b h]
      simp
theorem sorted_short : ∀ l : List V, l.length ≤ 1 → sortedV l = true
  | [], _ => rfl
  | [_], _ => rfl
  | _ :: _ :: _, h => by simp at h
theorem sorted_snoc (a b : V) : ∀ t : List V, sortedV (t ++ [a, b]) = (sortedV (t ++ [a]) && !strLt b.strOf a.strOf)
  | [] => by show (bif strLt b.strOf a.strOf then false else true) = _; cases strLt b.strOf a.strOf <;> rfl
  | [x] => by
    show (bif strLt a.strOf x.strOf then false else bif strLt b.strOf a.strOf then false else true) = ((bif strLt a.strOf x.strOf then false else true) && !strLt b.strOf a.strOf)
    cases strLt a.strOf x.strOf <;> cases strLt b.strOf a.strOf <;> rfl
  | x :: y :: t => by
    have ih := sorted_snoc a b (y :: t)
    show (bif strLt y.strOf x.strOf then false else sortedV (y :: t ++ [a, b])) = ((bif strLt y.strOf x.strOf then false else sortedV (y :: t ++ [a])) && _)
    rw [ih]
    cases strLt y.strOf x.strOf <;> rfl
theorem tell_len (h c : Int) (line : ByteArray) : (tellV h c line).length ≤ 1 := by unfold tellV; cases hB h c <;> simp
theorem tab_le (h c : Int) : (tabB h c).size ≤ 2 := by
  unfold tabB
  cases c == 0 <;> cases c == 1 <;> cases hB h 0 <;> cases hB h 1 <;> decide
/-- A text of at most so many bytes. -/
def leS (M : Nat) (x : V) : Bool := x.isStr && decide (x.strOf.size ≤ M)
theorem leS_mono {M N : Nat} (h : M ≤ N) {x : V} (hx : leS M x = true) : leS N x = true := by
  unfold leS at *
  simp only [Bool.and_eq_true, decide_eq_true_eq] at *
  exact ⟨hx.1, by omega⟩
theorem all_leS {M N : Nat} (h : M ≤ N) {l : List V} (hx : l.all (leS M) = true) : l.all (leS N) = true := by
  rw [List.all_eq_true] at *
  exact fun x hl => leS_mono h (hx x hl)
theorem leS_str {M : Nat} {l : List V} (h : l.all (leS M) = true) : l.all V.isStr = true := by
  rw [List.all_eq_true] at *
  intro x hx
  have := h x hx
  unfold leS at this
  simp only [Bool.and_eq_true] at this
  exact this.1
theorem tell_leS (h c : Int) {M : Nat} {line : ByteArray} (hl : line.size ≤ M) : (tellV h c line).all (leS (M + 2)) = true := by
  have := tab_le h c
  unfold tellV
  cases hB h c
  · simp only [cond_false, List.all_cons, List.all_nil, Bool.and_true]
    unfold leS
    simp only [V.isStr, V.strOf, Bool.true_and, decide_eq_true_eq, ba_size_append]
    omega
  · rfl
theorem headL_leS (M : Nat) : ∀ (l cur : List UInt8), cur.length + l.length ≤ M → (headL cur l).all (leS M) = true
  | [], _, _ => rfl
  | b :: r, cur, h => by
    rw [List.length_cons] at h
    rw [headL_cons]
    cases b == 10
    · exact headL_leS M r _ (by simp only [List.length_append, List.length_cons, List.length_nil]; omega)
    · simp only [cond_true, List.all_cons, headL_leS M r [] (by simp only [List.length_nil]; omega), Bool.and_true]
      have hc : (⟨cur.toArray⟩ : ByteArray).size = cur.length := by rw [bl_size]
      have hd : decide ((⟨cur.toArray⟩ : ByteArray).size ≤ M) = true := dec_true (by omega)
      exact hd
theorem linesV_leS (s : ByteArray) : (linesV s).all (leS s.size) = true := by
  have h := headL_leS s.size s.data.toList [] (by rw [ba_size]; simp)
  have hl := lastP_le s
  unfold linesV splitV headP
  cases (lastP s).size == 0
  · simp only [cond_false, List.all_append, h, Bool.true_and, List.all_cons, List.all_nil, Bool.and_true]
    have hd : decide ((lastP s).size ≤ s.size) = true := dec_true hl
    exact hd
  · exact h
theorem leS_spec {M : Nat} {x : V} (h : leS M x = true) : x.isStr = true ∧ x.strOf.size ≤ M := by
  unfold leS at h
  simpa using h
theorem comm_leS (h : Int) (M : Nat) : ∀ (n : Nat) (a b : List V), a.all (leS M) = true → b.all (leS M) = true → (commF h n a b).all (leS (M + 2)) = true ∧ (commF h n a b).length ≤ n
  | 0, _, _, _, _ => ⟨rfl, Nat.le_refl _⟩
  | n + 1, [], [], _, _ => ⟨rfl, Nat.zero_le _⟩
  | n + 1, x :: a, [], ha, hb => by
    rw [List.all_cons, Bool.and_eq_true] at ha
    obtain ⟨h1, h2⟩ := comm_leS h M n a [] ha.2 hb
    have h3 := tell_len h 0 x.strOf
    unfold commF
    rw [List.all_append, h1, tell_leS h 0 (leS_spec ha.1).2, List.length_append]
    exact ⟨rfl, by omega⟩
  | n + 1, [], y :: b, ha, hb => by
    rw [List.all_cons, Bool.and_eq_true] at hb
    obtain ⟨h1, h2⟩ := comm_leS h M n [] b ha hb.2
    have h3 := tell_len h 1 y.strOf
    unfold commF
    rw [List.all_append, h1, tell_leS h 1 (leS_spec hb.1).2, List.length_append]
    exact ⟨rfl, by omega⟩
  | n + 1, x :: a, y :: b, ha, hb => by
    have ha' := ha
    have hb' := hb
    rw [List.all_cons, Bool.and_eq_true] at ha hb
    unfold commF
    cases strLt x.strOf y.strOf
    · cases strLt y.strOf x.strOf
      · obtain ⟨h1, h2⟩ := comm_leS h M n a b ha.2 hb.2
        have h3 := tell_len h 2 x.strOf
        simp only [cond_false]
        rw [List.all_append, h1, tell_leS h 2 (leS_spec ha.1).2, List.length_append]
        exact ⟨rfl, by omega⟩
      · obtain ⟨h1, h2⟩ := comm_leS h M n (x :: a) b ha' hb.2
        have h3 := tell_len h 1 y.strOf
        simp only [cond_false, cond_true]
        rw [List.all_append, h1, tell_leS h 1 (leS_spec hb.1).2, List.length_append]
        exact ⟨rfl, by omega⟩
    · obtain ⟨h1, h2⟩ := comm_leS h M n a (y :: b) ha.2 hb'
      have h3 := tell_len h 0 x.strOf
      simp only [cond_true]
      rw [List.all_append, h1, tell_leS h 0 (leS_spec ha.1).2, List.length_append]
      exact ⟨rfl, by omega⟩
theorem resB_le (M : Nat) : ∀ l : List V, l.all (leS M) = true → (resB l).size ≤ l.length * (M + 1)
  | [], _ => Nat.zero_le _
  | x :: l, h => by
    rw [List.all_cons, Bool.and_eq_true] at h
    have h1 := resB_le M l h.2
    have h2 := (leS_spec h.1).2
    have h3 : (⟨#[10]⟩ : ByteArray).size = 1 := rfl
    rw [resB, ba_size_append, ba_size_append, List.length_cons, Nat.add_mul, h3]
    omega
theorem large_no {s : ByteArray} (h : largeB s = false) : s.size ≤ 65536 ∧ (linesV s).length ≤ 4096 := by
  unfold largeB at h
  simp only [Bool.or_eq_false_iff, decide_eq_false_iff_not] at h
  omega
/-- What comes out of two texts that are not too large. -/
theorem comm_res {a b : ByteArray} (h : Int) (ha : largeB a = false) (hb : largeB b = false) : (commV h (linesV a) (linesV b)).all V.isStr = true ∧ (commV h (linesV a) (linesV b)).length ≤ 1000000000 ∧ (resB (commV h (linesV a) (linesV b))).size ≤ 100000000000 := by
  obtain ⟨a1, a2⟩ := large_no ha
  obtain ⟨b1, b2⟩ := large_no hb
  obtain ⟨h1, h2⟩ := comm_leS h 65536 ((linesV a).length + (linesV b).length) (linesV a) (linesV b) (all_leS a1 (linesV_leS a)) (all_leS b1 (linesV_leS b))
  have h3 := resB_le _ _ h1
  unfold commV
  refine ⟨leS_str h1, by omega, ?_⟩
  have : (commF h ((linesV a).length + (linesV b).length) (linesV a) (linesV b)).length * (65536 + 2 + 1) ≤ 8192 * (65536 + 2 + 1) := Nat.mul_le_mul_right _ (by omega)
  omega

end Go.Ab
