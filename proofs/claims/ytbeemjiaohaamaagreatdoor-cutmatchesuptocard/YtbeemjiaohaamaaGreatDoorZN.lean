/- Pieces of texts, in plain words: their text, and their first error. -/
import Derived.Test.YtbeemjiaohaamaaGreatDoorPC2
namespace Go.Ab
open Go Go.Proofs Go.RowKit
set_option linter.unusedSimpArgs false
set_option linter.unusedVariables false

def hasB (s : ByteArray) (c : Int) : Bool := s.data.toList.any fun b => ((b.toNat : Int) == c)
def firstBy (f : V → Int) : List V → Int
  | [] => 0
  | x :: l => bif f x != 0 then f x else firstBy f l
def lineE (x : V) : Int := bif decide ((x.strOf.size : Int) > 4096) then 2 else bif hasB x.strOf 10 then 5 else 0
def listE (l : List V) : Int := firstBy lineE l
def listErr (l : List V) : Int := bif decide ((l.length : Int) > 1000) then 2 else listE l
def listsE (l : List V) : Int := firstBy (fun x => listErr x.cellsOf) l
def okStrs (x : V) : Bool := x.isSl 1 && x.cellsOf.all V.isStr && decide (x.cellsOf.length ≤ 1000000000)
def roomB (r : List V) (s : ByteArray) : Bool := decide (r.length + s.size ≤ 140737488355328)
def outc (s : ByteArray) (e : Int) (want : ByteArray) (f : Int) : Bool := bif f != 0 then strEq s ⟨#[]⟩ && e == f else strEq s want && e == 0
def resB : List V → ByteArray
  | [] => ⟨#[]⟩
  | x :: l => (x.strOf ++ (⟨#[10]⟩ : ByteArray)) ++ resB l
def pieceB (c li ba a b : V) : ByteArray :=
  bif c.boolOf then
    resB li.cellsOf ++ (((((((⟨#[60, 60, 60, 60, 60, 60, 60, 10]⟩ : ByteArray) ++ resB a.cellsOf) ++ (⟨#[124, 124, 124, 124, 124, 124, 124, 10]⟩ : ByteArray)) ++ resB ba.cellsOf) ++ (⟨#[61, 61, 61, 61, 61, 61, 61, 10]⟩ : ByteArray)) ++ resB b.cellsOf) ++ (⟨#[62, 62, 62, 62, 62, 62, 62, 10]⟩ : ByteArray))
  else resB li.cellsOf
def badP (c li ba a b : V) : Bool := bif c.boolOf then decide (0 < li.cellsOf.length) else decide (0 < ba.cellsOf.length + a.cellsOf.length + b.cellsOf.length)
def errP (c li ba a b : V) : Int := bif badP c li ba a b then 5 else listsE [.sl 1 li.cellsOf, .sl 1 ba.cellsOf, .sl 1 a.cellsOf, .sl 1 b.cellsOf]
def okP (c li ba a b : V) : Bool := c.isBool && (okStrs li && (okStrs ba && (okStrs a && okStrs b)))
def okPs : List V → Bool
  | c :: li :: ba :: a :: b :: l => okP c li ba a b && okPs l
  | [] => true
  | _ => false
def markB : List V → ByteArray
  | c :: li :: ba :: a :: b :: l => pieceB c li ba a b ++ markB l
  | _ => ⟨#[]⟩
def errPs : List V → Int
  | c :: li :: ba :: a :: b :: l => bif errP c li ba a b != 0 then errP c li ba a b else errPs l
  | _ => 0
def markOk : List V → ByteArray
  | c :: li :: ba :: a :: b :: l => bif errP c li ba a b != 0 then ⟨#[]⟩ else pieceB c li ba a b ++ markOk l
  | _ => ⟨#[]⟩
def markS (l : List V) : ByteArray := bif errPs l != 0 then ⟨#[]⟩ else markB l

/-- A loop that looks for the first error of a list. -/
theorem errLoop {R : Type} (L : Nat → Int → Option R) (xs : List V) (f : V → Int) (found : Int → Option R) (fin : Option R)
    (hs : ∀ n (k : Nat) (hk : k < xs.length), L (n + 1) (k : Int) = bif f xs[k] != 0 then found (f xs[k]) else L n ((k + 1 : Nat) : Int))
    (hf : ∀ n, L (n + 1) (xs.length : Int) = fin) :
    ∀ (m k : Nat), k + m = xs.length → ∀ n, m < n → L n (k : Int) = bif firstBy f (xs.drop k) != 0 then found (firstBy f (xs.drop k)) else fin := by
  intro m
  induction m with
  | zero =>
    intro k hk n hn
    obtain ⟨n, rfl⟩ : ∃ j, n = j + 1 := ⟨n - 1, by omega⟩
    obtain rfl : k = xs.length := by omega
    rw [hf n, List.drop_length]
    rfl
  | succ m ih =>
    intro k hk n hn
    obtain ⟨n, rfl⟩ : ∃ j, n = j + 1 := ⟨n - 1, by omega⟩
    have hlt : k < xs.length := by omega
    rw [hs n k hlt, List.drop_eq_getElem_cons hlt, ih (k + 1) (by omega) n (by omega), firstBy]
    cases hb : f xs[k] != 0 with
    | true => rw [cond_true, cond_true, hb, cond_true]
    | false => rw [cond_false, cond_false]

theorem nth_at {l : List V} {k : Nat} (h : k < l.length) : nthV l ((k : Int).toNat * 1 + 0) = l[k] := by
  rw [Int.toNat_natCast, Nat.mul_one, Nat.add_zero, nthV_lt h]
theorem resB_app (a b : List V) : resB (a ++ b) = resB a ++ resB b := by
  induction a with
  | nil => exact (ba_nil _).symm
  | cons x a ih => rw [List.cons_append, resB, resB, ih, ba_assoc _ (resB a)]
theorem hasNl (s : ByteArray) : decide (idxB s 10 ≥ 0) = hasB s 10 := by
  unfold idxB hasB
  generalize s.data.toList = l
  induction l with
  | nil => rfl
  | cons b l ih =>
    have hg := Lib.indexByte_ge l ((10 : Int).toNat.toUInt8)
    unfold Lib.indexByte
    rw [List.any_cons, ← ih]
    have h10 : (10 : Int).toNat.toUInt8 = 10 := rfl
    rw [h10] at hg ⊢
    by_cases hb : b = 10
    · subst hb; rfl
    · have h1 : (b == (10 : UInt8)) = false := by simpa using hb
      have h2 : (((b.toNat : Nat) : Int) == 10) = false := by
        rw [beq_eq_false_iff_ne]
        intro h
        apply hb
        apply UInt8.toNat_inj.1
        show b.toNat = 10
        omega
      rw [h1, h2]
      simp only [Bool.false_eq_true, if_false, Bool.false_or, beq_iff_eq]
      by_cases hm : Lib.indexByte l 10 = -1
      · rw [if_pos hm, hm]
      · rw [if_neg hm, Bool.eq_iff_iff, decide_eq_true_eq, decide_eq_true_eq]
        omega

theorem getD_list' (s : ByteArray) (k : Nat) (h : k < s.data.toList.length) : s.data.getD k 0 = s.data.toList[k] := by
  rw [Array.getElem_toList]
  simp only [Array.getD]
  rw [dif_pos (by rw [← Array.length_toList]; exact h)]
  rfl
theorem okPs_len : ∀ (l : List V), okPs l = true → ∃ q, l.length = 5 * q
  | [], _ => ⟨0, rfl⟩
  | [_], h => by cases h
  | [_, _], h => by cases h
  | [_, _, _], h => by cases h
  | [_, _, _, _], h => by cases h
  | c :: li :: ba :: a :: b :: l, h => by
    unfold okPs at h
    rw [Bool.and_eq_true] at h
    obtain ⟨q, hq⟩ := okPs_len l h.2
    exact ⟨q + 1, by simp only [List.length_cons, hq]; omega⟩
theorem okPs_cons {l : List V} (h : okPs l = true) (hn : l ≠ []) : ∃ c li ba a b r, l = c :: li :: ba :: a :: b :: r ∧ okP c li ba a b = true ∧ okPs r = true := by
  match l, h with
  | [], _ => exact absurd rfl hn
  | [_], h => cases h
  | [_, _], h => cases h
  | [_, _, _], h => cases h
  | [_, _, _, _], h => cases h
  | c :: li :: ba :: a :: b :: r, h =>
    unfold okPs at h
    rw [Bool.and_eq_true] at h
    exact ⟨c, li, ba, a, b, r, rfl, h.1, h.2⟩
theorem nthV_drop (l : List V) (k j : Nat) : nthV (l.drop k) j = nthV l (k + j) := by
  induction k generalizing l with
  | zero => rw [List.drop_zero, Nat.zero_add]
  | succ k ih =>
    cases l with
    | nil => cases j <;> rfl
    | cons x l => rw [List.drop_succ_cons, ih, show k + 1 + j = (k + j) + 1 by omega]; rfl
theorem drop5 {l : List V} {k : Nat} {c li ba a b : V} {r : List V} (h : l.drop (k * 5) = c :: li :: ba :: a :: b :: r) :
    nthV l ((k : Int).toNat * 5 + 0) = c ∧ nthV l ((k : Int).toNat * 5 + 1) = li ∧ nthV l ((k : Int).toNat * 5 + 2) = ba ∧ nthV l ((k : Int).toNat * 5 + 3) = a ∧ nthV l ((k : Int).toNat * 5 + 4) = b ∧ l.drop ((k + 1) * 5) = r ∧ k < lenE 5 l.length := by
  have hj : ∀ j, nthV l ((k : Int).toNat * 5 + j) = nthV (c :: li :: ba :: a :: b :: r) j := by
    intro j
    rw [Int.toNat_natCast, ← nthV_drop, h]
  refine ⟨hj 0, hj 1, hj 2, hj 3, hj 4, ?_, ?_⟩
  · rw [Nat.add_mul, ← List.drop_drop, h]; rfl
  · have hl : (l.drop (k * 5)).length = r.length + 5 := by rw [h]; rfl
    rw [List.length_drop] at hl
    show k < l.length / 5
    omega
theorem okP_spec {c li ba a b : V} (h : okP c li ba a b = true) : c.isBool = true ∧ (li.isSl 1 = true ∧ li.cellsOf.all V.isStr = true ∧ li.cellsOf.length ≤ 1000000000) ∧ (ba.isSl 1 = true ∧ ba.cellsOf.all V.isStr = true ∧ ba.cellsOf.length ≤ 1000000000) ∧
    (a.isSl 1 = true ∧ a.cellsOf.all V.isStr = true ∧ a.cellsOf.length ≤ 1000000000) ∧ (b.isSl 1 = true ∧ b.cellsOf.all V.isStr = true ∧ b.cellsOf.length ≤ 1000000000) := by
  unfold okP okStrs at h
  simp only [Bool.and_eq_true, decide_eq_true_eq] at h
  obtain ⟨h0, ⟨⟨h1, h2⟩, h3⟩, ⟨⟨h4, h5⟩, h6⟩, ⟨⟨h7, h8⟩, h9⟩, ⟨⟨h10, h11⟩, h12⟩⟩ := h
  exact ⟨h0, ⟨h1, h2, h3⟩, ⟨h4, h5, h6⟩, ⟨h7, h8, h9⟩, ⟨h10, h11, h12⟩⟩
theorem okStrs_sl {l : List V} (h1 : l.all V.isStr = true) (h2 : l.length ≤ 1000000000) : okStrs (.sl 1 l) = true := by
  unfold okStrs
  show (true && l.all V.isStr && decide (l.length ≤ 1000000000)) = true
  rw [h1, dec_true h2]; rfl
theorem zero_or {x : Int} {α : Type} (f : Int → α) : (bif x != 0 then f x else f 0) = f x := by
  cases h : x != 0 with
  | true => rfl
  | false =>
    have : x = 0 := by simpa using h
    rw [this]; rfl
theorem markOk_le : ∀ (l : List V), okPs l = true → (markOk l).size ≤ (markB l).size
  | [], _ => Nat.le_refl _
  | [_], h => by cases h
  | [_, _], h => by cases h
  | [_, _, _], h => by cases h
  | [_, _, _, _], h => by cases h
  | c :: li :: ba :: a :: b :: l, h => by
    unfold okPs at h
    rw [Bool.and_eq_true] at h
    have := markOk_le l h.2
    unfold markOk markB
    cases errP c li ba a b != 0 with
    | true => exact Nat.zero_le _
    | false => rw [cond_false, ba_size_append, ba_size_append]; omega
theorem markOk_eq : ∀ (l : List V), okPs l = true → errPs l = 0 → markOk l = markB l
  | [], _, _ => rfl
  | [_], h, _ => by cases h
  | [_, _], h, _ => by cases h
  | [_, _, _], h, _ => by cases h
  | [_, _, _, _], h, _ => by cases h
  | c :: li :: ba :: a :: b :: l, h, h0 => by
    unfold okPs at h
    rw [Bool.and_eq_true] at h
    unfold errPs at h0
    unfold markOk markB
    cases he : errP c li ba a b != 0 with
    | true =>
      rw [he, cond_true] at h0
      rw [h0] at he
      cases he
    | false =>
      rw [he, cond_false] at h0
      rw [cond_false, markOk_eq l h.2 h0]
theorem okU8_bytesV (s : ByteArray) : (bytesV s).all okU8 = true := by
  unfold bytesV
  rw [List.all_map, List.all_eq_true]
  intro b _
  have := b.toNat_lt
  simp [okU8]
  omega
end Go.Ab
