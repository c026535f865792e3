/- Plain laws on loops over lists, on numbers and on texts. -/
import Derived.Test.YtnjgofgogeileaaE46
import Derived.IntWalk
import Derived.Laws.Strings
namespace Go.Ab
open Go
set_option linter.unusedSimpArgs false
set_option linter.unusedVariables false

def foldC {α A R : Type} (step : α → A → (A → Option R) → Option R) (fin : A → Option R) : List α → A → Option R
  | [], a => fin a
  | x :: xs, a => step x a (foldC step fin xs)

/-- A loop with an index over a list. -/
theorem idxI {α A R : Type} (L : Nat → Int → A → Option R) (xs : List α) (step : α → A → (A → Option R) → Option R) (fin : A → Option R) (I : Nat → A → Prop)
    (hs : ∀ n (k : Nat) (a : A) (hk : k < xs.length), I k a → L (n + 1) (k : Int) a = step xs[k] a (fun a' => L n ((k + 1 : Nat) : Int) a'))
    (hI : ∀ (k : Nat) (a : A) (hk : k < xs.length), I k a → ∀ K K' : A → Option R, (∀ a', I (k + 1) a' → K a' = K' a') → step xs[k] a K = step xs[k] a K')
    (hf : ∀ n a, I xs.length a → L (n + 1) (xs.length : Int) a = fin a) :
    ∀ (m k : Nat) (a : A), k + m = xs.length → I k a → ∀ n, m < n → L n (k : Int) a = foldC step fin (xs.drop k) a := by
  intro m
  induction m with
  | zero =>
    intro k a hk hi n hn
    obtain ⟨n, rfl⟩ : ∃ j, n = j + 1 := ⟨n - 1, by omega⟩
    obtain rfl : k = xs.length := by omega
    rw [hf n a hi, List.drop_length]
    rfl
  | succ m ih =>
    intro k a hk hi n hn
    obtain ⟨n, rfl⟩ : ∃ j, n = j + 1 := ⟨n - 1, by omega⟩
    have hlt : k < xs.length := by omega
    rw [hs n k a hlt hi, List.drop_eq_getElem_cons hlt]
    exact hI k a hlt hi _ _ (fun a' ha' => ih (k + 1) a' (by omega) ha' n (by omega))

theorem nthV_lt {l : List V} {j : Nat} (h : j < l.length) : nthV l j = l[j] := nthV_get l j h

theorem wrap_id {n : Int} (h1 : -9223372036854775808 ≤ n) (h2 : n ≤ 9223372036854775807) : IntKind.wrap .i64 n = n := IntWalk.i64_in n ⟨h1, h2⟩
theorem wrap_succ {k : Nat} (h : k < 9223372036854775807) : IntKind.wrap .i64 ((k : Int) + 1) = ((k + 1 : Nat) : Int) := by
  rw [wrap_id (by omega) (by omega)]; simp

theorem dec_true {p : Prop} [Decidable p] (h : p) : decide p = true := decide_eq_true h
theorem dec_false {p : Prop} [Decidable p] (h : ¬ p) : decide p = false := decide_eq_false h

/-! ### texts -/
theorem ba_size (s : ByteArray) : s.data.toList.length = s.size := by rw [Array.length_toList]; rfl
theorem ba_ext {s t : ByteArray} (h : s.data.toList = t.data.toList) : s = t := by
  have : s.data = t.data := Array.toList_inj.1 h
  cases s; cases t; simp_all
theorem ba_append (s t : ByteArray) : (s ++ t).data.toList = s.data.toList ++ t.data.toList := by
  rw [ByteArray.data_append, Array.toList_append]
theorem ba_assoc (a b c : ByteArray) : (a ++ b) ++ c = a ++ (b ++ c) := ba_ext (by simp [ba_append])
theorem ba_size_append (a b : ByteArray) : (a ++ b).size = a.size + b.size := by
  rw [← ba_size, ba_append, List.length_append, ba_size, ba_size]
theorem ba_nil (a : ByteArray) : (⟨#[]⟩ : ByteArray) ++ a = a := ba_ext (by rw [ba_append]; rfl)
theorem ba_nil' (a : ByteArray) : a ++ (⟨#[]⟩ : ByteArray) = a := ba_ext (by rw [ba_append]; simp)
theorem strEq_iff (a b : ByteArray) : strEq a b = true ↔ a = b := by
  unfold strEq
  rw [beq_iff_eq]
  constructor
  · intro h
    have h1 : ∀ x : ByteArray, x.toList = x.data.toList := fun x => ByteArray.toList_eq x
    rw [h1, h1] at h
    exact ba_ext h
  · rintro rfl; rfl
theorem strEq_self (a : ByteArray) : strEq a a = true := (strEq_iff a a).2 rfl
theorem bytesV_app (a b : ByteArray) : bytesV (a ++ b) = bytesV a ++ bytesV b := by
  unfold bytesV; rw [ba_append, List.map_append]
theorem bytesV_nil : bytesV ⟨#[]⟩ = [] := rfl
theorem bytesV_len (a : ByteArray) : (bytesV a).length = a.size := by unfold bytesV; rw [List.length_map, ba_size]
theorem strOf_bytesV (a : ByteArray) : strOfCells (bytesV a) = a := by
  refine ba_ext ?_
  unfold strOfCells bytesV byteOfV
  simp only [List.map_map]
  have : ∀ l : List UInt8, l.map ((fun v => UInt8.ofNat (V.intOf v).toNat) ∘ fun b => V.sc (Value.int IntKind.u8 (b.toNat : Int))) = l := by
    intro l
    induction l with
    | nil => rfl
    | cons x l ih =>
      rw [List.map_cons, ih]
      simp [Function.comp, V.intOf]
  rw [this]
theorem allU8_bytesV (a : ByteArray) : allU8 (bytesV a) = true := by
  unfold bytesV
  generalize a.data.toList = l
  induction l with
  | nil => rfl
  | cons x l ih => simp only [List.map_cons, allU8, ih, V.isInt, decide_true, Bool.and_true]
end Go.Ab
