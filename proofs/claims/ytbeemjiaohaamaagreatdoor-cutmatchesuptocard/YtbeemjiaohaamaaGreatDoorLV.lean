/- What the arguments of a law are: truth values, and bounds by bulk. -/
import Derived.Test.YtbeemjiaohaamaaGreatDoorLU
import Derived.Test.YtbeemjiaohaamaaGreatDoorZLN
import Derived.Test.YtbeemjiaohaamaaGreatDoorP40
namespace Go.Ab
open Go Go.Proofs Go.RowKit
set_option linter.unusedSimpArgs false
set_option linter.unusedVariables false
theorem isV_bool {P : Program} {t : TypeId} (ht : P.underlying t = some .bool) {x : V} (h : isV P t x) : ∃ b : Bool, x = .sc (.bool b) := by
  obtain ⟨xs, h1, h2⟩ := h
  obtain ⟨m, hm⟩ := isT_pos h1
  rw [hm] at h1
  simp only [isT, ht] at h1
  obtain ⟨b, rfl⟩ := h1
  rcases h2 with ⟨h2, _⟩ | ⟨_, h2⟩
  · unfold aggT at h2; rw [ht] at h2; cases h2
  · exact ⟨b, by simpa using h2.symm⟩
theorem short_bulk {N : Nat} (hN : N ≤ 1000000000) : ∀ (l : List V), l.all V.isStr = true → bulkL l ≤ N → l.all shortS = true
  | [], _, _ => rfl
  | x :: l, h, hb => by
    rw [List.all_cons, Bool.and_eq_true] at h
    rw [isStr_eq h.1] at hb ⊢
    have hb' : x.strOf.size + 1 + bulkL l ≤ N := hb
    rw [List.all_cons, short_bulk hN l h.2 (by omega)]
    show ((true && decide (x.strOf.size ≤ 1000000000)) && true) = true
    rw [dec_true (by omega)]; rfl
theorem join_bulk : ∀ (l : List V), l.all V.isStr = true → (joinB l ⟨#[]⟩).size ≤ bulkL l
  | [], _ => Nat.le_refl _
  | x :: l, h => by
    rw [List.all_cons, Bool.and_eq_true] at h
    have ih := join_bulk l h.2
    rw [bl_size] at ih ⊢
    have e : ∀ m : List V, (joinB m ⟨#[]⟩).data.toList = (m.map fun y => y.strOf.data.toList).flatten := by
      intro m
      unfold joinB
      show Lib.join _ [] = _
      cases m with
      | nil => rfl
      | cons y m => rw [List.map_cons, Lib.join_cons, Lib.joinTail, List.flatten_cons]; simp; rfl
    rw [e] at ih ⊢
    rw [List.map_cons, List.flatten_cons, List.length_append, ba_size]
    rw [isStr_eq h.1]
    show x.strOf.size + _ ≤ (x.strOf.size + 1) + bulkL l
    omega
theorem isV_struct {P : Program} {t : TypeId} {fs : Array Field} (ht : P.underlying t = some (.struct fs)) {x : V} (h : isV P t x) : ∃ (n : Nat) (l : List (List V)), x = .ag l.flatten ∧ isF (isT P n) fs.toList l := by
  obtain ⟨xs, g1, g2⟩ := h
  unfold isT at g1
  rw [ht] at g1
  obtain ⟨l, rfl, hl⟩ := g1
  have ha : aggT P t = true := by unfold aggT; rw [ht]
  rcases g2 with ⟨_, g2⟩ | ⟨g2, _⟩
  · exact ⟨_, l, g2, hl⟩
  · rw [ha] at g2; cases g2
theorem isT_bool1 {P : Program} {t : TypeId} (ht : P.underlying t = some .bool) {n : Nat} {xs : List V} (h : isT P n t xs) : ∃ b : Bool, xs = [.sc (.bool b)] := by
  obtain ⟨m, rfl⟩ := isT_pos h
  simp only [isT, ht] at h
  exact h
theorem isT_string1 {P : Program} {t : TypeId} (ht : P.underlying t = some .string) {n : Nat} {xs : List V} (h : isT P n t xs) : ∃ s : ByteArray, xs = [.sc (.string s)] := by
  obtain ⟨m, rfl⟩ := isT_pos h
  exact isT_string ht h
theorem inR_of {m : Int} (h : (Lit.int .i64 m).wf = true) : -9223372036854775808 ≤ m ∧ m ≤ 9223372036854775807 := by
  have h' : (decide ((-9223372036854775808 : Int) ≤ m) && decide (m ≤ 9223372036854775807)) = true := h
  simpa using h'
end Go.Ab
