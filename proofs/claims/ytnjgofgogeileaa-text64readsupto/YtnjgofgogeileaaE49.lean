/- What the arguments of a law are. -/
import Derived.Test.YtnjgofgogeileaaE48
namespace Go.Ab
open Go

theorem isVs_one {P : Program} {t : TypeId} {vs : List V} (h : isVs P [t] vs) : ∃ x, vs = [x] ∧ isV P t x := by
  match vs, h with
  | [x], ⟨h, _⟩ => exact ⟨x, rfl, h⟩
theorem isVs_two {P : Program} {t u : TypeId} {vs : List V} (h : isVs P [t, u] vs) : ∃ x y, vs = [x, y] ∧ isV P t x ∧ isV P u y := by
  match vs, h with
  | [x, y], ⟨h, g, _⟩ => exact ⟨x, y, rfl, h, g⟩
theorem isVs_three {P : Program} {t u q : TypeId} {vs : List V} (h : isVs P [t, u, q] vs) : ∃ x y z, vs = [x, y, z] ∧ isV P t x ∧ isV P u y ∧ isV P q z := by
  match vs, h with
  | [x, y, z], ⟨h, g, k, _⟩ => exact ⟨x, y, z, rfl, h, g, k⟩
theorem isT_string {P : Program} {t : TypeId} (ht : P.underlying t = some .string) {n : Nat} {xs : List V} (h : isT P (n + 1) t xs) : ∃ s : ByteArray, xs = [.sc (.string s)] := by
  simp only [isT, ht] at h
  obtain ⟨s, h, _⟩ := h
  exact ⟨s, h⟩
theorem isT_int {P : Program} {t : TypeId} {k : IntKind} (ht : P.underlying t = some (.int k)) {n : Nat} {xs : List V} (h : isT P (n + 1) t xs) : ∃ m : Int, xs = [.sc (.int k m)] ∧ (Lit.int k m).wf = true := by
  simp only [isT, ht] at h
  exact h
theorem isV_string {P : Program} {t : TypeId} (ht : P.underlying t = some .string) {x : V} (h : isV P t x) : ∃ s : ByteArray, x = .sc (.string s) := by
  obtain ⟨xs, h1, h2⟩ := h
  obtain ⟨s, rfl⟩ := isT_string ht h1
  rcases h2 with ⟨h2, _⟩ | ⟨_, h2⟩
  · unfold aggT at h2; rw [ht] at h2; cases h2
  · exact ⟨s, by simpa using h2.symm⟩
theorem isV_int {P : Program} {t : TypeId} {k : IntKind} (ht : P.underlying t = some (.int k)) {x : V} (h : isV P t x) : ∃ m : Int, x = .sc (.int k m) ∧ (Lit.int k m).wf = true := by
  obtain ⟨xs, h1, h2⟩ := h
  obtain ⟨s, rfl, hw⟩ := isT_int ht h1
  rcases h2 with ⟨h2, _⟩ | ⟨_, h2⟩
  · unfold aggT at h2; rw [ht] at h2; cases h2
  · exact ⟨s, by simpa using h2.symm, hw⟩
end Go.Ab
