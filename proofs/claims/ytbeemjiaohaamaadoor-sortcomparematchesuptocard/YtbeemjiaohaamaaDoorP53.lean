/- Clip: a slice without its spare cells. -/
import Derived.Test.YtbeemjiaohaamaaDoorP12
import Derived.WalkKit
namespace Go.Ab
open Go Go.Proofs Go.RowKit
set_option linter.unusedSimpArgs false
set_option linter.unusedVariables false

theorem clip_calls (ad : Option Addr) (n c : Nat) (w : World) (h : n ≤ c) :
    Calls Tryd.prog 53 #[.slice ad n c] w fun e w' => e = .returned (.slice ad n n) ∧ w' = w := by
  go_enter Tryd.func53, Tryd.ntmps53
  go_wp2
  all_goals go_ret
  all_goals first
    | (subst h; exact ⟨rfl, rfl⟩)
    | exact ⟨rfl, rfl⟩
def p53 : PrimT := fun vs gs => match vs, gs with
  | [.sl 1 xs], [] => (true, .sl 1 xs, [])
  | _, _ => (false, .bad, [])
set_option maxRecDepth 100000 in
theorem p53_ok : PrimOk Tryd.prog 53 p53 := by
  intro vs gs v gs' h args w F Rs hR hv
  unfold p53 at h
  split at h
  · next xs =>
    simp only [Prod.mk.injEq, true_and] at h
    obtain ⟨rfl, rfl⟩ := h
    obtain ⟨a, rfl, ha⟩ := args1 hv
    refine enter_of_calls (fn := Tryd.f53) Tryd.func53 (by kernel_rfl) (by kernel_rfl) ?_
    rcases ha with ⟨rfl, rfl⟩ | ⟨ad, n, c, cs, rfl, k2, k3, k4, k5, k6, k7, k8, k9, k10⟩
    · refine (clip_calls none 0 0 w (Nat.le_refl 0)).mono ?_
      rintro e w' ⟨rfl, rfl⟩
      exact ⟨_, rfl, back_val rfl rfl hR (Below.refl _ _) (.inl ⟨rfl, rfl⟩)⟩
    · refine (clip_calls (some ad) n c w k3).mono ?_
      rintro e w' ⟨rfl, rfl⟩
      exact ⟨_, rfl, back_val rfl rfl hR (Below.refl _ _) (.inr ⟨ad, n, n, cs, rfl, k2, Nat.le_refl n, k4, k5, k6, fun h => .inl (k7 h), RvL.frame (G := F.g) (fun _ _ => rfl) (fun _ h => Or.inl h) noGM noGM _ _ (fun _ _ => rfl) k8, k9, k10⟩)⟩
  · cases h
end Go.Ab
