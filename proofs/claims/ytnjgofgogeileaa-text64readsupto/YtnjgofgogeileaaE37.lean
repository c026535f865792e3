/- Own slices that go out as values. -/
import Derived.Test.YtnjgofgogeileaaE36
namespace Go.Ab
open Go
set_option linter.unusedSimpArgs false
set_option linter.unusedVariables false

section
variable {P : Program} {w0 w : World} {F : FG} {N : Nat} {st : St} {a : Act} {G : Nat → Prop} {gm : GM}

/-- Some own slices are values now. -/
def CoeR (P : Program) : List V → List V → Prop
  | [], [] => True
  | x :: xs, y :: ys => (y = x ∨ ∃ e d zs, x = .own e d zs ∧ y = Ab.frz P x) ∧ CoeR P xs ys
  | _, _ => False

theorem CoeR.refl : ∀ xs : List V, CoeR P xs xs
  | [] => trivial
  | _ :: xs => ⟨.inl rfl, CoeR.refl xs⟩
theorem CoeR.append : ∀ {xs ys xs' ys' : List V}, CoeR P xs ys → CoeR P xs' ys' → CoeR P (xs ++ xs') (ys ++ ys')
  | [], [], _, _, _, h => h
  | _ :: _, _ :: _, _, _, h, h' => ⟨h.1, CoeR.append h.2 h'⟩
  | [], _ :: _, _, _, h, _ => h.elim
  | _ :: _, [], _, _, h, _ => h.elim

theorem retire : ∀ (xs ys : List V) (vals : List Value) (sks : List Sk), OwnL w G P vals xs sks → (fpL sks).Nodup → CoeR P xs ys →
    ∃ sks' : List Sk, (fpL sks').Sublist (fpL sks) ∧ ∀ G' : Nat → Prop, (∀ b, G b → G' b) → (∀ b ∈ fpL sks, b ∉ fpL sks' → G' b) → OwnL w G' P vals ys sks'
  | [], [], [], [], _, _, _ => ⟨[], List.Sublist.refl _, fun _ _ _ => trivial⟩
  | x :: xs, y :: ys, v :: vals, s :: sks, h, hnd, hc => by
    simp only [fpL, List.nodup_append] at hnd
    obtain ⟨sks', h1, h2⟩ := retire xs ys vals sks h.2 hnd.2.1 hc.2
    rcases hc.1 with rfl | ⟨e, d, zs, rfl, rfl⟩
    · refine ⟨s :: sks', ?_, fun G' hG hf => ⟨OwnC.frame (fun _ _ => rfl) hG _ _ _ (fun _ _ => rfl) h.1, h2 G' hG (fun b hb hn => hf b ?_ ?_)⟩⟩
      · simp only [fpL]; exact List.Sublist.append (List.Sublist.refl _) h1
      · simp only [fpL, List.mem_append]; exact .inr hb
      · simp only [fpL, List.mem_append, not_or]
        exact ⟨fun hs => hnd.2.2 b hs b hb rfl, hn⟩
    · refine ⟨.leaf :: sks', ?_, fun G' hG hf => ⟨OwnC.of_imm (OwnC.frz hG _ _ _ h.1 (fun k hk => hf k ?_ ?_)) (frz_imm e d zs), h2 G' hG (fun b hb hn => hf b ?_ ?_)⟩⟩
      · simp only [fpL, Sk.fp, List.nil_append]; exact h1.trans (List.sublist_append_right _ _)
      · simp only [fpL, List.mem_append]; exact .inl hk
      · simp only [fpL, Sk.fp, List.nil_append]
        exact fun hm => hnd.2.2 k hk k (h1.subset hm) rfl
      · simp only [fpL, List.mem_append]; exact .inr hb
      · simp only [fpL, Sk.fp, List.nil_append]; exact hn
  | [], _ :: _, _, _, _, _, h => h.elim
  | _ :: _, [], _, _, _, _, h => h.elim
  | [], [], [], _ :: _, h, _, _ => by simp [OwnL] at h
  | [], [], _ :: _, _, h, _, _ => by simp [OwnL] at h
  | _ :: _, _ :: _, [], _, h, _, _ => by simp [OwnL] at h
  | _ :: _, _ :: _, _ :: _, [], h, _, _ => by simp [OwnL] at h
end
end Go.Ab
