/- A function's body: what it begins with, what it ends with. -/
import Derived.Test.YtnjgofgogeileaaE35
namespace Go.Ab
open Go
set_option linter.unusedSimpArgs false
set_option linter.unusedVariables false

section
variable {P : Program} {w0 w : World} {F : FG} {N : Nat} {st : St} {a : Act} {G : Nat → Prop} {gm : GM}

theorem nthV_get' : ∀ (l : List V) (j : Nat), nthV l j = (l[j]?).getD .bad
  | [], j => by simp [nthV]
  | _ :: _, 0 => rfl
  | _ :: l, j + 1 => by simpa [nthV] using nthV_get' l j

/-- A call's first state. -/
theorem start_ok {gs : List Rg} {Rs : List RG} (h : Regs P w F (parR gs) w F.g (parG Rs)) {args : Array Value} {vs : List V} (hv : RvL w F.g (parG Rs) args.toList vs) {n : Nat} (hn : args.size ≤ n) :
    Inv P w F n (stOf vs gs) { tmps := args ++ Array.replicate (n - args.size) undef, defers := [] } w F.g (parG Rs) := by
  have hl := hv.length
  refine ⟨?_, fun i => ?_, by simp; omega, rfl, rfl⟩
  · have : (stOf vs gs).regs = parR gs := by
      funext n
      cases n <;> rfl
    rw [this]; exact h
  · show Rv w F.g (parG Rs) _ (nthV vs i)
    rcases Nat.lt_or_ge i vs.length with hi | hi
    · obtain ⟨v, h1, h2⟩ := hv.get i hi
      have hia : i < args.size := by rw [← Array.length_toList]; omega
      have : (args ++ Array.replicate (n - args.size) undef).getD i undef = v := by
        have h3 : args[i]? = some v := by simpa using h1
        simp [Array.getD, Array.getElem_append, hia]
        have h4 := (Array.getElem?_eq_some_iff.1 h3).2
        have h5 : i < args.size + (n - args.size) := by omega
        simp [h5, h4]
      rw [this]; exact h2
    · rw [nthV_out _ _ hi]; exact trivial

theorem cell_land {x : V} (h : x.cib = true) (n : Nm) (j : Nat) : x.land n j = (x, []) := by
  cases x <;> first | rfl | (simp [V.cib, V.cim, V.imm, V.isCell] at h; done)

/-- Of the cells in the hand the own slices are kept, each in its place. -/
theorem compress : ∀ (xs : List V) (vals : List Value) (sks : List Sk) (j : Nat), OwnL w G P vals xs sks → (∀ x ∈ xs, x ≠ .slf) →
    ∃ (ovals : List Value) (osks : List Sk), OwnL w G P ovals (landL .hand j xs).2 osks ∧ fpL osks = fpL sks ∧
      ∀ gm' : GM, (∀ i, i < osks.length → ∃ R, gm' .hand = some R ∧ nthS R.sks (j + i) = nthS osks i) → RvL w G gm' vals (landL .hand j xs).1
  | [], [], [], j, _, _ => ⟨[], [], trivial, rfl, fun _ _ => trivial⟩
  | x :: xs, v :: vals, s :: sks, j, h, hns => by
    by_cases ho : ∃ e d ys, x = .own e d ys
    · obtain ⟨e, d, ys, rfl⟩ := ho
      obtain ⟨ov, os, h1, h2, h3⟩ := compress xs vals sks (j + 1) h.2 (fun y hy => hns y (by simp [hy]))
      refine ⟨v :: ov, s :: os, ⟨h.1, by simpa [landL, V.land] using h1⟩, by simp [fpL, h2], fun gm' hg => ?_⟩
      simp only [landL, V.land, List.length_cons, List.length_nil, Nat.zero_add]
      refine ⟨?_, h3 gm' (fun i hi => ?_)⟩
      · obtain ⟨R, hR, hs⟩ := hg 0 (by simp)
        refine OwnC.ref (P := P) (w := w) (G := G) (e := e) (d := d) (xs := ys) ?_
        simp only [skAt, hR, getSk]
        rw [show nthS R.sks j = s from hs]
        exact h.1
      · obtain ⟨R, hR, hs⟩ := hg (i + 1) (by simp; omega)
        exact ⟨R, hR, by rw [Nat.add_assoc, Nat.add_comm 1]; exact hs⟩
    · have hx : x.cib = true ∧ s = .leaf ∧ ∀ gm' : GM, Rv w G gm' v x := by
        have h1 := h.1
        cases x with
        | own e d ys => exact absurd ⟨e, d, ys, rfl⟩ ho
        | bad => exact ⟨rfl, h1.1, fun _ => trivial⟩
        | slf => exact absurd rfl (hns _ (by simp))
        | _ => exact ⟨h1.2.1, h1.1, fun gm' => h1.2.2.imm (cim_imm h1.2.1)⟩
      obtain ⟨c1, rfl, c3⟩ := hx
      obtain ⟨ov, os, h1, h2, h3⟩ := compress xs vals sks j h.2 (fun y hy => hns y (by simp [hy]))
      refine ⟨ov, os, by simpa [landL, cell_land c1] using h1, by simp [fpL, Sk.fp, h2], fun gm' hg => ?_⟩
      simp only [landL, cell_land c1, List.length_nil, Nat.add_zero]
      exact ⟨c3 gm', h3 gm' hg⟩
  | [], _ :: _, _, _, h, _ => by simp [OwnL] at h
  | [], [], _ :: _, _, h, _ => by simp [OwnL] at h
  | _ :: _, [], _, _, h, _ => by simp [OwnL] at h
  | _ :: _, _ :: _, [], _, h, _ => by simp [OwnL] at h
end
end Go.Ab
