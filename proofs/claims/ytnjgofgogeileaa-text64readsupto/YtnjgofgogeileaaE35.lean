/- Loops and fuel. -/
import Derived.Test.YtnjgofgogeileaaE34
namespace Go.Ab
open Go
set_option linter.unusedSimpArgs false
set_option linter.unusedVariables false

theorem exists_least {p : Nat → Prop} (h : ∃ n, p n) : ∃ n, p n ∧ ∀ m, p m → n ≤ m := by
  obtain ⟨n, hn⟩ := h
  induction n using Nat.strongRecOn with
  | _ n ih =>
    by_cases hm : ∃ m, m < n ∧ p m
    · obtain ⟨m, h1, h2⟩ := hm
      exact ih m h1 h2
    · refine ⟨n, hn, fun m h => ?_⟩
      rcases Nat.lt_or_ge m n with h' | h'
      · exact absurd ⟨m, h', h⟩ hm
      · exact h'

open Classical in
noncomputable def least (p : Nat → Prop) : Nat := if h : ∃ n, p n then (exists_least h).choose else 0
theorem least_is {p : Nat → Prop} (h : ∃ n, p n) : p (least p) := by
  unfold least; rw [dif_pos h]; exact (exists_least h).choose_spec.1
theorem least_le {p : Nat → Prop} {n : Nat} (h : p n) : least p ≤ n := by
  unfold least; rw [dif_pos ⟨n, h⟩]; exact (exists_least ⟨n, h⟩).choose_spec.2 n h

section
variable {C : Cfg} {prim : FuncId → Option PrimT}

theorem recE_loop (k : Nat) {R : Type} (f : FuncId) (c : Code) (p : List Nat) (st : St) (κ : Ex → St → Option R) :
    recE C prim (k + 1) R f (.loop c) p st κ = execC C (optK (callE C prim k)) f (recE C prim k R f) c (0 :: p) st fun e s => match e with
      | .nm => recE C prim k R f (.loop c) p (forget C f p s) κ
      | e => κ e (forget C f (9 :: p) s) := rfl

theorem recE_code (k : Nat) {R : Type} (f : FuncId) (c : Code) (hc : ∀ x, c ≠ .loop x) (p : List Nat) (st : St) (κ : Ex → St → Option R) :
    recE C prim (k + 1) R f c p st κ = execC C (optK (callE C prim k)) f (recE C prim k R f) c p st fun e s => κ e (forget C f (9 :: p) s) := by
  cases c <;> first | rfl | exact absurd rfl (hc _)

theorem recE_ok (hm : C.P.follows .mixedOrders = true) (hB : ∀ k, (∀ f c, CodeSound C f (V × List Rg) (recE C prim k (V × List Rg) f) c) → CallSound C.P (optK (callE C prim k))) :
    ∀ k, ∀ (R : Type) f c, CodeSound C f R (recE C prim k R f) c := by
  intro k
  induction k using Nat.strongRecOn with
  | _ k ih =>
    intro R f c
    cases k with
    | zero => intro p st κ r h; cases h
    | succ k =>
      by_cases hc : ∃ x, c = .loop x
      · obtain ⟨c, rfl⟩ := hc
        intro p st κ r h w0 F N hN a w G gm hI Q hQ
        let J : Act → World → Nat → Prop := fun a w n => n ≤ k + 1 ∧ ∃ st G' gm', Inv C.P w0 F N st a w G' gm' ∧ (∀ b, G b → G' b) ∧ recE C prim n R f (.loop c) p st κ = some r
        refine wp_loop (fun a w => ∃ n, J a w n) (fun a w => least (J a w)) ⟨k + 1, Nat.le_refl _, st, G, gm, hI, fun _ h => h, h⟩ ?_
        intro a1 w1 hex
        obtain ⟨hnk, st1, G1, gm1, hI1, hG1, hE⟩ := least_is hex
        generalize hn : least (J a1 w1) = n at hnk hE
        cases n with
        | zero => cases hE
        | succ n =>
          rw [recE_loop] at hE
          refine execC_ok hm (hB n (ih n (by omega) _)) _ (fun c => ih n (by omega) R f c) c (0 :: p) st1 _ r hE w0 F N hN a1 w1 G1 gm1 hI1 _ ?_
          intro e st' a' w' G' gm' hk hG hI'
          cases e with
          | nm =>
            obtain ⟨gm2, hI2⟩ := forget_ok (fid := f) hI' p
            have hJ : J a' w' n := ⟨by omega, _, G', gm2, hI2, fun b hb => hG b (hG1 b hb), hk⟩
            refine ⟨⟨n, hJ⟩, ?_⟩
            have := least_le hJ
            show least (J a' w') < n + 1
            omega
          | ex i =>
            obtain ⟨gm2, hI2⟩ := forget_ok (fid := f) hI' (9 :: p)
            exact hQ (.ex i) _ a' w' G' gm2 hk (fun b hb => hG b (hG1 b hb)) hI2
          | rt =>
            obtain ⟨gm2, hI2⟩ := forget_ok (fid := f) hI' (9 :: p)
            exact hQ .rt _ a' w' G' gm2 hk (fun b hb => hG b (hG1 b hb)) hI2
      · intro p st κ r h w0 F N hN a w G gm hI Q hQ
        rw [recE_code k f c (fun x e => hc ⟨x, e⟩)] at h
        refine execC_ok hm (hB k (ih k (by omega) _)) _ (fun c => ih k (by omega) R f c) c p st _ r h w0 F N hN a w G gm hI Q ?_
        intro e st' a' w' G' gm' hk hG hI'
        obtain ⟨gm2, hI2⟩ := forget_ok (fid := f) hI' (9 :: p)
        exact hQ e _ a' w' G' gm2 hk hG hI2
end
end Go.Ab
