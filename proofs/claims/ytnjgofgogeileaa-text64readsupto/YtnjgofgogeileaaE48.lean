/- Functions whose calls are known from elsewhere. -/
import Derived.Test.YtnjgofgogeileaaE47
namespace Go.Ab
open Go Go.RowKit
set_option linter.unusedSimpArgs false
set_option linter.unusedVariables false

/-- What is told of a primitive. -/
def PrimOk (P : Program) (g : FuncId) (p : PrimT) : Prop :=
  ∀ vs gs v gs', p vs gs = (true, v, gs') → ∀ (args : Array Value) (w : World) (F : FG) (Rs : List RG), Regs P w F (parR gs) w F.g (parG Rs) → RvL w F.g (parG Rs) args.toList vs → Enter P g args w (Back P w F v gs')

def pNil : FuncId → Option PrimT := fun _ => none
def pCons (g0 : FuncId) (p : PrimT) (T : FuncId → Option PrimT) : FuncId → Option PrimT := fun g => bif Nat.beq g g0 then some p else T g

section
variable {P : Program}
theorem PrimsOk.nil : ∀ g p, pNil g = some p → PrimOk P g p := by intro g p h; cases h
theorem PrimsOk.cons {g0 : FuncId} {p0 : PrimT} {T : FuncId → Option PrimT} (h0 : PrimOk P g0 p0) (hT : ∀ g p, T g = some p → PrimOk P g p) : ∀ g p, pCons g0 p0 T g = some p → PrimOk P g p := by
  intro g p h
  unfold pCons at h
  cases hg : Nat.beq g g0 with
  | true =>
    rw [hg] at h
    rw [nbeq hg]
    obtain rfl := Option.some.inj h
    exact h0
  | false => rw [hg] at h; exact hT g p h

theorem enter_of_calls {g : FuncId} {fn : Func} (hf : P.funcs[g]? = some fn) (hb : fn.body.isSome = true) (hn : (fn.name == "runtime.NumGoroutine") = false) {args : Array Value} {w : World} {R : Value → World → Prop}
    (h : Calls P g args w fun e w' => ∃ v, e = .returned v ∧ R v w') : Enter P g args w R := by
  have hcf : (callFunc g args).run P w = .ok (.enter g args) w := by
    have hn2 : ¬ fn.name = "runtime.NumGoroutine" := by simpa using hn
    have hb2 : ¬ fn.body = none := by
      intro e; rw [e] at hb; cases hb
    simp [callFunc, hf, hn2, hb2, Result.andThen]
  unfold Enter
  rw [hcf]
  exact h

/-- A value comes back, of old cells or of new ones. -/
theorem back_val {w w' : World} {F : FG} {Rs : List RG} {res : Value} {x : V} (hx : x.imm = true) (hl : x.land .hand 0 = (x, [])) (hR : Regs P w F (parR []) w F.g (parG Rs)) (hb : Below w.heap.size w w')
    (hrv : Rv w' (fun b => F.g b ∨ (w.heap.size ≤ b ∧ b < w'.heap.size)) noGM res x) : Back P w F x [] res w' := by
  refine ⟨fun b => F.g b ∨ (w.heap.size ≤ b ∧ b < w'.heap.size), setG noGM .hand (some ⟨none, [], []⟩), ?_, ?_⟩
  · rw [hl]
    have hno : ∀ r, r ≠ .hand → setG noGM .hand (some (⟨none, [], []⟩ : RG)) r = none := fun r hr => by rw [setG_ne _ _ hr]; rfl
    have hh : ∀ r R, setG noGM .hand (some (⟨none, [], []⟩ : RG)) r = some R → r = .hand ∧ R = ⟨none, [], []⟩ := by
      intro r R h
      by_cases hr : r = .hand
      · subst hr; rw [setG_self] at h; exact ⟨rfl, (Option.some.inj h).symm⟩
      · rw [hno r hr] at h; cases h
    refine ⟨?_, ?_, ?_, ?_, ?_, ?_, ⟨hb.os, hb.tape, hb.output, hb.size, fun k hk _ => hb.block k hk⟩, fun b h => .inl h, ?_, ?_⟩
    · intro r
      cases r with
      | hand => rw [withHand_hand, setG_self]; exact ⟨rfl, trivial, fun b hb => by cases hb⟩
      | loc i => rw [withHand_ne _ _ (by simp), hno _ (by simp)]; trivial
      | par i => rw [withHand_ne _ _ (by simp), hno _ (by simp)]; simp [parR]
    · intro r R h; obtain ⟨_, rfl⟩ := hh r R h; simp [RG.fp, fpL]
    · intro r r' R R' hne h h'
      obtain ⟨rfl, _⟩ := hh r R h
      obtain ⟨rfl, _⟩ := hh r' R' h'
      exact absurd rfl hne
    · intro r R b h hb; obtain ⟨_, rfl⟩ := hh r R h; simp [RG.fp, fpL] at hb
    · intro r R b h hb; obtain ⟨_, rfl⟩ := hh r R h; simp [RG.fp, fpL] at hb
    · rintro b (h | h)
      · exact Nat.lt_of_lt_of_le (hR.old b h) hb.size
      · exact h.2
    · rintro b (h | h)
      · exact .inl h
      · exact .inr (.inl h.1)
    · intro i R h; obtain ⟨hr, _⟩ := hh _ R h; cases hr
  · rw [hl]
    exact hrv.imm hx

theorem args1 {w : World} {G : Nat → Prop} {gm : GM} {args : Array Value} {x : V} (h : RvL w G gm args.toList [x]) : ∃ v, args = #[v] ∧ Rv w G gm v x := by
  obtain ⟨l⟩ := args
  match l, h with
  | [v], h => exact ⟨v, rfl, h.1⟩
theorem args2 {w : World} {G : Nat → Prop} {gm : GM} {args : Array Value} {x y : V} (h : RvL w G gm args.toList [x, y]) : ∃ v u, args = #[v, u] ∧ Rv w G gm v x ∧ Rv w G gm u y := by
  obtain ⟨l⟩ := args
  match l, h with
  | [v, u], h => exact ⟨v, u, rfl, h.1, h.2.1⟩
end
end Go.Ab
