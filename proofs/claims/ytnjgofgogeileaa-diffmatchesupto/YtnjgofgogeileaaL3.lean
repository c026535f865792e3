/- The law DiffMatches is true of the given program: whatever two lists are handed in, where what is read is of bulk at most 1048576. -/
import Derived.Test.YtnjgofgogeileaaGD
import Derived.Test.YtnjgofgogeileaaLU
import Derived.Test.YtnjgofgogeileaaRows
import Derived.Test.YtnjgofgogeileaaEngD
import Derived.WalkKit
import Derived.ProofKit
import Derived.OpenShut
import Derived.JoinedCond
namespace Go.Ab
open Go Go.Proofs
end Go.Ab
namespace Go.Proofs.Ytnjgofgogeileaa.diffMatches
open Go.ChangeShapes Go.WideShapes Go.ChangeAt Go.RowKit

theorem own : ownKnob Try.prog.godebug = none := by kernel_rfl

set_option maxRecDepth 100000 in
theorem law (vs : List Go.Ab.V) (h : Go.Ab.isVs Try.prog [22, 22] vs) (hb : Go.Ab.bulkL vs ≤ 1048576) : Go.Ab.CallR Go.Ab.C Go.Ab.prim 3 vs [] (.sc (.bool true), []) := by
  obtain ⟨x, y, rfl, hx, hy⟩ := Go.Ab.isVs_two h
  obtain ⟨a, rfl, ha⟩ := Go.Ab.isV_strs Try.underlying22 Try.underlying9 (by kernel_rfl) hx
  obtain ⟨b, rfl, hb'⟩ := Go.Ab.isV_strs Try.underlying22 Try.underlying9 (by kernel_rfl) hy
  simp only [Go.Ab.bulkL, Go.Ab.V.bulk] at hb
  have h1 := Go.Ab.len_strs ha
  have h2 := Go.Ab.len_strs hb'
  refine Go.Ab.f3_run _ _ _ (Go.Ab.f3_eq _ _ ?_)
  rw [ha, hb', decide_eq_true (show a.length ≤ 1048576 by omega), decide_eq_true (show b.length ≤ 1048576 by omega)]
  rfl

set_option maxRecDepth 100000 in
theorem contract (H : Type) (enc : TypeId × Value → H) (W : World) (base : Nat) (args : Array Value) (ds gs : List (DataW H)) (before : List MemPlace)
    (hval : ∀ (j : Nat) t v, Try.f3.params[j]? = some t → args[j]? = some v → Value.okWide Try.prog W .any base t v)
    (hW : DataW.Whole enc Try.prog Try.f3.params.toList Rows.diffMatchesSpec.vars false W args.toList ds gs before) (hk : Rows.uptoSmall H (ds ++ gs) = true) :
    Calls Try.prog 3 args W fun e W' => ∃ v, e = .returned v ∧ Rows.diffMatchesSpec.post enc Try.prog Try.f3 false true false false W args v W' :=
  Go.Ab.law_contract (C := Go.Ab.C) (prim := Go.Ab.prim) (by kernel_rfl) (fun g p h => Go.Ab.prims_ok g p h) (by kernel_rfl) Try.func3 (by kernel_rfl) (by kernel_rfl) (by kernel_rfl) (by kernel_rfl) Try.underlying4
    rfl (fun ds h => match ds, h with | [_, _], _ => ⟨rfl, rfl, rfl⟩) hval hW
    (fun vs h hb => law vs h (Nat.le_trans hb (of_decide_eq_true hk)))

set_option maxRecDepth 100000 in
theorem lifted (os : Os) (started : os.Started) (H : Type) (enc : TypeId × Value → H) (F : Stop.Interp) :
    ReturnsInHanded {} Try.checked os 3 .any ((Rows.OpenSpec.upto Rows.diffMatchesSpec).pre6 enc Try.prog Try.f3 Rows.diffMatchesUptoRow.domain false) (((Rows.OpenSpec.upto Rows.diffMatchesSpec).at F).post enc Try.prog Try.f3 false true false false) := by
  refine returnsInHanded_of_cond (C := Try.checked) (s := Rows.OpenSpec.upto Rows.diffMatchesSpec) (k := Rows.uptoSmall) rfl own started (by kernel_rfl) Try.func3
    (OpenSpec.witness (enc := enc) (C := Try.checked) (s := Rows.OpenSpec.upto Rows.diffMatchesSpec) (k := Rows.uptoSmall) rfl false ⟨#[], #[.slice none 0 0, .slice none 0 0], []⟩ 8 (by kernel_rfl) (by kernel_rfl) (by kernel_rfl)
      (x := ([.nil, .nil], [], [])) (by kernel_rfl) rfl (by kernel_rfl)) ?_
  intro W base args ds gs before hval hW _ hk _
  exact contract H enc W base args ds gs before hval hW hk

theorem proved : Rows.DiffMatchesUptoSaid :=
  OpenClaim.holds_of_cond 3 Try.f3 rfl rfl rfl rfl rfl rfl rfl ⟨rfl, rfl, rfl, rfl, rfl⟩ rfl rfl rfl rfl rfl (by kernel_rfl) Try.func3 (by kernel_rfl)
    (of_decide_eq_true (by kernel_rfl)) (by unfold Func.isWrapper; first | (rw [if_pos (by decide +kernel)]; kernel_rfl) | (rw [if_neg (by decide +kernel)]; exact ⟨rfl, rfl⟩))
    (fun os started H enc _ F => lifted os started H enc F)
end Go.Proofs.Ytnjgofgogeileaa.diffMatches
