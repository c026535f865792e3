/- The law Text64Reads is true of the given program: whatever text is handed in, where what is read is of bulk at most 1048576. -/
import Derived.Test.YtnjgofgogeileaaG64
import Derived.Test.YtnjgofgogeileaaE49
import Derived.Test.YtnjgofgogeileaaRows
import Derived.WalkKit
import Derived.ProofKit
import Derived.OpenShut
import Derived.JoinedCond
namespace Go.Proofs.Ytnjgofgogeileaa.text64Reads
open Go.ChangeShapes Go.WideShapes Go.ChangeAt Go.RowKit

theorem own : ownKnob Try.prog.godebug = none := by kernel_rfl

theorem law (vs : List Go.Ab.V) (h : Go.Ab.isVs Try.prog [9] vs) (hb : Go.Ab.bulkL vs ≤ 1048576) : Go.Ab.CallR Go.Ab.C Go.Ab.prim 4 vs [] (.sc (.bool true), []) := by
  obtain ⟨x, rfl, hx⟩ := Go.Ab.isVs_one h
  obtain ⟨s, rfl⟩ := Go.Ab.isV_string Try.underlying9 hx
  simp only [Go.Ab.bulkL, Go.Ab.V.bulk] at hb
  exact Go.Ab.f4_run s _ (Go.Ab.f4_eq s (decide_eq_true (by omega)))

set_option maxRecDepth 100000 in
theorem contract (H : Type) (enc : TypeId × Value → H) (W : World) (base : Nat) (args : Array Value) (ds gs : List (DataW H)) (before : List MemPlace)
    (hval : ∀ (j : Nat) t v, Try.f4.params[j]? = some t → args[j]? = some v → Value.okWide Try.prog W .any base t v)
    (hW : DataW.Whole enc Try.prog Try.f4.params.toList Rows.text64ReadsSpec.vars false W args.toList ds gs before) (hk : Rows.uptoSmall H (ds ++ gs) = true) :
    Calls Try.prog 4 args W fun e W' => ∃ v, e = .returned v ∧ Rows.text64ReadsSpec.post enc Try.prog Try.f4 false true false false W args v W' :=
  Go.Ab.law_contract (C := Go.Ab.C) (prim := Go.Ab.prim) (by kernel_rfl) (fun g p h => Go.Ab.prims_ok g p h) (by kernel_rfl) Try.func4 (by kernel_rfl) (by kernel_rfl) (by kernel_rfl) (by kernel_rfl) Try.underlying4
    rfl (fun ds h => match ds, h with | [_], _ => ⟨rfl, rfl, rfl⟩) hval hW
    (fun vs h hb => law vs h (Nat.le_trans hb (of_decide_eq_true hk)))

set_option maxRecDepth 100000 in
theorem lifted (os : Os) (started : os.Started) (H : Type) (enc : TypeId × Value → H) (F : Stop.Interp) :
    ReturnsInHanded {} Try.checked os 4 .any ((Rows.OpenSpec.upto Rows.text64ReadsSpec).pre6 enc Try.prog Try.f4 Rows.text64ReadsUptoRow.domain false) (((Rows.OpenSpec.upto Rows.text64ReadsSpec).at F).post enc Try.prog Try.f4 false true false false) := by
  refine returnsInHanded_of_cond (C := Try.checked) (s := Rows.OpenSpec.upto Rows.text64ReadsSpec) (k := Rows.uptoSmall) rfl own started (by kernel_rfl) Try.func4
    (OpenSpec.witness (enc := enc) (C := Try.checked) (s := Rows.OpenSpec.upto Rows.text64ReadsSpec) (k := Rows.uptoSmall) rfl false ⟨#[], #[.string .empty], []⟩ 8 (by kernel_rfl) (by kernel_rfl) (by kernel_rfl)
      (x := ([.lit (.string [])], [], [])) (by kernel_rfl) rfl (by kernel_rfl)) ?_
  intro W base args ds gs before hval hW _ hk _
  exact contract H enc W base args ds gs before hval hW hk

theorem proved : Rows.Text64ReadsUptoSaid :=
  OpenClaim.holds_of_cond 4 Try.f4 rfl rfl rfl rfl rfl rfl rfl ⟨rfl, rfl, rfl, rfl, rfl⟩ rfl rfl rfl rfl rfl (by kernel_rfl) Try.func4 (by kernel_rfl)
    (of_decide_eq_true (by kernel_rfl)) (by unfold Func.isWrapper; first | (rw [if_pos (by decide +kernel)]; kernel_rfl) | (rw [if_neg (by decide +kernel)]; exact ⟨rfl, rfl⟩))
    (fun os started H enc _ F => lifted os started H enc F)
end Go.Proofs.Ytnjgofgogeileaa.text64Reads
