/- The law PartMatches is true of the given program: whatever part and text are handed in, where what is read is of bulk at most 1048576. -/
import Derived.Test.YtbeemjiaohaamaaDoorGPT
import Derived.Test.YtbeemjiaohaamaaDoorLV
import Derived.Test.YtbeemjiaohaamaaDoorLU
import Derived.Test.YtbeemjiaohaamaaDoorLW
namespace Go.Ab
open Go Go.Proofs
end Go.Ab
namespace Go.Proofs.YtbeemjiaohaamaaDoor.partMatches
open Go.ChangeShapes Go.WideShapes Go.ChangeAt Go.RowKit

set_option maxRecDepth 100000 in
theorem law (vs : List Go.Ab.V) (h : Go.Ab.isVs Tryd.prog [62, 9] vs) (hb : Go.Ab.bulkL vs ≤ 1048576) : Go.Ab.CallR Go.Ab.C Go.Ab.prim 8 vs [] (.sc (.bool true), []) := by
  obtain ⟨x, y, rfl, hx, hy⟩ := Go.Ab.isVs_two h
  obtain ⟨n, l, rfl, hf⟩ := Go.Ab.isV_struct Tryd.underlying62 hx
  obtain ⟨y1, l, rfl, q1, hf⟩ := Go.Ab.isF_cons hf
  obtain ⟨y2, l, rfl, q2, hf⟩ := Go.Ab.isF_cons hf
  obtain ⟨y3, l, rfl, q3, hf⟩ := Go.Ab.isF_cons hf
  obtain rfl := Go.Ab.isF_nil hf
  obtain ⟨k, rfl, _⟩ := Go.Ab.isT_int1 Tryd.underlying3 q1
  obtain ⟨b, rfl⟩ := Go.Ab.isT_bool1 Tryd.underlying4 q2
  obtain ⟨m, rfl, _⟩ := Go.Ab.isT_int1 Tryd.underlying3 q3
  obtain ⟨s, rfl⟩ := Go.Ab.isV_string Tryd.underlying9 hy
  have e : ([[.sc (.int .i64 k)], [.sc (.bool b)], [.sc (.int .i64 m)]] : List (List Go.Ab.V)).flatten = [.sc (.int .i64 k), .sc (.bool b), .sc (.int .i64 m)] := rfl
  rw [e] at hb ⊢
  simp only [Go.Ab.bulkL, Go.Ab.V.bulk] at hb
  exact Go.Ab.f8_run k b m s _ (Go.Ab.f8_eq k b m s (decide_eq_true (show s.size ≤ 10000000 by omega)))

set_option maxRecDepth 100000 in
theorem contract (H : Type) (enc : TypeId × Value → H) (W : World) (base : Nat) (args : Array Value) (ds gs : List (DataW H)) (before : List MemPlace)
    (hval : ∀ (j : Nat) t v, Tryd.f8.params[j]? = some t → args[j]? = some v → Value.okWide Tryd.prog W .any base t v)
    (hW : DataW.Whole enc Tryd.prog Tryd.f8.params.toList Rows.partMatchesSpec.vars false W args.toList ds gs before) (hk : Rows.uptoSmall H (ds ++ gs) = true) :
    Calls Tryd.prog 8 args W fun e W' => ∃ v, e = .returned v ∧ Rows.partMatchesSpec.post enc Tryd.prog Tryd.f8 false true false false W args v W' :=
  Go.Ab.law_contract (C := Go.Ab.C) (prim := Go.Ab.prim) (by kernel_rfl) (fun g p h => Go.Ab.prims_ok g p h) (by kernel_rfl) Tryd.func8 (by kernel_rfl) (by kernel_rfl) (by kernel_rfl) (by kernel_rfl) Tryd.underlying4
    rfl (fun ds h => match ds, h with | [_, _], _ => ⟨rfl, rfl, rfl⟩) hval hW
    (fun vs h hb => law vs h (Nat.le_trans hb (of_decide_eq_true hk)))

theorem reads (os : Os) {H : Type} (enc : TypeId × Value → H) : ∃ places, DataW.whole enc Tryd.prog ((laidWorld os).forCall (fun _ _ => 0) ⟨#[], #[.agg #[.int .i64 0, .bool false, .int .i64 0], .string .empty], []⟩).memory Tryd.f8.params.toList Rows.partMatchesSpec.vars false (#[.agg #[.int .i64 0, .bool false, .int .i64 0], .string .empty] : Array Value).toList 8 = some ([.agg [.lit (.int .i64 0), .lit (.bool false), .lit (.int .i64 0)], .lit (.string [])], [], places) :=
  ⟨[], by kernel_rfl⟩

set_option maxRecDepth 100000 in
theorem lifted (os : Os) (started : os.Started) (H : Type) (enc : TypeId × Value → H) (F : Stop.Interp) :
    ReturnsInHanded {} Tryd.checked os 8 .any ((Rows.OpenSpec.upto Rows.partMatchesSpec).preRow enc Tryd.prog Tryd.f8 Rows.partMatchesUptoRow.domain false Rows.partMatchesUptoRow.laid) (((Rows.OpenSpec.upto Rows.partMatchesSpec).at F).post enc Tryd.prog Tryd.f8 false true false false) := by
  obtain ⟨places, hx⟩ := reads os enc
  refine returnsInHanded_of_row (C := Tryd.checked) (s := Rows.OpenSpec.upto Rows.partMatchesSpec) own started (by kernel_rfl) Tryd.func8
    (witness_row_at (enc := enc) (C := Tryd.checked) false (laidWorld os) #[.agg #[.int .i64 0, .bool false, .int .i64 0], .string .empty] rfl (by kernel_rfl) (by kernel_rfl) (by kernel_rfl)
      (OpenSpec.preRow_of_cond 8 hx (by kernel_rfl) (fun k hk => by cases hk; kernel_rfl) (by kernel_rfl) (laid_met os _))) ?_
  intro W base args ds gs before hval hW _ hk _ _ _ _
  exact contract H enc W base args ds gs before hval hW (hk _ rfl)

theorem saidUpto : Rows.PartMatchesUptoSaid :=
  OpenClaim.holds_of_cond 8 Tryd.f8 rfl rfl rfl rfl rfl rfl rfl ⟨rfl, rfl, rfl, rfl, rfl⟩ rfl rfl rfl rfl rfl (by kernel_rfl) Tryd.func8 (by kernel_rfl)
    (of_decide_eq_true (by kernel_rfl)) (by unfold Func.isWrapper; first | (rw [if_pos (by decide +kernel)]; kernel_rfl) | (rw [if_neg (by decide +kernel)]; exact ⟨rfl, rfl⟩))
    (fun os started H enc _ F => by rw [OpenClaim.pre_eq_preRow]; exact lifted os started H enc F)

/-- No parameter wants a stand-in; the program's own looks are off: what the card asks. -/
theorem plain (f : FuncId) (fn : Func) (hf : Tryd.pinned.checked.prog.funcNamed "periwinkle/periwinklelaw1.PartMatches" = some f) (hfn : Tryd.pinned.checked.prog.funcs[f]? = some fn) :
    false = Tryd.pinned.checked.prog.looks [] ∧ ∀ (j : Nat) t, fn.params[j]? = some t → Tryd.pinned.checked.prog.wantsStandIn t = false := by
  obtain rfl : f = 8 := Option.some.inj ((show Tryd.prog.funcNamed "periwinkle/periwinklelaw1.PartMatches" = some 8 by kernel_rfl).symm.trans hf) |>.symm
  obtain rfl : fn = Tryd.f8 := (Option.some.inj (Tryd.func8.symm.trans hfn)).symm
  refine ⟨by kernel_rfl, fun j t ht => ?_⟩
  rw [Tryd.params8] at ht
  have hm := Array.mem_of_getElem? ht
  simp only [List.mem_toArray, List.mem_cons, List.not_mem_nil, or_false] at hm
  rcases hm with rfl | rfl
  · exact (show Tryd.prog.wantsStandIn 62 = false by kernel_rfl)
  · exact (show Tryd.prog.wantsStandIn 9 = false by kernel_rfl)

theorem proved : Rows.PartMatchesUptoCardSaid :=
  Claim7.holds_tied_plain_at .later [] _ _ _ _ saidUpto (fun _ h => by cases h) (by kernel_rfl) (fun _ h => by cases h) partMatchesUpto_row_tie rfl ⟨rfl, rfl⟩ (by kernel_rfl) rfl plain (by kernel_rfl)
end Go.Proofs.YtbeemjiaohaamaaDoor.partMatches
