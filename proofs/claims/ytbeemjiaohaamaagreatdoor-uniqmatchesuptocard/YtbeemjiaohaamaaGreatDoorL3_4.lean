/- The law UniqMatches is true of the given program: whatever is asked for and whatever text is handed in, where what is read is of bulk at most 1048576. -/
import Derived.Test.YtbeemjiaohaamaaGreatDoorGUQ
import Derived.Test.YtbeemjiaohaamaaGreatDoorLV
import Derived.Test.YtbeemjiaohaamaaGreatDoorLU
import Derived.Test.YtbeemjiaohaamaaGreatDoorLWz
namespace Go.Ab
open Go Go.Proofs
end Go.Ab
namespace Go.Proofs.YtbeemjiaohaamaaGreatDoor.uniqMatches
open Go.ChangeShapes Go.WideShapes Go.ChangeAt Go.RowKit

set_option maxRecDepth 100000 in
theorem law (vs : List Go.Ab.V) (h : Go.Ab.isVs Tryz.prog [41, 9] vs) (hb : Go.Ab.bulkL vs ≤ 1048576) : Go.Ab.CallR Go.Ab.C Go.Ab.prim 4 vs [] (.sc (.bool true), []) := by
  obtain ⟨x, y, rfl, hx, hy⟩ := Go.Ab.isVs_two h
  obtain ⟨n, l, rfl, hf⟩ := Go.Ab.isV_struct Tryz.underlying41 hx
  obtain ⟨y1, l, rfl, q1, hf⟩ := Go.Ab.isF_cons hf
  obtain ⟨y2, l, rfl, q2, hf⟩ := Go.Ab.isF_cons hf
  obtain ⟨y3, l, rfl, q3, hf⟩ := Go.Ab.isF_cons hf
  obtain ⟨y4, l, rfl, q4, hf⟩ := Go.Ab.isF_cons hf
  obtain ⟨y5, l, rfl, q5, hf⟩ := Go.Ab.isF_cons hf
  obtain ⟨y6, l, rfl, q6, hf⟩ := Go.Ab.isF_cons hf
  obtain ⟨y7, l, rfl, q7, hf⟩ := Go.Ab.isF_cons hf
  obtain rfl := Go.Ab.isF_nil hf
  obtain ⟨k1, rfl, _⟩ := Go.Ab.isT_int1 Tryz.underlying3 q1
  obtain ⟨k2, rfl, _⟩ := Go.Ab.isT_int1 Tryz.underlying3 q2
  obtain ⟨k3, rfl, _⟩ := Go.Ab.isT_int1 Tryz.underlying3 q3
  obtain ⟨b1, rfl⟩ := Go.Ab.isT_bool1 Tryz.underlying4 q4
  obtain ⟨b2, rfl⟩ := Go.Ab.isT_bool1 Tryz.underlying4 q5
  obtain ⟨b3, rfl⟩ := Go.Ab.isT_bool1 Tryz.underlying4 q6
  obtain ⟨b4, rfl⟩ := Go.Ab.isT_bool1 Tryz.underlying4 q7
  obtain ⟨s, rfl⟩ := Go.Ab.isV_string Tryz.underlying9 hy
  have e : ([[.sc (.int .i64 k1)], [.sc (.int .i64 k2)], [.sc (.int .i64 k3)], [.sc (.bool b1)], [.sc (.bool b2)], [.sc (.bool b3)], [.sc (.bool b4)]] : List (List Go.Ab.V)).flatten = [.sc (.int .i64 k1), .sc (.int .i64 k2), .sc (.int .i64 k3), .sc (.bool b1), .sc (.bool b2), .sc (.bool b3), .sc (.bool b4)] := rfl
  rw [e] at hb ⊢
  simp only [Go.Ab.bulkL, Go.Ab.V.bulk] at hb
  exact Go.Ab.f4_run k1 k2 k3 b1 b2 b3 b4 s _ (Go.Ab.f4_eq k1 k2 k3 b1 b2 b3 b4 s (decide_eq_true (show s.size ≤ 10000000 by omega)))

set_option maxRecDepth 100000 in
theorem contract (H : Type) (enc : TypeId × Value → H) (W : World) (base : Nat) (args : Array Value) (ds gs : List (DataW H)) (before : List MemPlace)
    (hval : ∀ (j : Nat) t v, Tryz.f4.params[j]? = some t → args[j]? = some v → Value.okWide Tryz.prog W .any base t v)
    (hW : DataW.Whole enc Tryz.prog Tryz.f4.params.toList Rows.uniqMatchesSpec.vars false W args.toList ds gs before) (hk : Rows.uptoSmall H (ds ++ gs) = true)
    (htab : ∀ x ∈ Go.Ab.tabList, Lib.TabIs Tryz.prog W x.1 x.2.1 x.2.2) :
    Calls Tryz.prog 4 args W fun e W' => ∃ v, e = .returned v ∧ Rows.uniqMatchesSpec.post enc Tryz.prog Tryz.f4 false true false false W args v W' :=
  Go.Ab.law_contract (C := Go.Ab.C) (prim := Go.Ab.prim) (by kernel_rfl) (fun g p h => Go.Ab.prims_ok g p h) (by kernel_rfl) Tryz.func4 (by kernel_rfl) (by kernel_rfl) (by kernel_rfl) (by kernel_rfl) Tryz.underlying4
    rfl (fun ds h => match ds, h with | [_, _], _ => ⟨rfl, rfl, rfl⟩) hval hW
    (fun vs h hb => law vs h (Nat.le_trans hb (of_decide_eq_true hk))) htab

theorem reads (os : Os) {H : Type} (enc : TypeId × Value → H) : ∃ places, DataW.whole enc Tryz.prog ((laidWorld os).forCall (fun _ _ => 0) ⟨#[], #[.agg #[.int .i64 0, .int .i64 0, .int .i64 0, .bool false, .bool false, .bool false, .bool false], .string .empty], []⟩).memory Tryz.f4.params.toList Rows.uniqMatchesSpec.vars false (#[.agg #[.int .i64 0, .int .i64 0, .int .i64 0, .bool false, .bool false, .bool false, .bool false], .string .empty] : Array Value).toList 8 = some ([.agg [.lit (.int .i64 0), .lit (.int .i64 0), .lit (.int .i64 0), .lit (.bool false), .lit (.bool false), .lit (.bool false), .lit (.bool false)], .lit (.string [])], [], places) :=
  ⟨[], by kernel_rfl⟩

set_option maxRecDepth 100000 in
theorem lifted (os : Os) (started : os.Started) (H : Type) (enc : TypeId × Value → H) (F : Stop.Interp) :
    ReturnsInHanded {} Tryz.checked os 4 .any ((Rows.OpenSpec.upto Rows.uniqMatchesSpec).preRow enc Tryz.prog Tryz.f4 Rows.uniqMatchesUptoRow.domain false Rows.uniqMatchesUptoRow.laid) (((Rows.OpenSpec.upto Rows.uniqMatchesSpec).at F).post enc Tryz.prog Tryz.f4 false true false false) := by
  obtain ⟨places, hx⟩ := reads os enc
  refine returnsInHanded_of_row (C := Tryz.checked) (s := Rows.OpenSpec.upto Rows.uniqMatchesSpec) own started (by kernel_rfl) Tryz.func4
    (witness_row_at (enc := enc) (C := Tryz.checked) false (laidWorld os) #[.agg #[.int .i64 0, .int .i64 0, .int .i64 0, .bool false, .bool false, .bool false, .bool false], .string .empty] rfl (by kernel_rfl) (by kernel_rfl) (by kernel_rfl)
      (OpenSpec.preRow_of_cond 8 hx (by kernel_rfl) (fun k hk => by cases hk; kernel_rfl) (by kernel_rfl) (laid_met os _))) ?_
  intro W base args ds gs before hval hW _ hk _ hl _ _
  exact contract H enc W base args ds gs before hval hW (hk _ rfl) (tabs hl)

theorem saidUpto : Rows.UniqMatchesUptoSaid :=
  OpenClaim.holds_of_cond 4 Tryz.f4 rfl rfl rfl rfl rfl rfl rfl ⟨rfl, rfl, rfl, rfl, rfl⟩ rfl rfl rfl rfl rfl (by kernel_rfl) Tryz.func4 (by kernel_rfl)
    (of_decide_eq_true (by kernel_rfl)) (by unfold Func.isWrapper; first | (rw [if_pos (by decide +kernel)]; kernel_rfl) | (rw [if_neg (by decide +kernel)]; exact ⟨rfl, rfl⟩))
    (fun os started H enc _ F => by rw [OpenClaim.pre_eq_preRow]; exact lifted os started H enc F)

/-- No parameter wants a stand-in; the program's own looks are off: what the card asks. -/
theorem plain (f : FuncId) (fn : Func) (hf : Tryz.pinned.checked.prog.funcNamed "periwinkle/periwinklelaw1.UniqMatches" = some f) (hfn : Tryz.pinned.checked.prog.funcs[f]? = some fn) :
    false = Tryz.pinned.checked.prog.looks [] ∧ ∀ (j : Nat) t, fn.params[j]? = some t → Tryz.pinned.checked.prog.wantsStandIn t = false := by
  obtain rfl : f = 4 := Option.some.inj ((show Tryz.prog.funcNamed "periwinkle/periwinklelaw1.UniqMatches" = some 4 by kernel_rfl).symm.trans hf) |>.symm
  obtain rfl : fn = Tryz.f4 := (Option.some.inj (Tryz.func4.symm.trans hfn)).symm
  refine ⟨by kernel_rfl, fun j t ht => ?_⟩
  rw [Tryz.params4] at ht
  have hm := Array.mem_of_getElem? ht
  simp only [List.mem_toArray, List.mem_cons, List.not_mem_nil, or_false] at hm
  rcases hm with rfl | rfl
  · exact (show Tryz.prog.wantsStandIn 41 = false by kernel_rfl)
  · exact (show Tryz.prog.wantsStandIn 9 = false by kernel_rfl)

theorem proved : Rows.UniqMatchesUptoCardSaid :=
  Claim7.holds_tied_plain_at .later [] _ _ _ _ saidUpto (fun _ h => by cases h) (by kernel_rfl) (fun _ h => by cases h) uniqMatchesUpto_row_tie rfl ⟨rfl, rfl⟩ (by kernel_rfl) rfl plain (by kernel_rfl)
end Go.Proofs.YtbeemjiaohaamaaGreatDoor.uniqMatches
