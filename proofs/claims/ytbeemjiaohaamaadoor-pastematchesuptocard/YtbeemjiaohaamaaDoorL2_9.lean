/- The law PasteMatches is true of the given program: whatever texts are handed in, where what is read is of bulk at most 1048576. -/
import Derived.Test.YtbeemjiaohaamaaDoorGPS
import Derived.Test.YtbeemjiaohaamaaDoorLV
import Derived.Test.YtbeemjiaohaamaaDoorLU
import Derived.Test.YtbeemjiaohaamaaDoorLW
namespace Go.Ab
open Go Go.Proofs
end Go.Ab
namespace Go.Proofs.YtbeemjiaohaamaaDoor.pasteMatches
open Go.ChangeShapes Go.WideShapes Go.ChangeAt Go.RowKit

set_option maxRecDepth 100000 in
theorem law (vs : List Go.Ab.V) (h : Go.Ab.isVs Tryd.prog [35, 9, 4] vs) (hb : Go.Ab.bulkL vs ≤ 1048576) : Go.Ab.CallR Go.Ab.C Go.Ab.prim 9 vs [] (.sc (.bool true), []) := by
  obtain ⟨x, y, z, rfl, hx, hy, hz⟩ := Go.Ab.isVs_three h
  obtain ⟨l, rfl, hl⟩ := Go.Ab.isV_strs Tryd.underlying35 Tryd.underlying9 (by kernel_rfl) hx
  obtain ⟨t, rfl⟩ := Go.Ab.isV_string Tryd.underlying9 hy
  obtain ⟨b, rfl⟩ := Go.Ab.isV_bool Tryd.underlying4 hz
  simp only [Go.Ab.bulkL, Go.Ab.V.bulk] at hb
  have hn := Go.Ab.len_strs hl
  have hj := Go.Ab.join_bulk l hl
  refine Go.Ab.f9_run l t b _ (Go.Ab.f9_eq l t b ?_)
  rw [Go.Ab.short_bulk (N := 1048576) (by omega) l hl (by omega), decide_eq_true (show l.length ≤ 10000000 by omega), decide_eq_true (show (Go.Ab.joinB l ⟨#[]⟩).size ≤ 1000000000 by omega)]
  rfl

set_option maxRecDepth 100000 in
theorem contract (H : Type) (enc : TypeId × Value → H) (W : World) (base : Nat) (args : Array Value) (ds gs : List (DataW H)) (before : List MemPlace)
    (hval : ∀ (j : Nat) t v, Tryd.f9.params[j]? = some t → args[j]? = some v → Value.okWide Tryd.prog W .any base t v)
    (hW : DataW.Whole enc Tryd.prog Tryd.f9.params.toList Rows.pasteMatchesSpec.vars false W args.toList ds gs before) (hk : Rows.uptoSmall H (ds ++ gs) = true) :
    Calls Tryd.prog 9 args W fun e W' => ∃ v, e = .returned v ∧ Rows.pasteMatchesSpec.post enc Tryd.prog Tryd.f9 false true false false W args v W' :=
  Go.Ab.law_contract (C := Go.Ab.C) (prim := Go.Ab.prim) (by kernel_rfl) (fun g p h => Go.Ab.prims_ok g p h) (by kernel_rfl) Tryd.func9 (by kernel_rfl) (by kernel_rfl) (by kernel_rfl) (by kernel_rfl) Tryd.underlying4
    rfl (fun ds h => match ds, h with | [_, _, _], _ => ⟨rfl, rfl, rfl⟩) hval hW
    (fun vs h hb => law vs h (Nat.le_trans hb (of_decide_eq_true hk)))

theorem reads (os : Os) {H : Type} (enc : TypeId × Value → H) : ∃ places, DataW.whole enc Tryd.prog ((laidWorld os).forCall (fun _ _ => 0) ⟨#[], #[.slice none 0 0, .string .empty, .bool false], []⟩).memory Tryd.f9.params.toList Rows.pasteMatchesSpec.vars false (#[.slice none 0 0, .string .empty, .bool false] : Array Value).toList 8 = some ([.nil, .lit (.string []), .lit (.bool false)], [], places) :=
  ⟨[], by kernel_rfl⟩

set_option maxRecDepth 100000 in
theorem lifted (os : Os) (started : os.Started) (H : Type) (enc : TypeId × Value → H) (F : Stop.Interp) :
    ReturnsInHanded {} Tryd.checked os 9 .any ((Rows.OpenSpec.upto Rows.pasteMatchesSpec).preRow enc Tryd.prog Tryd.f9 Rows.pasteMatchesUptoRow.domain false Rows.pasteMatchesUptoRow.laid) (((Rows.OpenSpec.upto Rows.pasteMatchesSpec).at F).post enc Tryd.prog Tryd.f9 false true false false) := by
  obtain ⟨places, hx⟩ := reads os enc
  refine returnsInHanded_of_row (C := Tryd.checked) (s := Rows.OpenSpec.upto Rows.pasteMatchesSpec) own started (by kernel_rfl) Tryd.func9
    (witness_row_at (enc := enc) (C := Tryd.checked) false (laidWorld os) #[.slice none 0 0, .string .empty, .bool false] rfl (by kernel_rfl) (by kernel_rfl) (by kernel_rfl)
      (OpenSpec.preRow_of_cond 8 hx (by kernel_rfl) (fun k hk => by cases hk; kernel_rfl) (by kernel_rfl) (laid_met os _))) ?_
  intro W base args ds gs before hval hW _ hk _ _ _ _
  exact contract H enc W base args ds gs before hval hW (hk _ rfl)

theorem saidUpto : Rows.PasteMatchesUptoSaid :=
  OpenClaim.holds_of_cond 9 Tryd.f9 rfl rfl rfl rfl rfl rfl rfl ⟨rfl, rfl, rfl, rfl, rfl⟩ rfl rfl rfl rfl rfl (by kernel_rfl) Tryd.func9 (by kernel_rfl)
    (of_decide_eq_true (by kernel_rfl)) (by unfold Func.isWrapper; first | (rw [if_pos (by decide +kernel)]; kernel_rfl) | (rw [if_neg (by decide +kernel)]; exact ⟨rfl, rfl⟩))
    (fun os started H enc _ F => by rw [OpenClaim.pre_eq_preRow]; exact lifted os started H enc F)

/-- No parameter wants a stand-in; the program's own looks are off: what the card asks. -/
theorem plain (f : FuncId) (fn : Func) (hf : Tryd.pinned.checked.prog.funcNamed "periwinkle/periwinklelaw1.PasteMatches" = some f) (hfn : Tryd.pinned.checked.prog.funcs[f]? = some fn) :
    false = Tryd.pinned.checked.prog.looks [] ∧ ∀ (j : Nat) t, fn.params[j]? = some t → Tryd.pinned.checked.prog.wantsStandIn t = false := by
  obtain rfl : f = 9 := Option.some.inj ((show Tryd.prog.funcNamed "periwinkle/periwinklelaw1.PasteMatches" = some 9 by kernel_rfl).symm.trans hf) |>.symm
  obtain rfl : fn = Tryd.f9 := (Option.some.inj (Tryd.func9.symm.trans hfn)).symm
  refine ⟨by kernel_rfl, fun j t ht => ?_⟩
  rw [Tryd.params9] at ht
  have hm := Array.mem_of_getElem? ht
  simp only [List.mem_toArray, List.mem_cons, List.not_mem_nil, or_false] at hm
  rcases hm with rfl | rfl | rfl
  · exact (show Tryd.prog.wantsStandIn 35 = false by kernel_rfl)
  · exact (show Tryd.prog.wantsStandIn 9 = false by kernel_rfl)
  · exact (show Tryd.prog.wantsStandIn 4 = false by kernel_rfl)

theorem proved : Rows.PasteMatchesUptoCardSaid :=
  Claim7.holds_tied_plain_at .later [] _ _ _ _ saidUpto (fun _ h => by cases h) (by kernel_rfl) (fun _ h => by cases h) pasteMatchesUpto_row_tie rfl ⟨rfl, rfl⟩ (by kernel_rfl) rfl plain (by kernel_rfl)
end Go.Proofs.YtbeemjiaohaamaaDoor.pasteMatches
