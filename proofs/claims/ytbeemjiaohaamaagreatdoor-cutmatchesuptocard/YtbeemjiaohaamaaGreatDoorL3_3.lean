/- The law CutMatches is true of the given program: whatever is to be cut and whatever text is handed in, where what is read is of bulk at most 1048576. -/
import Derived.Test.YtbeemjiaohaamaaGreatDoorGCT
import Derived.Test.YtbeemjiaohaamaaGreatDoorLV
import Derived.Test.YtbeemjiaohaamaaGreatDoorLU
import Derived.Test.YtbeemjiaohaamaaGreatDoorLWc
namespace Go.Ab
open Go Go.Proofs
theorem isT_row {P : Program} {e u : TypeId} (he : P.underlying e = some (.array 2 u)) (hu : P.underlying u = some (.int .i64)) {n : Nat} {xs : List V} (h : isT P n e xs) : ∃ a b : Int, xs = [.sc (.int .i64 a), .sc (.int .i64 b)] := by
  obtain ⟨m, rfl⟩ := isT_pos h
  unfold isT at h
  rw [he] at h
  obtain ⟨l, rfl, hl, hy⟩ := h
  match l, hl, hy with
  | [y, z], _, hy =>
    obtain ⟨a, rfl, _⟩ := isT_int1 hu (hy y (by simp))
    obtain ⟨b, rfl, _⟩ := isT_int1 hu (hy z (by simp))
    exact ⟨a, b, rfl⟩
theorem okR_flat : ∀ l : List (List V), (∀ y ∈ l, ∃ a b : Int, y = [.sc (.int .i64 a), .sc (.int .i64 b)]) → okR l.flatten = true ∧ l.flatten.length ≤ bulkL l.flatten
  | [], _ => ⟨rfl, Nat.le_refl _⟩
  | y :: l, h => by
    obtain ⟨a, b, rfl⟩ := h y (by simp)
    obtain ⟨h1, h2⟩ := okR_flat l fun z hz => h z (by simp [hz])
    rw [List.flatten_cons, bulkL_append, List.length_append]
    refine ⟨?_, ?_⟩
    · show ((true && true) && okR l.flatten) = true
      rw [h1]; rfl
    · show 2 + _ ≤ (1 + (1 + 0)) + _
      omega
theorem isT_rows {P : Program} {t e u : TypeId} (ht : P.underlying t = some (.slice e)) (he : P.underlying e = some (.array 2 u)) (hu : P.underlying u = some (.int .i64)) (hz : szT P e = 2) {n : Nat} {xs : List V} (h : isT P n t xs) : ∃ l : List V, xs = [.sl 2 l] ∧ okR l = true ∧ l.length ≤ bulkL l := by
  obtain ⟨m, rfl⟩ := isT_pos h
  unfold isT at h
  rw [ht] at h
  obtain ⟨l, rfl, hl, _⟩ := h
  obtain ⟨h1, h2⟩ := okR_flat l fun y hy => isT_row he hu (hl y hy).1
  exact ⟨l.flatten, by rw [hz], h1, h2⟩
end Go.Ab
namespace Go.Proofs.YtbeemjiaohaamaaGreatDoor.cutMatches
open Go.ChangeShapes Go.WideShapes Go.ChangeAt Go.RowKit

set_option maxRecDepth 100000 in
theorem law (vs : List Go.Ab.V) (h : Go.Ab.isVs Tryz.prog [24, 9] vs) (hb : Go.Ab.bulkL vs ≤ 1048576) : Go.Ab.CallR Go.Ab.C Go.Ab.prim 3 vs [] (.sc (.bool true), []) := by
  obtain ⟨x, y, rfl, hx, hy⟩ := Go.Ab.isVs_two h
  obtain ⟨n, l, rfl, hf⟩ := Go.Ab.isV_struct Tryz.underlying24 hx
  obtain ⟨y1, l, rfl, q1, hf⟩ := Go.Ab.isF_cons hf
  obtain ⟨y2, l, rfl, q2, hf⟩ := Go.Ab.isF_cons hf
  obtain ⟨y3, l, rfl, q3, hf⟩ := Go.Ab.isF_cons hf
  obtain ⟨y4, l, rfl, q4, hf⟩ := Go.Ab.isF_cons hf
  obtain ⟨y5, l, rfl, q5, hf⟩ := Go.Ab.isF_cons hf
  obtain ⟨y6, l, rfl, q6, hf⟩ := Go.Ab.isF_cons hf
  obtain rfl := Go.Ab.isF_nil hf
  obtain ⟨b1, rfl⟩ := Go.Ab.isT_bool1 Tryz.underlying4 q1
  obtain ⟨r, rfl, hr1, hr2⟩ := Go.Ab.isT_rows Tryz.underlying22 Tryz.underlying62 Tryz.underlying3 (by kernel_rfl) q2
  obtain ⟨b2, rfl⟩ := Go.Ab.isT_bool1 Tryz.underlying4 q3
  obtain ⟨t1, rfl⟩ := Go.Ab.isT_string1 Tryz.underlying9 q4
  obtain ⟨b3, rfl⟩ := Go.Ab.isT_bool1 Tryz.underlying4 q5
  obtain ⟨t2, rfl⟩ := Go.Ab.isT_string1 Tryz.underlying9 q6
  obtain ⟨s, rfl⟩ := Go.Ab.isV_string Tryz.underlying9 hy
  have e : ([[.sc (.bool b1)], [.sl 2 r], [.sc (.bool b2)], [.sc (.string t1)], [.sc (.bool b3)], [.sc (.string t2)]] : List (List Go.Ab.V)).flatten = [.sc (.bool b1), .sl 2 r, .sc (.bool b2), .sc (.string t1), .sc (.bool b3), .sc (.string t2)] := rfl
  rw [e] at hb ⊢
  simp only [Go.Ab.bulkL, Go.Ab.V.bulk] at hb
  have hp : (Go.Ab.okR r && decide (r.length ≤ 10000000) && decide (t2.size ≤ 10000000) && decide (s.size ≤ 10000000)) = true := by
    rw [hr1, Go.Ab.dec_true (show r.length ≤ 10000000 by omega), Go.Ab.dec_true (show t2.size ≤ 10000000 by omega), Go.Ab.dec_true (show s.size ≤ 10000000 by omega)]; rfl
  exact Go.Ab.f3_run b1 r b2 t1 b3 t2 s _ (Go.Ab.f3_eq b1 r b2 t1 b3 t2 s hp)

set_option maxRecDepth 100000 in
theorem contract (H : Type) (enc : TypeId × Value → H) (W : World) (base : Nat) (args : Array Value) (ds gs : List (DataW H)) (before : List MemPlace)
    (hval : ∀ (j : Nat) t v, Tryz.f3.params[j]? = some t → args[j]? = some v → Value.okWide Tryz.prog W .any base t v)
    (hW : DataW.Whole enc Tryz.prog Tryz.f3.params.toList Rows.cutMatchesSpec.vars false W args.toList ds gs before) (hk : Rows.uptoSmall H (ds ++ gs) = true) :
    Calls Tryz.prog 3 args W fun e W' => ∃ v, e = .returned v ∧ Rows.cutMatchesSpec.post enc Tryz.prog Tryz.f3 false true false false W args v W' :=
  Go.Ab.law_contract (C := Go.Ab.C) (prim := Go.Ab.prim) (by kernel_rfl) (fun g p h => Go.Ab.prims_ok g p h) (by kernel_rfl) Tryz.func3 (by kernel_rfl) (by kernel_rfl) (by kernel_rfl) (by kernel_rfl) Tryz.underlying4
    rfl (fun ds h => match ds, h with | [_, _], _ => ⟨rfl, rfl, rfl⟩) hval hW
    (fun vs h hb => law vs h (Nat.le_trans hb (of_decide_eq_true hk))) (fun x hx => by cases hx)

theorem reads (os : Os) {H : Type} (enc : TypeId × Value → H) : ∃ places, DataW.whole enc Tryz.prog ((laidWorld os).forCall (fun _ _ => 0) ⟨#[], #[.agg #[.bool false, .slice none 0 0, .bool false, .string .empty, .bool false, .string .empty], .string .empty], []⟩).memory Tryz.f3.params.toList Rows.cutMatchesSpec.vars false (#[.agg #[.bool false, .slice none 0 0, .bool false, .string .empty, .bool false, .string .empty], .string .empty] : Array Value).toList 8 = some ([.agg [.lit (.bool false), .nil, .lit (.bool false), .lit (.string []), .lit (.bool false), .lit (.string [])], .lit (.string [])], [], places) :=
  ⟨[], by kernel_rfl⟩

set_option maxRecDepth 100000 in
theorem lifted (os : Os) (started : os.Started) (H : Type) (enc : TypeId × Value → H) (F : Stop.Interp) :
    ReturnsInHanded {} Tryz.checked os 3 .any ((Rows.OpenSpec.upto Rows.cutMatchesSpec).preRow enc Tryz.prog Tryz.f3 Rows.cutMatchesUptoRow.domain false Rows.cutMatchesUptoRow.laid) (((Rows.OpenSpec.upto Rows.cutMatchesSpec).at F).post enc Tryz.prog Tryz.f3 false true false false) := by
  obtain ⟨places, hx⟩ := reads os enc
  refine returnsInHanded_of_row (C := Tryz.checked) (s := Rows.OpenSpec.upto Rows.cutMatchesSpec) own started (by kernel_rfl) Tryz.func3
    (witness_row_at (enc := enc) (C := Tryz.checked) false (laidWorld os) #[.agg #[.bool false, .slice none 0 0, .bool false, .string .empty, .bool false, .string .empty], .string .empty] rfl (by kernel_rfl) (by kernel_rfl) (by kernel_rfl)
      (OpenSpec.preRow_of_cond 8 hx (by kernel_rfl) (fun k hk => by cases hk; kernel_rfl) (by kernel_rfl) (laid_met os _))) ?_
  intro W base args ds gs before hval hW _ hk _ _ _ _
  exact contract H enc W base args ds gs before hval hW (hk _ rfl)

theorem saidUpto : Rows.CutMatchesUptoSaid :=
  OpenClaim.holds_of_cond 3 Tryz.f3 rfl rfl rfl rfl rfl rfl rfl ⟨rfl, rfl, rfl, rfl, rfl⟩ rfl rfl rfl rfl rfl (by kernel_rfl) Tryz.func3 (by kernel_rfl)
    (of_decide_eq_true (by kernel_rfl)) (by unfold Func.isWrapper; first | (rw [if_pos (by decide +kernel)]; kernel_rfl) | (rw [if_neg (by decide +kernel)]; exact ⟨rfl, rfl⟩))
    (fun os started H enc _ F => by rw [OpenClaim.pre_eq_preRow]; exact lifted os started H enc F)

/-- No parameter wants a stand-in; the program's own looks are off: what the card asks. -/
theorem plain (f : FuncId) (fn : Func) (hf : Tryz.pinned.checked.prog.funcNamed "periwinkle/periwinklelaw1.CutMatches" = some f) (hfn : Tryz.pinned.checked.prog.funcs[f]? = some fn) :
    false = Tryz.pinned.checked.prog.looks [] ∧ ∀ (j : Nat) t, fn.params[j]? = some t → Tryz.pinned.checked.prog.wantsStandIn t = false := by
  obtain rfl : f = 3 := Option.some.inj ((show Tryz.prog.funcNamed "periwinkle/periwinklelaw1.CutMatches" = some 3 by kernel_rfl).symm.trans hf) |>.symm
  obtain rfl : fn = Tryz.f3 := (Option.some.inj (Tryz.func3.symm.trans hfn)).symm
  refine ⟨by kernel_rfl, fun j t ht => ?_⟩
  rw [Tryz.params3] at ht
  have hm := Array.mem_of_getElem? ht
  simp only [List.mem_toArray, List.mem_cons, List.not_mem_nil, or_false] at hm
  rcases hm with rfl | rfl
  · exact (show Tryz.prog.wantsStandIn 24 = false by kernel_rfl)
  · exact (show Tryz.prog.wantsStandIn 9 = false by kernel_rfl)

theorem proved : Rows.CutMatchesUptoCardSaid :=
  Claim7.holds_tied_plain_at .later [] _ _ _ _ saidUpto (fun _ h => by cases h) (by kernel_rfl) (fun _ h => by cases h) cutMatchesUpto_row_tie rfl ⟨rfl, rfl⟩ (by kernel_rfl) rfl plain (by kernel_rfl)
end Go.Proofs.YtbeemjiaohaamaaGreatDoor.cutMatches
