/- The law SortCompareMatches is true of the given program: whatever order and lines are handed in, where what is read is of bulk at most 1048576. -/
import Derived.Test.YtbeemjiaohaamaaDoorGSD
import Derived.Test.YtbeemjiaohaamaaDoorLV
import Derived.Test.YtbeemjiaohaamaaDoorLU
import Derived.Test.YtbeemjiaohaamaaDoorLW
namespace Go.Ab
open Go Go.Proofs
/-- A key as it is read. -/
def KeyR (y : List V) : Prop := ∃ a b c d e f g h, y = [.sc (.int .i64 a), .sc (.int .i64 b), .sc (.int .i64 c), .sc (.int .i64 d), .sc (.bool e), .sc (.bool f), .sc (.bool g), .sc (.bool h)]
theorem keyR_len {y : List V} (h : KeyR y) : y.length = 8 := by
  obtain ⟨a, b, c, d, e, f, g, k, rfl⟩ := h
  rfl
theorem flat_len : ∀ (l : List (List V)), (∀ y ∈ l, KeyR y) → l.flatten.length = 8 * l.length
  | [], _ => rfl
  | y :: l, h => by
    have h1 := keyR_len (h y (by simp))
    have h2 := flat_len l (fun z hz => h z (by simp [hz]))
    rw [List.flatten_cons, List.length_append, h1, h2, List.length_cons]; omega
theorem flat_nth : ∀ (l : List (List V)), (∀ y ∈ l, KeyR y) → ∀ (k j : Nat) (hk : k < l.length), j < 8 → nthV l.flatten (k * 8 + j) = nthV l[k] j
  | [], _, k, j, hk, _ => by simp at hk
  | y :: l, h, 0, j, hk, hj => by
    obtain ⟨a, b, c, d, e, f, g, k, rfl⟩ := h y (by simp)
    rw [List.flatten_cons]
    match j, hj with
    | 0, _ => rfl
    | 1, _ => rfl
    | 2, _ => rfl
    | 3, _ => rfl
    | 4, _ => rfl
    | 5, _ => rfl
    | 6, _ => rfl
    | 7, _ => rfl
    | n + 8, h => exact absurd h (by omega)
  | y :: l, h, k + 1, j, hk, hj => by
    obtain ⟨a, b, c, d, e, f, g, k', rfl⟩ := h y (by simp)
    have := flat_nth l (fun z hz => h z (by simp [hz])) k j (by simpa using hk) hj
    rw [List.flatten_cons, show (k + 1) * 8 + j = (k * 8 + j) + 8 by omega]
    exact this
theorem allF_of {p : Nat → Bool} : ∀ (k i : Nat), (∀ j, i ≤ j → j < i + k → p j = true) → allF p k i = true
  | 0, _, _ => rfl
  | k + 1, i, h => by
    unfold allF
    rw [h i (Nat.le_refl _) (by omega), allF_of k (i + 1) (fun j h1 h2 => h j (by omega) (by omega))]; rfl
theorem okKeys_of (l : List (List V)) (h : ∀ y ∈ l, KeyR y) : okKeys l.flatten = true := by
  have hl := flat_len l h
  unfold okKeys
  have e : lenE 8 l.flatten.length = l.length := by
    have : lenE 8 l.flatten.length = l.flatten.length / 8 := rfl
    omega
  rw [e]
  refine allF_of _ _ (fun j _ hj => ?_)
  have hj' : j < l.length := by omega
  obtain ⟨a, b, c, d, e, f, g, k, hy⟩ := h l[j] (List.getElem_mem hj')
  unfold okK
  rw [flat_nth l h j 0 hj' (by omega), flat_nth l h j 1 hj' (by omega), flat_nth l h j 2 hj' (by omega), flat_nth l h j 3 hj' (by omega), flat_nth l h j 4 hj' (by omega), flat_nth l h j 5 hj' (by omega), flat_nth l h j 6 hj' (by omega), flat_nth l h j 7 hj' (by omega), hy]
  rfl
theorem keys_bulk : ∀ (l : List (List V)), (∀ y ∈ l, KeyR y) → l.flatten.length ≤ bulkL l.flatten
  | [], _ => Nat.le_refl _
  | y :: l, h => by
    have h2 := keys_bulk l (fun z hz => h z (by simp [hz]))
    obtain ⟨a, b, c, d, e, f, g, k', rfl⟩ := h y (by simp)
    rw [List.flatten_cons, List.length_append, bulkL_append]
    have : bulkL [V.sc (.int .i64 a), .sc (.int .i64 b), .sc (.int .i64 c), .sc (.int .i64 d), .sc (.bool e), .sc (.bool f), .sc (.bool g), .sc (.bool k')] = 8 := rfl
    rw [this]
    have e8 : [V.sc (.int .i64 a), .sc (.int .i64 b), .sc (.int .i64 c), .sc (.int .i64 d), .sc (.bool e), .sc (.bool f), .sc (.bool g), .sc (.bool k')].length = 8 := rfl
    omega
theorem isT_keys {P : Program} {t e i q : TypeId} {f1 f2 f3 f4 f5 f6 f7 f8 : Field} (ht : P.underlying t = some (.slice e)) (he : P.underlying e = some (.struct #[f1, f2, f3, f4, f5, f6, f7, f8])) (hz : szT P e = 8)
    (h1 : f1.type = i) (h2 : f2.type = i) (h3 : f3.type = i) (h4 : f4.type = i) (h5 : f5.type = q) (h6 : f6.type = q) (h7 : f7.type = q) (h8 : f8.type = q) (hi : P.underlying i = some (.int .i64)) (hq : P.underlying q = some .bool)
    {n : Nat} {xs : List V} (h : isT P n t xs) : ∃ l : List (List V), xs = [.sl 8 l.flatten] ∧ ∀ y ∈ l, KeyR y := by
  obtain ⟨m, rfl⟩ := isT_pos h
  unfold isT at h
  rw [ht] at h
  obtain ⟨l, rfl, hl, _⟩ := h
  refine ⟨l, by rw [hz], fun y hy => ?_⟩
  obtain ⟨this, _⟩ := hl y hy
  obtain ⟨m', rfl⟩ := isT_pos this
  unfold isT at this
  rw [he] at this
  obtain ⟨l', rfl, hf⟩ := this
  obtain ⟨y1, l', rfl, q1, hf⟩ := isF_cons hf
  obtain ⟨y2, l', rfl, q2, hf⟩ := isF_cons hf
  obtain ⟨y3, l', rfl, q3, hf⟩ := isF_cons hf
  obtain ⟨y4, l', rfl, q4, hf⟩ := isF_cons hf
  obtain ⟨y5, l', rfl, q5, hf⟩ := isF_cons hf
  obtain ⟨y6, l', rfl, q6, hf⟩ := isF_cons hf
  obtain ⟨y7, l', rfl, q7, hf⟩ := isF_cons hf
  obtain ⟨y8, l', rfl, q8, hf⟩ := isF_cons hf
  obtain rfl := isF_nil hf
  rw [h1] at q1
  rw [h2] at q2
  rw [h3] at q3
  rw [h4] at q4
  rw [h5] at q5
  rw [h6] at q6
  rw [h7] at q7
  rw [h8] at q8
  obtain ⟨a, rfl, _⟩ := isT_int1 hi q1
  obtain ⟨b, rfl, _⟩ := isT_int1 hi q2
  obtain ⟨c, rfl, _⟩ := isT_int1 hi q3
  obtain ⟨d, rfl, _⟩ := isT_int1 hi q4
  obtain ⟨e', rfl⟩ := isT_bool1 hq q5
  obtain ⟨f, rfl⟩ := isT_bool1 hq q6
  obtain ⟨g, rfl⟩ := isT_bool1 hq q7
  obtain ⟨k, rfl⟩ := isT_bool1 hq q8
  exact ⟨a, b, c, d, e', f, g, k, rfl⟩
end Go.Ab
namespace Go.Proofs.YtbeemjiaohaamaaDoor.sortCompareMatches
open Go.ChangeShapes Go.WideShapes Go.ChangeAt Go.RowKit

set_option maxRecDepth 100000 in
theorem law (vs : List Go.Ab.V) (h : Go.Ab.isVs Tryd.prog [24, 9, 9] vs) (hb : Go.Ab.bulkL vs ≤ 1048576) : Go.Ab.CallR Go.Ab.C Go.Ab.prim 3 vs [] (.sc (.bool true), []) := by
  obtain ⟨x, y, z, rfl, hx, hy, hz⟩ := Go.Ab.isVs_three h
  obtain ⟨n, l, rfl, hf⟩ := Go.Ab.isV_struct Tryd.underlying24 hx
  obtain ⟨y1, l, rfl, q1, hf⟩ := Go.Ab.isF_cons hf
  obtain ⟨y2, l, rfl, q2, hf⟩ := Go.Ab.isF_cons hf
  obtain ⟨y3, l, rfl, q3, hf⟩ := Go.Ab.isF_cons hf
  obtain ⟨y4, l, rfl, q4, hf⟩ := Go.Ab.isF_cons hf
  obtain ⟨y5, l, rfl, q5, hf⟩ := Go.Ab.isF_cons hf
  obtain rfl := Go.Ab.isF_nil hf
  obtain ⟨s, rfl⟩ := Go.Ab.isT_string1 Tryd.underlying9 q1
  obtain ⟨ks, rfl, hk⟩ := Go.Ab.isT_keys Tryd.underlying22 Tryd.underlying85 (by kernel_rfl) rfl rfl rfl rfl rfl rfl rfl rfl Tryd.underlying3 Tryd.underlying4 q2
  obtain ⟨b1, rfl⟩ := Go.Ab.isT_bool1 Tryd.underlying4 q3
  obtain ⟨b2, rfl⟩ := Go.Ab.isT_bool1 Tryd.underlying4 q4
  obtain ⟨b3, rfl⟩ := Go.Ab.isT_bool1 Tryd.underlying4 q5
  obtain ⟨a, rfl⟩ := Go.Ab.isV_string Tryd.underlying9 hy
  obtain ⟨b, rfl⟩ := Go.Ab.isV_string Tryd.underlying9 hz
  have e : ([[.sc (.string s)], [.sl 8 ks.flatten], [.sc (.bool b1)], [.sc (.bool b2)], [.sc (.bool b3)]] : List (List Go.Ab.V)).flatten = [.sc (.string s), .sl 8 ks.flatten, .sc (.bool b1), .sc (.bool b2), .sc (.bool b3)] := rfl
  rw [e] at hb ⊢
  simp only [Go.Ab.bulkL, Go.Ab.V.bulk] at hb
  have hn := Go.Ab.keys_bulk ks hk
  refine Go.Ab.f3_run s ks.flatten b1 b2 b3 a b _ (Go.Ab.f3_eq s ks.flatten b1 b2 b3 a b ?_)
  rw [Go.Ab.okKeys_of ks hk, decide_eq_true (show ks.flatten.length ≤ 10000000 by omega), decide_eq_true (show a.size ≤ 10000000 by omega), decide_eq_true (show b.size ≤ 10000000 by omega)]
  rfl

set_option maxRecDepth 100000 in
theorem contract (H : Type) (enc : TypeId × Value → H) (W : World) (base : Nat) (args : Array Value) (ds gs : List (DataW H)) (before : List MemPlace)
    (hval : ∀ (j : Nat) t v, Tryd.f3.params[j]? = some t → args[j]? = some v → Value.okWide Tryd.prog W .any base t v)
    (hW : DataW.Whole enc Tryd.prog Tryd.f3.params.toList Rows.sortCompareMatchesSpec.vars false W args.toList ds gs before) (hk : Rows.uptoSmall H (ds ++ gs) = true) :
    Calls Tryd.prog 3 args W fun e W' => ∃ v, e = .returned v ∧ Rows.sortCompareMatchesSpec.post enc Tryd.prog Tryd.f3 false true false false W args v W' :=
  Go.Ab.law_contract (C := Go.Ab.C) (prim := Go.Ab.prim) (by kernel_rfl) (fun g p h => Go.Ab.prims_ok g p h) (by kernel_rfl) Tryd.func3 (by kernel_rfl) (by kernel_rfl) (by kernel_rfl) (by kernel_rfl) Tryd.underlying4
    rfl (fun ds h => match ds, h with | [_, _, _], _ => ⟨rfl, rfl, rfl⟩) hval hW
    (fun vs h hb => law vs h (Nat.le_trans hb (of_decide_eq_true hk)))

theorem reads (os : Os) {H : Type} (enc : TypeId × Value → H) : ∃ places, DataW.whole enc Tryd.prog ((laidWorld os).forCall (fun _ _ => 0) ⟨#[], #[.agg #[.string .empty, .slice none 0 0, .bool false, .bool false, .bool false], .string .empty, .string .empty], []⟩).memory Tryd.f3.params.toList Rows.sortCompareMatchesSpec.vars false (#[.agg #[.string .empty, .slice none 0 0, .bool false, .bool false, .bool false], .string .empty, .string .empty] : Array Value).toList 8 = some ([.agg [.lit (.string []), .nil, .lit (.bool false), .lit (.bool false), .lit (.bool false)], .lit (.string []), .lit (.string [])], [], places) :=
  ⟨[], by kernel_rfl⟩

set_option maxRecDepth 100000 in
theorem lifted (os : Os) (started : os.Started) (H : Type) (enc : TypeId × Value → H) (F : Stop.Interp) :
    ReturnsInHanded {} Tryd.checked os 3 .any ((Rows.OpenSpec.upto Rows.sortCompareMatchesSpec).preRow enc Tryd.prog Tryd.f3 Rows.sortCompareMatchesUptoRow.domain false Rows.sortCompareMatchesUptoRow.laid) (((Rows.OpenSpec.upto Rows.sortCompareMatchesSpec).at F).post enc Tryd.prog Tryd.f3 false true false false) := by
  obtain ⟨places, hx⟩ := reads os enc
  refine returnsInHanded_of_row (C := Tryd.checked) (s := Rows.OpenSpec.upto Rows.sortCompareMatchesSpec) own started (by kernel_rfl) Tryd.func3
    (witness_row_at (enc := enc) (C := Tryd.checked) false (laidWorld os) #[.agg #[.string .empty, .slice none 0 0, .bool false, .bool false, .bool false], .string .empty, .string .empty] rfl (by kernel_rfl) (by kernel_rfl) (by kernel_rfl)
      (OpenSpec.preRow_of_cond 8 hx (by kernel_rfl) (fun k hk => by cases hk; kernel_rfl) (by kernel_rfl) (laid_met os _))) ?_
  intro W base args ds gs before hval hW _ hk _ _ _ _
  exact contract H enc W base args ds gs before hval hW (hk _ rfl)

theorem saidUpto : Rows.SortCompareMatchesUptoSaid :=
  OpenClaim.holds_of_cond 3 Tryd.f3 rfl rfl rfl rfl rfl rfl rfl ⟨rfl, rfl, rfl, rfl, rfl⟩ rfl rfl rfl rfl rfl (by kernel_rfl) Tryd.func3 (by kernel_rfl)
    (of_decide_eq_true (by kernel_rfl)) (by unfold Func.isWrapper; first | (rw [if_pos (by decide +kernel)]; kernel_rfl) | (rw [if_neg (by decide +kernel)]; exact ⟨rfl, rfl⟩))
    (fun os started H enc _ F => by rw [OpenClaim.pre_eq_preRow]; exact lifted os started H enc F)

/-- No parameter wants a stand-in; the program's own looks are off: what the card asks. -/
theorem plain (f : FuncId) (fn : Func) (hf : Tryd.pinned.checked.prog.funcNamed "periwinkle/periwinklelaw1.SortCompareMatches" = some f) (hfn : Tryd.pinned.checked.prog.funcs[f]? = some fn) :
    false = Tryd.pinned.checked.prog.looks [] ∧ ∀ (j : Nat) t, fn.params[j]? = some t → Tryd.pinned.checked.prog.wantsStandIn t = false := by
  obtain rfl : f = 3 := Option.some.inj ((show Tryd.prog.funcNamed "periwinkle/periwinklelaw1.SortCompareMatches" = some 3 by kernel_rfl).symm.trans hf) |>.symm
  obtain rfl : fn = Tryd.f3 := (Option.some.inj (Tryd.func3.symm.trans hfn)).symm
  refine ⟨by kernel_rfl, fun j t ht => ?_⟩
  rw [Tryd.params3] at ht
  have hm := Array.mem_of_getElem? ht
  simp only [List.mem_toArray, List.mem_cons, List.not_mem_nil, or_false] at hm
  rcases hm with rfl | rfl | rfl
  · exact (show Tryd.prog.wantsStandIn 24 = false by kernel_rfl)
  · exact (show Tryd.prog.wantsStandIn 9 = false by kernel_rfl)
  · exact (show Tryd.prog.wantsStandIn 9 = false by kernel_rfl)

theorem proved : Rows.SortCompareMatchesUptoCardSaid :=
  Claim7.holds_tied_plain_at .later [] _ _ _ _ saidUpto (fun _ h => by cases h) (by kernel_rfl) (fun _ h => by cases h) sortCompareMatchesUpto_row_tie rfl ⟨rfl, rfl⟩ (by kernel_rfl) rfl plain (by kernel_rfl)
end Go.Proofs.YtbeemjiaohaamaaDoor.sortCompareMatches
