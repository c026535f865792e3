/- The law DiffApplies is true of the given program: whatever list and hunks are handed in, where what is read is of bulk at most 1048576. -/
import Derived.Test.YtnjgofgogeileaaGA
import Derived.Test.YtnjgofgogeileaaLU
import Derived.Test.YtnjgofgogeileaaRows
import Derived.Test.YtnjgofgogeileaaEngD
import Derived.WalkKit
import Derived.ProofKit
import Derived.OpenShut
import Derived.JoinedCond
namespace Go.Ab
open Go Go.Proofs
/-- A hunk as it is read. -/
def Hunk (y : List V) : Prop := ∃ f t o w, y = [.sc (.int .i64 f), .sc (.int .i64 t), .sl 1 o, .sl 1 w] ∧ inR f = true ∧ inR t = true ∧ o.all V.isStr = true ∧ w.all V.isStr = true
theorem inR_of {m : Int} (h : (Lit.int .i64 m).wf = true) : inR m = true := h
theorem hunks_ok : ∀ (l : List (List V)), (∀ y ∈ l, Hunk y) → bulkL l.flatten ≤ 1048576 → okHs l.flatten = true ∧ rngHs l.flatten = true ∧ newN l.flatten + oldN l.flatten ≤ bulkL l.flatten ∧ l.flatten.length ≤ 4 * bulkL l.flatten
  | [], _, _ => ⟨rfl, rfl, Nat.zero_le _, Nat.zero_le _⟩
  | y :: l, h, hb => by
    obtain ⟨f, t, o, w, rfl, r1, r2, a1, a2⟩ := h y (by simp)
    have e : ([.sc (.int .i64 f), .sc (.int .i64 t), .sl 1 o, .sl 1 w] :: l : List (List V)).flatten = .sc (.int .i64 f) :: .sc (.int .i64 t) :: .sl 1 o :: .sl 1 w :: l.flatten := rfl
    rw [e] at hb ⊢
    have hbulk : bulkL (.sc (.int .i64 f) :: .sc (.int .i64 t) :: .sl 1 o :: .sl 1 w :: l.flatten) = 1 + (1 + ((bulkL o + 1) + ((bulkL w + 1) + bulkL l.flatten))) := rfl
    rw [hbulk] at hb ⊢
    obtain ⟨i1, i2, i3, i4⟩ := hunks_ok l (fun y hy => h y (by simp [hy])) (by omega)
    have b1 := len_strs a1
    have b2 := len_strs a2
    refine ⟨?_, ?_, ?_, ?_⟩
    · show ((true && (true && (okStrs (.sl 1 o) && okStrs (.sl 1 w)))) && okHs l.flatten) = true
      rw [okStrs_sl a1 (by omega), okStrs_sl a2 (by omega), i1]
      rfl
    · show ((inR f && inR t) && rngHs l.flatten) = true
      rw [r1, r2, i2]
      rfl
    · show (w.length + newN l.flatten) + (o.length + oldN l.flatten) ≤ _
      omega
    · simp only [List.length_cons]
      omega
theorem isV_hunks {P : Program} {t e u i : TypeId} {f1 f2 f3 f4 : Field} (ht : P.underlying t = some (.slice e)) (he : P.underlying e = some (.struct #[f1, f2, f3, f4])) (hz : szT P e = 4)
    (h1 : f1.type = i) (h2 : f2.type = i) (h3 : f3.type = u) (h4 : f4.type = u) (hi : P.underlying i = some (.int .i64)) {v : TypeId} (hu : P.underlying u = some (.slice v)) (hv : P.underlying v = some .string) (hzv : szT P v = 1)
    {x : V} (h : isV P t x) : ∃ l : List (List V), x = .sl 4 l.flatten ∧ ∀ y ∈ l, Hunk y := by
  obtain ⟨n, l, rfl, hl⟩ := isV_slice ht h
  refine ⟨l, by rw [hz], fun y hy => ?_⟩
  have := hl y hy
  obtain ⟨m, rfl⟩ := isT_pos this
  unfold isT at this
  rw [he] at this
  obtain ⟨l', rfl, hf⟩ := this
  obtain ⟨y1, l', rfl, q1, hf⟩ := isF_cons hf
  obtain ⟨y2, l', rfl, q2, hf⟩ := isF_cons hf
  obtain ⟨y3, l', rfl, q3, hf⟩ := isF_cons hf
  obtain ⟨y4, l', rfl, q4, hf⟩ := isF_cons hf
  obtain rfl := isF_nil hf
  rw [h1] at q1
  rw [h2] at q2
  rw [h3] at q3
  rw [h4] at q4
  obtain ⟨f, rfl, w1⟩ := isT_int1 hi q1
  obtain ⟨t, rfl, w2⟩ := isT_int1 hi q2
  obtain ⟨l1, rfl, a1⟩ := isT_strs hu hv hzv q3
  obtain ⟨l2, rfl, a2⟩ := isT_strs hu hv hzv q4
  exact ⟨f, t, l1, l2, rfl, inR_of w1, inR_of w2, a1, a2⟩
end Go.Ab
namespace Go.Proofs.Ytnjgofgogeileaa.diffApplies
open Go.ChangeShapes Go.WideShapes Go.ChangeAt Go.RowKit

theorem own : ownKnob Try.prog.godebug = none := by kernel_rfl

set_option maxRecDepth 100000 in
theorem law (vs : List Go.Ab.V) (h : Go.Ab.isVs Try.prog [22, 23] vs) (hb : Go.Ab.bulkL vs ≤ 1048576) : Go.Ab.CallR Go.Ab.C Go.Ab.prim 7 vs [] (.sc (.bool true), []) := by
  obtain ⟨x, y, rfl, hx, hy⟩ := Go.Ab.isVs_two h
  obtain ⟨a, rfl, ha⟩ := Go.Ab.isV_strs Try.underlying22 Try.underlying9 (by kernel_rfl) hx
  obtain ⟨l, rfl, hl⟩ := Go.Ab.isV_hunks Try.underlying23 Try.underlying57 (by kernel_rfl) rfl rfl rfl rfl Try.underlying3 Try.underlying22 Try.underlying9 (by kernel_rfl) hy
  simp only [Go.Ab.bulkL, Go.Ab.V.bulk] at hb
  have h1 := Go.Ab.len_strs ha
  obtain ⟨g1, g2, g3, g4⟩ := Go.Ab.hunks_ok l hl (by omega)
  refine Go.Ab.f7_run _ _ _ (Go.Ab.f7_eq _ _ ?_)
  rw [g1, ha, g2, decide_eq_true (show a.length ≤ 1048576 by omega), decide_eq_true (show l.flatten.length ≤ 10000000 by omega), decide_eq_true (show Go.Ab.newN l.flatten ≤ 1048576 by omega), decide_eq_true (show Go.Ab.oldN l.flatten ≤ 1048576 by omega)]
  rfl

set_option maxRecDepth 100000 in
theorem contract (H : Type) (enc : TypeId × Value → H) (W : World) (base : Nat) (args : Array Value) (ds gs : List (DataW H)) (before : List MemPlace)
    (hval : ∀ (j : Nat) t v, Try.f7.params[j]? = some t → args[j]? = some v → Value.okWide Try.prog W .any base t v)
    (hW : DataW.Whole enc Try.prog Try.f7.params.toList Rows.diffAppliesSpec.vars false W args.toList ds gs before) (hk : Rows.uptoSmall H (ds ++ gs) = true) :
    Calls Try.prog 7 args W fun e W' => ∃ v, e = .returned v ∧ Rows.diffAppliesSpec.post enc Try.prog Try.f7 false true false false W args v W' :=
  Go.Ab.law_contract (C := Go.Ab.C) (prim := Go.Ab.prim) (by kernel_rfl) (fun g p h => Go.Ab.prims_ok g p h) (by kernel_rfl) Try.func7 (by kernel_rfl) (by kernel_rfl) (by kernel_rfl) (by kernel_rfl) Try.underlying4
    rfl (fun ds h => match ds, h with | [_, _], _ => ⟨rfl, rfl, rfl⟩) hval hW
    (fun vs h hb => law vs h (Nat.le_trans hb (of_decide_eq_true hk)))

set_option maxRecDepth 100000 in
theorem lifted (os : Os) (started : os.Started) (H : Type) (enc : TypeId × Value → H) (F : Stop.Interp) :
    ReturnsInHanded {} Try.checked os 7 .any ((Rows.OpenSpec.upto Rows.diffAppliesSpec).pre6 enc Try.prog Try.f7 Rows.diffAppliesUptoRow.domain false) (((Rows.OpenSpec.upto Rows.diffAppliesSpec).at F).post enc Try.prog Try.f7 false true false false) := by
  refine returnsInHanded_of_cond (C := Try.checked) (s := Rows.OpenSpec.upto Rows.diffAppliesSpec) (k := Rows.uptoSmall) rfl own started (by kernel_rfl) Try.func7
    (OpenSpec.witness (enc := enc) (C := Try.checked) (s := Rows.OpenSpec.upto Rows.diffAppliesSpec) (k := Rows.uptoSmall) rfl false ⟨#[], #[.slice none 0 0, .slice none 0 0], []⟩ 8 (by kernel_rfl) (by kernel_rfl) (by kernel_rfl)
      (x := ([.nil, .nil], [], [])) (by kernel_rfl) rfl (by kernel_rfl)) ?_
  intro W base args ds gs before hval hW _ hk _
  exact contract H enc W base args ds gs before hval hW hk

theorem proved : Rows.DiffAppliesUptoSaid :=
  OpenClaim.holds_of_cond 7 Try.f7 rfl rfl rfl rfl rfl rfl rfl ⟨rfl, rfl, rfl, rfl, rfl⟩ rfl rfl rfl rfl rfl (by kernel_rfl) Try.func7 (by kernel_rfl)
    (of_decide_eq_true (by kernel_rfl)) (by unfold Func.isWrapper; first | (rw [if_pos (by decide +kernel)]; kernel_rfl) | (rw [if_neg (by decide +kernel)]; exact ⟨rfl, rfl⟩))
    (fun os started H enc _ F => lifted os started H enc F)
end Go.Proofs.Ytnjgofgogeileaa.diffApplies
