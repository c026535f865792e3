/- strings.Join: a primitive, by the library's contract. -/
import Derived.Test.YtbeemjiaohaamaaDoorPC2
import Derived.Shelf.Strings.OnBuilder
namespace Go.Proofs
open Go.Shelf
def Tryd.lays156_ren : Go.Shelf.Ren := ⟨fun | 156 => 40 | 165 => 77 | 166 => 78 | 169 => 79 | 240 => 110 | 241 => 111 | 276 => 137 | 277 => 138 | n => n, fun | 31 => 35 | 37 => 104 | 70 => 103 | 72 => 106 | 75 => 109 | 76 => 110 | 127 => 141 | 164 => 161 | 80 => 112 | n => n, fun | n => n⟩
theorem Tryd.lays156 : Go.Proofs.Lays.n156 Tryd.prog Tryd.lays156_ren := {
  mixed := by kernel_rfl
  f156 := Tryd.func40.trans (congrArg some (by kernel_rfl))
  f165 := Tryd.func77.trans (congrArg some (by kernel_rfl))
  f166 := Tryd.func78.trans (congrArg some (by kernel_rfl))
  f169 := Tryd.func79.trans (congrArg some (by kernel_rfl))
  f240 := Tryd.func110.trans (congrArg some (by kernel_rfl))
  f241 := Tryd.func111.trans (congrArg some (by kernel_rfl))
  f276 := Tryd.func137.trans (congrArg some (by kernel_rfl))
  f277 := Tryd.func138.trans (congrArg some (by kernel_rfl))
  t0 := Tryd.underlying0
  a0 := Tryd.isAgg0
  z0 := Tryd.sizeOf0
  v0 := Tryd.zeroValue0
  t3 := Tryd.underlying3
  a3 := Tryd.isAgg3
  z3 := Tryd.sizeOf3
  v3 := Tryd.zeroValue3
  t4 := Tryd.underlying4
  a4 := Tryd.isAgg4
  z4 := Tryd.sizeOf4
  v4 := Tryd.zeroValue4
  t9 := Tryd.underlying9
  a9 := Tryd.isAgg9
  z9 := Tryd.sizeOf9
  v9 := Tryd.zeroValue9
  t20 := Tryd.underlying20
  a20 := Tryd.isAgg20
  z20 := Tryd.sizeOf20
  v20 := Tryd.zeroValue20
  t31 := Tryd.underlying35
  a31 := Tryd.isAgg35
  z31 := Tryd.sizeOf35
  v31 := Tryd.zeroValue35
  t37 := Tryd.underlying104
  a37 := Tryd.isAgg104
  z37 := Tryd.sizeOf104
  v37 := Tryd.zeroValue104
  t70 := Tryd.underlying103
  a70 := Tryd.isAgg103
  z70 := Tryd.sizeOf103
  v70 := Tryd.zeroValue103
  t72 := Tryd.underlying106
  a72 := Tryd.isAgg106
  z72 := Tryd.sizeOf106
  v72 := Tryd.zeroValue106
  t75 := Tryd.underlying109
  a75 := Tryd.isAgg109
  z75 := Tryd.sizeOf109
  v75 := Tryd.zeroValue109
  t76 := Tryd.underlying110
  a76 := Tryd.isAgg110
  z76 := Tryd.sizeOf110
  v76 := Tryd.zeroValue110
  t127 := Tryd.underlying141
  a127 := Tryd.isAgg141
  z127 := Tryd.sizeOf141
  v127 := Tryd.zeroValue141
  t164 := Tryd.underlying161
  a164 := Tryd.isAgg161
  z164 := Tryd.sizeOf161
  v164 := Tryd.zeroValue161 }
theorem Tryd.xbld156 : Builder.Extra Tryd.prog Tryd.lays156_ren := {
  sizeBuilder := by kernel_rfl
  liesBuilder := by kernel_rfl
  t5 := Tryd.underlying5
  a5 := Tryd.isAgg5
  z5 := Tryd.sizeOf5
  v5 := Tryd.zeroValue5
  infoByte := by kernel_rfl
  cellsByte := by kernel_rfl
  sizeByte := by kernel_rfl
  neB5 := by decide }
end Go.Proofs
namespace Go.Ab
open Go Go.Proofs Go.RowKit
set_option linter.unusedSimpArgs false
set_option linter.unusedVariables false
def joinB (xs : List V) (sep : ByteArray) : ByteArray := ⟨(Lib.join (xs.map fun x => x.strOf.data.toList) sep.data.toList).toArray⟩
def p40 : PrimT := fun vs gs => match vs, gs with
  | [.sl 1 xs, .sc (.string sep)], [] => (decide (xs.length ≤ 140737488355328) && decide ((joinB xs sep).size ≤ 140737488355328) && xs.all V.isStr, .sc (.string (joinB xs sep)), [])
  | _, _ => (false, .bad, [])
set_option maxRecDepth 100000 in
theorem p40_ok : PrimOk Tryd.prog 40 p40 := by
  intro vs gs v gs' h args w F Rs hR hv
  unfold p40 at h
  split at h
  · next xs sep =>
    simp only [Prod.mk.injEq, Bool.and_eq_true, decide_eq_true_eq] at h
    obtain ⟨⟨⟨hbig, hlen⟩, hstr⟩, rfl, rfl⟩ := h
    obtain ⟨a, b, rfl, ha, hb⟩ := args2 hv
    obtain ⟨rfl, _⟩ := hb
    refine enter_of_calls (fn := Tryd.f40) Tryd.func40 (by kernel_rfl) (by kernel_rfl) ?_
    have none : ∀ (q : Option Addr) (c : Nat), Calls Tryd.prog 40 #[.slice q 0 c, .string sep] w fun e w' => ∃ v, e = .returned v ∧ Back Tryd.prog w F (.sc (.string (joinB [] sep))) [] v w' := by
      intro q c
      refine (Any.strings_Join_none Tryd.lays156 Tryd.xbld156 q c sep w).mono ?_
      rintro e w' ⟨rfl, rfl⟩
      exact ⟨_, rfl, back_val rfl rfl hR (Below.refl _ _) ⟨rfl, rfl⟩⟩
    rcases ha with ⟨rfl, rfl⟩ | ⟨ad, n, c, cs, rfl, k2, k3, k4, k5, k6, k7, k8, k9, k10⟩
    · exact none _ _
    · rw [Nat.mul_one] at k4
      obtain ⟨zs, rfl, hxs⟩ := strs_of k8 hstr
      have hzl : zs.length = n := by rw [hxs, List.length_map] at k4; exact k4
      by_cases hn : n = 0
      · subst hn
        have hz : zs = [] := List.eq_nil_of_length_eq_zero hzl
        subst hz
        rw [hxs]
        exact none _ _
      · have hxne : xs ≠ [] := by
          intro h; rw [h] at k4; exact hn k4.symm
        obtain ⟨bk, off, sp⟩ := ad
        have hsp : sp = .none := k2 hxne
        subst hsp
        have hcells : ∀ (j : Nat) x, zs[j]? = some x → w.cell? ⟨bk, off + j, .none⟩ = some (.string x) := by
          intro j x hj
          refine k6 j _ ?_
          rw [List.getElem?_map, hj]
          rfl
        have hbk : bk < w.heap.size := by
          obtain ⟨x0, hx0⟩ : ∃ x0, zs[0]? = some x0 := by
            cases zs with
            | nil => simp at hzl; omega
            | cons x _ => exact ⟨x, rfl⟩
          have hc := hcells 0 x0 hx0
          rcases Nat.lt_or_ge bk w.heap.size with h | h
          · exact h
          · unfold World.cell? at hc
            simp only [Array.getElem?_eq_none h] at hc
            cases hc
        have hj : joinB xs sep = ⟨(Lib.join (zs.map (·.data.toList)) sep.data.toList).toArray⟩ := by
          unfold joinB
          rw [hxs, List.map_map]
          rfl
        have hl : (Lib.join (zs.map (·.data.toList)) sep.data.toList).length ≤ 140737488355328 := by
          rw [hj] at hlen
          have : (⟨(Lib.join (zs.map (·.data.toList)) sep.data.toList).toArray⟩ : ByteArray).size = (Lib.join (zs.map (·.data.toList)) sep.data.toList).length := by rw [← ba_size]
          omega
        have := Any.strings_Join Tryd.lays156 Tryd.xbld156 bk off c zs sep w hcells hbk (by omega) (by omega) hl
        rw [hzl] at this
        refine Calls.mono this ?_
        rintro e w' ⟨rfl, hw⟩
        rw [hj]
        exact ⟨_, rfl, back_val rfl rfl hR hw ⟨rfl, rfl⟩⟩
  · cases h
end Go.Ab
