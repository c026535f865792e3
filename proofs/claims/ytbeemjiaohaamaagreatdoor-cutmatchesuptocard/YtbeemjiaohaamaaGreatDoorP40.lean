/- strings.Join: a primitive, by the library's contract. -/
import Derived.Test.YtbeemjiaohaamaaGreatDoorPC2
import Derived.Shelf.Strings.OnBuilder
namespace Go.Proofs
open Go.Shelf
def Tryz.lays156_ren : Go.Shelf.Ren := ⟨fun | 156 => 32 | 165 => 65 | 166 => 59 | 169 => 61 | 240 => 93 | 241 => 97 | 276 => 123 | 277 => 127 | n => n, fun | 31 => 34 | 37 => 99 | 70 => 98 | 72 => 101 | 75 => 103 | 76 => 104 | 127 => 131 | 164 => 152 | 80 => 107 | n => n, fun | n => n⟩
theorem Tryz.lays156 : Go.Proofs.Lays.n156 Tryz.prog Tryz.lays156_ren := {
  mixed := by kernel_rfl
  f156 := Tryz.func32.trans (congrArg some (by kernel_rfl))
  f165 := Tryz.func65.trans (congrArg some (by kernel_rfl))
  f166 := Tryz.func59.trans (congrArg some (by kernel_rfl))
  f169 := Tryz.func61.trans (congrArg some (by kernel_rfl))
  f240 := Tryz.func93.trans (congrArg some (by kernel_rfl))
  f241 := Tryz.func97.trans (congrArg some (by kernel_rfl))
  f276 := Tryz.func123.trans (congrArg some (by kernel_rfl))
  f277 := Tryz.func127.trans (congrArg some (by kernel_rfl))
  t0 := Tryz.underlying0
  a0 := Tryz.isAgg0
  z0 := Tryz.sizeOf0
  v0 := Tryz.zeroValue0
  t3 := Tryz.underlying3
  a3 := Tryz.isAgg3
  z3 := Tryz.sizeOf3
  v3 := Tryz.zeroValue3
  t4 := Tryz.underlying4
  a4 := Tryz.isAgg4
  z4 := Tryz.sizeOf4
  v4 := Tryz.zeroValue4
  t9 := Tryz.underlying9
  a9 := Tryz.isAgg9
  z9 := Tryz.sizeOf9
  v9 := Tryz.zeroValue9
  t20 := Tryz.underlying20
  a20 := Tryz.isAgg20
  z20 := Tryz.sizeOf20
  v20 := Tryz.zeroValue20
  t31 := Tryz.underlying34
  a31 := Tryz.isAgg34
  z31 := Tryz.sizeOf34
  v31 := Tryz.zeroValue34
  t37 := Tryz.underlying99
  a37 := Tryz.isAgg99
  z37 := Tryz.sizeOf99
  v37 := Tryz.zeroValue99
  t70 := Tryz.underlying98
  a70 := Tryz.isAgg98
  z70 := Tryz.sizeOf98
  v70 := Tryz.zeroValue98
  t72 := Tryz.underlying101
  a72 := Tryz.isAgg101
  z72 := Tryz.sizeOf101
  v72 := Tryz.zeroValue101
  t75 := Tryz.underlying103
  a75 := Tryz.isAgg103
  z75 := Tryz.sizeOf103
  v75 := Tryz.zeroValue103
  t76 := Tryz.underlying104
  a76 := Tryz.isAgg104
  z76 := Tryz.sizeOf104
  v76 := Tryz.zeroValue104
  t127 := Tryz.underlying131
  a127 := Tryz.isAgg131
  z127 := Tryz.sizeOf131
  v127 := Tryz.zeroValue131
  t164 := Tryz.underlying152
  a164 := Tryz.isAgg152
  z164 := Tryz.sizeOf152
  v164 := Tryz.zeroValue152 }
theorem Tryz.xbld156 : Builder.Extra Tryz.prog Tryz.lays156_ren := {
  sizeBuilder := by kernel_rfl
  liesBuilder := by kernel_rfl
  t5 := Tryz.underlying5
  a5 := Tryz.isAgg5
  z5 := Tryz.sizeOf5
  v5 := Tryz.zeroValue5
  infoByte := by kernel_rfl
  cellsByte := by kernel_rfl
  sizeByte := by kernel_rfl
  neB5 := by decide }
end Go.Proofs
namespace Go.Ab
open Go Go.Proofs Go.RowKit
set_option linter.unusedSimpArgs false
set_option linter.unusedVariables false
def joinB (xs : List V) (sep : ByteArray) : ByteArray := ⟨(Lib.join (xs.map fun x => x.strOf.data.toList) sep.data.toList).toArray⟩
def p32 : PrimT := fun vs gs => match vs, gs with
  | [.sl 1 xs, .sc (.string sep)], [] => (decide (xs.length ≤ 140737488355328) && decide ((joinB xs sep).size ≤ 140737488355328) && xs.all V.isStr, .sc (.string (joinB xs sep)), [])
  | _, _ => (false, .bad, [])
set_option maxRecDepth 100000 in
theorem p32_ok : PrimOk Tryz.prog 32 p32 := by
  intro vs gs v gs' h args w F Rs hR hv
  unfold p32 at h
  split at h
  · next xs sep =>
    simp only [Prod.mk.injEq, Bool.and_eq_true, decide_eq_true_eq] at h
    obtain ⟨⟨⟨hbig, hlen⟩, hstr⟩, rfl, rfl⟩ := h
    obtain ⟨a, b, rfl, ha, hb⟩ := args2 hv
    obtain ⟨rfl, _⟩ := hb
    refine enter_of_calls (fn := Tryz.f32) Tryz.func32 (by kernel_rfl) (by kernel_rfl) ?_
    have none : ∀ (q : Option Addr) (c : Nat), Calls Tryz.prog 32 #[.slice q 0 c, .string sep] w fun e w' => ∃ v, e = .returned v ∧ Back Tryz.prog w F (.sc (.string (joinB [] sep))) [] v w' := by
      intro q c
      refine (Any.strings_Join_none Tryz.lays156 Tryz.xbld156 q c sep w).mono ?_
      rintro e w' ⟨rfl, rfl⟩
      exact ⟨_, rfl, back_val rfl rfl hR (Below.refl _ _) ⟨rfl, rfl⟩⟩
    rcases ha with ⟨rfl, rfl⟩ | ⟨ad, n, c, cs, rfl, k2, k3, k4, k5, k6, k7, k8, k9, k900010⟩
    · exact none _ _
    · rw [Nat.mul_one] at k4
      obtain ⟨zs, rfl, hxs⟩ := strs_of k8 hstr
      have hzl : zs.length = n := by rw [hxs, List.length_map] at k4; exact k4
      by_cases hn : n = 0
      · subst hn
        have hz : zs = [] := List.eq_nil_of_length_eq_zero hzl
        subst hz
        rw [hxs]
        exact none _ _
      · have hxne : xs ≠ [] := by
          intro h; rw [h] at k4; exact hn k4.symm
        obtain ⟨bk, off, sp⟩ := ad
        have hsp : sp = .none := k2 hxne
        subst hsp
        have hcells : ∀ (j : Nat) x, zs[j]? = some x → w.cell? ⟨bk, off + j, .none⟩ = some (.string x) := by
          intro j x hj
          refine k6 j _ ?_
          rw [List.getElem?_map, hj]
          rfl
        have hbk : bk < w.heap.size := by
          obtain ⟨x0, hx0⟩ : ∃ x0, zs[0]? = some x0 := by
            cases zs with
            | nil => simp at hzl; omega
            | cons x _ => exact ⟨x, rfl⟩
          have hc := hcells 0 x0 hx0
          rcases Nat.lt_or_ge bk w.heap.size with h | h
          · exact h
          · unfold World.cell? at hc
            simp only [Array.getElem?_eq_none h] at hc
            cases hc
        have hj : joinB xs sep = ⟨(Lib.join (zs.map (·.data.toList)) sep.data.toList).toArray⟩ := by
          unfold joinB
          rw [hxs, List.map_map]
          rfl
        have hl : (Lib.join (zs.map (·.data.toList)) sep.data.toList).length ≤ 140737488355328 := by
          rw [hj] at hlen
          have : (⟨(Lib.join (zs.map (·.data.toList)) sep.data.toList).toArray⟩ : ByteArray).size = (Lib.join (zs.map (·.data.toList)) sep.data.toList).length := by rw [← ba_size]
          omega
        have := Any.strings_Join Tryz.lays156 Tryz.xbld156 bk off c zs sep w hcells hbk (by omega) (by omega) hl
        rw [hzl] at this
        refine Calls.mono this ?_
        rintro e w' ⟨rfl, hw⟩
        rw [hj]
        exact ⟨_, rfl, back_val rfl rfl hR hw ⟨rfl, rfl⟩⟩
  · cases h
end Go.Ab
