/- strings.Builder's String: what it hands back, and that it leaves every block but that of the bytes as it was. -/
import Derived.Test.YtbeemjiaohaamaaGreatDoorPB2
import Derived.Shelf.Strings.Builder1
namespace Go.Proofs
open Go.Shelf Go.RowKit
set_option linter.unusedVariables false
set_option linter.unusedSimpArgs false

/-- All blocks but one are as they were. -/
structure Kp (g : Nat) (w w' : World) : Prop where
  os : w'.os = w.os
  tape : w'.tape = w.tape
  output : w'.output = w.output
  size : w.heap.size ≤ w'.heap.size
  block : ∀ k, k < w.heap.size → k ≠ g → w'.heap[k]? = w.heap[k]?
theorem Kp.refl (g : Nat) (w : World) : Kp g w w := ⟨rfl, rfl, rfl, Nat.le_refl _, fun _ _ _ => rfl⟩
theorem Kp.drew {g : Nat} {a w : World} (h : Kp g a w) : Kp g a w.drew := ⟨h.os, h.tape, h.output, h.size, h.block⟩
theorem Kp.alloc {g : Nat} {a w : World} (h : Kp g a w) (o : Obj) : Kp g a (w.alloc o) :=
  ⟨h.os, h.tape, h.output, by simpa using Nat.le_succ_of_le h.size, fun k hk hg => (Below.heap_alloc _ _ _ (Nat.lt_of_lt_of_le hk h.size)).trans (h.block k hk hg)⟩
theorem Kp.freeze {g : Nat} {a w : World} (h : Kp g a w) (n : Nat) : Kp g a (w.freeze ⟨g, 0, none⟩ n) := by
  unfold World.freeze
  split
  · exact h
  · refine ⟨h.os, h.tape, h.output, by simpa using h.size, fun k hk hg => ?_⟩
    rw [← h.block k hk hg]
    show (w.heap.modify g _)[k]? = _
    rw [Array.getElem?_modify, if_neg (fun e => hg e.symm)]

variable {P : Program} {ρ : Ren}
set_option maxHeartbeats 2000000 in
set_option maxRecDepth 100000 in
theorem Bstr_some (L : Lays.n169 P ρ) (X : Builder.Extra P ρ) (b g cap : Nat) (p : Value) (cur : Array Value) (fz : Nat × Nat) (l : List UInt8) (w : World) (hbk : w.heap[b]? = some (.cells #[p, .slice (some ⟨g, 0, none⟩) l.length cap] (ρ.t 72) (0, 0)))
    (hg : w.heap[g]? = some (.cells cur (ρ.t 5) fz)) (hnc : l.length ≤ cap) (hcm : cap ≤ maxLen) (hcs : cur.size = cap) (hcell : ∀ j x, l[j]? = some x → w.cell? (Addr.add ⟨g, 0, none⟩ j) = some (.int .u8 x.toNat)) (h0 : l ≠ []) :
    Calls P (ρ.f 169) #[.pointer (some ⟨b, 0, none⟩)] w fun e w' => e = .returned (.string ⟨l.toArray⟩) ∧ Kp g w w' := by
  have hl0 : l.length ≠ 0 := by simpa using h0
  have c1 : w.drew.cell? ⟨b, 1, none⟩ = some (.slice (some ⟨g, 0, none⟩) l.length cap) := by
    have : w.drew.heap[b]? = some (.cells #[p, .slice (some ⟨g, 0, none⟩) l.length cap] (ρ.t 72) (0, 0)) := hbk
    rw [Lib.cell_of_heap this]; rfl
  have hSD : (Builtin.unsafeSliceData_ #[(ρ.t 37)] (ρ.t 127) #[.slice (some ⟨g, 0, none⟩) l.length cap]).run P w.drew = .ok (.pointer (some ⟨g, 0, none⟩)) w.drew :=
    Lib.run_unsafeSliceData_row _ _ _ _ _ _ (by omega)
  have hUS : (Builtin.unsafeString_ #[(ρ.t 127), (ρ.t 3)] (ρ.t 9) #[.pointer (some ⟨g, 0, none⟩), .int .i64 l.length]).run P w.drew = .ok (.string ⟨l.toArray⟩) (w.drew.freeze ⟨g, 0, none⟩ l.length) := by
    refine Lib.run_unsafeString_row w.drew (ρ.t 127) (ρ.t 3) (ρ.t 9) (ρ.t 5) L.t127 X.cellsByte g cur.size (by have hg' : w.drew.heap[g]? = some (.cells cur (ρ.t 5) fz) := hg; simp [World.shape?, hg']) l h0 (by omega) (by unfold maxLen at hcm; omega) ?_
    intro j x hx
    have := hcell j x hx
    exact this
  have mixed := L.mixed
  have t72 := L.t72; have a72 := L.a72; have z72 := L.z72; have v72 := L.v72; have u72 := run_underlying L.t72
  have t70 := L.t70; have a70 := L.a70; have z70 := L.z70; have v70 := L.v70; have u70 := run_underlying L.t70
  have t37 := L.t37; have a37 := L.a37; have z37 := L.z37; have v37 := L.v37; have u37 := run_underlying L.t37
  have t127 := L.t127; have a127 := L.a127; have z127 := L.z127; have v127 := L.v127; have u127 := run_underlying L.t127
  have t3 := L.t3; have a3 := L.a3; have z3 := L.z3; have v3 := L.v3; have u3 := run_underlying L.t3
  have t9 := L.t9; have a9 := L.a9; have z9 := L.z9; have v9 := L.v9; have u9 := run_underlying L.t9
  have t5 := X.t5; have a5 := X.a5; have z5 := X.z5; have v5 := X.v5; have u5 := run_underlying X.t5
  go_enter L.f169, Body.n169_ntmps ρ
  go_wp2
  go_region_o
  all_goals (go_wp2; go_ret; exact ⟨rfl, (Kp.refl g w).drew.freeze _⟩)

set_option maxHeartbeats 2000000 in
set_option maxRecDepth 100000 in
theorem Bstr_nil (L : Lays.n169 P ρ) (X : Builder.Extra P ρ) (b g : Nat) (p : Value) (w : World) (hbk : w.heap[b]? = some (.cells #[p, .slice none 0 0] (ρ.t 72) (0, 0))) :
    Calls P (ρ.f 169) #[.pointer (some ⟨b, 0, none⟩)] w fun e w' => e = .returned (.string ⟨#[]⟩) ∧ Kp g w w' := by
  have hUS := Any.unsafeString_none L X
  have c1 : w.drew.cell? ⟨b, 1, none⟩ = some (.slice none 0 0) := by
    have : w.drew.heap[b]? = some (.cells #[p, .slice none 0 0] (ρ.t 72) (0, 0)) := hbk
    rw [Lib.cell_of_heap this]; rfl
  have hSD : (Builtin.unsafeSliceData_ #[(ρ.t 37)] (ρ.t 127) #[.slice none 0 0]).run P w.drew = .ok (.pointer none) w.drew := rfl
  have mixed := L.mixed
  have t72 := L.t72; have a72 := L.a72; have z72 := L.z72; have v72 := L.v72; have u72 := run_underlying L.t72
  have t70 := L.t70; have a70 := L.a70; have z70 := L.z70; have v70 := L.v70; have u70 := run_underlying L.t70
  have t37 := L.t37; have a37 := L.a37; have z37 := L.z37; have v37 := L.v37; have u37 := run_underlying L.t37
  have t127 := L.t127; have a127 := L.a127; have z127 := L.z127; have v127 := L.v127; have u127 := run_underlying L.t127
  have t3 := L.t3; have a3 := L.a3; have z3 := L.z3; have v3 := L.v3; have u3 := run_underlying L.t3
  have t9 := L.t9; have a9 := L.a9; have z9 := L.z9; have v9 := L.v9; have u9 := run_underlying L.t9
  have t5 := X.t5; have a5 := X.a5; have z5 := X.z5; have v5 := X.v5; have u5 := run_underlying X.t5
  go_enter L.f169, Body.n169_ntmps ρ
  go_wp2
  go_region_o
  all_goals (go_wp2; go_ret; exact ⟨rfl, (Kp.refl g w).drew⟩)

set_option maxHeartbeats 2000000 in
set_option maxRecDepth 100000 in
theorem Bstr_noroom (L : Lays.n169 P ρ) (X : Builder.Extra P ρ) (b g : Nat) (p : Value) (cur : Array Value) (w : World) (hbk : w.heap[b]? = some (.cells #[p, .slice (some ⟨g, 0, none⟩) 0 0] (ρ.t 72) (0, 0))) (fz : Nat × Nat) (hg : w.heap[g]? = some (.cells cur (ρ.t 5) fz)) :
    Calls P (ρ.f 169) #[.pointer (some ⟨b, 0, none⟩)] w fun e w' => e = .returned (.string ⟨#[]⟩) ∧ Kp g w w' := by
  have hUS := Any.unsafeString_none L X
  have hlt : b < w.heap.size := by
    rcases Nat.lt_or_ge b w.heap.size with h' | h'
    · exact h'
    · simp [Array.getElem?_eq_none h'] at hbk
  have c1 : w.drew.cell? ⟨b, 1, none⟩ = some (.slice (some ⟨g, 0, none⟩) 0 0) := by
    have : w.drew.heap[b]? = some (.cells #[p, .slice (some ⟨g, 0, none⟩) 0 0] (ρ.t 72) (0, 0)) := hbk
    rw [Lib.cell_of_heap this]; rfl
  have hSD : (Builtin.unsafeSliceData_ #[(ρ.t 37)] (ρ.t 127) #[.slice (some ⟨g, 0, none⟩) 0 0]).run P w.drew = .ok (.pointer (some ⟨w.drew.heap.size, 0, none⟩)) (w.drew.alloc (.view ⟨g, 0, none⟩ (ρ.t 5))) :=
    Lib.run_unsafeSliceData_zero w.drew _ _ (ρ.t 5) L.t127 ⟨g, 0, none⟩ 0 ((ρ.t 5), cur.size) (by have hg' : w.drew.heap[g]? = some (.cells cur (ρ.t 5) fz) := hg; simp [World.shape?, hg'])
  have c2 : (w.drew.alloc (.view ⟨g, 0, none⟩ (ρ.t 5))).cell? ⟨b, 1, none⟩ = some (.slice (some ⟨g, 0, none⟩) 0 0) := by
    have : (w.drew.alloc (.view ⟨g, 0, none⟩ (ρ.t 5))).heap[b]? = _ := (Lib.alloc_old w.drew _ b hlt).trans hbk
    rw [Lib.cell_of_heap this]; rfl
  have c3 : (w.alloc (.view ⟨g, 0, none⟩ (ρ.t 5))).drew.cell? ⟨b, 1, none⟩ = some (.slice (some ⟨g, 0, none⟩) 0 0) := c2
  have c0 : w.cell? ⟨b, 1, none⟩ = some (.slice (some ⟨g, 0, none⟩) 0 0) := c1
  have mixed := L.mixed
  have t72 := L.t72; have a72 := L.a72; have z72 := L.z72; have v72 := L.v72; have u72 := run_underlying L.t72
  have t70 := L.t70; have a70 := L.a70; have z70 := L.z70; have v70 := L.v70; have u70 := run_underlying L.t70
  have t37 := L.t37; have a37 := L.a37; have z37 := L.z37; have v37 := L.v37; have u37 := run_underlying L.t37
  have t127 := L.t127; have a127 := L.a127; have z127 := L.z127; have v127 := L.v127; have u127 := run_underlying L.t127
  have t3 := L.t3; have a3 := L.a3; have z3 := L.z3; have v3 := L.v3; have u3 := run_underlying L.t3
  have t9 := L.t9; have a9 := L.a9; have z9 := L.z9; have v9 := L.v9; have u9 := run_underlying L.t9
  have t5 := X.t5; have a5 := X.a5; have z5 := X.z5; have v5 := X.v5; have u5 := run_underlying X.t5
  go_enter L.f169, Body.n169_ntmps ρ
  go_wp2
  go_region_o
  all_goals (go_wp2; go_ret; exact ⟨rfl, (Kp.refl g w).drew.alloc _⟩)

set_option maxHeartbeats 2000000 in
set_option maxRecDepth 100000 in
theorem Bstr_room (L : Lays.n169 P ρ) (X : Builder.Extra P ρ) (b g cap : Nat) (p : Value) (w : World) (hc0 : cap ≠ 0) (hbk : w.heap[b]? = some (.cells #[p, .slice (some ⟨g, 0, none⟩) 0 cap] (ρ.t 72) (0, 0))) :
    Calls P (ρ.f 169) #[.pointer (some ⟨b, 0, none⟩)] w fun e w' => e = .returned (.string ⟨#[]⟩) ∧ Kp g w w' := by
  have hUS := Any.unsafeString_none L X
  have c1 : w.drew.cell? ⟨b, 1, none⟩ = some (.slice (some ⟨g, 0, none⟩) 0 cap) := by
    have : w.drew.heap[b]? = some (.cells #[p, .slice (some ⟨g, 0, none⟩) 0 cap] (ρ.t 72) (0, 0)) := hbk
    rw [Lib.cell_of_heap this]; rfl
  have hSD : (Builtin.unsafeSliceData_ #[(ρ.t 37)] (ρ.t 127) #[.slice (some ⟨g, 0, none⟩) 0 cap]).run P w.drew = .ok (.pointer (some ⟨g, 0, none⟩)) w.drew :=
    Lib.run_unsafeSliceData_row _ _ _ _ _ _ hc0
  clear hc0
  have mixed := L.mixed
  have t72 := L.t72; have a72 := L.a72; have z72 := L.z72; have v72 := L.v72; have u72 := run_underlying L.t72
  have t70 := L.t70; have a70 := L.a70; have z70 := L.z70; have v70 := L.v70; have u70 := run_underlying L.t70
  have t37 := L.t37; have a37 := L.a37; have z37 := L.z37; have v37 := L.v37; have u37 := run_underlying L.t37
  have t127 := L.t127; have a127 := L.a127; have z127 := L.z127; have v127 := L.v127; have u127 := run_underlying L.t127
  have t3 := L.t3; have a3 := L.a3; have z3 := L.z3; have v3 := L.v3; have u3 := run_underlying L.t3
  have t9 := L.t9; have a9 := L.a9; have z9 := L.z9; have v9 := L.v9; have u9 := run_underlying L.t9
  have t5 := X.t5; have a5 := X.a5; have z5 := X.z5; have v5 := X.v5; have u5 := run_underlying X.t5
  go_enter L.f169, Body.n169_ntmps ρ
  go_wp2
  go_region_o
  all_goals (go_wp2; go_ret; exact ⟨rfl, (Kp.refl g w).drew⟩)

def Tryz.lays169_ren : Go.Shelf.Ren := ⟨fun | 169 => 61 | n => n, fun | 70 => 98 | 9 => 9 | 0 => 0 | 72 => 101 | 37 => 99 | 127 => 131 | 3 => 3 | 5 => 5 | n => n, fun | n => n⟩
theorem Tryz.lays169 : Go.Proofs.Lays.n169 Tryz.prog Tryz.lays169_ren := {
  mixed := by kernel_rfl
  f169 := Tryz.func61.trans (congrArg some (by kernel_rfl))
  t0 := Tryz.underlying0
  a0 := Tryz.isAgg0
  z0 := Tryz.sizeOf0
  v0 := Tryz.zeroValue0
  t3 := Tryz.underlying3
  a3 := Tryz.isAgg3
  z3 := Tryz.sizeOf3
  v3 := Tryz.zeroValue3
  t9 := Tryz.underlying9
  a9 := Tryz.isAgg9
  z9 := Tryz.sizeOf9
  v9 := Tryz.zeroValue9
  t37 := Tryz.underlying99
  a37 := Tryz.isAgg99
  z37 := Tryz.sizeOf99
  v37 := Tryz.zeroValue99
  t70 := Tryz.underlying98
  a70 := Tryz.isAgg98
  z70 := Tryz.sizeOf98
  v70 := Tryz.zeroValue98
  t72 := Tryz.underlying101
  a72 := Tryz.isAgg101
  z72 := Tryz.sizeOf101
  v72 := Tryz.zeroValue101
  t127 := Tryz.underlying131
  a127 := Tryz.isAgg131
  z127 := Tryz.sizeOf131
  v127 := Tryz.zeroValue131 }
theorem Tryz.xbld : Builder.Extra Tryz.prog Tryz.lays169_ren := {
  sizeBuilder := by kernel_rfl
  liesBuilder := by kernel_rfl
  t5 := Tryz.underlying5
  a5 := Tryz.isAgg5
  z5 := Tryz.sizeOf5
  v5 := Tryz.zeroValue5
  infoByte := by kernel_rfl
  cellsByte := by kernel_rfl
  sizeByte := by kernel_rfl
  neB5 := by decide }
end Go.Proofs
namespace Go.Ab
open Go Go.Proofs Go.RowKit
set_option linter.unusedSimpArgs false
set_option linter.unusedVariables false

section
variable {P : Program} {w w' : World} {F : FG} {Rs : List RG} {x : V}

theorem parR_one {a b : Rg} {r : Nm} (h : r ≠ .par 0) : parR [a] r = parR [b] r := by
  cases r with
  | par i =>
    cases i with
    | zero => exact absurd rfl h
    | succ i => rfl
  | _ => rfl

/-- The Builder's bytes are given away. -/
theorem bld_gone {b : Nat} {v0 v1 : Value} {s1 : Sk} {t : TypeId} {s : ByteArray} {g : Nat} (hR : Regs P w F (parR [⟨true, [.slf, x]⟩]) w F.g (parG Rs)) (hB : Bld P w F Rs x b v0 v1 s1 t)
    (hx : x ≠ .slf) (hone : v1.oneCell' = true) (hgb : g ≠ b) (hgs : g ∈ s1.fp ∨ (∀ k, k < w.heap.size → w'.heap[k]? = w.heap[k]?)) (hk : Kp g w w') : Back P w F (.sc (.string s)) [⟨true, [.slf, .bad]⟩] (.string s) w' := by
  have hgm : parG Rs (.par 0) = some ⟨some b, [v0, v1], [.leaf, s1]⟩ := hB.at0
  have hlt := hR.lt hgm
  have hnd := hR.nodup _ _ hgm
  have hbl : b < w.heap.size := hlt b (by simp [RG.fp])
  have hbs : b ∉ s1.fp := by
    simp only [RG.fp, fpL, Sk.fp, Option.toList_some, List.nil_append, List.append_nil, List.cons_append, List.nodup_cons] at hnd
    exact hnd.1
  have hin : ∀ k, k < w.heap.size → ¬ InC (fun r => r = .hand ∨ r = .par 0) (parG Rs) k → w'.heap[k]? = w.heap[k]? := by
    intro k hkl hn
    rcases hgs with h | h
    · refine hk.block k hkl (fun e => hn ?_)
      subst e
      exact ⟨.par 0, _, .inr rfl, hgm, by simp [RG.fp, fpL, h]⟩
    · exact h k hkl
  refine ⟨F.g, setG (setG (parG Rs) (.par 0) (some ⟨some b, [v0, v1], [.leaf, .leaf]⟩)) .hand (some ⟨none, [], []⟩), ?_, ⟨rfl, rfl⟩⟩
  have hl : ((V.sc (.string s)).land .hand 0).2 = [] := rfl
  rw [hl]
  have g0 : setG (setG (parG Rs) (.par 0) (some ⟨some b, [v0, v1], [.leaf, .leaf]⟩)) .hand (some ⟨none, [], []⟩) (.par 0) = some ⟨some b, [v0, v1], [.leaf, .leaf]⟩ := by
    rw [setG_ne _ _ (by simp), setG_self]
  have gh : setG (setG (parG Rs) (.par 0) (some ⟨some b, [v0, v1], [.leaf, .leaf]⟩)) .hand (some ⟨none, [], []⟩) .hand = some ⟨none, [], []⟩ := setG_self _ _ _
  refine hR.change (fun r => r = .hand ∨ r = .par 0) hin hk.os hk.tape hk.output hk.size ?_ ?_ ?_ ?_ ?_ (fun _ h => h) (fun _ h => .inl h) ?_
  · intro r hr
    refine ⟨(withHand_ne _ _ (fun e => hr (.inl e))).trans (parR_one (fun e => hr (.inr e))), ?_⟩
    rw [setG_ne _ _ (fun e => hr (.inl e)), setG_ne _ _ (fun e => hr (.inr e))]
  · rintro r (rfl | rfl)
    · rw [withHand_hand, gh]
      exact ⟨rfl, trivial, fun b hb => by cases hb⟩
    · rw [withHand_ne _ _ (by simp), g0]
      have hwb : w'.heap[b]? = w.heap[b]? := by
        rcases hgs with h | h
        · exact hk.block b hbl (fun e => hgb e.symm)
        · exact h b hbl
      refine ⟨rfl, ⟨⟨rfl, ?_⟩, ⟨rfl, hone⟩, trivial⟩, fun b' hb' => ?_⟩
      · rcases hB.addr with rfl | rfl <;> rfl
      · obtain rfl := Option.some.inj hb'
        refine ⟨⟨t, hwb.trans hB.heap, fun _ _ => hB.self⟩, fun k hk => ?_⟩
        match k, hk with
        | 0, _ => rcases hB.addr with rfl | rfl
                  · exact .inl rfl
                  · exact .inr rfl
        | 1, hk => cases Option.some.inj hk
  · rintro r R (rfl | rfl) h
    · rw [gh] at h; obtain rfl := Option.some.inj h; simp [RG.fp, fpL]
    · rw [g0] at h; obtain rfl := Option.some.inj h
      simp [RG.fp, fpL, Sk.fp]
  · rintro r r' R R' (rfl | rfl) (rfl | rfl) hne h h' c hc
    · exact absurd rfl hne
    · rw [gh] at h; obtain rfl := Option.some.inj h; simp [RG.fp, fpL] at hc
    · rw [gh] at h'; obtain rfl := Option.some.inj h'; simp [RG.fp, fpL]
    · exact absurd rfl hne
  · rintro r R c (rfl | rfl) h hc
    · rw [gh] at h; obtain rfl := Option.some.inj h; simp [RG.fp, fpL] at hc
    · rw [g0] at h; obtain rfl := Option.some.inj h
      refine .inl ⟨.par 0, _, .inr rfl, hgm, ?_⟩
      simp [RG.fp, fpL, Sk.fp] at hc ⊢
      exact .inl hc
  · rintro i R (h | h) hr
    · cases h
    · cases h
      rw [g0] at hr
      obtain rfl := Option.some.inj hr
      have := hR.par 0 _ hgm
      refine ⟨this.1, fun s hs => ?_⟩
      have := (this.2 s hs).1
      cases this
end

def okU8 : V → Bool
  | .sc (.int .u8 n) => decide (0 ≤ n) && decide (n < 256)
  | _ => false
def p61 : PrimT := fun vs gs => match vs, gs with
  | [.ptrB (.par 0) 0], [⟨true, [.slf, .own 5 false xs]⟩] => (xs.all okU8, .sc (.string (strOfCells xs)), [⟨true, [.slf, .bad]⟩])
  | _, _ => (false, .bad, [])

theorem okU8_eq {y : V} (h : okU8 y = true) : ∃ n : Nat, n < 256 ∧ y = .sc (.int .u8 (n : Int)) := by
  unfold okU8 at h
  split at h
  · next n =>
    simp only [Bool.and_eq_true, decide_eq_true_eq] at h
    exact ⟨n.toNat, by omega, by congr 2; omega⟩
  · cases h
theorem byteOf_nat (n : Nat) (h : n < 256) : (byteOfV (.sc (.int .u8 (n : Int)))).toNat = n := by
  show (UInt8.ofNat (n : Int).toNat).toNat = n
  have := UInt8.toNat_ofNat' (n := n)
  rw [Int.toNat_natCast]
  omega
theorem bytes_of {w : World} {G : Nat → Prop} {P : Program} : ∀ (xs : List V) (vs : List Value) (sks : List Sk), OwnL w G P vs xs sks → xs.all okU8 = true → ∀ (j : Nat) (x : UInt8), (xs.map byteOfV)[j]? = some x → vs[j]? = some (Value.int .u8 (x.toNat : Int)) := by
  intro xs
  induction xs with
  | nil => intro vs sks h ha j x hx; simp at hx
  | cons y xs ih =>
    intro vs sks h ha j x hx
    rcases vs with _ | ⟨v, vs⟩ <;> rcases sks with _ | ⟨s, sks⟩ <;> simp only [OwnL] at h
    simp only [List.all_cons, Bool.and_eq_true] at ha
    cases j with
    | zero =>
      simp only [List.map_cons, List.getElem?_cons_zero, Option.some.injEq] at hx
      obtain ⟨n, hn, rfl⟩ := okU8_eq ha.1
      have hv : v = Value.int .u8 (n : Int) := h.1.2.2.1
      rw [List.getElem?_cons_zero, hv, ← hx, byteOf_nat n hn]
    | succ j =>
      rw [List.getElem?_cons_succ]
      exact ih vs sks h.2 ha.2 j x (by simpa using hx)

set_option maxRecDepth 100000 in
theorem p61_ok : PrimOk Tryz.prog 61 p61 := by
  intro vs gs v gs' h args w F Rs hR hv
  unfold p61 at h
  split at h
  · next xs =>
    simp only [Prod.mk.injEq] at h
    obtain ⟨hall, rfl, rfl⟩ := h
    obtain ⟨b, v0, v1, s1, t, rfl, hB⟩ := bld_of hR hv
    obtain rfl := selfT_only t hB.self
    refine enter_of_calls (fn := Tryz.f61) Tryz.func61 (by kernel_rfl) (by kernel_rfl) ?_
    have ho := hB.own
    have hgm : parG Rs (.par 0) = some ⟨some b, [v0, v1], [.leaf, s1]⟩ := hB.at0
    have hnd := hR.nodup _ _ hgm
    have hbs : b ∉ s1.fp := by
      simp only [RG.fp, fpL, Sk.fp, Option.toList_some, List.nil_append, List.append_nil, List.cons_append, List.nodup_cons] at hnd
      exact hnd.1
    cases s1 with
    | leaf => exact ho.elim
    | nil =>
      obtain ⟨rfl, rfl⟩ := ho
      refine (Bstr_nil Tryz.lays169 Tryz.xbld b w.heap.size v0 w hB.heap).mono ?_
      rintro e w' ⟨rfl, hk⟩
      have hbl : b < w.heap.size := hR.lt hgm b (by simp [RG.fp])
      exact ⟨_, rfl, bld_gone (g := w.heap.size) hR hB (by simp) rfl (by omega) (.inr (fun k hkl => hk.block k hkl (by omega))) hk⟩
    | node g n cap sz sks =>
      obtain ⟨cur, fr, rfl, hg, hfr, hcs, hsz, hsz5, hnc, hcm, hlen, hown, _⟩ := ho
      have h1 : szT Tryz.prog 5 = 1 := by kernel_rfl
      rw [h1] at hsz5
      subst hsz5
      rw [Nat.mul_one] at hlen hown hcs
      have hgb : g ≠ b := fun e => hbs (by rw [← e]; simp [Sk.fp])
      have hgone : ∀ (s : ByteArray) (w' : World), Kp g w w' → Back Tryz.prog w F (.sc (.string s)) [⟨true, [.slf, .bad]⟩] (.string s) w' :=
        fun s w' hk => bld_gone hR hB (by simp) rfl hgb (.inl (by simp [Sk.fp])) hk
      by_cases hn : n = 0
      · subst hn
        obtain rfl : xs = [] := List.eq_nil_of_length_eq_zero hlen
        by_cases hc : cap = 0
        · subst hc
          refine (Bstr_noroom Tryz.lays169 Tryz.xbld b g v0 cur w hB.heap fr hg).mono ?_
          rintro e w' ⟨rfl, hk⟩
          exact ⟨_, rfl, hgone _ _ hk⟩
        · refine (Bstr_room Tryz.lays169 Tryz.xbld b g cap v0 w hc hB.heap).mono ?_
          rintro e w' ⟨rfl, hk⟩
          exact ⟨_, rfl, hgone _ _ hk⟩
      · have hl : (xs.map byteOfV).length = n := by rw [List.length_map, hlen]
        refine (Bstr_some Tryz.lays169 Tryz.xbld b g cap v0 cur fr (xs.map byteOfV) w (by rw [hl]; exact hB.heap) hg (by omega) hcm hcs ?_ (by intro e; rw [e] at hl; exact hn hl.symm)).mono ?_
        · intro j x hx
          have hb := bytes_of xs _ _ hown hall j x hx
          have hj : j < n := by
            rw [← hl]
            exact (List.getElem?_eq_some_iff.1 hx).1
          rw [List.getElem?_take_of_lt hj, Array.getElem?_toList] at hb
          have ha : Addr.add ⟨g, 0, none⟩ j = ⟨g, j, none⟩ := by
            by_cases h0 : j = 0
            · subst h0; rfl
            · simp [Addr.add, h0]
          rw [ha]
          unfold World.cell?
          simp only [hg]
          simpa using hb
        · rintro e w' ⟨rfl, hk⟩
          exact ⟨_, rfl, hgone _ _ hk⟩
  · cases h
end Go.Ab
