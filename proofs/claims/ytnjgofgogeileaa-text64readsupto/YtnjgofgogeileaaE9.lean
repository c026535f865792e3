/- Runs of the model's operations on memory: loads, stores, new rows. -/
import Derived.Test.YtnjgofgogeileaaE8
import Derived.Laws.Tables
import Derived.Laws.CopyRow
import Derived.Laws.Cells
import Derived.Laws.Append
import Derived.Laws.Entries
namespace Go.Ab
open Go
set_option linter.unusedSimpArgs false
set_option linter.unusedVariables false

section
variable {P : Program} {w : World}

theorem nbeq {a b : Nat} (h : Nat.beq a b = true) : a = b := Nat.eq_of_beq_eq_true h
theorem nble {a b : Nat} (h : Nat.ble a b = true) : a ≤ b := Nat.le_of_ble_eq_true h
theorem nblt {a b : Nat} (h : Nat.blt a b = true) : a < b := Nat.le_of_ble_eq_true h

theorem add_addr (b o n : Nat) : (⟨b, o, none⟩ : Addr).add n = ⟨b, o + n, none⟩ := by unfold Addr.add; split <;> simp_all

theorem info_of_underlying {t : TypeId} {d : TypeDesc} (h : P.underlying t = some d) : ∃ i, P.info? t = some i ∧ szT P t = i.size ∧ bytesT P t = i.bytes := by
  cases hi : P.info? t with
  | none => simp [Program.underlying, hi] at h
  | some i => exact ⟨i, rfl, by simp [szT, hi], by simp [bytesT, hi]⟩

theorem tyOk_spec {t : TypeId} (h : tyOk P t = true) : ∃ d i, P.underlying t = some d ∧ P.info? t = some i ∧ szT P t = i.size ∧ bytesT P t = i.bytes ∧ (cellsT P t).length = szT P t := by
  simp only [tyOk, Bool.and_eq_true] at h
  obtain ⟨d, hd⟩ := Option.isSome_iff_exists.1 h.1
  obtain ⟨i, h1, h2, h3⟩ := info_of_underlying hd
  exact ⟨d, i, hd, h1, h2, h3, nbeq h.2⟩

theorem cellsT_plain {t : TypeId} (h : aggT P t = false) : cellsT P t = [t] := by
  unfold cellsT
  simp only [cellTys]
  unfold aggT at h
  split <;> simp_all

theorem run_isAgg {t : TypeId} (h : tyOk P t = true) : (isAgg t).run P w = .ok (aggT P t) w := by
  obtain ⟨d, i, hd, hi, _⟩ := tyOk_spec h
  simp only [isAgg, Sem.run_bind, run_underlying hd, Result.andThen_ok, aggT, hd]
  cases d <;> rfl

theorem run_sizeOf {t : TypeId} (h : tyOk P t = true) : (sizeOf t).run P w = .ok (szT P t) w := by
  obtain ⟨d, i, hd, hi, hs, _⟩ := tyOk_spec h
  simp [sizeOf, typeInfo, hi, hs]

theorem run_sizeOf' {t : TypeId} {i : TypeInfo} (hi : P.info? t = some i) : (sizeOf t).run P w = .ok i.size w := by
  simp [sizeOf, typeInfo, hi]

/-- The value that cells make. -/
def valOf (P : Program) (t : TypeId) (cs : List Value) : Value := if aggT P t then .agg cs.toArray else cs.headD undef

theorem run_loadVar {t : TypeId} (h : tyOk P t = true) {b o : Nat} {cs : List Value} (hc : CellsAt w ⟨b, o, none⟩ cs) (hl : cs.length = szT P t) :
    (loadVar t ⟨b, o, none⟩).run P w = .ok (valOf P t cs) w := by
  unfold loadVar valOf
  simp only [Sem.run_bind, run_isAgg h, Result.andThen_ok]
  cases ha : aggT P t with
  | true =>
    simp only [if_true, Sem.run_bind, run_sizeOf h, Result.andThen_ok]
    rw [← hl, run_loadCells_list w ⟨b, o, none⟩ cs (fun j v hv => by rw [add_addr]; exact hc j v hv)]
    rfl
  | false =>
    obtain ⟨d, i, hd, hi, hs, _, hn⟩ := tyOk_spec h
    rw [cellsT_plain ha] at hn
    have : cs.length = 1 := by rw [hl, ← hn]; rfl
    match cs, this with
    | [c], _ =>
      have := hc 0 c rfl
      simp only [Nat.add_zero] at this
      simp [this]

theorem valOf_cells {t : TypeId} (h : tyOk P t = true) {cs : List Value} (hl : cs.length = szT P t) (h1 : ∀ c ∈ cs, c.oneCell' = true) : (valOf P t cs).cells.toList = cs := by
  unfold valOf
  cases ha : aggT P t with
  | true => simp [Value.cells]
  | false =>
    obtain ⟨d, i, hd, hi, hs, _, hn⟩ := tyOk_spec h
    rw [cellsT_plain ha] at hn
    have : cs.length = 1 := by rw [hl, ← hn]; rfl
    match cs, this with
    | [c], _ =>
      have := h1 c (by simp)
      cases c <;> simp_all [Value.cells, Value.oneCell']

/-- Cells that are written over from a place on. -/
def over (cur : Array Value) (o : Nat) (vs : List Value) : Array Value := (cur.toList.take o ++ vs ++ cur.toList.drop (o + vs.length)).toArray

theorem over_size {cur : Array Value} {o : Nat} {vs : List Value} (h : o + vs.length ≤ cur.size) : (over cur o vs).size = cur.size := by
  simp only [over, List.size_toArray, List.length_append, List.length_take, List.length_drop, Array.length_toList]; omega

theorem run_storeCells {P : Program} (g o : Nat) (t : TypeId) (fz : Nat × Nat) : ∀ (vs : List Value) (i : Nat) (cur : Array Value) (w : World), w.heap[g]? = some (.cells cur t fz) → frOk fz cur.size → o + i + vs.length ≤ cur.size → (∀ v ∈ vs, v.oneCell' = true) →
    (storeCells ⟨g, o, none⟩ vs i).run P w = .ok () (w.setRow g (over cur (o + i) vs))
  | [], i, cur, w, hg, _, _, _ => by
    simp only [storeCells, over, List.append_nil, List.length_nil, Nat.add_zero, List.take_append_drop, Array.toArray_toList]
    rw [setRow_self w g cur t fz hg]
    rfl
  | v :: rest, i, cur, w, hg, hfz, hl, h1 => by
    have hi : o + i < cur.size := by simp at hl; omega
    have hcell : w.cell? ⟨g, o + i, none⟩ = some cur[o + i] := by simp [World.cell?, hg, hi]
    have hfro : w.frozen? ⟨g, o + i, none⟩ = false := by
      obtain ⟨lo, hi'⟩ := fz
      simp only [World.frozen?, hg, Bool.and_eq_false_iff, decide_eq_false_iff_not]
      simp only [frOk] at hfz
      omega
    have hst : (store ((⟨g, o, none⟩ : Addr).add i) v).run P w = .ok () (w.setRow g (cur.setIfInBounds (o + i) v)) := by
      rw [add_addr, run_store P w _ v _ (h1 v (by simp)), hcell]
      simp [hfro, setCell_eq_setRow w g (o + i) cur t fz v hg]
    have ih := run_storeCells (P := P) g o t fz rest (i + 1) (cur.setIfInBounds (o + i) v) (w.setRow g (cur.setIfInBounds (o + i) v)) (setRow_heap w g cur _ t _ hg) (by simpa using hfz) (by simp at hl ⊢; omega) (fun x hx => h1 x (by simp [hx]))
    simp only [storeCells, Sem.run_bind, hst, Result.andThen_ok, ih, setRow_setRow]
    congr 2
    unfold over
    congr 1
    have e := list_seg_step cur.toList (o + i) v rest (by simp at hl ⊢; omega)
    simpa [Array.toList_setIfInBounds, Nat.add_assoc] using e

theorem run_storeVar {t : TypeId} (h : tyOk P t = true) {g o : Nat} {e : TypeId} {fz : Nat × Nat} {cur : Array Value} (hg : w.heap[g]? = some (.cells cur e fz)) (hf : frOk fz cur.size) {v : Value}
    (hl : v.cells.size = szT P t) (ho : o + v.cells.size ≤ cur.size) (h1 : ∀ u ∈ v.cells.toList, u.oneCell' = true) :
    (storeVar t ⟨g, o, none⟩ v).run P w = .ok () (w.setRow g (over cur o v.cells.toList)) := by
  have := run_storeCells (P := P) g o e fz v.cells.toList 0 cur w hg hf (by simpa using ho) h1
  simp only [Nat.add_zero] at this
  simp [storeVar, run_sizeOf h, hl, this]

theorem over_get {cur : Array Value} {o : Nat} {vs : List Value} (h : o + vs.length ≤ cur.size) (k : Nat) :
    (over cur o vs).toList[k]? = if k < o then cur.toList[k]? else if k < o + vs.length then vs[k - o]? else cur.toList[k]? := by
  simp only [over]
  have hto : (cur.toList.take o).length = o := by simp; omega
  split
  · rw [List.append_assoc, List.getElem?_append_left (by omega), List.getElem?_take_of_lt (by assumption)]
  · rw [List.append_assoc, List.getElem?_append_right (by omega), hto]
    split
    · rw [List.getElem?_append_left (by omega)]
    · rw [List.getElem?_append_right (by omega), List.getElem?_drop]
      congr 1; omega

/-! ### readings of cells -/
variable {G : Nat → Prop} {gm : GM}

/-- What a list of looks comes to. -/
theorem mkV_ok {t : TypeId} {l : List (Bool × V)} {cs : List Value} (hr : RvL w G gm cs (l.map (·.2))) (hl : cs.length = szT P t) (hok : (mkV P t l).ok = true) :
    tyOk P t = true ∧ allOk l = true ∧ (mkV P t l).k = .no ∧ (mkV P t l).w = [] ∧ Rv w G gm (valOf P t cs) (mkV P t l).val := by
  have hk : (mkV P t l).k = .no ∧ (mkV P t l).w = [] := by unfold mkV; cases aggT P t <;> exact ⟨rfl, rfl⟩
  have hok' : (tyOk P t && allOk l) = true := by
    unfold mkV Eff.when at hok
    simp only [Bool.and_eq_true] at hok ⊢
    exact hok.1
  simp only [Bool.and_eq_true] at hok'
  refine ⟨hok'.1, hok'.2, hk.1, hk.2, ?_⟩
  unfold valOf mkV Eff.when
  cases ha : aggT P t with
  | true => exact ⟨cs.toArray, rfl, by simpa using hr⟩
  | false =>
    obtain ⟨d, i, hd, hi, hs, _, hn⟩ := tyOk_spec hok'.1
    rw [cellsT_plain ha] at hn
    have : cs.length = 1 := by rw [hl, ← hn]; rfl
    match cs, l, this, hr with
    | [c], [x], _, hr => exact hr.1
    | [c], [], _, hr => exact hr.elim

theorem viewC_none {deep : TypeId → Bool} {c : TypeId} {x : V} (h : (viewC P deep none c x).1 = true) : (viewC P deep none c x).2 = x := by
  unfold viewC at *
  split <;> simp_all
  · cases x <;> simp_all [V.isInt, V.intOf]
    rename_i v; cases v <;> simp_all [V.isInt, V.intOf]
  · cases x <;> simp_all [V.isBool, V.boolOf]
    rename_i v; cases v <;> simp_all [V.isBool, V.boolOf]
  · cases x <;> simp_all [V.isStr, V.strOf]
    rename_i v; cases v <;> simp_all [V.isStr, V.strOf]
  · cases x <;> simp_all [V.isSl, V.cellsOf]

theorem viewC_some {deep : TypeId → Bool} {q : Pl} {c : TypeId} {x : V} (h : (viewC P deep (some q) c x).1 = true) :
    ∃ e' d', (viewC P deep (some q) c x).2 = x ∨ (∃ e d xs, x = .own e d xs) ∧ (viewC P deep (some q) c x).2 = .ref { q with e := e', d := d' } := by
  by_cases hs : ∃ e, P.underlying c = some (.slice e)
  · obtain ⟨e, he⟩ := hs
    refine ⟨e, deep e, .inr ?_⟩
    simp only [viewC, he] at h ⊢
    cases x <;> simp [V.isOwnD] at h
    exact ⟨⟨_, _, _, rfl⟩, trivial⟩
  · refine ⟨0, false, .inl ?_⟩
    have e1 : viewC P deep (some q) c x = viewC P deep none c x := by
      unfold viewC
      split <;> first | rfl | (rename_i e he; exact absurd ⟨e, he⟩ hs)
    rw [e1] at h ⊢
    exact viewC_none h

theorem viewB_eq {r : Nm} {j : Nat} {c : TypeId} {x : V} (h : (viewB P r j c x).1 = true) :
    ∃ e' d', ((viewB P r j c x).2 = x ∧ ((∃ sz xs, x = .sl sz xs) ∨ x.cim = true)) ∨ (∃ e d xs, x = .own e d xs) ∧ (viewB P r j c x).2 = .ref ⟨r, j, [], e', d'⟩ := by
  unfold viewB at *
  split
  · next e d xs => exact ⟨e, d, .inr ⟨⟨_, _, _, rfl⟩, rfl⟩⟩
  · exact ⟨0, false, .inl ⟨rfl, .inl ⟨_, _, rfl⟩⟩⟩
  · next h1 h2 =>
    refine ⟨0, false, .inl ⟨rfl, .inr ?_⟩⟩
    split at h <;> first | (next e d xs => exact absurd rfl (h1 e d xs)) | (next sz xs => exact absurd rfl (h2 sz xs)) | exact h
end
end Go.Ab
