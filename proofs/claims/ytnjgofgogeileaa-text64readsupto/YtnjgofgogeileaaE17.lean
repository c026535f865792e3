/- Slices that are written out; assignments; texts and bytes. -/
import Derived.Test.YtnjgofgogeileaaE16
namespace Go.Ab
open Go
set_option linter.unusedSimpArgs false
set_option linter.unusedVariables false

section
variable {P : Program} {w0 w : World} {F : FG} {N : Nat} {st : St} {a : Act} {G : Nat → Prop} {gm : GM} {deep : TypeId → Bool}

/-- The cells of a slice that is written out, part by part. -/
theorem absParts_ok {T : List Nm} {regs : Nm → Option Rg} {keep : Bool} {gm0 : GM} {G0 : Nat → Prop} : ∀ (xs : List V) (vs : List Value) {rd : Nm → Option Rg} {G : Nat → Prop} {gm : GM} {row : List V} {vals : List Value} {sks : List Sk}
    (_ : Regs P w0 F (withHand (mix T rd regs) row) w G gm) (_ : gm .hand = some ⟨none, vals, sks⟩) (_ : vals.length = row.length) (_ : sks.length = row.length)
    (_ : Within T rd) (_ : Nm.hand.mem T = false)
    (_ : RvL w G0 gm0 vs xs) (_ : ∀ b, G0 b → G b) (_ : Live rd gm0 gm) (_ : (absParts P deep keep xs rd).ok = true),
    Took P w0 w F T regs rd row vals sks G gm ⟨true, (absParts P deep keep xs rd).l.flatten, (absParts P deep keep xs rd).rd, (absParts P deep keep xs rd).k⟩ (vs.flatMap fun v => v.cells.toList) ∧
      (keep = false → cimL (absParts P deep keep xs rd).l.flatten = true)
  | [], [], rd, G, gm, row, vals, sks, h, hh, hl, hls, hT, hTh, _, _, _, _ => ⟨Took.nil h hh hT _, fun _ => rfl⟩
  | x :: xs, v :: vs, rd, G, gm, row, vals, sks, h, hh, hl, hls, hT, hTh, hv, hG0, hlive, hok => by
    simp only [absParts, Bool.and_eq_true] at hok ⊢
    obtain ⟨h1, i1⟩ := absV_ok (deep := deep) (keep := keep) h hh hl hls hT hTh hv.1 hG0 hlive hok.1
    obtain ⟨G1, gm1, ss1, k1, k2, k3, k4, k5⟩ := h1.ex
    have hlen := h1.len
    obtain ⟨hb0, hown⟩ := hand_ok k2 k3
    have hss : (sks ++ ss1).length = (row ++ (absV P deep keep rd x).xs).length := hown.length.2
    obtain ⟨h2, i2⟩ := absParts_ok xs vs k2 k3 (by simp only [List.length_append, hl, hlen]) hss h1.within hTh hv.2 (fun b hb => k1 b (hG0 b hb)) (hlive.trans k5 h1.own) hok.2
    simp only [List.flatten_cons, List.flatMap_cons]
    refine ⟨h1.trans k1 k4 k5 h2 _, fun hk => ?_⟩
    rw [cimL_append, i1 hk, i2 hk]; rfl
  | [], _ :: _, _, _, _, _, _, _, _, _, _, _, _, _, hv, _, _, _ => hv.elim
  | _ :: _, [], _, _, _, _, _, _, _, _, _, _, _, _, hv, _, _, _ => hv.elim

theorem absParts_within {keep : Bool} {T : List Nm} : ∀ (xs : List V) {rd : Nm → Option Rg}, Within T rd → Within T (absParts P deep keep xs rd).rd ∧ ∀ n, n ∈ (absParts P deep keep xs rd).k.names → n.mem T = true
  | [], _, h => ⟨h, fun n hn => (no_names hn).elim⟩
  | x :: xs, rd, h => by
    have h1 := absV_within (P := P) (deep := deep) (keep := keep) h x
    have := absParts_within (keep := keep) xs h1.1
    refine ⟨this.1, fun n hn => ?_⟩
    simp only [absParts, Kl.names_and] at hn
    exact hn.elim (h1.2 n) (this.2 n)

theorem denseL_spec : ∀ (l : List Nat) (k : Nat), denseL k l = true → ∀ i, i < l.length → l[i]? = some (k + i)
  | [], _, _, i, hi => by simp at hi
  | x :: l, k, h, 0, _ => by simp only [denseL, Bool.and_eq_true] at h; simp [nbeq h.1]
  | x :: l, k, h, i + 1, hi => by
    simp only [denseL, Bool.and_eq_true] at h
    have := denseL_spec l (k + 1) h.2 i (by simpa using hi)
    simpa [Nat.add_assoc, Nat.add_comm 1 i] using this

theorem setVals_mid : ∀ (vs : List Value) (k : Nat) (row : List Value), k + vs.length ≤ row.length → setVals k vs row = row.take k ++ vs ++ row.drop (k + vs.length)
  | [], k, row, _ => by simp [setVals]
  | v :: vs, k, row, h => by
    simp only [setVals]
    rw [setVals_mid vs (k + 1) (row.set k v) (by simp at h ⊢; omega)]
    have := list_seg_step row k v vs (by simp at h ⊢; omega)
    simpa [Nat.add_assoc, Nat.add_comm 1] using this

/-- Parts that follow each other fill a row. -/
theorem fill_dense (sz : Nat) : ∀ (us : List Value) (is : List Nat) (k : Nat) (cells : Array Value), denseL k is = true → is.length = us.length → (∀ u ∈ us, u.cells.size = sz) → (k + us.length) * sz ≤ cells.size →
    ∃ cells', Instr.fill (fun i => some (i * sz, sz)) cells (is.zip us) = some cells' ∧ cells'.toList = cells.toList.take (k * sz) ++ (us.flatMap fun u => u.cells.toList) ++ cells.toList.drop ((k + us.length) * sz)
  | [], [], k, cells, _, _, _, _ => ⟨cells, rfl, by simp⟩
  | u :: us, i :: is, k, cells, hd, hl, hs, hle => by
    simp only [denseL, Bool.and_eq_true] at hd
    have hi := nbeq hd.1
    subst hi
    have hu : u.cells.size = sz := hs u (by simp)
    have hle' : i * sz + sz ≤ cells.size := by
      have : (i + 1) * sz ≤ (i + (us.length + 1)) * sz := Nat.mul_le_mul_right _ (by omega)
      rw [Nat.add_mul, Nat.one_mul] at this
      simp only [List.length_cons] at hle
      omega
    have hfold : (u.cells.zipIdx.foldl (fun cs x => cs.setIfInBounds (i * sz + x.2) x.1) cells).toList = cells.toList.take (i * sz) ++ u.cells.toList ++ cells.toList.drop (i * sz + sz) := by
      rw [← Array.foldl_toList, Array.toList_zipIdx, foldl_set]
      simp only [Nat.add_zero]
      have hul : u.cells.toList.length = sz := by simpa using hu
      rw [setVals_mid _ _ _ (by rw [hul]; simpa using hle'), hul]
    have hsize : (u.cells.zipIdx.foldl (fun cs x => cs.setIfInBounds (i * sz + x.2) x.1) cells).size = cells.size := by
      have : (u.cells.zipIdx.foldl (fun cs x => cs.setIfInBounds (i * sz + x.2) x.1) cells).toList.length = cells.toList.length := by
        rw [← Array.foldl_toList, Array.toList_zipIdx, foldl_set, setVals_length]
      simpa using this
    have hle2 : (i + 1 + us.length) * sz ≤ (u.cells.zipIdx.foldl (fun cs x => cs.setIfInBounds (i * sz + x.2) x.1) cells).size := by
      rw [hsize]
      have e : i + 1 + us.length = i + (us.length + 1) := by omega
      rw [e]
      simpa using hle
    obtain ⟨cells', k1, k2⟩ := fill_dense sz us is (i + 1) _ hd.2 (by simpa using hl) (fun u hu => hs u (by simp [hu])) hle2
    refine ⟨cells', ?_, ?_⟩
    · simp only [List.zip_cons_cons, Instr.fill]
      rw [if_neg]
      · exact k1
      · simp only [hu, ne_eq, not_true, Bool.or_eq_true, decide_eq_true_eq, false_or]
        simp; omega
    · rw [k2, hfold]
      have e1 : (i + 1) * sz = i * sz + sz := by rw [Nat.add_mul, Nat.one_mul]
      have hul : u.cells.toList.length = sz := by simpa using hu
      have t1 : (cells.toList.take (i * sz)).length = i * sz := by simp; omega
      have e2 : (i + 1 + us.length) * sz = (i + (us.length + 1)) * sz := by congr 1; omega
      have e3 : i * sz + sz ≤ (i + (us.length + 1)) * sz := by
        rw [← e1]; exact Nat.mul_le_mul_right _ (by omega)
      rw [e1, e2]
      have p1 : (cells.toList.take (i * sz) ++ u.cells.toList ++ cells.toList.drop (i * sz + sz)).take (i * sz + sz) = cells.toList.take (i * sz) ++ u.cells.toList := by
        rw [List.take_left']; rw [List.length_append, t1, hul]
      have p2 : (cells.toList.take (i * sz) ++ u.cells.toList ++ cells.toList.drop (i * sz + sz)).drop ((i + (us.length + 1)) * sz) = cells.toList.drop ((i + (us.length + 1)) * sz) := by
        rw [List.drop_append]
        have hl2 : (cells.toList.take (i * sz) ++ u.cells.toList).length = i * sz + sz := by rw [List.length_append, t1, hul]
        rw [hl2, List.drop_eq_nil_of_le (by omega), List.nil_append, List.drop_drop]
        congr 1; omega
      simp only [List.length_cons]
      rw [p1, p2]
      simp [List.append_assoc]
  | [], _ :: _, _, _, _, h, _, _ => by simp at h
  | _ :: _, [], _, _, _, h, _, _ => by simp at h

theorem cells_eq_part {vs : List Value} {xs : List V} (h : RvL w G gm vs xs) (hp : xs.all V.isPart = true) : ∀ u ∈ vs, ∃ x ∈ xs, Rv w G gm u x ∧ u.cells.size = partLen x := by
  induction vs generalizing xs with
  | nil => intro u hu; simp at hu
  | cons v vs ih =>
    cases xs with
    | nil => exact h.elim
    | cons x xs =>
      simp only [List.all_cons, Bool.and_eq_true] at hp
      intro u hu
      simp only [List.mem_cons] at hu
      rcases hu with rfl | hu
      · exact ⟨x, by simp, h.1, partLen_cells h.1 hp.1⟩
      · obtain ⟨y, h1, h2⟩ := ih h.2 hp.2 u hu
        exact ⟨y, by simp [h1], h2⟩

end
end Go.Ab
