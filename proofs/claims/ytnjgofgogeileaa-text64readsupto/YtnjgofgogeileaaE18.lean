/- Slices that are written out; assignments to variables. -/
import Derived.Test.YtnjgofgogeileaaE17
import Derived.Great.BuildSlice
namespace Go.Ab
open Go
set_option linter.unusedSimpArgs false
set_option linter.unusedVariables false

section
variable {P : Program} {w0 w : World} {F : FG} {N : Nat} {st : St} {a : Act} {G : Nat → Prop} {gm : GM} {deep : TypeId → Bool}

theorem run_buildSlice_nil (w : World) (t e : TypeId) (parts : Array (Nat × Value)) (ie : TypeInfo) (hu : P.underlying t = some (.slice e)) (hie : P.info? e = some ie) (hp : parts.toList = []) :
    (Instr.buildSlice t 0 parts).run P w = .ok (.slice (some ⟨w.heap.size, 0, none⟩) 0 0) (w.alloc (.cells #[] e)) := by
  simp [Instr.buildSlice, run_underlying hu, sizeOf, typeInfo, hie, hp, Instr.fill, newRow, show Array.range 0 = #[] from rfl]

theorem flatten_len (l : List (List V)) (sz : Nat) (h : l.all (fun cs => Nat.beq cs.length sz) = true) : l.flatten.length = l.length * sz := by
  induction l with
  | nil => simp
  | cons x l ih =>
    simp only [List.all_cons, Bool.and_eq_true] at h
    rw [List.flatten_cons, List.length_append, ih h.2, nbeq h.1, List.length_cons, Nat.add_mul, Nat.one_mul, Nat.add_comm]

theorem absParts_length {keep : Bool} : ∀ (xs : List V) (rd : Nm → Option Rg), (absParts P deep keep xs rd).l.length = xs.length
  | [], _ => rfl
  | x :: xs, rd => by simp only [absParts, List.length_cons, absParts_length xs]

theorem buildSlice_ok (hI : Inv P w0 F N st a w G gm) {o : Oper} {d : Nat} (hod : o.dst = some d) (hd : d < N) {t : TypeId} {n : Nat} {ps : Array (Nat × Operand)} (ho : o.op = .buildSlice t n ps) {T : List Nm} (hTd : (Nm.loc d).mem T = true) (hTh : Nm.hand.mem T = false)
    {vs : List V} (hx : RvL w G gm (ps.toList.map fun x => a.eval x.2) vs) (hok : (semBuildSlice P deep d (only T st.regs) t n (ps.toList.map (·.1)) vs).ok = true) :
    OpRes P w0 F N st a w G o (semBuildSlice P deep d (only T st.regs) t n (ps.toList.map (·.1)) vs) := by
  unfold semBuildSlice at hok ⊢
  cases he : elT P t with
  | none => rw [he] at hok; cases hok
  | some e =>
    rw [he] at hok
    simp only at hok ⊢
    obtain ⟨h1, _⟩ := when_ok hok
    simp only [Bool.and_eq_true] at h1
    obtain ⟨⟨⟨⟨⟨⟨⟨⟨⟨⟨p1, p2⟩, p3⟩, p4⟩, p5⟩, p6⟩, p7⟩, p8⟩, p9⟩, p10⟩, p11⟩ := h1
    have p3 := nblt p3
    have p4 := nbeq p4
    have p5 := nble p5
    have p8 := nbeq p8
    have p9 := nbeq p9
    obtain ⟨_, i, hdt, hi, hsz, hby, hcl⟩ := tyOk_spec p2
    obtain ⟨i', z, hi', hz, hzc⟩ := zeroCells_ne (P := P) (t := e) (by intro h; rw [h] at p4; simp at p4; omega)
    rw [hi] at hi'
    obtain rfl := Option.some.inj hi'
    obtain ⟨gm1, g1, g2, g3, g4⟩ := hI.start T
    obtain ⟨htook, hcim⟩ := absParts_ok (deep := deep) (keep := deep e) vs _ g1 g2 rfl rfl (only_within T _) hTh hx (fun _ h => h) (g4 hTh) p1
    obtain ⟨G2, gm2, ss, k1, k2, k3, k4, k5⟩ := htook.ex
    simp only [List.nil_append] at k2 k3
    obtain ⟨hb, hown⟩ := hand_ok k2 k3
    -- the run
    let us := ps.toList.map fun x => a.eval x.2
    have husl : us.length = n := by
      have := hx.length; rw [this, p9]
    have hus : ∀ u ∈ us, u.cells.size = szT P e := by
      intro u hu
      obtain ⟨x, hx1, _, hx2⟩ := cells_eq_part hx p10 u hu
      rw [hx2]
      exact nbeq (List.all_eq_true.1 p11 x hx1)
    have hzip : (ps.map fun (i, x) => (i, a.eval x)).toList = (ps.toList.map (·.1)).zip us := by
      rw [Array.toList_map, List.zip_map']
    let cells0 := (Array.range (n * szT P e)).map (z.cells[· % z.cells.size]!)
    have hc0 : cells0.size = n * szT P e := by simp [cells0]
    obtain ⟨cells, hf1, hf2⟩ := fill_dense (szT P e) us (ps.toList.map (·.1)) 0 cells0 p7 (by rw [husl]; exact p8) hus (by simp [husl, hc0])
    have hcells : cells.toList = us.flatMap fun u => u.cells.toList := by
      rw [hf2, Nat.zero_mul, List.take_zero, List.nil_append, List.drop_eq_nil_of_le, List.append_nil]
      rw [Array.length_toList, hc0, husl, Nat.zero_add]; exact Nat.le_refl _
    have hrun : (execOp a.eval o).run P w = .ok (.value (.slice (some ⟨w.heap.size, 0, none⟩) n n)) (w.alloc (.cells cells e)) := by
      by_cases hn : n = 0
      · have hps : ps.toList = [] := by
          have := p8; rw [hn] at this
          exact List.eq_nil_of_length_eq_zero (by simpa using this)
        have hce : cells = #[] := by
          apply Array.ext'
          rw [hcells]
          simp [us, hps]
        have := run_buildSlice_nil (P := P) w t e (ps.map fun (i, x) => (i, a.eval x)) i (elT_spec he) hi (by rw [Array.toList_map, hps]; rfl)
        simp only [execOp, ho, hn, Sem.run_bind, this, Result.andThen_ok, hce]
        rfl
      · have := run_buildSlice (P := P) w t e n (ps.map fun (i, x) => (i, a.eval x)) cells i z (elT_spec he) hi hz (by rw [← hsz]; simpa using p5) (by
          rw [← hsz]
          intro h
          rcases Nat.mul_eq_zero.1 h with h | h <;> omega) (by rw [hzip, ← hsz]; exact hf1)
        simp only [execOp, ho, Sem.run_bind, this, Result.andThen_ok]
        rfl
    have hnd := k2.nodup _ _ k3
    simp only [RG.fp, Option.toList_none, List.nil_append] at hnd
    have hlt : ∀ b ∈ fpL ss, b < w.heap.size := fun b hb => k2.lt k3 b (by simpa [RG.fp] using hb)
    have hcs : cells.size = n * szT P e := by
      have := (hown.length).1
      rw [show cells.size = cells.toList.length by simp, hcells]
      rw [flatten_len _ _ p6, absParts_length, p9] at this
      exact this
    have hnm : n ≤ maxLen := by
      have : n ≤ n * szT P e := Nat.le_mul_of_pos_right _ p3
      simp only [maxLen]; omega
    refine OpRes.when (OpRes.mk' hod _ _ G2 _ hrun rfl k1 (hI.land hd hTd hTh k2 k3 k1 ((g3.no_trans (Stay.refl _ _)).trans k4 |> fun h => ?_) htook.within (fun n hn => htook.same n hn) (absParts_within _ (only_within T _)).2
      (fun b hb _ => alloc_old w _ b hb) rfl rfl rfl (by simp) (rg := ⟨false, [.own e (deep e) (absParts P deep (deep e) vs (only T st.regs)).l.flatten]⟩) (R := ⟨none, [.slice (some ⟨w.heap.size, 0, none⟩) n n], [.node w.heap.size n n (szT P e) ss]⟩) ⟨rfl, ⟨?_, trivial⟩, fun b hb => by cases hb⟩ ?_ ?_ (fun _ h => h) (fun _ h => .inl h) _ _ ?_))
    · simpa [Kl.and, Kl.no] using h
    · refine ⟨cells, (0, 0), rfl, heap_alloc_new w _, .inl (Nat.le_refl _), hcs, p3, rfl, Nat.le_refl _, hnm, ?_, ?_, ?_⟩
      · rw [flatten_len _ _ p6, absParts_length, p9]
      · rw [List.take_of_length_le (by rw [Array.length_toList, hcs]; exact Nat.le_refl _), hcells]
        exact OwnL.frame (fun k hk => alloc_old w _ k (k2.old k hk)) (fun _ h => h) _ _ _ (fun k hk => alloc_old w _ k (hlt k hk)) hown
      · exact fun h => cimL_cib _ (hcim h)
    · simp only [RG.fp, Option.toList_none, List.nil_append, fpL, Sk.fp, List.append_nil, List.nodup_cons]
      exact ⟨fun h => by have := hlt _ h; omega, hnd⟩
    · intro b hb
      simp only [RG.fp, Option.toList_none, List.nil_append, fpL, Sk.fp, List.append_nil, List.mem_cons] at hb
      rcases hb with rfl | hb
      · exact .inr (Nat.le_refl _)
      · exact .inl hb
    · simp only [Rv, nameRef, skAt, setG_self, getSk, nthS_zero]

/-! ### assignments -/
theorem run_assign (w : World) {o : Oper} {x : Operand} (ho : o.op = .assign x) : (execOp a.eval o).run P w = .ok (.value (a.eval x)) w := by
  simp [execOp, ho]

/-- An own slice takes the slot's name. -/
theorem slide_ok (hI : Inv P w0 F N st a w G gm) {o : Oper} {d : Nat} (hod : o.dst = some d) (hd : d < N) {x : Operand} (ho : o.op = .assign x) {T : List Nm} (hTd : (Nm.loc d).mem T = true) (hTh : Nm.hand.mem T = false)
    {vx : V} (hx : Rv w G gm (a.eval x) vx) (hok : (absC P deep true (only T st.regs) vx).ok = true) {e : TypeId} {dp : Bool} {ys : List V} (hys : (absC P deep true (only T st.regs) vx).xs = [.own e dp ys]) :
    OpRes P w0 F N st a w G o (newReg d (absC P deep true (only T st.regs) vx).rd ⟨false, [.own e dp ys]⟩ (.ref ⟨.loc d, 0, [], e, dp⟩) (absC P deep true (only T st.regs) vx).k) := by
  obtain ⟨gm1, g1, g2, g3, g4⟩ := hI.start T
  obtain ⟨htook, _⟩ := absC_ok (deep := deep) (keep := true) g1 g2 rfl rfl (only_within T _) hTh hx (fun _ h => h) (g4 hTh) hok
  obtain ⟨G2, gm2, ss, k1, k2, k3, k4, k5⟩ := htook.ex
  simp only [List.nil_append, hys] at k2 k3
  obtain ⟨hb, hown⟩ := hand_ok k2 k3
  have hnd := k2.nodup _ _ k3
  simp only [RG.fp, Option.toList_none, List.nil_append] at hnd
  obtain ⟨s, rfl⟩ : ∃ s, ss = [s] := by
    have := hown.length.2
    simp at this
    exact List.length_eq_one_iff.1 this
  refine OpRes.mk' hod _ _ G2 _ (run_assign w ho) rfl k1 (hI.land hd hTd hTh k2 k3 k1 ((g3.no_trans (Stay.refl _ _)).trans k4 |> fun h => ?_) htook.within (fun n hn => htook.same n hn) (fun n hn => absC_names (only_within T _) vx n hn)
    (fun b hb _ => rfl) rfl rfl rfl (Nat.le_refl _) (rg := ⟨false, [.own e dp ys]⟩) (R := ⟨none, [a.eval x], [s]⟩) ⟨rfl, hown, fun b hb => by cases hb⟩ (by simpa [RG.fp] using hnd) ?_ (fun _ h => h) (fun _ h => .inl h) _ _ ?_)
  · simpa [Kl.and, Kl.no] using h
  · intro b hb
    exact .inl (by simpa [RG.fp] using hb)
  · refine OwnC.ref (d := dp) (xs := ys) (e := e) (P := P) (w := w) (G := G2) ?_
    simp only [skAt, setG_self, getSk, nthS_zero]
    exact hown.1

theorem assign_ok (hI : Inv P w0 F N st a w G gm) {o : Oper} {d : Nat} (hod : o.dst = some d) (hd : d < N) {x : Operand} (ho : o.op = .assign x) {T : List Nm} (hTd : (Nm.loc d).mem T = true) (hTh : Nm.hand.mem T = false)
    {vx : V} (hx : Rv w G gm (a.eval x) vx) (hok : (semAssign P deep d (only T st.regs) vx).ok = true) :
    OpRes P w0 F N st a w G o (semAssign P deep d (only T st.regs) vx) := by
  have hput : OpRes P w0 F N st a w G o (Eff.put vx) :=
    OpRes.quiet hI (fun y hy => by rw [hod] at hy; obtain rfl := Option.some.inj hy; exact hd) _ (run_assign w ho) rfl rfl hx
  unfold semAssign at hok ⊢
  split
  · next e => exact slide_ok (deep := deep) (vx := .nl e) hI hod hd ho hTd hTh hx rfl rfl
  · next r pe pd =>
    split
    · next e dp xs hr =>
      cases hrd : Nm.eq r (.loc d) with
      | true => exact hput
      | false =>
        have hq : ownB (only T st.regs) ⟨r, 0, [], e, dp⟩ = (true, xs) := by simp [ownB, hr, getV, nthV, V.isOwnD, V.cellsOf]
        have htk : takeAt (only T st.regs) ⟨r, 0, [], e, dp⟩ = (setR (only T st.regs) r none, ⟨[], [], [r]⟩) := by simp only [takeAt, hr]
        have hx' : Rv w G gm (a.eval x) (.ref ⟨r, 0, [], e, dp⟩) := hx
        have := slide_ok (deep := deep) (vx := .ref ⟨r, 0, [], e, dp⟩) hI hod hd ho hTd hTh hx' (by simp only [absC, hq]) (e := e) (dp := dp) (ys := xs) (by simp [absC, hq])
        simp only [absC, htk] at this
        exact this
    · exact hput
  · next r pe pd hi =>
    split
    · next e dp xs hr =>
      have hq : ownB (only T st.regs) ⟨r, 0, [], e, dp⟩ = (true, xs) := by simp [ownB, hr, getV, nthV, V.isOwnD, V.cellsOf]
      have htk : takeAt (only T st.regs) ⟨r, 0, [], e, dp⟩ = (setR (only T st.regs) r none, ⟨[], [], [r]⟩) := by simp only [takeAt, hr]
      have hx' : Rv w G gm (a.eval x) (.vw ⟨r, 0, [], e, dp⟩ 0 hi) := hx
      have := slide_ok (deep := deep) (vx := .vw ⟨r, 0, [], e, dp⟩ 0 hi) hI hod hd ho hTd hTh hx' (by simp [absC, hq]) (e := e) (dp := dp) (ys := xs.take (hi * szT P e)) (by simp [absC, hq])
      simp only [absC, htk] at this
      exact this
    · exact hput
  · exact hput
end
end Go.Ab
