/- Operations that make regions: alloc, box, make, slices that are written out, assignments. -/
import Derived.Test.YtnjgofgogeileaaE15
import Derived.Laws.BytesString
import Derived.Lib.AppendStr
namespace Go.Ab
open Go
set_option linter.unusedSimpArgs false
set_option linter.unusedVariables false

section
variable {P : Program} {w0 w : World} {F : FG} {N : Nat} {st : St} {a : Act} {G : Nat → Prop} {gm : GM} {deep : TypeId → Bool}

theorem cellRow_slf {deep : TypeId → Bool} {keep : Bool} {v : Value} {c : TypeId} (h : cellRow P deep keep v c = .slf) : v = .pointer none := by
  unfold cellRow at h
  split at h
  · split at h
    · cases keep <;> cases h
    · cases h
  · rfl
  · cases hf : flat v <;> rw [hf] at h <;> cases h

theorem zeroRow_slf {deep : TypeId → Bool} {keep : Bool} {t : TypeId} {b : Nat} : SelfOk b (zeroRow P deep keep t) (zeroCells P t) := by
  intro k hk
  left
  unfold zeroRow at hk
  rw [List.getElem?_map] at hk
  cases hz : ((zeroCells P t).zip (cellsT P t))[k]? with
  | none => rw [hz] at hk; cases hk
  | some x =>
    rw [hz] at hk
    have hv := cellRow_slf (Option.some.inj hk)
    obtain ⟨v, c⟩ := x
    rw [List.getElem?_zip_eq_some] at hz
    rw [hz.1, hv]

theorem absC_slf {deep : TypeId → Bool} {keep : Bool} {rd : Nm → Option Rg} {x : V} (hok : (absC P deep keep rd x).ok = true) : ∀ y ∈ (absC P deep keep rd x).xs, y ≠ .slf := by
  intro y hy
  cases x <;> simp only [absC, List.mem_singleton] at hy hok <;> subst hy <;> first
    | (simp; done)
    | (cases keep <;> simp [frz]; done)
    | cases hok
theorem absL_slf {deep : TypeId → Bool} {keep : Bool} : ∀ (xs : List V) {rd : Nm → Option Rg}, (absL P deep keep xs rd).ok = true → ∀ y ∈ (absL P deep keep xs rd).xs, y ≠ .slf
  | [], _, _, y, hy => by simp [absL] at hy
  | x :: xs, rd, hok, y, hy => by
    simp only [absL, Bool.and_eq_true] at hok
    simp only [absL, List.mem_append] at hy
    rcases hy with hy | hy
    · exact absC_slf hok.1 y hy
    · exact absL_slf xs hok.2 y hy
theorem absV_slf {deep : TypeId → Bool} {keep : Bool} {rd : Nm → Option Rg} {x : V} (hok : (absV P deep keep rd x).ok = true) : ∀ y ∈ (absV P deep keep rd x).xs, y ≠ .slf := by
  cases x with
  | ag xs => exact absL_slf xs hok
  | _ => exact absC_slf hok


theorem OpRes.mk' {o : Oper} {e : Eff} {d : Nat} (hod : o.dst = some d) (v : Value) (w' : World) {nx : Next} (G' : Nat → Prop) (gm' : GM)
    (hr : (execOp a.eval o).run P w = .ok nx w') (hnx : nx = .value v) (hG : ∀ b, G b → G' b) (hI : Inv P w0 F N (st.app e (some d)) (a.put (some d) v) w' G' gm') : OpRes P w0 F N st a w G o e :=
  ⟨v, w', nx, G', gm', hr, .inl hnx, hG, by rw [hod]; exact hI⟩

theorem no_names {n : Nm} (h : n ∈ Kl.no.names) : False := by simp [Kl.no, Kl.names] at h

theorem alloc_old (w : World) (o : Obj) (b : Nat) (h : b < w.heap.size) : (w.alloc o).heap[b]? = w.heap[b]? := heap_alloc_old w o b h

/-- A box for a variable's zero. -/
theorem alloc_ok (hI : Inv P w0 F N st a w G gm) {o : Oper} {d : Nat} (hod : o.dst = some d) (hd : d < N) {t : TypeId} (ho : o.op = .alloc t) {T : List Nm} (hTd : (Nm.loc d).mem T = true) (hTh : Nm.hand.mem T = false)
    (h1 : tyOk P t = true) (h0 : zeroOne P t = true) (h2 : 0 < szT P t) (h3 : (zeroCells P t).length = szT P t) :
    OpRes P w0 F N st a w G o (newReg d (only T st.regs) ⟨true, zeroRow P deep true t⟩ (.ptrB (.loc d) 0) .no) := by
  obtain ⟨_, _, _, _, _, _, hcl⟩ := tyOk_spec h1
  obtain ⟨i, z, hi, hz, hzc⟩ := zeroCells_ne (P := P) (t := t) (by intro e; rw [e] at h3; simp at h3; omega)
  obtain ⟨gm1, g1, g2, g3, g4⟩ := hI.start T
  have hrun : (execOp a.eval o).run P w = .ok (.value (.pointer (some ⟨w.heap.size, 0, none⟩))) (w.alloc (.cells z.cells t)) := by
    simp [execOp, ho, Instr.alloc, zeroValue, typeInfo, hi, hz, newVar, newRow]
  obtain ⟨ss, hs1, hs2⟩ := cellsRow_ok (w := w.alloc (.cells z.cells t)) (G := G) (P := P) deep true (zeroCells P t) (cellsT P t) (by rw [h3, hcl]) h0
  refine OpRes.mk' hod _ _ G _ hrun rfl (fun _ h => h) (hI.land hd hTd hTh g1 g2 (fun _ h => h) g3 (only_within T _) (fun _ _ => rfl) (fun n hn => (no_names hn).elim)
    (fun b hb _ => alloc_old w _ b hb) rfl rfl rfl (by simp) (R := ⟨some w.heap.size, zeroCells P t, ss⟩) ⟨rfl, hs2, fun b hb => ?_⟩ ?_ ?_ (fun _ h => h) (fun _ h => .inl h) _ _ ?_)
  · obtain rfl := Option.some.inj hb
    exact ⟨⟨t, by rw [hzc]; simpa using heap_alloc_new w (.cells z.cells t)⟩, zeroRow_slf⟩
  · simp [RG.fp, hs1]
  · intro b hb
    simp [RG.fp, hs1] at hb
    exact .inr (by omega)
  · exact ⟨_, w.heap.size, setG_self _ _ _, rfl, rfl⟩

theorem Took.names {T : List Nm} {regs rd : Nm → Option Rg} {row : List V} {vals : List Value} {sks : List Sk} {ab : Abs} {vs : List Value} (h : Took P w0 w F T regs rd row vals sks G gm ab vs)
    (hk : ∀ n, n ∈ ab.k.names → n.mem T = true) : True := trivial

/-- The names that go when cells are taken are names that were looked at. -/
theorem takeAt_names (rd : Nm → Option Rg) (q : Pl) (n : Nm) (h : n ∈ (takeAt rd q).2.names) : n = q.r ∧ ∃ rg, rd q.r = some rg := by
  unfold takeAt at h
  split at h
  · exact (no_names h).elim
  · next hr => split at h <;> exact ⟨by simpa [Kl.names] using h, _, hr⟩
  · next h1 h2 =>
    refine ⟨by split at h <;> simpa [Kl.names] using h, ?_⟩
    cases hr : rd q.r with
    | none => exact absurd hr h1
    | some rg => exact ⟨rg, rfl⟩

theorem absC_names {keep : Bool} {rd : Nm → Option Rg} {T : List Nm} (hT : Within T rd) (x : V) (n : Nm) (h : n ∈ (absC P deep keep rd x).k.names) : n.mem T = true := by
  have key : ∀ q : Pl, n ∈ (takeAt rd q).2.names → n.mem T = true := by
    intro q hn
    obtain ⟨rfl, rg, hr⟩ := takeAt_names rd q n hn
    exact hT.mem hr
  cases x <;> simp only [absC] at h <;> try (exact (no_names h).elim)
  case ref q => exact key q h
  case vw q lo hi => exact key q h

theorem takeAt_within {rd : Nm → Option Rg} {T : List Nm} (hT : Within T rd) (q : Pl) : Within T (takeAt rd q).1 := by
  cases hr : rd q.r with
  | none =>
    have : takeAt rd q = (rd, .no) := by unfold takeAt; rw [hr]
    rw [this]; exact hT
  | some rg =>
    have hm := hT.mem hr
    have key : ∀ g', Within T (setR rd q.r g') := by
      intro g' n hn
      have : n ≠ q.r := fun e => by rw [e, hm] at hn; cases hn
      rw [setR_ne _ _ this]; exact hT n hn
    unfold takeAt
    split
    · exact hT
    · split <;> exact key _
    · exact key _

theorem absC_within {keep : Bool} {rd : Nm → Option Rg} {T : List Nm} (hT : Within T rd) (x : V) : Within T (absC P deep keep rd x).rd := by
  cases x <;> simp only [absC] <;> try exact hT
  case ref q => exact takeAt_within hT q
  case vw q lo hi => exact takeAt_within hT q

theorem absL_within {keep : Bool} {T : List Nm} : ∀ (xs : List V) {rd : Nm → Option Rg}, Within T rd → Within T (absL P deep keep xs rd).rd ∧ ∀ n, n ∈ (absL P deep keep xs rd).k.names → n.mem T = true
  | [], _, h => ⟨h, fun n hn => (no_names hn).elim⟩
  | x :: xs, rd, h => by
    have := absL_within (keep := keep) xs (absC_within (P := P) (deep := deep) (keep := keep) h x)
    refine ⟨this.1, fun n hn => ?_⟩
    simp only [absL, Kl.names_and] at hn
    exact hn.elim (absC_names h x n) (this.2 n)

theorem absV_within {keep : Bool} {T : List Nm} {rd : Nm → Option Rg} (h : Within T rd) (x : V) : Within T (absV P deep keep rd x).rd ∧ ∀ n, n ∈ (absV P deep keep rd x).k.names → n.mem T = true := by
  cases x with
  | ag xs => exact absL_within xs h
  | _ => exact ⟨absC_within h _, absC_names h _⟩

/-- A box for a value. -/
theorem box_ok (hI : Inv P w0 F N st a w G gm) {o : Oper} {d : Nat} (hod : o.dst = some d) (hd : d < N) {t : TypeId} {x : Operand} (ho : o.op = .box t x) {T : List Nm} (hTd : (Nm.loc d).mem T = true) (hTh : Nm.hand.mem T = false)
    {vx : V} (hx : Rv w G gm (a.eval x) vx) (hok : (absV P deep true (only T st.regs) vx).ok = true) :
    OpRes P w0 F N st a w G o (newReg d (absV P deep true (only T st.regs) vx).rd ⟨true, (absV P deep true (only T st.regs) vx).xs⟩ (.ptrB (.loc d) 0) (absV P deep true (only T st.regs) vx).k) := by
  obtain ⟨gm1, g1, g2, g3, g4⟩ := hI.start T
  obtain ⟨htook, _⟩ := absV_ok (deep := deep) (keep := true) g1 g2 rfl rfl (only_within T _) hTh hx (fun _ h => h) (g4 hTh) hok
  obtain ⟨G2, gm2, ss, k1, k2, k3, k4, k5⟩ := htook.ex
  simp only [List.nil_append] at k2 k3
  have hrun : (execOp a.eval o).run P w = .ok (.value (.pointer (some ⟨w.heap.size, 0, none⟩))) (w.alloc (.cells (a.eval x).cells t)) := by
    simp [execOp, ho, Instr.box, newVar, newRow]
  obtain ⟨hb, hown⟩ := hand_ok k2 k3
  have hnd := k2.nodup _ _ k3
  simp only [RG.fp, Option.toList_none, List.nil_append] at hnd
  have hlt : ∀ b ∈ fpL ss, b < w.heap.size := fun b hb => k2.lt k3 b (by simpa [RG.fp] using hb)
  refine OpRes.mk' hod _ _ G2 _ hrun rfl k1 (hI.land hd hTd hTh k2 k3 k1 ((g3.no_trans (Stay.refl _ _)).trans k4 |> fun h => ?_) htook.within (fun n hn => htook.same n hn) (absV_within (only_within T _) vx).2
    (fun b hb _ => alloc_old w _ b hb) rfl rfl rfl (by simp) (R := ⟨some w.heap.size, (a.eval x).cells.toList, ss⟩) ⟨rfl, ?_, fun b hb => ?_⟩ ?_ ?_ (fun _ h => h) (fun _ h => .inl h) _ _ ?_)
  · simpa [Kl.and, Kl.no] using h
  · exact OwnL.frame (fun k hk => alloc_old w _ k (k2.old k hk)) (fun _ h => h) _ _ _ (fun k hk => alloc_old w _ k (hlt k hk)) hown
  · obtain rfl := Option.some.inj hb
    exact ⟨⟨t, by simpa using heap_alloc_new w (.cells (a.eval x).cells t)⟩, SelfOk.none (absV_slf hok)⟩
  · simp only [RG.fp, Option.toList_some, List.cons_append, List.nil_append, List.nodup_cons]
    exact ⟨fun h => by have := hlt _ h; omega, hnd⟩
  · intro b hb
    simp only [RG.fp, Option.toList_some, List.cons_append, List.nil_append, List.mem_cons] at hb
    rcases hb with rfl | hb
    · exact .inr (Nat.le_refl _)
    · exact .inl hb
  · exact ⟨_, w.heap.size, setG_self _ _ _, rfl, rfl⟩

/-! ### make -/
theorem cimL_flatten_replicate (n : Nat) (l : List V) (h : cimL l = true) : cimL (List.replicate n l).flatten = true := by
  induction n with
  | zero => rfl
  | succ n ih => rw [List.replicate_succ, List.flatten_cons, cimL_append, h, ih]; rfl

theorem OwnL.replicate {vs : List Value} {xs : List V} {ss : List Sk} (h : OwnL w G P vs xs ss) (n : Nat) :
    OwnL w G P (List.replicate n vs).flatten (List.replicate n xs).flatten (List.replicate n ss).flatten := by
  induction n with
  | zero => exact trivial
  | succ n ih => rw [List.replicate_succ, List.replicate_succ, List.replicate_succ, List.flatten_cons, List.flatten_cons, List.flatten_cons]; exact h.append ih

theorem fpL_replicate {ss : List Sk} (h : fpL ss = []) (n : Nat) : fpL (List.replicate n ss).flatten = [] := by
  induction n with
  | zero => rfl
  | succ n ih => rw [List.replicate_succ, List.flatten_cons, fpL_append, h, ih]; rfl

theorem flatten_replicate_get {α : Type} (l : List α) (n j : Nat) (h : j < n * l.length) : (List.replicate n l).flatten[j]? = l[j % l.length]? := by
  induction n generalizing j with
  | zero => omega
  | succ n ih =>
    rw [List.replicate_succ, List.flatten_cons]
    by_cases hj : j < l.length
    · rw [List.getElem?_append_left hj, Nat.mod_eq_of_lt hj]
    · rw [List.getElem?_append_right (by omega), ih (j - l.length) (by rw [Nat.add_mul, Nat.one_mul] at h; omega)]
      congr 1
      rw [Nat.mod_eq_sub_mod (by omega : j ≥ l.length)]

theorem madeCells_take (z : Array Value) (sz l c : Nat) (hz : z.size = sz) (hs : 0 < sz) (hlc : l ≤ c) :
    (madeCells z (c * sz)).toList.take (l * sz) = (List.replicate l z.toList).flatten := by
  have hle : l * sz ≤ c * sz := Nat.mul_le_mul_right _ hlc
  apply List.ext_getElem?
  intro j
  by_cases hj : j < l * sz
  · rw [List.getElem?_take_of_lt hj, flatten_replicate_get _ _ _ (by simpa [hz] using hj)]
    have hm : j % sz < sz := Nat.mod_lt _ hs
    simp only [madeCells, Array.toList_map, Array.toList_range, List.getElem?_map, List.getElem?_range (show j < c * sz by omega), Option.map_some, Array.length_toList, hz]
    rw [getElem!_pos z (j % sz) (by omega)]
    simp [hz, hm]
  · rw [List.getElem?_take, if_neg hj, List.getElem?_eq_none]
    simp [hz]; omega

theorem make_ok (hI : Inv P w0 F N st a w G gm) {o : Oper} {d : Nat} (hod : o.dst = some d) (hd : d < N) {t : TypeId} {x y : Operand} (ho : o.op = .makeSlice t x y) {T : List Nm} (hTd : (Nm.loc d).mem T = true) (hTh : Nm.hand.mem T = false)
    {kl kc : IntKind} {l c : Int} (hx : a.eval x = .int kl l) (hy : a.eval y = .int kc c) (hok : (semMake P deep d (only T st.regs) t l c).ok = true) :
    OpRes P w0 F N st a w G o (semMake P deep d (only T st.regs) t l c) := by
  unfold semMake at hok ⊢
  cases he : elT P t with
  | none => rw [he] at hok; cases hok
  | some e =>
    rw [he] at hok
    simp only at hok ⊢
    obtain ⟨h1, _⟩ := when_ok hok
    simp only [Bool.and_eq_true, decide_eq_true_eq, roomy, Bool.or_eq_true] at h1
    obtain ⟨⟨⟨⟨⟨⟨⟨⟨p1, p2⟩, p3⟩, p30⟩, p4⟩, p5⟩, p6⟩, p7⟩, p8⟩ := h1
    have p4 := nblt p4
    have p5 := nbeq p5
    obtain ⟨_, i, hdt, hi, hsz, hby, hcl⟩ := tyOk_spec p3
    obtain ⟨i', z, hi', hz, hzc⟩ := zeroCells_ne (P := P) (t := e) (by intro h; rw [h] at p5; simp at p5; omega)
    rw [hi] at hi'
    obtain rfl := Option.some.inj hi'
    obtain ⟨gm1, g1, g2, g3, g4⟩ := hI.start T
    obtain ⟨ln, rfl⟩ := Int.eq_ofNat_of_zero_le p1
    obtain ⟨cn, rfl⟩ := Int.eq_ofNat_of_zero_le (show 0 ≤ c by omega)
    simp only [Int.toNat_natCast] at p7 p8 ⊢
    have hlc : ln ≤ cn := by omega
    have hcm : cn ≤ maxLen := Nat.le_trans p8 (by decide)
    have hbb : (i.bytes : Int) * (cn : Int) ≤ 281474976710656 := by
      rw [hby] at p7
      have h := Int.ofNat_le.2 p7
      rw [Int.natCast_mul, Int.mul_comm] at h
      omega
    have hrun : (execOp a.eval o).run P w = .ok (.value (.slice (some ⟨w.heap.size, 0, none⟩) ln cn)) (w.alloc (.cells (madeCells z.cells (cn * i.size)) e)) := by
      have := run_make (P := P) w t e i z (elT_spec he) hi hz kl kc ln cn (by omega) (by omega) hbb (by omega)
      simp only [Int.toNat_natCast] at this
      simp only [execOp, ho, hx, hy, Sem.run_bind, this, Result.andThen_ok]
      rfl
    obtain ⟨ss, hs1, hs2⟩ := cellsRow_ok (w := w.alloc (.cells (madeCells z.cells (cn * i.size)) e)) (G := G) (P := P) deep (deep e) (zeroCells P e) (cellsT P e) (by rw [p5, hcl]) p30
    have hzs : z.cells.size = szT P e := by rw [hzc] at p5; simpa using p5
    have hlr : (zeroRow P deep (deep e) e).length = szT P e := by simp [zeroRow, p5, hcl]
    refine OpRes.when (OpRes.mk' hod _ _ G _ hrun rfl (fun _ h => h) (hI.land hd hTd hTh g1 g2 (fun _ h => h) g3 (only_within T _) (fun _ _ => rfl) (fun n hn => (no_names hn).elim)
      (fun b hb _ => alloc_old w _ b hb) rfl rfl rfl (by simp) (rg := ⟨false, [.own e (deep e) (List.replicate ln (zeroRow P deep (deep e) e)).flatten]⟩) (R := ⟨none, [.slice (some ⟨w.heap.size, 0, none⟩) ln cn], [.node w.heap.size ln cn (szT P e) (List.replicate ln ss).flatten]⟩) ⟨rfl, ⟨?_, trivial⟩, fun b hb => by cases hb⟩ ?_ ?_ (fun _ h => h) (fun _ h => .inl h) _ _ ?_))
    · refine ⟨madeCells z.cells (cn * i.size), (0, 0), rfl, heap_alloc_new w _, .inl (Nat.le_refl _), by rw [size_madeCells, hsz], p4, rfl, hlc, hcm, ?_, ?_, ?_⟩
      · rw [List.length_flatten]; simp [hlr]
      · have := hs2.replicate ln
        rw [hzc] at this
        rw [← madeCells_take z.cells (szT P e) ln cn hzs p4 hlc, hsz] at this
        rw [hsz]
        unfold zeroRow
        rw [hzc]
        exact this
      · intro hde
        rcases p6 with p6 | p6
        · rw [hde] at p6; cases p6
        · exact cimL_cib _ (cimL_flatten_replicate _ _ p6)
    · simp [RG.fp, fpL, Sk.fp, fpL_replicate hs1]
    · intro b hb
      simp [RG.fp, fpL, Sk.fp, fpL_replicate hs1] at hb
      exact .inr (by omega)
    · simp only [Rv, nameRef, skAt, setG_self, getSk, nthS_zero]
end
end Go.Ab
