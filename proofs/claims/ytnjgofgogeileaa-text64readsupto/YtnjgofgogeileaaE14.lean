/- The other operations that leave memory as it is. -/
import Derived.Test.YtnjgofgogeileaaE13
namespace Go.Ab
open Go
set_option linter.unusedSimpArgs false
set_option linter.unusedVariables false

section
variable {P : Program} {w0 w : World} {F : FG} {N : Nat} {st : St} {a : Act} {G : Nat → Prop} {gm : GM}

theorem move_ok (hI : Inv P w0 F N st a w G gm) {o : Oper} (hd : ∀ x, o.dst = some x → x < N) {x : Operand} (ho : o.op = .move x ∨ o.op = .assign x) {vx : V} (hx : Rv w G gm (a.eval x) vx) :
    OpRes P w0 F N st a w G o (Eff.put vx) := by
  refine OpRes.quiet hI hd (a.eval x) ?_ rfl rfl hx
  rcases ho with ho | ho <;> simp [execOp, ho]

theorem pick_ok (hI : Inv P w0 F N st a w G gm) {o : Oper} (hd : ∀ x, o.dst = some x → x < N) {c x y : Operand} (ho : o.op = .pick c x y) {t : Bool} {vx vy : V}
    (hc : a.eval c = .bool t) (hx : Rv w G gm (a.eval x) vx) (hy : Rv w G gm (a.eval y) vy) : OpRes P w0 F N st a w G o (Eff.put (bif t then vx else vy)) := by
  cases t
  · refine OpRes.quiet hI hd (a.eval y) ?_ rfl rfl hy
    simp [execOp, ho, hc, asBool]
  · refine OpRes.quiet hI hd (a.eval x) ?_ rfl rfl hx
    simp [execOp, ho, hc, asBool]

theorem nilCheck_ok (hI : Inv P w0 F N st a w G gm) {o : Oper} (hd : ∀ x, o.dst = some x → x < N) {x : Operand} (ho : o.op = .nilCheck x) {vx : V} (hx : Rv w G gm (a.eval x) vx)
    (hp : ∃ ad, a.eval x = .pointer (some ad)) : OpRes P w0 F N st a w G o (Eff.put vx) := by
  obtain ⟨ad, hp⟩ := hp
  refine OpRes.quiet hI hd (a.eval x) ?_ rfl rfl hx
  simp [execOp, ho, hp]

theorem makeInterface_ok (hI : Inv P w0 F N st a w G gm) {o : Oper} (hd : ∀ x, o.dst = some x → x < N) {t : TypeId} {x : Operand} (ho : o.op = .makeInterface t x) {vx : V} (hx : Rv w G gm (a.eval x) vx)
    (ht : (!(match P.underlying t with | some (.interface _) => true | none => true | _ => false)) = true) : OpRes P w0 F N st a w G o (Eff.put (.ifc t vx)) := by
  refine OpRes.quiet hI hd (.iface t (a.eval x)) ?_ rfl rfl ⟨_, rfl, hx⟩
  cases hu : P.underlying t with
  | none => rw [hu] at ht; cases ht
  | some d =>
    rw [hu] at ht
    simp only [execOp, ho, Instr.makeInterface, Sem.run_bind, run_underlying hu, Result.andThen_ok]
    cases d <;> first | rfl | cases ht

theorem RvL.append_iff : ∀ (vs : List Value) (n : Nat) (xs : List V), RvL w G gm vs xs → RvL w G gm (vs.take n) (xs.take n) ∧ RvL w G gm (vs.drop n) (xs.drop n)
  | [], n, [], _ => by cases n <;> exact ⟨trivial, trivial⟩
  | v :: vs, 0, x :: xs, h => ⟨trivial, h⟩
  | v :: vs, n + 1, x :: xs, h => ⟨⟨h.1, (RvL.append_iff vs n xs h.2).1⟩, (RvL.append_iff vs n xs h.2).2⟩
  | [], _, _ :: _, h => h.elim
  | _ :: _, _, [], h => h.elim

theorem makeFunc_ok (hI : Inv P w0 F N st a w G gm) {o : Oper} (hd : ∀ x, o.dst = some x → x < N) {f : FuncId} {first caps : Array Operand} (ho : o.op = .makeFunc (.func f) first caps) {vs : List V}
    (hx : RvL w G gm ((first ++ caps).toList.map a.eval) vs) : OpRes P w0 F N st a w G o (Eff.put (.fn f (vs.take first.size) (vs.drop first.size))) := by
  refine OpRes.quiet hI hd (.func (.func f) (first.map a.eval) (caps.map a.eval)) ?_ rfl rfl ⟨_, _, rfl, ?_, ?_⟩
  · simp [execOp, ho, Instr.makeFunc]
  · have := (RvL.append_iff _ first.size _ hx).1
    simpa using this
  · have := (RvL.append_iff _ first.size _ hx).2
    simpa using this

theorem extract_ok (hI : Inv P w0 F N st a w G gm) {o : Oper} (hd : ∀ x, o.dst = some x → x < N) {x : Operand} {i : Nat} (ho : o.op = .extract x i) {xs : List V} (hx : Rv w G gm (a.eval x) (.tp xs)) (hi : i < xs.length) :
    OpRes P w0 F N st a w G o (Eff.put (nthV xs i)) := by
  obtain ⟨cs, h1, h2⟩ := hx
  obtain ⟨v, h3, h4⟩ := h2.get i hi
  refine OpRes.quiet hI hd v ?_ rfl rfl h4
  have : cs[i]? = some v := by simpa using h3
  simp [execOp, ho, h1, Instr.extract, this]

theorem index_ok (hI : Inv P w0 F N st a w G gm) {o : Oper} (hd : ∀ x, o.dst = some x → x < N) {t : TypeId} {x y : Operand} (ho : o.op = .index t x y) {s : ByteArray} {k : IntKind} {n : Int}
    (hx : a.eval x = .string s) (hy : a.eval y = .int k n) (hu : P.underlying t = some .string) (h0 : 0 ≤ n) (h1 : n < (s.size : Int)) :
    OpRes P w0 F N st a w G o (Eff.put (.sc (.int .u8 (s.data.getD n.toNat 0).toNat))) := by
  refine OpRes.quiet hI hd (.int .u8 (s.data.getD n.toNat 0).toNat) ?_ rfl rfl ⟨rfl, rfl⟩
  have hlt : n.toNat < s.size := by omega
  have hg : s[n.toNat]? = some (s.data.getD n.toNat 0) := by
    have h2 : n.toNat < s.data.size := hlt
    rw [getElem?_pos s n.toNat hlt]
    congr 1
    simp only [Array.getD, h2, dif_pos]
    rfl
  simp [execOp, ho, hx, hy, Instr.index, asIntOf, run_underlying hu, h0, hg]

theorem field_ok (hI : Inv P w0 F N st a w G gm) {o : Oper} (hd : ∀ x, o.dst = some x → x < N) {t : TypeId} {x : Operand} {f : Nat} (ho : o.op = .field t x f) {vx : V} (hx : Rv w G gm (a.eval x) vx)
    (hok : (semField P t f vx).ok = true) : OpRes P w0 F N st a w G o (semField P t f vx) := by
  cases vx <;> try (cases hok; done)
  rename_i xs
  obtain ⟨cs, h1, h2⟩ := hx
  unfold semField at hok ⊢
  simp only at hok ⊢
  cases hf : fieldT P t f with
  | none => rw [hf] at hok; cases hok
  | some fd =>
    rw [hf] at hok
    simp only at hok ⊢
    have hfs : ∃ fs, P.underlying t = some (.struct fs) ∧ fs[f]? = some fd := by
      unfold fieldT at hf
      split at hf
      · rename_i fs hu; exact ⟨fs, hu, hf⟩
      · cases hf
    obtain ⟨fs, hu, hff⟩ := hfs
    have hlen := h2.length
    cases ha : aggT P fd.type with
    | true =>
      rw [ha] at hok
      simp only [cond_true] at hok ⊢
      obtain ⟨g1, _⟩ := when_ok hok
      simp only [Bool.and_eq_true] at g1
      obtain ⟨hty, g1⟩ := g1
      have g1 := nble g1
      refine OpRes.when (OpRes.quiet hI hd (.agg (cs.extract fd.offset (fd.offset + szT P fd.type))) ?_ rfl rfl ⟨_, rfl, ?_⟩)
      · simp only [execOp, ho, h1, Instr.field, Sem.run_bind, run_underlying hu, Result.andThen_ok, hff, asAgg, part, run_isAgg hty, ha, if_true, run_sizeOf hty]
        rfl
      · have := (RvL.append_iff _ (szT P fd.type) _ (RvL.append_iff _ fd.offset _ h2).2).1
        rw [Array.toList_extract]
        simpa using this
    | false =>
      rw [ha] at hok
      simp only [cond_false] at hok ⊢
      obtain ⟨g1, _⟩ := when_ok hok
      simp only [Bool.and_eq_true] at g1
      obtain ⟨hty, g1⟩ := g1
      have g1 := nblt g1
      obtain ⟨v, h3, h4⟩ := h2.get fd.offset g1
      have h3' : cs[fd.offset]? = some v := by simpa using h3
      refine OpRes.when (OpRes.quiet hI hd v ?_ rfl rfl h4)
      simp only [execOp, ho, h1, Instr.field, Sem.run_bind, run_underlying hu, Result.andThen_ok, hff, asAgg, part, run_isAgg hty, ha, Bool.false_eq_true, if_false, Sem.run_pure, h3']

theorem minmax_ok (hI : Inv P w0 F N st a w G gm) {o : Oper} (hd : ∀ x, o.dst = some x → x < N) {x y : Operand} {ts : Array TypeId} (isMax : Bool)
    (ho : o.op = .call { callee := .builtin (if isMax then .max else .min), args := #[x, y], argTypes := ts }) {vx vy : V} (hx : Rv w G gm (a.eval x) vx) (hy : Rv w G gm (a.eval y) vy)
    (hok : (semMinMax isMax vx vy).ok = true) : OpRes P w0 F N st a w G o (semMinMax isMax vx vy) := by
  have hu : ∃ k n k' n', vx = .sc (.int k n) ∧ vy = .sc (.int k' n') := by
    cases vx <;> try (cases hok; done)
    rename_i u
    cases u <;> try (cases hok; done)
    cases vy <;> try (cases hok; done)
    rename_i v
    cases v <;> try (cases hok; done)
    exact ⟨_, _, _, _, rfl, rfl⟩
  obtain ⟨k, n, k', n', rfl, rfl⟩ := hu
  have hx := hx.sc_eq
  have hy := hy.sc_eq
  simp only [semMinMax] at hok ⊢
  obtain ⟨h1, _⟩ := when_ok hok
  have h1 := of_decide_eq_true h1
  subst h1
  cases isMax with
  | true =>
    refine OpRes.when (OpRes.quiet hI hd (.int k (bif decide (n' > n) then n' else n)) ?_ rfl rfl ⟨rfl, rfl⟩)
    simp only [execOp, ho, if_true, resolve, Sem.run_bind, Sem.run_pure, Result.andThen_ok, invoke, builtin, Builtin.max_]
    simp [hx.1, hy.1, Builtin.max2]
    try (by_cases h : n < n' <;> simp [h])
  | false =>
    refine OpRes.when (OpRes.quiet hI hd (.int k (bif decide (n' < n) then n' else n)) ?_ rfl rfl ⟨rfl, rfl⟩)
    simp only [execOp, ho, Bool.false_eq_true, if_false, resolve, Sem.run_bind, Sem.run_pure, Result.andThen_ok, invoke, builtin, Builtin.min_]
    simp [hx.1, hy.1, Builtin.min2]
    try (by_cases h : n' < n <;> simp [h])

/-! ### building a struct -/
theorem Rv.single {v : Value} {x : V} (h : Rv w G gm v x) (hc : x.isCell = true) (hb : x ≠ .bad) : v.cells.toList = [v] := by
  have := h.one hc hb
  cases v <;> first | rfl | cases this

theorem setMany_length : ∀ (xs : List V) (k : Nat) (row : List V), (setMany k xs row).length = row.length
  | [], _, _ => rfl
  | x :: xs, k, row => by simp [setMany, setMany_length xs]

def setVals : Nat → List Value → List Value → List Value
  | _, [], row => row
  | k, x :: xs, row => setVals (k + 1) xs (row.set k x)

theorem setVals_length : ∀ (xs : List Value) (k : Nat) (row : List Value), (setVals k xs row).length = row.length
  | [], _, _ => rfl
  | x :: xs, k, row => by simp [setVals, setVals_length xs]

theorem RvL.set : ∀ {vs : List Value} {xs : List V}, RvL w G gm vs xs → ∀ k v x, Rv w G gm v x → RvL w G gm (vs.set k v) (xs.set k x)
  | v :: vs, x :: xs, h, 0, _, _, h' => ⟨h', h.2⟩
  | v :: vs, x :: xs, h, k + 1, _, _, h' => ⟨h.1, RvL.set h.2 k _ _ h'⟩
  | [], [], _, _, _, _, _ => trivial
  | [], _ :: _, h, _, _, _, _ => h.elim
  | _ :: _, [], h, _, _, _, _ => h.elim

theorem RvL.setMany : ∀ {us : List Value} {ys : List V} {vs : List Value} {xs : List V} (k : Nat), RvL w G gm us ys → RvL w G gm vs xs → RvL w G gm (setVals k us vs) (Ab.setMany k ys xs)
  | [], [], _, _, _, _, h => h
  | u :: us, y :: ys, vs, xs, k, hu, h => RvL.setMany (k + 1) hu.2 (h.set k u y hu.1)
  | [], _ :: _, _, _, _, h, _ => h.elim
  | _ :: _, [], _, _, _, h, _ => h.elim

theorem foldl_set (off : Nat) : ∀ (vs : List Value) (k : Nat) (cs : Array Value),
    ((vs.zipIdx k).foldl (fun cs x => cs.setIfInBounds (off + x.2) x.1) cs).toList = setVals (off + k) vs cs.toList
  | [], _, _ => rfl
  | v :: vs, k, cs => by
    simp only [List.zipIdx_cons, List.foldl_cons, setVals]
    rw [foldl_set off vs (k + 1)]
    simp [Nat.add_assoc]

theorem fill_ok (place : Nat → Option (Nat × Nat)) : ∀ (ps : List (Nat × Value)) (qs : List (Nat × V)) (cells : Array Value) (row : List V),
    ps.map (fun p => (place p.1).map (·.1)) = qs.map (fun q => some q.1) →
    RvL w G gm (ps.map (·.2)) (qs.map (·.2)) → RvL w G gm cells.toList row →
    (∀ p ∈ ps, ∀ off sz, place p.1 = some (off, sz) → p.2.cells.size = sz ∧ off + sz ≤ cells.size) → (∀ q ∈ qs, q.2.isPart = true) →
    ∃ cells', Instr.fill place cells ps = some cells' ∧ cells'.size = cells.size ∧ RvL w G gm cells'.toList (placeParts qs row).2
  | [], [], cells, row, _, _, h, _, _ => ⟨cells, rfl, rfl, h⟩
  | (i, v) :: ps, (off, x) :: qs, cells, row, hp, hv, h, hs, hi => by
    simp only [List.map_cons, List.cons.injEq] at hp
    obtain ⟨hp1, hp2⟩ := hp
    cases hpl : place i with
    | none => rw [hpl] at hp1; cases hp1
    | some pr =>
      obtain ⟨o', sz⟩ := pr
      rw [hpl] at hp1
      obtain rfl : o' = off := by simpa using hp1
      obtain ⟨s1, s2⟩ := hs (i, v) (by simp) o' sz hpl
      simp only at s1
      have hcells : RvL w G gm v.cells.toList (partCells x) := by
        have hv1 := hv.1
        have hpart := hi (o', x) (by simp)
        simp only at hv1 hpart
        cases x with
        | ag xs => obtain ⟨cs, rfl, h2⟩ := hv1; exact h2
        | bad => cases hpart
        | tp xs => cases hpart
        | _ => rw [hv1.single rfl (by simp)]; exact ⟨hv1, trivial⟩
      have hrow : RvL w G gm ((v.cells.zipIdx.foldl (fun cs x => cs.setIfInBounds (o' + x.2) x.1) cells).toList) (setMany o' (partCells x) row) := by
        rw [← Array.foldl_toList, Array.toList_zipIdx, foldl_set]
        exact RvL.setMany _ hcells h
      have hsize : (v.cells.zipIdx.foldl (fun cs x => cs.setIfInBounds (o' + x.2) x.1) cells).size = cells.size := by
        have : (v.cells.zipIdx.foldl (fun cs x => cs.setIfInBounds (o' + x.2) x.1) cells).toList.length = cells.toList.length := by
          rw [← Array.foldl_toList, Array.toList_zipIdx, foldl_set, setVals_length]
        simpa using this
      obtain ⟨cells', k1, k2, k3⟩ := fill_ok place ps qs _ _ hp2 hv.2 hrow (by
        intro p hp off sz hpl
        rw [hsize]
        exact hs p (by simp [hp]) off sz hpl) (fun q hq => hi q (by simp [hq]))
      refine ⟨cells', ?_, by rw [k2, hsize], k3⟩
      simp only [Instr.fill, hpl]
      rw [if_neg]
      · exact k1
      · simp only [s1, ne_eq, not_true, Bool.or_eq_true, decide_eq_true_eq, false_or]
        simp; omega
  | [], _ :: _, _, _, h, _, _, _, _ => by simp at h
  | _ :: _, [], _, _, h, _, _, _, _ => by simp at h
end
end Go.Ab
