/- Runs of append and make; zero values; building structs. -/
import Derived.Test.YtnjgofgogeileaaE14
import Derived.Laws.AppendOwn
import Derived.Laws.MakeOwn
namespace Go.Ab
open Go
set_option linter.unusedSimpArgs false
set_option linter.unusedVariables false

section
variable {P : Program} {w0 w : World} {F : FG} {N : Nat} {st : St} {a : Act} {G : Nat → Prop} {gm : GM}

theorem length_zeroCells (z : Array Value) (n : Nat) : (Builtin.zeroCells z n).size = n * z.size := by simp [Builtin.zeroCells]

/-- What an append leaves: the row that bears the result. -/
structure Apd (w w2 : World) (e : TypeId) (sz : Nat) (g0 : Option Nat) (old news : List Value) (n : Nat) (v' : Value) : Prop where
  row : (v' = .slice none 0 0 ∧ n = 0 ∧ w2 = w ∧ g0 = none) ∨ ∃ g cap cur fr, v' = .slice (some ⟨g, 0, none⟩) n cap ∧ w2.heap[g]? = some (.cells cur e fr) ∧ frOk fr cur.size ∧ cur.size = cap * sz ∧ n ≤ cap ∧ cap ≤ maxLen ∧
    cur.toList.take (n * sz) = old ++ news ∧ (g0 = some g ∨ g = w.heap.size)
  block : ∀ k, k < w.heap.size → g0 ≠ some k → w2.heap[k]? = w.heap[k]?
  size : w.heap.size ≤ w2.heap.size
  os : w2.os = w.os
  tape : w2.tape = w.tape
  output : w2.output = w.output

/-- Growing: a new row. -/
theorem run_append_new {t xt ty e : TypeId} {i : TypeInfo} {z : Value} (ht : P.underlying t = some (.slice e)) (hxt : P.underlying xt = some (.slice e) ∨ P.underlying xt = some .string)
    (hi : P.info? e = some i) (hz : i.zero = some z) {base : Option Addr} {x : Value} {n m cap : Nat} {old news : List Value}
    (hlen : (Builtin.lenOf x).run P w = .ok m w) (hfirst : (Builtin.firstCells i.size m x).run P w.drew = .ok news.toArray w.drew)
    (hold : (Builtin.firstCells i.size n (.slice base n cap)).run P w.drew = .ok old.toArray w.drew)
    (hlt : cap < n + m) (hb : Builtin.nextslicecap (n + m) cap * i.bytes ≤ 281474976710656) (h63 : n + m ≤ 9223372036854775807) :
    (Builtin.append_ #[t, xt] ty #[.slice base n cap, x]).run P w = .ok (.slice (some ⟨w.heap.size, 0, none⟩) (n + m) (grownCap w (n + m) cap e))
      (w.drew.alloc (.cells (old.toArray ++ news.toArray ++ Builtin.zeroCells z.cells (grownCap w (n + m) cap e - (n + m))) e)) := by
  have c1 : ¬ (n + m ≤ cap) := by omega
  have c2 : ¬ (9223372036854775807 < ((n : Int) + (m : Int))) := by omega
  have c3 : ¬ (281474976710656 < Builtin.nextslicecap (n + m) cap * i.bytes) := by omega
  rcases hxt with hxt | hxt
  all_goals
    simp [Builtin.append_, run_underlying ht, run_underlying hxt, sizeOf, typeInfo, zeroValue, hi, hz, hlen, c1, c2, c3, Question.forced, hfirst, hold, newRow, grownCap]
    congr 2
    apply Array.ext'
    simp [List.append_assoc]

/-- With room: into the row. -/
theorem run_append_in {t xt ty e : TypeId} {i : TypeInfo} (ht : P.underlying t = some (.slice e)) (hxt : P.underlying xt = some (.slice e) ∨ P.underlying xt = some .string)
    (hi : P.info? e = some i) {g : Nat} {x : Value} {n m cap : Nat} {news : List Value} {w2 : World}
    (hlen : (Builtin.lenOf x).run P w = .ok m w) (hfirst : (Builtin.firstCells i.size m x).run P w = .ok news.toArray w) (hle : n + m ≤ cap)
    (hst : (storeCells ⟨g, n * i.size, none⟩ news).run P w = .ok () w2) :
    (Builtin.append_ #[t, xt] ty #[.slice (some ⟨g, 0, none⟩) n cap, x]).run P w = .ok (.slice (some ⟨g, 0, none⟩) (n + m) cap) w2 := by
  rcases hxt with hxt | hxt
  all_goals
    simp [Builtin.append_, run_underlying ht, run_underlying hxt, sizeOf, typeInfo, hi, hlen, hle, hfirst, add_addr, hst]

theorem run_append_nilnil {t xt ty e : TypeId} {i : TypeInfo} (ht : P.underlying t = some (.slice e)) (hxt : P.underlying xt = some (.slice e) ∨ P.underlying xt = some .string)
    (hi : P.info? e = some i) {x : Value} {news : List Value} (hlen : (Builtin.lenOf x).run P w = .ok 0 w) (hfirst : (Builtin.firstCells i.size 0 x).run P w = .ok news.toArray w) :
    (Builtin.append_ #[t, xt] ty #[.slice none 0 0, x]).run P w = .ok (.slice none 0 0) w := by
  rcases hxt with hxt | hxt
  all_goals
    simp [Builtin.append_, run_underlying ht, run_underlying hxt, sizeOf, typeInfo, hi, hlen, hfirst]

theorem run_append_gen {t xt ty e : TypeId} {i : TypeInfo} {z : Value} (ht : P.underlying t = some (.slice e)) (hxt : P.underlying xt = some (.slice e) ∨ P.underlying xt = some .string)
    (hi : P.info? e = some i) (hz : i.zero = some z) (hzs : z.cells.size = i.size) {v x : Value} {n m : Nat} {old news : List Value} {g0 : Option Nat}
    (hv : (v = .slice none 0 0 ∧ n = 0 ∧ old = [] ∧ g0 = none) ∨ ∃ g cap cur fr, v = .slice (some ⟨g, 0, none⟩) n cap ∧ w.heap[g]? = some (.cells cur e fr) ∧ frOk fr cur.size ∧ cur.size = cap * i.size ∧ n ≤ cap ∧ cap ≤ maxLen ∧ cur.toList.take (n * i.size) = old ∧ g0 = some g)
    (hlen : (Builtin.lenOf x).run P w = .ok m w) (hfirst : ∀ w', w'.heap = w.heap → (Builtin.firstCells i.size m x).run P w' = .ok news.toArray w') (hn : news.length = m * i.size) (h1 : ∀ u ∈ news, u.oneCell' = true)
    (hb : (n + m) * i.bytes ≤ 140737488355328) (h63 : n + m ≤ maxLen) :
    ∃ v' w2, (Builtin.append_ #[t, xt] ty #[v, x]).run P w = .ok v' w2 ∧ Apd w w2 e i.size g0 old news (n + m) v' := by
  have h63' : n + m ≤ 9223372036854775807 := by simp only [maxLen] at h63; omega
  -- growing
  have grow : ∀ (base : Option Addr) (cap : Nat), v = .slice base n cap → (Builtin.firstCells i.size n v).run P w.drew = .ok old.toArray w.drew → old.length = n * i.size → cap < n + m →
      ∃ v' w2, (Builtin.append_ #[t, xt] ty #[v, x]).run P w = .ok v' w2 ∧ Apd w w2 e i.size g0 old news (n + m) v' := by
    intro base cap hve hold hol hlt
    have hfit := growslice_fits (need := n + m) (old := cap) (bytes := i.bytes) hlt hb
    have hge : n + m ≤ grownCap w (n + m) cap e := grownCap_ge w (n + m) cap e
    have hle : grownCap w (n + m) cap e ≤ maxLen := grownCap_le_maxLen w (n + m) cap e h63
    subst hve
    refine ⟨_, _, run_append_new ht hxt hi hz hlen (hfirst _ rfl) hold hlt hfit h63', ⟨.inr ⟨w.heap.size, grownCap w (n + m) cap e, _, (0, 0), rfl, heap_alloc_new w.drew _, .inl (Nat.le_refl _), ?_, hge, hle, ?_, .inr rfl⟩, ?_, ?_, rfl, rfl, rfl⟩⟩
    · simp only [Array.size_append, List.size_toArray, length_zeroCells, hzs, hol, hn, ← Nat.add_mul]
      congr 1; omega
    · simp only [Array.toList_append, List.append_assoc]
      rw [← List.append_assoc, List.take_left']
      simp [hol, hn, Nat.add_mul]
    · intro k hk _
      exact heap_alloc_old w.drew _ k hk
    · simp
  rcases hv with ⟨rfl, rfl, rfl, rfl⟩ | ⟨g, cap, cur, fr, rfl, hg, hfr, hcs, hnc, hcm, htake, rfl⟩
  · by_cases hm : m = 0
    · subst hm
      have hn0 : news = [] := List.eq_nil_of_length_eq_zero (by simpa using hn)
      refine ⟨_, _, run_append_nilnil ht hxt hi hlen (hfirst w rfl), ⟨.inl ⟨rfl, rfl, rfl, rfl⟩, fun _ _ _ => rfl, Nat.le_refl _, rfl, rfl, rfl⟩⟩
    · exact grow none 0 rfl (by simp [Builtin.firstCells]) (by simp) (by omega)
  · by_cases hroom : n + m ≤ cap
    · have hfit : n * i.size + 0 + news.length ≤ cur.size := by rw [hn, hcs, Nat.add_zero, ← Nat.add_mul]; exact Nat.mul_le_mul_right _ hroom
      have hst := run_storeCells (P := P) g (n * i.size) e fr news 0 cur w hg hfr hfit h1
      simp only [Nat.add_zero] at hst hfit
      refine ⟨_, _, run_append_in ht hxt hi hlen (hfirst w rfl) hroom hst, ⟨.inr ⟨g, cap, _, fr, rfl, setRow_heap w g cur _ e fr hg, ?_, ?_, hroom, hcm, ?_, .inl rfl⟩, ?_, by simp, rfl, rfl, rfl⟩⟩
      · rw [over_size hfit]; exact hfr
      · rw [over_size hfit]; exact hcs
      · simp only [over]
        rw [htake, List.take_left']
        have : old.length = n * i.size := by
          rw [← htake, List.length_take, Array.length_toList, hcs, Nat.min_eq_left (Nat.mul_le_mul_right _ hnc)]
        simp [this, hn, Nat.add_mul]
      · intro k _ hk
        exact setRow_other w g k _ (fun e => hk (by rw [e]))
    · have hol : old.length = n * i.size := by
        rw [← htake, List.length_take, Array.length_toList, hcs, Nat.min_eq_left (Nat.mul_le_mul_right _ hnc)]
      refine grow (some ⟨g, 0, none⟩) cap rfl ?_ hol (by omega)
      refine run_firstCells_some (P := P) w.drew i.size n ⟨g, 0, none⟩ n cap old hol ?_
      intro j u hu
      rw [add_addr, ← htake, List.getElem?_take] at *
      split at hu
      · have : w.drew.cell? ⟨g, 0 + j, none⟩ = w.cell? ⟨g, 0 + j, none⟩ := rfl
        rw [this]
        simp only [World.cell?, hg]
        simpa using hu
      · cases hu

/-! ### zero values -/
theorem cellRow_ok (deep : TypeId → Bool) (keep : Bool) (v : Value) (c : TypeId) (h1 : v.oneCell' = true) : ∃ s : Sk, s.fp = [] ∧ OwnC w G P v (cellRow P deep keep v c) s := by
  unfold cellRow
  split
  · cases elT P c with
    | none => exact ⟨.leaf, rfl, rfl, h1⟩
    | some e =>
      cases keep with
      | true => exact ⟨.nil, rfl, rfl, rfl⟩
      | false => exact ⟨.leaf, rfl, rfl, rfl, .inl ⟨rfl, rfl⟩⟩
  · cases deep c with
    | true => exact ⟨.leaf, rfl, rfl, rfl⟩
    | false => exact ⟨.leaf, rfl, rfl, rfl, rfl, rfl⟩
  · cases hf : flat v with
    | true => exact ⟨.leaf, rfl, rfl, rfl, rfl, hf⟩
    | false => exact ⟨.leaf, rfl, rfl, h1⟩

theorem cellsRow_ok (deep : TypeId → Bool) (keep : Bool) : ∀ (vs : List Value) (cs : List TypeId), vs.length = cs.length → vs.all Value.oneCell' = true →
    ∃ ss : List Sk, fpL ss = [] ∧ OwnL w G P vs ((vs.zip cs).map fun x => cellRow P deep keep x.1 x.2) ss
  | [], [], _, _ => ⟨[], rfl, trivial⟩
  | v :: vs, c :: cs, h, hz => by
    simp only [List.all_cons, Bool.and_eq_true] at hz
    obtain ⟨s, h1, h2⟩ := cellRow_ok (w := w) (G := G) (P := P) deep keep v c hz.1
    obtain ⟨ss, h3, h4⟩ := cellsRow_ok deep keep vs cs (by simpa using h) hz.2
    exact ⟨s :: ss, by simp [fpL, h1, h3], h2, h4⟩
  | [], _ :: _, h, _ => by simp at h
  | _ :: _, [], h, _ => by simp at h

theorem zeroCells_info {t : TypeId} {i : TypeInfo} (hi : P.info? t = some i) {z : Value} (hz : i.zero = some z) : zeroCells P t = z.cells.toList := by
  simp [zeroCells, hi, hz]

theorem zeroCells_ne {t : TypeId} (h : zeroCells P t ≠ []) : ∃ i z, P.info? t = some i ∧ i.zero = some z ∧ zeroCells P t = z.cells.toList := by
  unfold zeroCells at h ⊢
  cases hi : P.info? t with
  | none => simp [hi] at h
  | some i =>
    cases hz : i.zero with
    | none => simp [hi, hz] at h
    | some z => exact ⟨i, z, rfl, hz, by simp [hz]⟩

/-! ### building a struct -/
theorem mapM_places : ∀ (fs : List Field), (fs.all fun f => (P.info? f.type).isSome) = true →
    fs.mapM (fun f => (P.info? f.type).map fun i => (f.offset, i.size)) = some (fs.map fun f => (f.offset, szT P f.type))
  | [], _ => rfl
  | f :: fs, h => by
    simp only [List.all_cons, Bool.and_eq_true] at h
    obtain ⟨i, hi⟩ := Option.isSome_iff_exists.1 h.1
    simp [List.mapM_cons, hi, mapM_places fs h.2, szT]

theorem partLen_cells {v : Value} {x : V} (h : Rv w G gm v x) (hp : x.isPart = true) : v.cells.size = partLen x := by
  cases x with
  | ag xs => obtain ⟨cs, rfl, h2⟩ := h; simpa [Value.cells, partLen] using h2.length
  | bad => cases hp
  | tp xs => cases hp
  | own e d xs => cases hp
  | _ =>
    have := h.single rfl (by simp)
    have h2 : v.cells.toList.length = 1 := by rw [this]; rfl
    simpa [partLen] using h2

theorem RvL.zip_parts : ∀ (ps : List Nat) (us : List Value) (vs : List V), RvL w G gm us vs → RvL w G gm ((ps.zip us).map (·.2)) ((ps.zip vs).map (·.2))
  | [], _, _, _ => trivial
  | p :: ps, u :: us, v :: vs, h => ⟨h.1, RvL.zip_parts ps us vs h.2⟩
  | p :: ps, [], [], _ => trivial
  | p :: ps, [], _ :: _, h => h.elim
  | p :: ps, _ :: _, [], h => h.elim

theorem semBuild_ok (hI : Inv P w0 F N st a w G gm) {o : Oper} (hd : ∀ x, o.dst = some x → x < N) {t : TypeId} {ps : Array (Nat × Operand)} (ho : o.op = .build t ps) {vs : List V}
    (hx : RvL w G gm (ps.toList.map fun p => a.eval p.2) vs) (hok : (semBuild P t (ps.toList.map (·.1)) vs).ok = true) : OpRes P w0 F N st a w G o (semBuild P t (ps.toList.map (·.1)) vs) := by
  unfold semBuild at hok ⊢
  obtain ⟨h1, _⟩ := when_ok hok
  simp only [Bool.and_eq_true] at h1
  obtain ⟨⟨⟨hb, hz1⟩, hz2⟩, hall⟩ := h1
  have hz1 := nbeq hz1
  have hz2 := nbeq hz2
  simp only [bldOk, Bool.and_eq_true] at hb
  obtain ⟨hb1, hb2⟩ := hb
  cases hit : P.info? t with
  | none => simp [hit] at hb2
  | some it =>
    simp only [hit] at hb2
    obtain ⟨z, hz⟩ := Option.isSome_iff_exists.1 hb2
    have hzc := zeroCells_info hit hz
    have hzero : RvL w G gm z.cells.toList (zeroEnv P t) := by
      unfold zeroEnv
      rw [hzc] at hz2 ⊢
      exact cellsEnv_ok _ _ hz2
    have hzl : z.cells.size = szT P t := by
      have := hzero.length
      rw [hz1] at this
      simpa using this
    have main : ∀ (place : Nat → Option (Nat × Nat)), (∀ i c, partTy P t i = some c → place i = some (offOf P t i, szT P c)) →
        ∃ cells', Instr.fill place z.cells (ps.toList.map fun p => (p.1, a.eval p.2)) = some cells' ∧ RvL w G gm cells'.toList (placeParts ((ps.toList.map (·.1)).zip vs |>.map fun p => (offOf P t p.1, p.2)) (zeroEnv P t)).2 := by
      intro place hplace
      have hzip : (ps.toList.map fun p => (p.1, a.eval p.2)) = (ps.toList.map (·.1)).zip (ps.toList.map fun p => a.eval p.2) := by
        rw [List.zip_map_left, List.zip_map_right, List.map_map]
        generalize ps.toList = l
        induction l with
        | nil => rfl
        | cons p l ih => simp [ih]
      have hall' : ∀ q ∈ (ps.toList.map (·.1)).zip vs, partOk P t q = true := by
        intro q hq
        exact List.all_eq_true.1 hall q hq
      refine Exists.elim (fill_ok (w := w) (G := G) (gm := gm) place (ps.toList.map fun p => (p.1, a.eval p.2)) (((ps.toList.map (·.1)).zip vs).map fun p => (offOf P t p.1, p.2)) z.cells (zeroEnv P t) ?_ ?_ hzero ?_ ?_) (fun cells' k => ⟨cells', k.1, k.2.2⟩)
      · have key2 : ∀ (is : List Nat) (us : List Value) (vs : List V), us.length = vs.length → (∀ q ∈ is.zip vs, partOk P t q = true) →
            (is.zip us).map (fun p => (place p.1).map (·.1)) = ((is.zip vs).map fun p => (offOf P t p.1, p.2)).map (fun q => some q.1) := by
          intro is
          induction is with
          | nil => intro us vs _ _; rfl
          | cons i is ih =>
            intro us vs hl hq
            cases us with
            | nil => cases vs with
              | nil => rfl
              | cons v vs => simp at hl
            | cons u us =>
              cases vs with
              | nil => simp at hl
              | cons v vs =>
                have hp := hq (i, v) (by simp)
                unfold partOk at hp
                cases hpt : partTy P t i with
                | none => simp [hpt] at hp
                | some c =>
                  simp only [List.zip_cons_cons, List.map_cons, hplace i c hpt, Option.map_some]
                  rw [ih us vs (by simpa using hl) (fun q hq' => hq q (by simp [hq']))]
        rw [hzip]
        exact key2 _ _ _ hx.length hall'
      · rw [hzip, List.map_map]
        exact RvL.zip_parts _ _ _ hx
      · intro p hp off sz hpl
        rw [hzip] at hp
        have key : ∀ (is : List Nat) (us : List Value) (vs : List V), RvL w G gm us vs → (∀ q ∈ is.zip vs, partOk P t q = true) → ∀ p ∈ is.zip us, ∃ x, Rv w G gm p.2 x ∧ partOk P t (p.1, x) = true := by
          intro is
          induction is with
          | nil => intro us vs _ _ p hp; simp at hp
          | cons i is ih =>
            intro us vs h hq p hp
            cases us with
            | nil => simp at hp
            | cons u us =>
              cases vs with
              | nil => exact h.elim
              | cons v vs =>
                simp only [List.zip_cons_cons, List.mem_cons] at hp
                rcases hp with rfl | hp
                · exact ⟨v, h.1, hq (i, v) (by simp)⟩
                · exact ih us vs h.2 (fun q hq' => hq q (by simp [hq'])) p hp
        obtain ⟨x, hx1, hx2⟩ := key _ _ _ hx hall' p hp
        unfold partOk at hx2
        cases hpt : partTy P t p.1 with
        | none => simp [hpt] at hx2
        | some c =>
          simp only [hpt, Bool.and_eq_true] at hx2
          rw [hplace _ c hpt] at hpl
          simp only [Option.some.injEq, Prod.mk.injEq] at hpl
          obtain ⟨rfl, rfl⟩ := hpl
          have e1 := nbeq hx2.1.2
          have e2 := nble hx2.2
          exact ⟨by rw [partLen_cells hx1 hx2.1.1, e1], by rw [hzl]; exact e2⟩
      · intro q hq
        simp only [List.mem_map] at hq
        obtain ⟨q', hq', rfl⟩ := hq
        have := hall' q' hq'
        unfold partOk at this
        cases hpt : partTy P t q'.1 with
        | none => simp [hpt] at this
        | some c => simp only [hpt, Bool.and_eq_true] at this; exact this.1.1
    have fin : ∀ cells', P.built t (ps.toList.map fun p => (p.1, a.eval p.2)) = some cells' → RvL w G gm cells'.toList (placeParts ((ps.toList.map (·.1)).zip vs |>.map fun p => (offOf P t p.1, p.2)) (zeroEnv P t)).2 →
        OpRes P w0 F N st a w G o (Eff.put (.ag (placeParts ((ps.toList.map (·.1)).zip vs |>.map fun p => (offOf P t p.1, p.2)) (zeroEnv P t)).2)) := by
      intro cells' hbt hr
      refine OpRes.quiet hI hd (.agg cells') ?_ rfl rfl ⟨cells', rfl, hr⟩
      have := run_build (P := P) w t (ps.map fun (i, x) => (i, a.eval x)) cells' (by simpa using hbt)
      simp only [execOp, ho, Sem.run_bind, this, Result.andThen_ok]
      rfl
    refine OpRes.when ?_
    cases hu : P.underlying t with
    | none => simp [hu] at hb1
    | some d =>
      cases d <;> simp only [hu] at hb1 <;> try (cases hb1; done)
      case array n e =>
        obtain ⟨ie, hie⟩ := Option.isSome_iff_exists.1 hb1
        obtain ⟨cells', k1, k2⟩ := main (fun i => some (i * ie.size, ie.size)) (by
          intro i c hc
          simp only [partTy, hu, Option.some.injEq] at hc
          subst hc
          simp [offOf, hu, szT, hie])
        exact fin cells' (by simp [Program.built, hit, hu, hz, hie, k1]) k2
      case struct fs =>
        obtain ⟨cells', k1, k2⟩ := main ((fs.toList.map fun f => (f.offset, szT P f.type)).toArray[·]?) (by
          intro i c hc
          simp only [partTy, hu] at hc
          cases hf : fs[i]? with
          | none => simp [hf] at hc
          | some f =>
            simp only [hf, Option.map_some, Option.some.injEq] at hc
            subst hc
            simp [offOf, hu, hf])
        refine fin cells' ?_ k2
        simp only [Program.built, hit, hu, hz, mapM_places fs.toList hb1]
        exact k1
end
end Go.Ab
