/- Places within own slices: what is there, and what a change there leaves. -/
import Derived.Test.YtnjgofgogeileaaE3
set_option linter.unusedVariables false
namespace Go.Ab
open Go

theorem Nm.eq_iff (a b : Nm) : Nm.eq a b = true ↔ a = b := by
  cases a <;> cases b <;> simp [Nm.eq]
theorem Nm.eq_self (a : Nm) : Nm.eq a a = true := (Nm.eq_iff a a).2 rfl
theorem Nm.eq_ne {a b : Nm} (h : a ≠ b) : Nm.eq a b = false := by
  cases e : Nm.eq a b
  · rfl
  · exact absurd ((Nm.eq_iff a b).1 e) h
theorem Nm.mem_iff (n : Nm) (l : List Nm) : n.mem l = true ↔ n ∈ l := by
  induction l with
  | nil => simp [Nm.mem]
  | cons m l ih => simp [Nm.mem, ih, Nm.eq_iff]
theorem Nm.mem_false (n : Nm) (l : List Nm) : n.mem l = false ↔ n ∉ l := by
  rw [← Nm.mem_iff]; simp
theorem setR_self (rd : Nm → Option Rg) (n : Nm) (x : Option Rg) : setR rd n x n = x := by simp [setR, Nm.eq_self]
theorem setR_ne (rd : Nm → Option Rg) {n m : Nm} (x : Option Rg) (h : m ≠ n) : setR rd n x m = rd m := by simp [setR, Nm.eq_ne h]

@[simp] theorem nthV_zero (x : V) (l : List V) : nthV (x :: l) 0 = x := rfl
@[simp] theorem nthV_succ (x : V) (l : List V) (j : Nat) : nthV (x :: l) (j + 1) = nthV l j := rfl
@[simp] theorem nthS_zero (x : Sk) (l : List Sk) : nthS (x :: l) 0 = x := rfl
@[simp] theorem nthS_succ (x : Sk) (l : List Sk) (j : Nat) : nthS (x :: l) (j + 1) = nthS l j := rfl
theorem nthV_out : ∀ (l : List V) (j : Nat), l.length ≤ j → nthV l j = .bad
  | [], _, _ => rfl
  | _ :: l, j + 1, h => nthV_out l j (by simpa using h)
  | _ :: _, 0, h => by simp at h
theorem nthS_out : ∀ (l : List Sk) (j : Nat), l.length ≤ j → nthS l j = .leaf
  | [], _, _ => rfl
  | _ :: l, j + 1, h => nthS_out l j (by simpa using h)
  | _ :: _, 0, h => by simp at h
theorem nthV_get : ∀ (l : List V) (j : Nat) (h : j < l.length), nthV l j = l[j]
  | _ :: _, 0, _ => rfl
  | _ :: l, j + 1, h => by simpa only [nthV_succ, List.getElem_cons_succ] using nthV_get l j (by simpa using h)
theorem getV_nil : ∀ (p : List Nat) (i : Nat), getV p [] i = .bad
  | [], _ => rfl
  | a :: p, i => by simpa [getV, nthV, ownXs] using getV_nil p a
theorem getSk_nil : ∀ (p : List Nat) (i : Nat), getSk p [] i = .leaf
  | [], _ => rfl
  | a :: p, i => by simpa [getSk, nthS, skCells] using getSk_nil p a

/-! ### bones -/
theorem fpL_append (a b : List Sk) : fpL (a ++ b) = fpL a ++ fpL b := by
  induction a with
  | nil => rfl
  | cons s l ih => simp [fpL, ih]

theorem fpL_set_perm : ∀ (sks : List Sk) (j : Nat), j < sks.length → ∃ rest, (fpL sks).Perm ((nthS sks j).fp ++ rest) ∧ ∀ s', (fpL (sks.set j s')).Perm (s'.fp ++ rest)
  | s :: l, 0, _ => ⟨fpL l, by simp [fpL], fun s' => by simp [fpL]⟩
  | s :: l, j + 1, h => by
    obtain ⟨rest, h1, h2⟩ := fpL_set_perm l j (by simpa using h)
    refine ⟨s.fp ++ rest, ?_, fun s' => ?_⟩
    · simp only [fpL, nthS_succ]
      refine (List.Perm.append_left _ h1).trans ?_
      rw [← List.append_assoc, ← List.append_assoc]
      exact List.Perm.append_right _ List.perm_append_comm
    · simp only [fpL, List.set_cons_succ]
      refine (List.Perm.append_left _ (h2 s')).trans ?_
      rw [← List.append_assoc, ← List.append_assoc]
      exact List.Perm.append_right _ List.perm_append_comm

/-- The blocks of a place, and all others of the row: the others stay, whatever is put there. -/
theorem getSk_perm : ∀ (p : List Nat) (sks : List Sk) (j : Nat), getSk p sks j ≠ .leaf →
    ∃ rest, (fpL sks).Perm ((getSk p sks j).fp ++ rest) ∧ ∀ s', (fpL (setSk p sks j s')).Perm (s'.fp ++ rest)
  | [], sks, j, h => by
    refine fpL_set_perm sks j ?_
    rcases Nat.lt_or_ge j sks.length with h' | h'
    · exact h'
    · exact absurd (by simp [getSk, nthS_out _ _ h']) h
  | i :: p, sks, j, h => by
    have hj : j < sks.length := by
      rcases Nat.lt_or_ge j sks.length with h' | h'
      · exact h'
      · exact absurd (by simp only [getSk, nthS_out _ _ h', skCells]; exact getSk_nil p i) h
    obtain ⟨rest, h1, h2⟩ := fpL_set_perm sks j hj
    cases hs : nthS sks j with
    | node g n cap sz cs =>
      have hh : getSk p cs i ≠ .leaf := by simpa [getSk, hs, skCells] using h
      obtain ⟨rest', h3, h4⟩ := getSk_perm p cs i hh
      refine ⟨g :: rest' ++ rest, ?_, fun s' => ?_⟩
      · have e : getSk (i :: p) sks j = getSk p cs i := by simp [getSk, hs, skCells]
        rw [e]
        refine h1.trans ?_
        rw [hs]
        simp only [Sk.fp, List.cons_append]
        refine (List.Perm.cons g (List.Perm.append_right _ h3)).trans ?_
        rw [List.append_assoc]
        exact List.perm_middle.symm
      · have e : setSk (i :: p) sks j s' = sks.set j (.node g n cap sz (setSk p cs i s')) := by simp [setSk, hs, skSetCells]
        rw [e]
        refine (h2 _).trans ?_
        simp only [Sk.fp, List.cons_append]
        refine (List.Perm.cons g (List.Perm.append_right _ (h4 s'))).trans ?_
        rw [List.append_assoc]
        exact List.perm_middle.symm
    | leaf =>
      exact absurd (by simp only [getSk, hs, skCells]; exact getSk_nil p i) h
    | nil =>
      exact absurd (by simp only [getSk, hs, skCells]; exact getSk_nil p i) h

section own
variable {w w' : World} {G G' : Nat → Prop} {P : Program}

theorem OwnL.length : ∀ {vs : List Value} {xs : List V} {ss : List Sk}, OwnL w G P vs xs ss → vs.length = xs.length ∧ ss.length = xs.length
  | [], [], [], _ => ⟨rfl, rfl⟩
  | _ :: _, _ :: _, _ :: _, h => by simp only [OwnL] at h; have := OwnL.length h.2; simp [this.1, this.2]
  | [], _ :: _, _, h => by simp [OwnL] at h
  | [], [], _ :: _, h => by simp [OwnL] at h
  | _ :: _, [], _, h => by simp [OwnL] at h
  | _ :: _, _ :: _, [], h => by simp [OwnL] at h

theorem OwnL.append : ∀ {vs : List Value} {xs : List V} {ss : List Sk} {vs' : List Value} {xs' : List V} {ss' : List Sk},
    OwnL w G P vs xs ss → OwnL w G P vs' xs' ss' → OwnL w G P (vs ++ vs') (xs ++ xs') (ss ++ ss')
  | [], [], [], _, _, _, _, h => h
  | _ :: _, _ :: _, _ :: _, _, _, _, h, h' => by simp only [OwnL] at h; exact ⟨h.1, OwnL.append h.2 h'⟩
  | [], _ :: _, _, _, _, _, h, _ => by simp [OwnL] at h
  | [], [], _ :: _, _, _, _, h, _ => by simp [OwnL] at h
  | _ :: _, [], _, _, _, _, h, _ => by simp [OwnL] at h
  | _ :: _, _ :: _, [], _, _, _, h, _ => by simp [OwnL] at h

theorem OwnL.get : ∀ {vs : List Value} {xs : List V} {ss : List Sk}, OwnL w G P vs xs ss → ∀ k, k < xs.length →
    ∃ v, vs[k]? = some v ∧ OwnC w G P v (nthV xs k) (nthS ss k)
  | v :: _, _ :: _, _ :: _, h, 0, _ => by simp only [OwnL] at h; exact ⟨v, rfl, h.1⟩
  | _ :: _, _ :: _, _ :: _, h, k + 1, hk => by
    simp only [OwnL] at h
    simpa using OwnL.get h.2 k (by simpa using hk)
  | [], [], [], _, k, hk => by simp at hk
  | [], _ :: _, _, h, _, _ => by simp [OwnL] at h
  | [], [], _ :: _, h, _, _ => by simp [OwnL] at h
  | _ :: _, [], _, h, _, _ => by simp [OwnL] at h
  | _ :: _, _ :: _, [], h, _, _ => by simp [OwnL] at h

theorem OwnL.set : ∀ {vs : List Value} {xs : List V} {ss : List Sk}, OwnL w G P vs xs ss → ∀ k v x s, OwnC w G P v x s →
    OwnL w G P (vs.set k v) (xs.set k x) (ss.set k s)
  | _ :: _, _ :: _, _ :: _, h, 0, v, x, s, h' => by simp only [OwnL] at h; exact ⟨h', h.2⟩
  | _ :: _, _ :: _, _ :: _, h, k + 1, v, x, s, h' => by
    simp only [OwnL] at h
    exact ⟨h.1, OwnL.set h.2 k v x s h'⟩
  | [], [], [], _, k, _, _, _, _ => by simp [OwnL]
  | [], _ :: _, _, h, _, _, _, _, _ => by simp [OwnL] at h
  | [], [], _ :: _, h, _, _, _, _, _ => by simp [OwnL] at h
  | _ :: _, [], _, h, _, _, _, _, _ => by simp [OwnL] at h
  | _ :: _, _ :: _, [], h, _, _, _, _, _ => by simp [OwnL] at h

theorem OwnL.take : ∀ {vs : List Value} {xs : List V} {ss : List Sk}, OwnL w G P vs xs ss → ∀ k, OwnL w G P (vs.take k) (xs.take k) (ss.take k)
  | [], [], [], _, k => by simp [OwnL]
  | _ :: _, _ :: _, _ :: _, h, 0 => by simp [OwnL]
  | _ :: _, _ :: _, _ :: _, h, k + 1 => by simp only [OwnL] at h; exact ⟨h.1, OwnL.take h.2 k⟩
  | [], _ :: _, _, h, _ => by simp [OwnL] at h
  | [], [], _ :: _, h, _ => by simp [OwnL] at h
  | _ :: _, [], _, h, _ => by simp [OwnL] at h
  | _ :: _, _ :: _, [], h, _ => by simp [OwnL] at h

theorem fpL_take_sub : ∀ (ss : List Sk) (k : Nat), (fpL (ss.take k)).Sublist (fpL ss)
  | [], _ => by simp [fpL]
  | s :: l, 0 => by simp [fpL]
  | s :: l, k + 1 => by simp only [List.take_succ_cons, fpL]; exact List.Sublist.append (List.Sublist.refl _) (fpL_take_sub l k)

/- All blocks that are owned are there. -/
mutual
theorem OwnC.lt : ∀ (x : V) (v : Value) (s : Sk), OwnC w G P v x s → ∀ k ∈ s.fp, k < w.heap.size
  | .own e d cells, v, .nil, _, k, hk => by simp [Sk.fp] at hk
  | .own e d cells, v, .leaf, _, k, hk => by simp [Sk.fp] at hk
  | .own e d cells, v, .node g n cap sz sks, h, k, hk => by
    obtain ⟨cur, fr, h1, h2, h3, h4, h5, h6, h7, h8, h9, h10, h11⟩ := h
    simp only [Sk.fp, List.mem_cons] at hk
    rcases hk with rfl | hk
    · exact (Array.getElem?_eq_some_iff.1 h2).1
    · exact OwnL.lt cells _ sks h10 k hk
  | .bad, _, s, h, k, hk => by obtain rfl := h.1; simp [Sk.fp] at hk
  | .sc u, v, s, h, k, hk => by obtain ⟨rfl, _⟩ := h; simp [Sk.fp] at hk
  | .nl _, v, s, h, k, hk => by obtain ⟨rfl, _⟩ := h; simp [Sk.fp] at hk
  | .sl _ _, v, s, h, k, hk => by obtain ⟨rfl, _⟩ := h; simp [Sk.fp] at hk
  | .ag _, v, s, h, k, hk => by obtain ⟨rfl, _⟩ := h; simp [Sk.fp] at hk
  | .tp _, v, s, h, k, hk => by obtain ⟨rfl, _⟩ := h; simp [Sk.fp] at hk
  | .fn _ _ _, v, s, h, k, hk => by obtain ⟨rfl, _⟩ := h; simp [Sk.fp] at hk
  | .ifc _ _, v, s, h, k, hk => by obtain ⟨rfl, _⟩ := h; simp [Sk.fp] at hk
  | .ref _, v, s, h, k, hk => by obtain ⟨rfl, _⟩ := h; simp [Sk.fp] at hk
  | .vw _ _ _, v, s, h, k, hk => by obtain ⟨rfl, _⟩ := h; simp [Sk.fp] at hk
  | .ptrB _ _, v, s, h, k, hk => by obtain ⟨rfl, _⟩ := h; simp [Sk.fp] at hk
  | .ptrE _ _ _, v, s, h, k, hk => by obtain ⟨rfl, _⟩ := h; simp [Sk.fp] at hk
  | .pim _ _ _, v, s, h, k, hk => by obtain ⟨rfl, _⟩ := h; simp [Sk.fp] at hk
theorem OwnL.lt : ∀ (xs : List V) (vs : List Value) (ss : List Sk), OwnL w G P vs xs ss → ∀ k ∈ fpL ss, k < w.heap.size
  | [], [], [], _, k, hk => by simp [fpL] at hk
  | x :: xs, v :: vs, s :: ss, h, k, hk => by
    simp only [fpL, List.mem_append] at hk
    exact hk.elim (OwnC.lt x v s h.1 k) (OwnL.lt xs vs ss h.2 k)
  | [], _ :: _, _, h, _, _ => by simp [OwnL] at h
  | [], [], _ :: _, h, _, _ => by simp [OwnL] at h
  | _ :: _, [], _, h, _, _ => by simp [OwnL] at h
  | _ :: _, _ :: _, [], h, _, _ => by simp [OwnL] at h
end

theorem RgOk.lt {rg : Rg} {R : RG} (h : RgOk w G P rg R) : ∀ k ∈ R.fp, k < w.heap.size := by
  intro k hk
  simp only [RG.fp, List.mem_append, Option.mem_toList] at hk
  rcases hk with hk | hk
  · obtain ⟨⟨t, ht⟩, _⟩ := h.2.2 k hk
    exact (Array.getElem?_eq_some_iff.1 ht).1
  · exact OwnL.lt _ _ _ h.2.1 k hk

theorem RgOk.frame {rg : Rg} {R : RG} (h : RgOk w G P rg R) (hG : ∀ k, G k → w'.heap[k]? = w.heap[k]?) (hGG : ∀ k, G k → G' k)
    (hf : ∀ k ∈ R.fp, w'.heap[k]? = w.heap[k]?) : RgOk w' G' P rg R := by
  refine ⟨h.1, OwnL.frame hG hGG _ _ _ (fun k hk => hf k (by simp [RG.fp, hk])) h.2.1, fun b hb => ?_⟩
  obtain ⟨⟨t, ht⟩, hs⟩ := h.2.2 b hb
  exact ⟨⟨t, by rw [hf b (by simp [RG.fp, hb])]; exact ht⟩, hs⟩

/-- What is at a place, with its bones. -/
theorem OwnL.at : ∀ (p : List Nat) (row : List V) (j : Nat) (vals : List Value) (sks : List Sk), OwnL w G P vals row sks → getV p row j ≠ .bad →
    ∃ v, OwnC w G P v (getV p row j) (getSk p sks j) ∧ (p = [] → vals[j]? = some v)
  | [], row, j, vals, sks, h, hx => by
    have hj : j < row.length := by
      rcases Nat.lt_or_ge j row.length with h' | h'
      · exact h'
      · exact absurd (by simp [getV, nthV_out _ _ h']) hx
    obtain ⟨v, h1, h2⟩ := h.get j hj
    exact ⟨v, h2, fun _ => h1⟩
  | i :: p, row, j, vals, sks, h, hx => by
    have hj : j < row.length := by
      rcases Nat.lt_or_ge j row.length with h' | h'
      · exact h'
      · exact absurd (by simp only [getV, nthV_out _ _ h', ownXs]; exact getV_nil p i) hx
    obtain ⟨v, h1, h2⟩ := h.get j hj
    cases hr : nthV row j with
    | own e d cells =>
      rw [hr] at h2
      have ex : getV (i :: p) row j = getV p cells i := by simp [getV, hr, ownXs]
      cases hs : nthS sks j with
      | node g n cap sz cs =>
        rw [hs] at h2
        obtain ⟨cur, fr, g1, g2, g3, g4, g5, g6, g7, g8, g9, g10, g11⟩ := h2
        have es : getSk (i :: p) sks j = getSk p cs i := by simp [getSk, hs, skCells]
        rw [ex, es]
        obtain ⟨v', k1, _⟩ := OwnL.at p cells i _ cs g10 (by rwa [← ex])
        exact ⟨v', k1, fun h => by simp at h⟩
      | leaf => rw [hs] at h2; exact h2.elim
      | nil =>
        rw [hs] at h2
        obtain ⟨_, rfl⟩ := h2
        exact absurd (by rw [ex]; exact getV_nil p i) hx
    | _ => exact absurd (by simp only [getV, hr, ownXs]; exact getV_nil p i) hx

theorem cib_or {x : V} (h : x.cib = true) : x = .bad ∨ x.cim = true := by
  cases x <;> first | exact .inl rfl | exact .inr h
theorem cim_cib {x : V} (h : x.cim = true) : x.cib = true := by
  cases x <;> first | rfl | exact h
theorem cimL_cib : ∀ (l : List V), cimL l = true → cibL l = true
  | [], _ => rfl
  | x :: l, h => by simp only [cimL, Bool.and_eq_true] at h; simp [cibL, cim_cib h.1, cimL_cib l h.2]
theorem cibL_append (a b : List V) : cibL (a ++ b) = (cibL a && cibL b) := by
  induction a with
  | nil => simp [cibL]
  | cons x a ih => simp [cibL, ih, Bool.and_assoc]
theorem cibL_take : ∀ (l : List V) (k : Nat), cibL l = true → cibL (l.take k) = true
  | [], k, _ => by cases k <;> rfl
  | x :: l, 0, _ => rfl
  | x :: l, k + 1, h => by simp only [cibL, Bool.and_eq_true] at h; simp [cibL, h.1, cibL_take l k h.2]
theorem cibL_drop : ∀ (l : List V) (k : Nat), cibL l = true → cibL (l.drop k) = true
  | [], k, _ => by cases k <;> rfl
  | x :: l, 0, h => h
  | x :: l, k + 1, h => by simp only [cibL, Bool.and_eq_true] at h; simpa using cibL_drop l k h.2

theorem cimL_nth : ∀ (l : List V) (j : Nat), cibL l = true → nthV l j = .bad ∨ (nthV l j).cim = true
  | [], _, _ => .inl rfl
  | x :: l, 0, h => by simp only [cibL, Bool.and_eq_true] at h; exact cib_or h.1
  | x :: l, j + 1, h => by simp only [cibL, Bool.and_eq_true] at h; exact cimL_nth l j h.2

theorem imm_no_own : ∀ (p : List Nat) (l : List V) (j : Nat) (e : TypeId) (d : Bool) (xs : List V), cibL l = true → getV p l j ≠ .own e d xs
  | [], l, j, e, d, xs, h, hx => by
    simp only [getV] at hx
    rcases cimL_nth l j h with h' | h'
    · rw [hx] at h'; cases h'
    · rw [hx] at h'; simp [V.cim, V.imm] at h'
  | i :: p, l, j, e, d, xs, h, hx => by
    have : ownXs (nthV l j) = [] := by
      rcases cimL_nth l j h with h' | h'
      · rw [h']; rfl
      · cases hh : nthV l j <;> simp [ownXs]
        rw [hh] at h'; simp [V.cim, V.imm] at h'
    simp only [getV, this, getV_nil] at hx
    cases hx

theorem setV_length (q : List Nat) (row : List V) (i : Nat) (x : V) : (setV q row i x).length = row.length := by
  cases q <;> simp [setV]

/-- A change at a root cell. -/
theorem OwnL.put0 (hG : ∀ k, G k → w'.heap[k]? = w.heap[k]?) (hGG : ∀ k, G k → G' k) (x' : V) (s' : Sk) :
    ∀ (row : List V) (j : Nat) (vals : List Value) (sks : List Sk), OwnL w G P vals row sks → (fpL sks).Nodup → j < row.length →
    (∀ v, vals[j]? = some v → OwnC w G P v (nthV row j) (nthS sks j) → OwnC w' G' P v x' s') →
    (∀ k ∈ fpL sks, k ∉ (nthS sks j).fp → w'.heap[k]? = w.heap[k]?) →
    OwnL w' G' P vals (row.set j x') (sks.set j s')
  | [], _, _, _, _, _, hj, _, _ => by simp at hj
  | _ :: _, _, [], _, h, _, _, _, _ => by simp [OwnL] at h
  | _ :: _, _, _ :: _, [], h, _, _, _, _ => by simp [OwnL] at h
  | y :: ys, 0, v :: vs, s :: ss, h, hnd, hj, hput, hk => by
    simp only [OwnL] at h
    simp only [fpL, List.nodup_append] at hnd
    refine ⟨hput v rfl h.1, OwnL.frame hG hGG _ _ _ (fun k hk' => hk k (by simp [fpL, hk']) ?_) h.2⟩
    intro hm
    exact hnd.2.2 k (by simpa using hm) k hk' rfl
  | y :: ys, j + 1, v :: vs, s :: ss, h, hnd, hj, hput, hk => by
    simp only [OwnL] at h
    simp only [fpL, List.nodup_append] at hnd
    refine ⟨OwnC.frame hG hGG _ _ _ (fun k hk' => hk k (by simp [fpL, hk']) ?_) h.1,
      OwnL.put0 hG hGG x' s' ys j vs ss h.2 hnd.2.1 (by simpa using hj) (fun v hv => hput v (by simpa using hv)) (fun k hk1 hk2 => hk k (by simp [fpL, hk1]) (by simpa using hk2))⟩
    intro hm
    simp only [nthS_succ] at hm
    have hlt : j < ss.length := by
      rcases Nat.lt_or_ge j ss.length with h' | h'
      · exact h'
      · rw [nthS_out _ _ h'] at hm; simp [Sk.fp] at hm
    obtain ⟨rest, hp, _⟩ := fpL_set_perm ss j hlt
    exact hnd.2.2 k hk' k (hp.mem_iff.2 (List.mem_append_left _ hm)) rfl

/-- A change at a place at which an own slice is: what is put there is owned in the new world; all else stands. -/
theorem OwnL.put (hG : ∀ k, G k → w'.heap[k]? = w.heap[k]?) (hGG : ∀ k, G k → G' k) (x' : V) (s' : Sk) (e0 : TypeId) (d0 : Bool) (xs0 : List V) :
    ∀ (p : List Nat) (row : List V) (j : Nat) (vals : List Value) (sks : List Sk), OwnL w G P vals row sks → (fpL sks).Nodup →
    getV p row j = .own e0 d0 xs0 →
    (∀ v, OwnC w G P v (.own e0 d0 xs0) (getSk p sks j) → OwnC w' G' P v x' s') →
    (∀ k ∈ fpL sks, k ∉ (getSk p sks j).fp → w'.heap[k]? = w.heap[k]?) →
    OwnL w' G' P vals (setV p row j x') (setSk p sks j s')
  | [], row, j, vals, sks, h, hnd, hx, hput, hk => by
    have hj : j < row.length := by
      rcases Nat.lt_or_ge j row.length with h' | h'
      · exact h'
      · simp only [getV, nthV_out _ _ h'] at hx; cases hx
    exact OwnL.put0 hG hGG x' s' row j vals sks h hnd hj (fun v _ hv => hput v (by simp only [getV] at hx; rw [← hx]; exact hv)) hk
  | i :: p, row, j, vals, sks, h, hnd, hx, hput, hk => by
    have hj : j < row.length := by
      rcases Nat.lt_or_ge j row.length with h' | h'
      · exact h'
      · simp only [getV, nthV_out _ _ h', ownXs, getV_nil] at hx; cases hx
    obtain ⟨v, h1, h2⟩ := h.get j hj
    have hsl : j < sks.length := by have := h.length.2; omega
    obtain ⟨rest, hp, _⟩ := fpL_set_perm sks j hsl
    cases hr : nthV row j with
    | own e d cells =>
      rw [hr] at h2
      have ex : getV (i :: p) row j = getV p cells i := by simp only [getV, hr, ownXs]
      have esv : setV (i :: p) row j x' = row.set j (.own e d (setV p cells i x')) := by simp only [setV, hr, setOwn]
      rw [ex] at hx
      cases hs : nthS sks j with
      | node g n cap sz cs =>
        rw [hs] at h2 hp
        have es : getSk (i :: p) sks j = getSk p cs i := by simp only [getSk, hs, skCells]
        have ess : setSk (i :: p) sks j s' = sks.set j (.node g n cap sz (setSk p cs i s')) := by simp only [setSk, hs, skSetCells]
        rw [es] at hput hk
        have hsub : ∀ k, k ∈ (getSk p cs i).fp → k ∈ fpL cs := by
          by_cases hl : getSk p cs i = .leaf
          · intro k hk; rw [hl] at hk; simp [Sk.fp] at hk
          · obtain ⟨r2, hp2, _⟩ := getSk_perm p cs i hl
            exact fun k hk => hp2.mem_iff.2 (List.mem_append_left _ hk)
        have hndc : g ∉ fpL cs ∧ (fpL cs).Nodup := by
          have := hp.nodup_iff.1 hnd
          simp only [Sk.fp, List.cons_append, List.nodup_cons, List.mem_append, not_or, List.nodup_append] at this
          exact ⟨this.1.1, this.2.1⟩
        rw [esv, ess]
        refine OwnL.put0 hG hGG _ _ row j vals sks h hnd hj ?_ ?_
        · intro u _ hu
          rw [hr, hs] at hu
          obtain ⟨cur, fr, g1, g2, g3, g4, g5, g6, g7, g8, g9, g10, g11⟩ := hu
          have hgg : w'.heap[g]? = w.heap[g]? := hk g (hp.mem_iff.2 (by simp [Sk.fp])) (fun hm => hndc.1 (hsub g hm))
          refine ⟨cur, fr, g1, by rw [hgg]; exact g2, g3, g4, g5, g6, g7, g8, by rw [setV_length]; exact g9, ?_, ?_⟩
          · refine OwnL.put hG hGG x' s' e0 d0 xs0 p cells i _ cs g10 hndc.2 hx hput ?_
            intro k hk1 hk2
            exact hk k (hp.mem_iff.2 (by simp [Sk.fp, hk1])) hk2
          · intro hd
            exact absurd hx (imm_no_own p cells i e0 d0 xs0 (g11 hd))
        · intro k hk1 hk2
          rw [hs] at hk2
          exact hk k hk1 (fun hm => hk2 (by simp [Sk.fp, hsub k hm]))
      | leaf => rw [hs] at h2; exact h2.elim
      | nil =>
        rw [hs] at h2
        obtain ⟨_, rfl⟩ := h2
        rw [getV_nil] at hx; cases hx
    | _ => simp only [getV, hr, ownXs, getV_nil] at hx; cases hx
end own

set_option linter.unusedVariables false in
theorem nthV_slf : ∀ (l : List V) (j : Nat), nthV l j = .slf → l[j]? = some .slf
  | [], _, h => by cases h
  | x :: _, 0, h => by simpa [nthV] using h
  | _ :: l, j + 1, h => by simpa using nthV_slf l j h

set_option linter.unusedVariables false in
theorem setV_slf (p : List Nat) (row : List V) (j : Nat) (x : V) (hx : x ≠ .slf) (k : Nat)
    (h : (setV p row j x)[k]? = some .slf) : row[k]? = some .slf := by
  cases p with
  | nil =>
    simp only [setV, List.getElem?_set] at h
    split at h
    · split at h
      · exact absurd (Option.some.inj h) hx
      · cases h
    · exact h
  | cons i p =>
    simp only [setV, List.getElem?_set] at h
    split at h
    · next hjk =>
      subst hjk
      split at h
      · have h := Option.some.inj h
        refine nthV_slf row j ?_
        cases hv : nthV row j <;> rw [hv] at h <;> simp [setOwn] at h <;> rfl
      · cases h
    · exact h

theorem SelfOk.of {b : Nat} {row row' : List V} {vals : List Value} (h : SelfOk b row vals) (hr : ∀ k : Nat, row'[k]? = some .slf → row[k]? = some .slf) : SelfOk b row' vals :=
  fun k hk => h k (hr k hk)
theorem SelfOk.none {b : Nat} {row : List V} {vals : List Value} (h : ∀ x ∈ row, x ≠ .slf) : SelfOk b row vals :=
  fun k hk => absurd rfl (h _ (List.mem_of_getElem? hk))

end Go.Ab
