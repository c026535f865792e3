/- A function's call: its body, its results. -/
import Derived.Test.YtnjgofgogeileaaE39
namespace Go.Ab
open Go
set_option linter.unusedSimpArgs false
set_option linter.unusedVariables false

section
variable {C : Cfg} {P : Program} {fid : FuncId} {w0 w : World} {F : FG} {N : Nat} {st : St} {a : Act} {G : Nat → Prop} {gm : GM} {rd : Nm → Option Rg}

/-- What a result reads in memory. -/
def resRun (P : Program) (tmps : Array Value) (w : World) : ResultVar → Value → Prop
  | .tmp t, u => u = tmps.getD t undef
  | .cell x t, u => ∃ ad, (asAddr (tmps[x]?.getD undef)).run P w = .ok ad w ∧ (loadVar t ad).run P w = .ok u w
def resRuns (P : Program) (tmps : Array Value) (w : World) : List ResultVar → List Value → Prop
  | [], [] => True
  | r :: rs, u :: us => resRun P tmps w r u ∧ resRuns P tmps w rs us
  | _, _ => False

def resOf : List Value → Value
  | [u] => u
  | us => .tuple us.toArray

theorem results_run {fn : Func} {rs : List ResultVar} (h : fn.results.toList = rs) {tmps : Array Value} {us : List Value} (hl : rs.length ≤ 3) (hr : resRuns P tmps w rs us) :
    (results fn tmps).run P w = .ok (resOf us) w := by
  have hrs : fn.results = rs.toArray := by rw [← h]
  match rs, us, hr, hl with
  | [], [], _, _ => simp [results, hrs, resOf]
  | [r], [u], hr, _ =>
    obtain ⟨h1, _⟩ := hr
    cases r with
    | tmp t => simp only [resRun] at h1; subst h1; simp [results, hrs, resOf]
    | cell x t => obtain ⟨ad, h2, h3⟩ := h1; simp [results, hrs, resOf, h2, h3, Result.andThen]
  | [r, r'], [u, u'], hr, _ =>
    obtain ⟨h1, h1', _⟩ := hr
    cases r with
    | tmp t =>
      simp only [resRun] at h1; subst h1
      cases r' with
      | tmp t' => simp only [resRun] at h1'; subst h1'; simp [results, hrs, resOf, Result.andThen]
      | cell x' t' => obtain ⟨ad', h2', h3'⟩ := h1'; simp [results, hrs, resOf, h2', h3', Result.andThen]
    | cell x t =>
      obtain ⟨ad, h2, h3⟩ := h1
      cases r' with
      | tmp t' => simp only [resRun] at h1'; subst h1'; simp [results, hrs, resOf, h2, h3, Result.andThen]
      | cell x' t' => obtain ⟨ad', h2', h3'⟩ := h1'; simp [results, hrs, resOf, h2, h3, h2', h3', Result.andThen]
  | [r, r', r''], [u, u', u''], hr, _ =>
    obtain ⟨h1, h1', h1'', _⟩ := hr
    cases r with
    | tmp t =>
      simp only [resRun] at h1; subst h1
      cases r' with
      | tmp t' =>
        simp only [resRun] at h1'; subst h1'
        cases r'' with
        | tmp t'' => simp only [resRun] at h1''; subst h1''; simp [results, hrs, resOf, Result.andThen]
        | cell x'' t'' => obtain ⟨ad'', h2'', h3''⟩ := h1''; simp [results, hrs, resOf, h2'', h3'', Result.andThen]
      | cell x' t' =>
        obtain ⟨ad', h2', h3'⟩ := h1'
        cases r'' with
        | tmp t'' => simp only [resRun] at h1''; subst h1''; simp [results, hrs, resOf, h2', h3', Result.andThen]
        | cell x'' t'' => obtain ⟨ad'', h2'', h3''⟩ := h1''; simp [results, hrs, resOf, h2', h3', h2'', h3'', Result.andThen]
    | cell x t =>
      obtain ⟨ad, h2, h3⟩ := h1
      cases r' with
      | tmp t' =>
        simp only [resRun] at h1'; subst h1'
        cases r'' with
        | tmp t'' => simp only [resRun] at h1''; subst h1''; simp [results, hrs, resOf, h2, h3, Result.andThen]
        | cell x'' t'' => obtain ⟨ad'', h2'', h3''⟩ := h1''; simp [results, hrs, resOf, h2, h3, h2'', h3'', Result.andThen]
      | cell x' t' =>
        obtain ⟨ad', h2', h3'⟩ := h1'
        cases r'' with
        | tmp t'' => simp only [resRun] at h1''; subst h1''; simp [results, hrs, resOf, h2, h3, h2', h3', Result.andThen]
        | cell x'' t'' => obtain ⟨ad'', h2'', h3''⟩ := h1''; simp [results, hrs, resOf, h2, h3, h2', h3', h2'', h3'', Result.andThen]
  | [], _ :: _, hr, _ => exact hr.elim
  | _ :: _, [], hr, _ => exact hr.elim
  | [_], _ :: _ :: _, hr, _ => exact hr.2.elim
  | [_, _], [_], hr, _ => exact hr.2.elim
  | [_, _], _ :: _ :: _ :: _, hr, _ => exact hr.2.2.elim
  | [_, _, _], [_], hr, _ => exact hr.2.elim
  | [_, _, _], [_, _], hr, _ => exact hr.2.2.elim
  | [_, _, _], _ :: _ :: _ :: _ :: _, hr, _ => exact hr.2.2.2.elim
  | _ :: _ :: _ :: _ :: _, _, _, hl => simp at hl

theorem resVals_ok {deep : TypeId → Bool} (hI : Inv C.P w0 F N st a w G gm) : ∀ (rs : List ResultVar), (resVals C deep st rs).1 = true → ∃ us, RvL w G gm us (resVals C deep st rs).2 ∧ resRuns C.P a.tmps w rs us
  | [], _ => ⟨[], trivial, trivial⟩
  | r :: rs, h => by
    simp only [resVals, Bool.and_eq_true] at h ⊢
    obtain ⟨us, h1, h2⟩ := resVals_ok hI rs h.2
    cases r with
    | tmp t => exact ⟨a.tmps.getD t undef :: us, ⟨hI.env t, h1⟩, rfl, h2⟩
    | cell x t =>
      obtain ⟨b, o, v, k1, k2, k3, _⟩ := semLoad_ok hI (hI.env x) h.1
      exact ⟨v :: us, ⟨k3, h1⟩, ⟨_, by rw [← Array.getD_eq_getD_getElem?, k1]; simp [asAddr], k2⟩, h2⟩

/-! ### landing of results -/
theorem OwnL.split : ∀ (xs : List V) (vs : List Value) {ys : List V} {us : List Value} {ss : List Sk}, vs.length = xs.length → OwnL w G P (vs ++ us) (xs ++ ys) ss →
    ∃ s1 s2, ss = s1 ++ s2 ∧ OwnL w G P vs xs s1 ∧ OwnL w G P us ys s2
  | [], [], ys, us, ss, _, h => ⟨[], ss, rfl, trivial, h⟩
  | x :: xs, v :: vs, ys, us, s :: ss, hl, h => by
    obtain ⟨s1, s2, rfl, h1, h2⟩ := OwnL.split xs vs (by simpa using hl) h.2
    exact ⟨s :: s1, s2, rfl, ⟨h.1, h1⟩, h2⟩
  | x :: xs, v :: vs, ys, us, [], _, h => h.elim
  | [], _ :: _, _, _, _, hl, _ => by simp at hl
  | _ :: _, [], _, _, _, hl, _ => by simp at hl

theorem fpL_app (a b : List Sk) : fpL (a ++ b) = fpL a ++ fpL b := fpL_append a b

theorem nthS_app : ∀ (a b : List Sk) (i : Nat), nthS (a ++ b) (a.length + i) = nthS b i
  | [], b, i => by simp
  | x :: a, b, i => by
    rw [show (x :: a).length + i = (a.length + i) + 1 by simp; omega]
    exact nthS_app a b i
theorem nthS_app_lt : ∀ (a b : List Sk) (i : Nat), i < a.length → nthS (a ++ b) i = nthS a i
  | [], b, i, h => by simp at h
  | x :: a, b, 0, _ => rfl
  | x :: a, b, i + 1, h => nthS_app_lt a b i (by simpa using h)

theorem ResL.length : ∀ {us : List Value} {ys : List V}, ResL us ys → us.length = ys.length
  | [], [], _ => rfl
  | _ :: _, _ :: _, h => by simp [ResL.length h.2]
  | [], _ :: _, h => h.elim
  | _ :: _, [], h => h.elim

theorem compressR : ∀ (us : List Value) (ys : List V) (sks : List Sk) (j : Nat), ResL us ys → OwnL w G P (us.flatMap fun u => u.cells.toList) (ys.flatMap resCells) sks → (∀ y ∈ ys.flatMap resCells, y ≠ .slf) →
    ∃ (ovals : List Value) (osks : List Sk), OwnL w G P ovals (landL .hand j ys).2 osks ∧ fpL osks = fpL sks ∧
      ∀ gm' : GM, (∀ i, i < osks.length → ∃ R, gm' .hand = some R ∧ nthS R.sks (j + i) = nthS osks i) → RvL w G gm' us (landL .hand j ys).1
  | [], [], sks, j, _, h, _ => by
    cases sks with
    | nil => exact ⟨[], [], trivial, rfl, fun _ _ => trivial⟩
    | cons s ss => exact h.elim
  | u :: us, y :: ys, sks, j, hr, h, hns => by
    simp only [List.flatMap_cons] at h hns
    obtain ⟨hr1, hr2⟩ := hr
    have hlen : u.cells.toList.length = (resCells y).length := by
      rcases hr1 with ⟨xs, cs, rfl, rfl, hl⟩ | ⟨h1, h2⟩
      · exact hl
      · rw [h2]; cases y <;> first | rfl | exact absurd rfl (h1 _)
    obtain ⟨s1, s2, rfl, o1, o2⟩ := OwnL.split _ _ hlen h
    obtain ⟨ov1, os1, a1, a2, a3⟩ := compress (resCells y) u.cells.toList s1 j o1 (fun z hz => hns z (List.mem_append_left _ hz))
    obtain ⟨ov2, os2, b1, b2, b3⟩ := compressR us ys s2 (j + (y.land .hand j).2.length) hr2 o2 (fun z hz => hns z (List.mem_append_right _ hz))
    have hrow : (landL .hand j (resCells y)).2 = (y.land .hand j).2 := by
      rcases hr1 with ⟨xs, cs, rfl, rfl, hl⟩ | ⟨h1, h2⟩
      · rfl
      · have : resCells y = [y] := by cases y <;> first | rfl | exact absurd rfl (h1 _)
        rw [this]; simp [landL]
    rw [hrow] at a1
    have hl1 : os1.length = (y.land .hand j).2.length := a1.length.2
    refine ⟨ov1 ++ ov2, os1 ++ os2, ?_, by simp [fpL_app, a2, b2], fun gm' hg => ?_⟩
    · simp only [landL]
      exact OwnL.append a1 b1
    · simp only [landL]
      have hg1 : ∀ i, i < os1.length → ∃ R, gm' .hand = some R ∧ nthS R.sks (j + i) = nthS os1 i := fun i hi => by
        obtain ⟨R, h1, h2⟩ := hg i (by simp; omega)
        exact ⟨R, h1, by rw [h2, nthS_app_lt _ _ _ hi]⟩
      have hg2 : ∀ i, i < os2.length → ∃ R, gm' .hand = some R ∧ nthS R.sks (j + (y.land .hand j).2.length + i) = nthS os2 i := fun i hi => by
        obtain ⟨R, h1, h2⟩ := hg (os1.length + i) (by simp; omega)
        refine ⟨R, h1, ?_⟩
        rw [nthS_app] at h2
        rw [← h2, ← hl1, Nat.add_assoc]
      refine ⟨?_, b3 gm' hg2⟩
      have k := a3 gm' hg1
      rcases hr1 with ⟨xs, cs, rfl, rfl, hl⟩ | ⟨h1, h2⟩
      · exact ⟨cs, rfl, k⟩
      · have e : resCells y = [y] := by cases y <;> first | rfl | exact absurd rfl (h1 _)
        rw [h2, e] at k
        exact k.1
  | [], _ :: _, _, _, hr, _, _ => hr.elim
  | _ :: _, [], _, _, hr, _, _ => hr.elim

/-! ### own slices that go out as values -/
def notAg (x : V) : Prop := ∀ xs, x ≠ .ag xs

theorem coe_one (P : Program) (h : Sh) {y : V} (hy : notAg y) : (h.coe P y = y ∨ ∃ e d zs, y = .own e d zs ∧ h.coe P y = Ab.frz P y) ∧ notAg (h.coe P y) := by
  cases h <;> cases y <;> first
    | exact absurd rfl (hy _)
    | exact ⟨.inl rfl, hy⟩
    | exact ⟨.inr ⟨_, _, _, rfl, rfl⟩, fun xs => by simp [Sh.coe, Ab.frz]⟩

theorem coeL_cells (P : Program) : ∀ (l : List Sh) (xs : List V), (∀ x ∈ xs, notAg x) → CoeR P xs (Sh.coeL P l xs)
  | [], xs, _ => by simp only [Sh.coeL]; exact CoeR.refl xs
  | h :: l, [], _ => by simp only [Sh.coeL]; trivial
  | h :: l, x :: xs, hx => by
    simp only [Sh.coeL]
    exact ⟨(coe_one P h (hx x (by simp))).1, coeL_cells P l xs (fun y hy => hx y (by simp [hy]))⟩

theorem coeL_length (P : Program) : ∀ (l : List Sh) (xs : List V), (Sh.coeL P l xs).length = xs.length
  | [], xs => by simp [Sh.coeL]
  | h :: l, [] => by simp [Sh.coeL]
  | h :: l, x :: xs => by simp [Sh.coeL, coeL_length P l xs]

theorem coe_res (P : Program) (h : Sh) {u : Value} {y : V} (hr : ResV u y) (hc : ∀ x ∈ resCells y, notAg x) : ResV u (h.coe P y) ∧ CoeR P (resCells y) (resCells (h.coe P y)) := by
  rcases hr with ⟨xs, cs, rfl, rfl, hl⟩ | ⟨h1, h2⟩
  · cases h with
    | ag l => exact ⟨.inl ⟨_, cs, rfl, rfl, by rw [coeL_length]; exact hl⟩, coeL_cells P l xs hc⟩
    | _ => exact ⟨.inl ⟨xs, cs, rfl, rfl, hl⟩, CoeR.refl _⟩
  · obtain ⟨k1, k2⟩ := coe_one P h h1
    have e : ∀ z : V, notAg z → resCells z = [z] := fun z hz => by cases z <;> first | rfl | exact absurd rfl (hz _)
    refine ⟨.inr ⟨k2, h2⟩, ?_⟩
    rw [e _ h1, e _ k2]
    exact ⟨k1, trivial⟩

theorem coeL_res (P : Program) : ∀ (l : List Sh) (us : List Value) (ys : List V), ResL us ys → (∀ x ∈ ys.flatMap resCells, notAg x) → ResL us (Sh.coeL P l ys) ∧ CoeR P (ys.flatMap resCells) ((Sh.coeL P l ys).flatMap resCells)
  | [], us, ys, hr, _ => by simp only [Sh.coeL]; exact ⟨hr, CoeR.refl _⟩
  | h :: l, [], [], _, _ => ⟨trivial, trivial⟩
  | h :: l, u :: us, y :: ys, hr, hc => by
    simp only [List.flatMap_cons, List.mem_append] at hc
    obtain ⟨a1, a2⟩ := coe_res P h hr.1 (fun x hx => hc x (.inl hx))
    obtain ⟨b1, b2⟩ := coeL_res P l us ys hr.2 (fun x hx => hc x (.inr hx))
    simp only [Sh.coeL, List.flatMap_cons]
    exact ⟨⟨a1, b1⟩, CoeR.append a2 b2⟩
  | _ :: _, [], _ :: _, hr, _ => hr.elim
  | _ :: _, _ :: _, [], hr, _ => hr.elim

theorem OwnL.notAg : ∀ {vs : List Value} {xs : List V} {ss : List Sk}, OwnL w G P vs xs ss → ∀ x ∈ xs, notAg x
  | [], [], [], _, x, hx => by simp at hx
  | v :: vs, y :: ys, s :: ss, h, x, hx => by
    simp only [List.mem_cons] at hx
    rcases hx with rfl | hx
    · rintro xs rfl
      have := h.1.2.1
      simp [V.cim, V.isCell] at this
    · exact OwnL.notAg h.2 x hx
  | [], _ :: _, _, h, _, _ => by simp [OwnL] at h
  | [], [], _ :: _, h, _, _ => by simp [OwnL] at h
  | _ :: _, [], _, h, _, _ => by simp [OwnL] at h
  | _ :: _, _ :: _, [], h, _, _ => by simp [OwnL] at h

theorem CoeR.slf : ∀ {xs ys : List V}, CoeR P xs ys → (∀ x ∈ xs, x ≠ .slf) → ∀ y ∈ ys, y ≠ .slf
  | [], [], _, _, y, hy => by simp at hy
  | x :: xs, z :: ys, h, hx, y, hy => by
    simp only [List.mem_cons] at hy
    rcases hy with rfl | hy
    · rcases h.1 with h1 | ⟨e, d, zs, h1, h2⟩
      · rw [h1]; exact hx x (by simp)
      · rw [h2, h1]; simp [Ab.frz]
    · exact CoeR.slf h.2 (fun x' hx' => hx x' (by simp [hx'])) y hy
  | [], _ :: _, h, _, _, _ => h.elim
  | _ :: _, [], h, _, _, _ => h.elim
end
end Go.Ab
