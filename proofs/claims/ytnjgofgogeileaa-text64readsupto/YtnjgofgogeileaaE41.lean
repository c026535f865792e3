/- A function's call is sound. -/
import Derived.Test.YtnjgofgogeileaaE40
namespace Go.Ab
open Go
set_option linter.unusedSimpArgs false
set_option linter.unusedVariables false

section
variable {C : Cfg} {P : Program} {fid : FuncId} {w0 w : World} {F : FG} {N : Nat} {st : St} {a : Act} {G : Nat → Prop} {gm : GM} {rd : Nm → Option Rg}

theorem Rv.skAt_own (hI : Inv P w0 F N st a w G gm) {q : Pl} {e : TypeId} {d : Bool} {xs : List V} (hq : ownAt st.regs q = some (e, d, xs)) : skAt gm q ≠ .leaf := by
  obtain ⟨rg, hr, hx⟩ := ownAt_some hq
  obtain ⟨R, hg, hok⟩ := hI.regs.ok hr
  obtain ⟨v, hv, _⟩ := OwnL.at q.p rg.row q.j R.vals R.sks hok.2.1 (by rw [hx]; simp)
  rw [hx] at hv
  intro hl
  simp only [skAt, hg] at hl
  rw [hl] at hv
  exact hv.elim

/-- The regions that are handed back, and the hand. -/
def endG (np : Nat) (gm : GM) (R : RG) : GM
  | .hand => some R
  | .par i => bif Nat.blt i np then gm (.par i) else none
  | .loc _ => none

theorem end_regs {rd : Nm → Option Rg} {row rows : List V} {vals ovals : List Value} {sks osks : List Sk} {np : Nat} {gs' : List Rg} {G' : Nat → Prop}
    (h : Regs P w0 F (withHand rd row) w G gm) (hh : gm .hand = some ⟨none, vals, sks⟩) (hgs : (List.range np).map (fun i => rd (.par i)) = gs'.map some)
    (hown : OwnL w G' P ovals rows osks) (hsub : (fpL osks).Sublist (fpL sks)) (hG1 : ∀ b, G b → G' b) (hG2 : ∀ b, G' b → G b ∨ (b ∈ fpL sks ∧ b ∉ fpL osks)) :
    Regs P w0 F (withHand (parR gs') rows) w G' (endG np gm ⟨none, ovals, osks⟩) := by
  have hlen : gs'.length = np := by simpa using (congrArg List.length hgs).symm
  have hat : ∀ i, i < np → ∃ g, gs'[i]? = some g ∧ rd (.par i) = some g := by
    intro i hi
    have : ((List.range np).map (fun i => rd (.par i)))[i]? = some (rd (.par i)) := by
      rw [List.getElem?_map, List.getElem?_range hi]; rfl
    rw [hgs, List.getElem?_map] at this
    cases hg : gs'[i]? with
    | none => rw [hg] at this; cases this
    | some g => rw [hg] at this; exact ⟨g, rfl, (Option.some.inj this).symm⟩
  have hpar : ∀ i R, endG np gm ⟨none, ovals, osks⟩ (.par i) = some R → i < np ∧ gm (.par i) = some R := by
    intro i R hR
    simp only [endG] at hR
    cases hb : Nat.blt i np with
    | false => rw [hb] at hR; cases hR
    | true => rw [hb] at hR; exact ⟨nblt hb, hR⟩
  have hfp : ∀ R, (endG np gm ⟨none, ovals, osks⟩) .hand = some R → R.fp = fpL osks := by
    intro R hR
    obtain rfl := Option.some.inj hR
    simp [RG.fp]
  have hin : ∀ b, b ∈ fpL sks → InC (fun _ => True) gm b := fun b hb => ⟨.hand, _, trivial, hh, by simp [RG.fp, hb]⟩
  refine h.change (fun _ => True) (fun _ _ _ => rfl) rfl rfl rfl (Nat.le_refl _) (fun r hr => absurd trivial hr) ?_ ?_ ?_ ?_ hG1 ?_ ?_
  · intro r _
    cases r with
    | loc i => trivial
    | hand => exact ⟨rfl, hown, fun b hb => by cases hb⟩
    | par i =>
      rw [withHand_ne _ _ (by simp)]
      simp only [parR, endG]
      cases hb : Nat.blt i np with
      | false =>
        have : np ≤ i := by
          rcases Nat.lt_or_ge i np with h' | h'
          · have : Nat.blt i np = true := by simp [Nat.blt]; omega
            rw [hb] at this; cases this
          · exact h'
        rw [List.getElem?_eq_none (by omega)]
        trivial
      | true =>
        obtain ⟨g, h1, h2⟩ := hat i (nblt hb)
        obtain ⟨R, h3, h4⟩ := h.ok (show withHand rd row (.par i) = some g by rw [withHand_ne _ _ (by simp)]; exact h2)
        rw [h1]
        simp only [cond_true, h3]
        exact h4.frame (fun _ _ => rfl) hG1 (fun _ _ => rfl)
  · intro r R _ hR
    cases r with
    | loc i => cases hR
    | hand =>
      rw [hfp R hR]
      refine hsub.nodup ?_
      have := h.nodup _ _ hh
      simpa [RG.fp] using this
    | par i => exact h.nodup _ _ (hpar i R hR).2
  · intro r r' R R' _ _ hne hR hR' b hb hb'
    have toH : ∀ R, (endG np gm ⟨none, ovals, osks⟩) .hand = some R → b ∈ R.fp → b ∈ (⟨none, vals, sks⟩ : RG).fp := by
      intro R hR hb
      rw [hfp R hR] at hb
      simp only [RG.fp, Option.toList, List.nil_append]
      exact hsub.subset hb
    cases r with
    | loc i => cases hR
    | hand =>
      cases r' with
      | loc i => cases hR'
      | hand => exact hne rfl
      | par i => exact h.disj _ _ _ _ (by simp) hh (hpar i R' hR').2 b (toH R hR hb) hb'
    | par i =>
      cases r' with
      | loc i => cases hR'
      | hand => exact h.disj _ _ _ _ (by simp) (hpar i R hR).2 hh b hb (toH R' hR' hb')
      | par k => exact h.disj _ _ _ _ hne (hpar i R hR).2 (hpar k R' hR').2 b hb hb'
  · intro r R b _ hR hb
    refine .inl ?_
    cases r with
    | loc i => cases hR
    | hand =>
      rw [hfp R hR] at hb
      exact hin b (hsub.subset hb)
    | par i => exact ⟨.par i, R, trivial, (hpar i R hR).2, hb⟩
  · intro b hb
    rcases hG2 b hb with h1 | ⟨h1, h2⟩
    · exact .inl h1
    · refine .inr ⟨.inl (hin b h1), h.lt hh b (by simp [RG.fp, h1]), ?_⟩
      rintro ⟨r, R, _, hR, hbR⟩
      cases r with
      | loc i => cases hR
      | hand => rw [hfp R hR] at hbR; exact h2 hbR
      | par i => exact h.disj _ _ _ _ (by simp) (hpar i R hR).2 hh b hbR (by simp [RG.fp, h1])
  · intro i R _ hR
    exact h.par i R (hpar i R hR).2

theorem land_tp (vs : List V) : (V.tp vs).land .hand 0 = (.tp (landL .hand 0 vs).1, (landL .hand 0 vs).2) := rfl

theorem end_ok (hI : Inv C.P w0 F N st a w G gm) {fn : Func} {np : Nat} {v : V} {gs' : List Rg} (h : endOf C fid fn.results.toList np st = some (v, gs')) :
    ∃ res, (results fn a.tmps).run C.P w = .ok res w ∧ Back C.P w0 F v gs' res w := by
  simp only [endOf] at h
  cases hc : ((resVals C (C.deep fid) st fn.results.toList).1 && (takeAll C (C.deep fid) (resVals C (C.deep fid) st fn.results.toList).2 st.regs).1 && Nat.ble fn.results.toList.length 3) with
  | false => rw [hc] at h; cases h
  | true =>
    rw [hc] at h
    simp only [cond_true] at h
    simp only [Bool.and_eq_true] at hc
    obtain ⟨⟨hc1, hc2⟩, hc3⟩ := hc
    split at h
    · next gs hgs =>
      obtain ⟨us, hu, hrun⟩ := resVals_ok hI _ hc1
      obtain ⟨gm1, s1, s2, s3, _⟩ := hI.start []
      rw [mix_only] at s1
      have hlive : Live st.regs gm gm1 := Live.of_stay s3 (fun q e d xs hq => Rv.skAt_own hI hq)
      have hno := RvL.no_name (hI.regs.none hI.hand) _ _ hu
      have hno' : ∀ x ∈ (resVals C (C.deep fid) st fn.results.toList).2, Nm.hand ∉ x.names := by
        have key : ∀ (l : List V), Nm.hand ∉ namesL l → ∀ x ∈ l, Nm.hand ∉ x.names := by
          intro l
          induction l with
          | nil => intro _ x hx; simp at hx
          | cons y l ih =>
            intro hn x hx
            simp only [namesL, List.mem_append, not_or] at hn
            simp only [List.mem_cons] at hx
            rcases hx with rfl | hx
            · exact hn.1
            · exact ih hn.2 x hx
        exact key _ hno
      obtain ⟨G2, gm2, ss, t1, t2, t3, t4, t5, t6⟩ := takeAll_ok _ _ hu hno' s1 s2 rfl rfl hI.hand (fun _ h => h) hlive hc2
      simp only [List.nil_append] at t2 t3
      obtain ⟨_, hown⟩ := hand_ok t2 t3
      obtain ⟨c1, c2⟩ := coeL_res C.P (shParts (C.sig fid)) _ _ t5 (OwnL.notAg hown)
      have hnd : (fpL ss).Nodup := by
        have := t2.nodup _ _ t3
        simpa [RG.fp] using this
      obtain ⟨ss', r1, r2⟩ := retire _ _ _ _ hown hnd c2
      let G3 : Nat → Prop := fun b => G2 b ∨ (b ∈ fpL ss ∧ b ∉ fpL ss')
      have hown3 := r2 G3 (fun b hb => .inl hb) (fun b h1 h2 => .inr ⟨h1, h2⟩)
      obtain ⟨ov, os, o1, o2, o3⟩ := compressR _ _ _ 0 c1 hown3 (CoeR.slf c2 t6)
      have hreg := end_regs (np := np) (rows := (landL .hand 0 (Sh.coeL C.P (shParts (C.sig fid)) (takeAll C (C.deep fid) (resVals C (C.deep fid) st fn.results.toList).2 st.regs).2.1)).2) t2 t3 (allSome_spec _ _ hgs) o1 (by rw [o2]; exact r1) (fun b hb => .inl hb) (fun b hb => by rw [o2]; exact hb)
      have hrv := o3 (endG np gm2 ⟨none, ov, os⟩) (fun i hi => ⟨_, rfl, by simp⟩)
      refine ⟨resOf us, results_run rfl (nble hc3) hrun, ?_⟩
      simp only [Option.some.injEq, Prod.mk.injEq] at h
      obtain ⟨hv, rfl⟩ := h
      generalize hys : Sh.coeL C.P (shParts (C.sig fid)) (takeAll C (C.deep fid) (resVals C (C.deep fid) st fn.results.toList).2 st.regs).2.1 = ys at hv hreg hrv c1
      have hl := c1.length
      match ys, us, hl with
      | [], [], _ =>
        subst hv
        exact ⟨G3, _, hreg, ⟨_, rfl, by simpa using hrv⟩⟩
      | [y], [u], _ =>
        simp only at hv
        subst hv
        refine ⟨G3, _, by simpa [landL] using hreg, ?_⟩
        simpa [landL, RvL, resOf] using hrv
      | y1 :: y2 :: ys, u1 :: u2 :: us, _ =>
        subst hv
        exact ⟨G3, _, hreg, ⟨_, rfl, by simpa using hrv⟩⟩
    · cases h

theorem callBody_ok {prim : FuncId → Option PrimT}
    (hP : ∀ g p, prim g = some p → ∀ vs gs v gs', p vs gs = (true, v, gs') → ∀ (args : Array Value) (w : World) (F : FG) (Rs : List RG), Regs C.P w F (parR gs) w F.g (parG Rs) → RvL w F.g (parG Rs) args.toList vs → Enter C.P g args w (Back C.P w F v gs'))
    {X : FuncId → Code → List Nat → St → (Ex → St → Option (V × List Rg)) → Option (V × List Rg)} (hX : ∀ f c, CodeSound C f (V × List Rg) (X f) c) : CallSound C.P (optK (callBody C prim X)) := by
  intro g vs gs v gs' h0 args w F Rs hR hv
  have h : callBody C prim X g vs gs = some (v, gs') := by
    simp only [optK] at h0
    split at h0
    · next r hr => rw [hr]; simp only [Prod.mk.injEq, true_and] at h0; rw [h0]
    · cases h0
  unfold callBody at h
  cases hp : prim g with
  | some p =>
    rw [hp] at h
    simp only at h
    cases hb : (p vs gs).1 with
    | false => rw [hb] at h; cases h
    | true =>
      rw [hb] at h
      simp only [cond_true, Option.some.injEq] at h
      exact hP g p hp vs gs v gs' (by rw [← h]; rw [← hb]) args w F Rs hR hv
  | none =>
    rw [hp] at h
    simp only at h
    cases hf : C.P.funcs[g]? with
    | none => rw [hf] at h; cases h
    | some fn =>
      rw [hf] at h
      simp only at h
      cases hb : fn.body with
      | none => rw [hb] at h; cases h
      | some c =>
        rw [hb] at h
        simp only at h
        cases hc : (codeOk fn.ntmps c && Nat.ble vs.length fn.ntmps && !(fn.name == "runtime.NumGoroutine")) with
        | false => rw [hc] at h; cases h
        | true =>
          rw [hc] at h
          simp only [cond_true] at h
          simp only [Bool.and_eq_true] at hc
          obtain ⟨⟨h1, h2⟩, h3⟩ := hc
          have hcf : (callFunc g args).run C.P w = .ok (.enter g args) w := by
            have hn : (fn.name == "runtime.NumGoroutine") = false := by simpa using h3
            have hn2 : ¬ fn.name = "runtime.NumGoroutine" := by simpa using hn
            simp [callFunc, hf, hn2, hb, Result.andThen]
          unfold Enter
          rw [hcf]
          have hlen : args.size ≤ fn.ntmps := by
            have := hv.length
            have h2 := nble h2
            rw [← Array.length_toList]; omega
          have hI := start_ok hR hv hlen
          refine calls_of_wp hf hb ?_
          refine hX g c [] _ _ _ h w F fn.ntmps h1 _ w F.g (parG Rs) hI _ ?_
          intro e st' a' w' G' gm' hk hG hI'
          cases e with
          | ex i => cases hk
          | nm =>
            obtain ⟨res, k1, k2⟩ := end_ok hI' hk
            exact ⟨hI'.defers, res, k1, res, rfl, k2⟩
          | rt =>
            obtain ⟨res, k1, k2⟩ := end_ok hI' hk
            exact ⟨hI'.defers, res, k1, res, rfl, k2⟩

/-- Every call of the machine is sound. -/
theorem callE_ok {prim : FuncId → Option PrimT} (hm : C.P.follows .mixedOrders = true)
    (hP : ∀ g p, prim g = some p → ∀ vs gs v gs', p vs gs = (true, v, gs') → ∀ (args : Array Value) (w : World) (F : FG) (Rs : List RG), Regs C.P w F (parR gs) w F.g (parG Rs) → RvL w F.g (parG Rs) args.toList vs → Enter C.P g args w (Back C.P w F v gs'))
    (k : Nat) : CallSound C.P (optK (callE C prim k)) :=
  callBody_ok hP (fun f c => recE_ok hm (fun _ hX => callBody_ok hP hX) k _ f c)
end
end Go.Ab
