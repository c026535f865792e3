/- Calls come to their effects. -/
import Derived.Test.YtnjgofgogeileaaE27
namespace Go.Ab
open Go
set_option linter.unusedSimpArgs false
set_option linter.unusedVariables false

section
variable {C : Cfg} {callK : CallK} {w0 w w' : World} {F : FG} {N : Nat} {st : St} {a : Act} {G G' G1 : Nat → Prop} {gm gm' : GM} {T : List Nm}

theorem RvL.append : ∀ {vs vs' : List Value} {xs xs' : List V}, RvL w G gm vs xs → RvL w G gm vs' xs' → RvL w G gm (vs ++ vs') (xs ++ xs')
  | [], _, [], _, _, h => h
  | _ :: _, _, _ :: _, _, h, h' => ⟨h.1, RvL.append h.2 h'⟩
  | [], _, _ :: _, _, h, _ => h.elim
  | _ :: _, _, [], _, h, _ => h.elim

theorem run_call_op {P : Program} (w : World) {o : Oper} {f : Operand} {xs : Array Operand} {ts : Array TypeId} (ho : o.op = .call ⟨.value f, xs, ts⟩) {g : FuncId} {first caps : Array Value} (hf : a.eval f = .func (.func g) first caps) :
    (execOp a.eval o).run P w = (callFunc g (first ++ xs.map a.eval ++ caps)).run P w := by
  simp [execOp, ho, resolve, hf, Deferred.ofValue, invoke]

theorem wp_of_enter {P : Program} {o : Oper} {g : FuncId} {args : Array Value} {R : Value → World → Prop} (hr : (execOp a.eval o).run P w = (callFunc g args).run P w) (he : Enter P g args w R)
    {K : Act → World → Prop} {Q : Exit → Act → World → Prop} (hk : ∀ v w', R v w' → K (a.put o.dst v) w') : o.wp P a w K Q := by
  unfold Oper.wp
  rw [hr]
  unfold Enter at he
  split at he
  · next v w' h => rw [h]; exact hk v w' he
  · next f as w' h =>
    rw [h, Oper.upon_enter]
    refine Calls.mono he (fun e w'' hx => ?_)
    obtain ⟨v, rfl, hv⟩ := hx
    exact hk v w'' hv
  · next row as w' h =>
    rw [h, Oper.upon_row]
    exact Rows.mono he (fun v w'' hv => hk v w'' hv)
  · exact he.elim

/-- What a call does, given how the state is read when it begins. -/
theorem callRest (hK : CallSound C.P callK) {o : Oper} {g : FuncId} {args : Array Value} (hrun : (execOp a.eval o).run C.P w = (callFunc g args).run C.P w)
    (hI : Inv C.P w0 F N st a w G gm) (hd : ∀ x, o.dst = some x → x < N) {vs1 : List V} (hv : RvL w G gm args.toList vs1) {T : List Nm} {gs : List Rg} (hgs : (dedup (namesL vs1)).map (only T st.regs) = gs.map some)
    {v : V} {gs' : List Rg} (hk : callK g (renL (fun n => .par (idxOf n (dedup (namesL vs1)))) vs1) gs = (true, v, gs')) {sh : Sh} (hok : (semRet o.dst (only T st.regs) (dedup (namesL vs1)) gs sh v gs').ok = true)
    {K : Act → World → Prop} {Q : Exit → Act → World → Prop}
    (hKK : ∀ a' w' G' gm', (∀ b, G b → G' b) → Inv C.P w0 F N (st.app (semRet o.dst (only T st.regs) (dedup (namesL vs1)) gs sh v gs') o.dst) a' w' G' gm' → K a' w') : o.wp C.P a w K Q := by
  have hnd := dedup_nodup (namesL vs1)
  have hbh : Nm.hand ∉ dedup (namesL vs1) := fun h => RvL.no_name (hI.regs.none hI.hand) _ _ hv ((dedup_mem _ _).1 h)
  have hgs2 : (dedup (namesL vs1)).map st.regs = gs.map some := by
    rw [← hgs]
    apply List.map_congr_left
    intro n hn
    have : only T st.regs n ∈ gs.map some := by rw [← hgs]; exact List.mem_map_of_mem hn
    obtain ⟨g0, _, hg⟩ := List.mem_map.1 this
    rw [← hg, only_some hg.symm]
  obtain ⟨Rs, h1, h2, h3⟩ := pass_ok (G1 := G) hI.regs hnd hgs2 (fun _ h => h) hI.regs.old (fun r R b _ hR hb => hI.regs.apart r R b hR hb)
  have hargs : RvL w G (parG Rs) args.toList (renL (fun n => .par (idxOf n (dedup (namesL vs1)))) vs1) := by
    refine RvL.ren _ vs1 _ (fun n hn => ?_) hv
    exact (h2 _ n (bn_at ((dedup_mem _ _).2 hn))).symm
  refine wp_of_enter hrun (hK g _ gs v gs' hk args w (handF _ gm G gs Rs) Rs h3 hargs) (fun res w' hb => ?_)
  obtain ⟨G2, gm2, k1, k2⟩ := back_ok hI hd hnd hbh hgs h1 h2 hok hb
  exact hKK _ w' G2 gm2 k1 k2

theorem only_fz {ns : List Nm} {P : Program} {n : Nm} (h : n.mem ns = false) (T : List Nm) : only T (st.fz P ns).regs n = only T st.regs n := by
  simp only [only, St.fz, h, cond_false]

/-- A call of a function. -/
theorem call_ok (hK : CallSound C.P callK) (hI : Inv C.P w0 F N st a w G gm) {o : Oper} (hd : ∀ x, o.dst = some x → x < N) {f : Operand} {xs : Array Operand} {ts : Array TypeId} (ho : o.op = .call ⟨.value f, xs, ts⟩)
    {g : FuncId} {first caps ws : List V} (hvs : (argsOf C.P o).map (opd C.P st.env) = .fn g first caps :: ws) (hxs : ws.length = xs.size) {T : List Nm} {p : Prep} (hp : prep C g (only T st.regs) (first ++ ws ++ caps) = p) (hpok : p.ok = true)
    {fr : Bool} (hfr : (!((C.sig g).scalar && p.bn.isEmpty) && !p.bv.isEmpty) = fr) {gs : List Rg} (hgs : allSome (p.bn.map (only T st.regs)) = some gs) {v : V} {gs' : List Rg} (hk : callK g p.vs gs = (true, v, gs'))
    (hok : (semRet o.dst (only T (bif fr then st.fz C.P p.bv else st).regs) p.bn gs (C.sig g) v gs').ok = true) {K : Act → World → Prop} {Q : Exit → Act → World → Prop}
    (hKK : ∀ a' w' G' gm', (∀ b, G b → G' b) → Inv C.P w0 F N ((bif fr then st.fz C.P p.bv else st).app (semRet o.dst (only T (bif fr then st.fz C.P p.bv else st).regs) p.bn gs (C.sig g) v gs') o.dst) a' w' G' gm' → K a' w') :
    o.wp C.P a w K Q := by
  have hall := opds_ok hI (argsOf C.P o)
  rw [hvs] at hall
  have hao : argsOf C.P o = (0, f) :: ts.toList.zip xs.toList := by simp [argsOf, ho]
  rw [hao, List.map_cons] at hall
  obtain ⟨⟨fa, ca, hf, hfa, hca⟩, hws⟩ := hall
  have hzl : (ts.toList.zip xs.toList).length = xs.toList.length := by
    have := hws.length
    simp only [List.length_map] at this
    rw [this, hxs]; simp
  have hws2 : RvL w G gm (xs.toList.map a.eval) ws := by
    have e : (ts.toList.zip xs.toList).map (fun x => a.eval x.2) = xs.toList.map a.eval := by
      have h1 : (ts.toList.zip xs.toList).map Prod.snd = xs.toList := by
        refine List.map_snd_zip ?_
        simp only [List.length_zip] at hzl
        omega
      have h2 : (fun x : TypeId × Operand => a.eval x.2) = a.eval ∘ Prod.snd := rfl
      rw [h2, ← List.map_map, h1]
    rw [← e]; exact hws
  have hargs : RvL w G gm (fa ++ xs.map a.eval ++ ca).toList (first ++ ws ++ caps) := by
    simp only [Array.toList_append, Array.toList_map]
    exact (hfa.append hws2).append hca
  have hrun := run_call_op (P := C.P) w ho hf
  have hgs1 := allSome_spec _ _ hgs
  have hown : ∀ q e d xs, ownAt (only T st.regs) q = some (e, d, xs) → ∃ v, OwnC w G C.P v (.own e d xs) (skAt gm q) := fun q e d xs hq => own_at hI.regs hq
  subst hp
  -- no own slice goes by value
  have plain : ∀ vs1 : List V, (prep C g (only T st.regs) (first ++ ws ++ caps)).bn = dedup (namesL vs1) → (prep C g (only T st.regs) (first ++ ws ++ caps)).vs = renL (fun n => .par (idxOf n (dedup (namesL vs1)))) vs1 →
      RvL w G gm (fa ++ xs.map a.eval ++ ca).toList vs1 → fr = false → o.wp C.P a w K Q := by
    intro vs1 e1 e2 hv e3
    subst e3
    rw [e1] at hgs1 hok hKK
    rw [e2] at hk
    exact callRest hK hrun hI hd hv hgs1 hk hok hKK
  cases hbn : C.byName g with
  | true =>
    refine plain (first ++ ws ++ caps) (by simp only [prep, hbn, cond_true]) (by simp only [prep, hbn, cond_true]) hargs ?_
    rw [← hfr]
    simp [prep, hbn]
  | false =>
    have e1 : (prep C g (only T st.regs) (first ++ ws ++ caps)).bn = dedup (namesL (byValL C.P (only T st.regs) (first ++ ws ++ caps))) := by simp only [prep, hbn, cond_false]
    have e2 : (prep C g (only T st.regs) (first ++ ws ++ caps)).vs = renL (fun n => .par (idxOf n (dedup (namesL (byValL C.P (only T st.regs) (first ++ ws ++ caps)))))) (byValL C.P (only T st.regs) (first ++ ws ++ caps)) := by simp only [prep, hbn, cond_false]
    have e3 : (prep C g (only T st.regs) (first ++ ws ++ caps)).bv = dedup (refNamesL (first ++ ws ++ caps)) := by simp only [prep, hbn, cond_false]
    have hpk : (prep C g (only T st.regs) (first ++ ws ++ caps)).bv.all (fun n => !(n.mem (prep C g (only T st.regs) (first ++ ws ++ caps)).bn)) = true ∧ (C.byName g || seenL (only T st.regs) (first ++ ws ++ caps)) = true := by
      simpa only [prep, Bool.and_eq_true] using hpok
    obtain ⟨e4, hsn⟩ := hpk
    rw [hbn, Bool.false_or] at hsn
    cases hemp : (prep C g (only T st.regs) (first ++ ws ++ caps)).bv.isEmpty with
    | true =>
      have hno : refNamesL (first ++ ws ++ caps) = [] := by
        rw [e3, List.isEmpty_iff] at hemp
        cases hr : refNamesL (first ++ ws ++ caps) with
        | nil => rfl
        | cons n l =>
          have : n ∈ dedup (refNamesL (first ++ ws ++ caps)) := (dedup_mem _ _).2 (by rw [hr]; simp)
          rw [hemp] at this; cases this
      refine plain _ e1 e2 (RvL.byVal hown (fun _ h => h) _ _ hsn (fun r hr => ?_) hargs) (by rw [← hfr, hemp]; simp)
      rw [hno] at hr; cases hr
    | false =>
      obtain ⟨G2, gm2, hI2, hG2, hs2, hd2⟩ := hI.fz (prep C g (only T st.regs) (first ++ ws ++ caps)).bv
      have hGG : ∀ b, G b → G2 b := fun b hb => (hG2 b).2 (.inl hb)
      have hval : RvL w G2 gm (fa ++ xs.map a.eval ++ ca).toList (byValL C.P (only T st.regs) (first ++ ws ++ caps)) := by
        refine RvL.byVal hown hGG _ _ hsn (fun r hr R hR b hb => (hG2 b).2 (.inr ⟨r, R, ?_, hR, hb⟩)) hargs
        rw [e3]; exact (dedup_mem _ _).2 hr
      have hout : ∀ n, n ∈ (prep C g (only T st.regs) (first ++ ws ++ caps)).bn → n.mem (prep C g (only T st.regs) (first ++ ws ++ caps)).bv = false := by
        intro n hn
        rw [Nm.mem_false]
        intro h
        have := List.all_eq_true.1 e4 n h
        rw [(Nm.mem_iff _ _).2 hn] at this
        cases this
      cases fr with
      | true =>
        have hval2 : RvL w G2 gm2 (fa ++ xs.map a.eval ++ ca).toList (byValL C.P (only T st.regs) (first ++ ws ++ caps)) := by
          refine RvL.frame (fun _ _ => rfl) (fun _ h => h) gm gm2 _ _ (fun n hn => hs2 n (hout n ?_)) hval
          rw [e1]; exact (dedup_mem _ _).2 hn
        have hgs3 : (prep C g (only T st.regs) (first ++ ws ++ caps)).bn.map (only T (st.fz C.P (prep C g (only T st.regs) (first ++ ws ++ caps)).bv).regs) = gs.map some := by
          rw [← hgs1]
          apply List.map_congr_left
          intro n hn
          exact only_fz (hout n hn) T
        simp only [cond_true] at hok hKK
        rw [e1] at hgs3 hok hKK
        rw [e2] at hk
        exact callRest hK hrun hI2 hd hval2 hgs3 hk hok (fun a' w' G' gm' hg hi => hKK a' w' G' gm' (fun b hb => hg b (hGG b hb)) hi)
      | false =>
        rw [hemp] at hfr
        simp only [Bool.not_false, Bool.and_true, Bool.not_eq_false', Bool.and_eq_true] at hfr
        obtain ⟨hsc, hbe⟩ := hfr
        rw [List.isEmpty_iff] at hbe
        simp only [cond_false] at hok hKK
        rw [hbe] at hgs1 hok hKK
        have hgn : gs = [] := by
          cases gs with
          | nil => rfl
          | cons x l => simp at hgs1
        subst hgn
        obtain ⟨Rs, h1, h2, h3⟩ := pass_ok (G1 := G2) (bn := []) (gs := []) hI.regs List.nodup_nil rfl hGG (fun b hb => hI2.regs.old b hb) (fun r R b hr => by cases hr)
        rw [e2] at hk
        have hd0 : dedup (namesL (byValL C.P (only T st.regs) (first ++ ws ++ caps))) = [] := by rw [← e1]; exact hbe
        have hargs2 : RvL w G2 (parG Rs) (fa ++ xs.map a.eval ++ ca).toList (renL (fun n => .par (idxOf n (dedup (namesL (byValL C.P (only T st.regs) (first ++ ws ++ caps)))))) (byValL C.P (only T st.regs) (first ++ ws ++ caps))) := by
          refine RvL.ren _ _ _ (fun n hn => ?_) hval
          have := (dedup_mem _ n).2 hn
          rw [hd0] at this; cases this
        refine wp_of_enter hrun (hK g _ [] v gs' hk _ w (handF [] gm G2 [] Rs) Rs h3 hargs2) (fun res w' hb => ?_)
        exact hKK _ w' G gm (fun _ h => h) (back_scalar hI hd hsc hok hb)
end
end Go.Ab
