/- Appending to an own slice. -/
import Derived.Test.YtnjgofgogeileaaE19
namespace Go.Ab
open Go
set_option linter.unusedSimpArgs false
set_option linter.unusedVariables false

section
variable {P : Program} {w0 w : World} {F : FG} {N : Nat} {st : St} {a : Act} {G : Nat → Prop} {gm : GM} {deep : TypeId → Bool} {T : List Nm} {rd regs : Nm → Option Rg}

theorem OwnL.snoc : ∀ {vs : List Value} {xs : List V} {ss : List Sk} {v : Value} {x : V} {s : Sk}, vs.length = xs.length → ss.length = xs.length → OwnL w G P (vs ++ [v]) (xs ++ [x]) (ss ++ [s]) → OwnL w G P vs xs ss ∧ OwnC w G P v x s
  | [], [], [], _, _, _, _, _, h => ⟨trivial, h.1⟩
  | _ :: vs, _ :: xs, _ :: ss, _, _, _, h1, h2, h => by
    have := OwnL.snoc (vs := vs) (xs := xs) (ss := ss) (by simpa using h1) (by simpa using h2) h.2
    exact ⟨⟨h.1, this.1⟩, this.2⟩
  | [], _ :: _, _, _, _, _, h, _, _ => by simp at h
  | _ :: _, [], _, _, _, _, h, _, _ => by simp at h
  | [], [], _ :: _, _, _, _, _, h, _ => by simp at h
  | _ :: _, _ :: _, [], _, _, _, _, h, _ => by simp at h

theorem run_append_op (w w' : World) {o : Oper} {x y : Operand} {t xt : TypeId} (ho : o.op = .call { callee := .builtin .append, args := #[x, y], argTypes := #[t, xt] }) {v : Value}
    (h : (Builtin.append_ #[t, xt] o.type #[a.eval x, a.eval y]).run P w = .ok v w') : (execOp a.eval o).run P w = .ok (.value v) w' := by
  simp [execOp, ho, resolve, invoke, builtin, h]

theorem append_ok (hI : Inv P w0 F N st a w G gm) {o : Oper} {d : Nat} (hod : o.dst = some d) (hd : d < N) {t xt : TypeId} {x y : Operand} (ho : o.op = .call { callee := .builtin .append, args := #[x, y], argTypes := #[t, xt] }) {T : List Nm} (hTd : (Nm.loc d).mem T = true) (hTh : Nm.hand.mem T = false)
    {vx vy : V} (hx : Rv w G gm (a.eval x) vx) (hy : Rv w G gm (a.eval y) vy) (hok : (semAppend P deep d (only T st.regs) t xt vx vy).ok = true) :
    OpRes P w0 F N st a w G o (semAppend P deep d (only T st.regs) t xt vx vy) := by
  unfold semAppend at hok ⊢
  cases he : elT P t with
  | none => rw [he] at hok; cases hok
  | some e =>
    rw [he] at hok
    simp only at hok ⊢
    generalize hdp : (dstOf P deep (only T st.regs) e vx).d = dp at hok ⊢
    obtain ⟨h1, _⟩ := when_ok hok
    simp only [Bool.and_eq_true, roomy, decide_eq_true_eq] at h1
    obtain ⟨⟨⟨⟨⟨⟨⟨⟨p1, p2⟩, p3⟩, p4⟩, p5⟩, p6⟩, p7⟩, p8⟩, p9⟩ := h1
    replace p6 := nblt p6
    replace p7 := nbeq p7
    replace p4 : dp = (dstOf P deep (srcOf P (only T st.regs) e dp vy).rd e vx).d := by simpa using p4
    obtain ⟨gm1, g1, g2, g3, g4⟩ := hI.start T
    refine Exists.elim (srcOf_ok (e := e) (keep := dp) g1 g2 (only_within T _) hTh hy (fun _ h => h) (g4 hTh) p6 p2) ?_
    rintro gm2 ⟨row', vals', so, m, news, cs, s1, s2, s3, s4, s5, s6, s7, s8, s9, s10⟩
    generalize hA : srcOf P (only T st.regs) e dp vy = A at *
    simp only [List.nil_append] at s1 s2
    obtain ⟨_, hown1⟩ := hand_ok s1 s2
    have hsol : so.length = row'.length := hown1.length.2
    -- the slice that is appended to
    have hdst : ∃ ys, (absC P deep true A.rd vx).ok = true ∧ (absC P deep true A.rd vx).xs = [.own e dp ys] ∧ dstOf P deep A.rd e vx = ⟨true, dp, ys, (absC P deep true A.rd vx).rd, (absC P deep true A.rd vx).k⟩ := by
      unfold dstOf at p1 p4 ⊢
      simp only at p1 p4 ⊢
      split at p1
      · next e' d' ys hxs =>
        simp only [Bool.and_eq_true] at p1
        rw [hxs] at p4 ⊢
        simp only at p4 ⊢
        have he' := nbeq p1.2
        subst he'
        subst p4
        exact ⟨ys, p1.1, rfl, by simp [p1.1]⟩
      · cases p1
    obtain ⟨ys, k1, k2, k3⟩ := hdst
    rw [k3] at p8 p9 ⊢
    simp only at p8 p9 ⊢
    obtain ⟨htook, _⟩ := absC_ok (deep := deep) (keep := true) s1 s2 s3 hsol s6 hTh hx (fun _ h => h) ((g4 hTh).trans s5 s9) k1
    obtain ⟨G3, gm3, ss, q1, q2, q3, q4, q5⟩ := htook.ex
    simp only [k2] at q2 q3
    obtain ⟨hb, hown⟩ := hand_ok q2 q3
    simp only at hown
    obtain ⟨s, rfl⟩ : ∃ s, ss = [s] := by
      have := hown.length.2
      simp [hsol] at this
      exact List.length_eq_one_iff.1 this
    obtain ⟨hownA, hownB⟩ := OwnL.snoc s3 hsol hown
    have hnd := q2.nodup _ _ q3
    simp only [RG.fp, Option.toList_none, List.nil_append, fpL_append] at hnd
    have hnd' : (fpL so ++ s.fp).Nodup := by simpa [fpL] using hnd
    have hap : ∀ b, b ∈ fpL so ∨ b ∈ s.fp → ¬ G3 b := fun b hb => q2.apart _ _ b q3 (by simpa [RG.fp, fpL_append, fpL] using hb)
    have hlt : ∀ b, b ∈ fpL so ∨ b ∈ s.fp → b < w.heap.size := fun b hb => q2.lt q3 b (by simpa [RG.fp, fpL_append, fpL] using hb)
    -- the types
    obtain ⟨_, i, hdt, hi, hsz, hby, hcl⟩ := tyOk_spec p5
    obtain ⟨i', z, hi', hz, hzc⟩ := zeroCells_ne (P := P) (t := e) (by intro h; rw [h] at p7; simp at p7; omega)
    rw [hi] at hi'
    obtain rfl := Option.some.inj hi'
    have hxt : P.underlying xt = some (.slice e) ∨ P.underlying xt = some .string := by
      unfold srcTy at p3
      cases hs : isStrT P xt with
      | true => exact .inr (isStrT_spec hs)
      | false =>
        rw [hs] at p3
        simp only [Bool.false_or] at p3
        cases hx' : elT P xt with
        | none => rw [hx'] at p3; cases p3
        | some e' =>
          rw [hx'] at p3
          have := nbeq p3
          subst this
          exact .inl (elT_spec hx')
    have hzs : z.cells.size = i.size := by rw [hzc] at p7; rw [← hsz, ← p7]; simp
    have hAm : A.xs.length = m * szT P e := by rw [← s10.own.length.1, s10.num]
    have hnew1 := s10.own.one
    -- where it lies
    obtain ⟨n, old, g0, cso, hv0, hyn, hold, hcso, hg0⟩ : ∃ n old g0 cso, ((a.eval x = .slice none 0 0 ∧ n = 0 ∧ old = [] ∧ g0 = none) ∨ ∃ g cap cur fr, a.eval x = .slice (some ⟨g, 0, none⟩) n cap ∧ w.heap[g]? = some (.cells cur e fr) ∧ frOk fr cur.size ∧ cur.size = cap * i.size ∧ n ≤ cap ∧ cap ≤ maxLen ∧ cur.toList.take (n * i.size) = old ∧ g0 = some g) ∧
        ys.length = n * szT P e ∧ OwnL w G3 P old ys cso ∧ s.fp = g0.toList ++ fpL cso ∧ (dp = false → cibL ys = true) := by
      cases s with
      | leaf => exact hownB.elim
      | nil =>
        obtain ⟨h1, rfl⟩ := hownB
        exact ⟨0, [], none, [], .inl ⟨h1, rfl, rfl, rfl⟩, by simp, trivial, rfl, fun _ => rfl⟩
      | node g n cap sz cs' =>
        obtain ⟨cur, fr, h1, h2, h3, h4, h5, h6, h7, h8, h9, h10, h11⟩ := hownB
        have hszi : sz = i.size := by rw [← h6, hsz]
        subst hszi
        exact ⟨n, _, some g, cs', .inr ⟨g, cap, cur, fr, h1, h2, h3, h4, h7, h8, rfl, rfl⟩, by rw [h9, hsz], h10, rfl, h11⟩
    have hln : lenE (szT P e) ys.length = n := by rw [hyn, lenE_mul p6]
    have hlm : lenE (szT P e) A.xs.length = m := by rw [hAm, lenE_mul p6]
    rw [hln, hlm] at p8 p9
    rw [hby] at p8
    obtain ⟨v', w2, hrun, hapd⟩ := run_append_gen (ty := o.type) (elT_spec he) hxt hi hz hzs hv0 s10.hlen (by rw [← hsz]; exact s10.first) (by rw [← hsz]; exact s10.num) hnew1 p8 (Nat.le_trans p9 (by decide))
    have hG3 : ∀ k, G3 k → w2.heap[k]? = w.heap[k]? := by
      intro k hk
      refine hapd.block k (q2.old k hk) (fun h => hap k (.inr ?_) hk)
      rw [hcso, h]; simp
    have hkeep : ∀ b, b ∈ fpL so ∨ b ∈ fpL cso → w2.heap[b]? = w.heap[b]? := by
      intro b hb
      have hbs : b ∈ fpL so ∨ b ∈ s.fp := hb.imp id (fun h => by rw [hcso]; simp [h])
      refine hapd.block b (hlt b hbs) (fun h => ?_)
      rw [hcso, h] at hnd'
      rw [Option.toList_some, List.nodup_append] at hnd'
      rcases hb with hb | hb
      · exact hnd'.2.2 b hb b (by simp) rfl
      · have h2 := hnd'.2.1
        rw [List.cons_append, List.nil_append, List.nodup_cons] at h2
        exact h2.1 hb
    have hownN : OwnL w2 G3 P (old ++ news) (ys ++ A.xs) (cso ++ cs) :=
      (OwnL.frame hG3 (fun _ h => h) _ _ _ (fun k hk => hkeep k (.inr hk)) hold).append (OwnL.frame hG3 (fun _ h => h) _ _ _ (fun k hk => hkeep k (.inl (s10.sub k hk))) (OwnL.frame (fun _ _ => rfl) (fun b hb => q1 b hb) _ _ _ (fun _ _ => rfl) s10.own))
    have hcib : dp = false → cibL (ys ++ A.xs) = true := fun h => by rw [cibL_append, hg0 h, s10.cib h]; rfl
    have hfpnd : (fpL (cso ++ cs)).Nodup := by
      rw [fpL_append, List.nodup_append]
      rw [List.nodup_append] at hnd'
      refine ⟨?_, s10.nd hnd'.1, ?_⟩
      · have := hnd'.2.1
        rw [hcso, List.nodup_append] at this
        exact this.2.1
      · intro b hb c hc
        have := hnd'.2.2 c (s10.sub c hc) b (by rw [hcso]; simp [hb])
        exact fun h => this h.symm
    have hsub : ∀ b ∈ fpL (cso ++ cs), b ∈ fpL so ∨ b ∈ s.fp := by
      intro b hb
      rw [fpL_append, List.mem_append] at hb
      rcases hb with hb | hb
      · right; rw [hcso]; simp [hb]
      · left; exact s10.sub b hb
    obtain ⟨sk', hsk, hsknd, hsksub⟩ : ∃ sk', OwnC w2 G3 P v' (.own e dp (ys ++ A.xs)) sk' ∧ sk'.fp.Nodup ∧ ∀ b ∈ sk'.fp, (b ∈ fpL so ∨ b ∈ s.fp) ∨ w.heap.size ≤ b := by
      rcases hapd.row with ⟨r1, r2, r3, r4⟩ | ⟨g', cap', cur', fr', r1, r2, r3, r4, r5, r6, r7, r8⟩
      · refine ⟨.nil, ⟨r1, ?_⟩, by simp [Sk.fp], by simp [Sk.fp]⟩
        have h1 : n = 0 := by omega
        have h2 : m = 0 := by omega
        rw [h1] at hyn; rw [h2] at hAm
        have e1 : ys = [] := List.eq_nil_of_length_eq_zero (by simpa using hyn)
        have e2 : A.xs = [] := List.eq_nil_of_length_eq_zero (by simpa using hAm)
        rw [e1, e2]; rfl
      · refine ⟨.node g' (n + m) cap' (szT P e) (cso ++ cs), ⟨cur', fr', r1, r2, r3, by rw [r4, hsz], p6, rfl, r5, r6, ?_, ?_, hcib⟩, ?_, ?_⟩
        · rw [List.length_append, hyn, hAm, Nat.add_mul]
        · rw [hsz, r7]; exact hownN
        · simp only [Sk.fp, List.nodup_cons]
          refine ⟨fun hg => ?_, hfpnd⟩
          rcases r8 with r8 | r8
          · rw [fpL_append, List.mem_append] at hg
            have hgs : g' ∈ s.fp := by rw [hcso, r8]; simp
            rw [List.nodup_append] at hnd'
            rcases hg with hg | hg
            · have := hnd'.2.1
              rw [hcso, r8] at this
              simp at this
              exact this.1 hg
            · exact hnd'.2.2 g' (s10.sub g' hg) g' hgs rfl
          · have := hlt _ (hsub _ hg); omega
        · intro b hb
          simp only [Sk.fp, List.mem_cons] at hb
          rcases hb with rfl | hb
          · rcases r8 with r8 | r8
            · left; right; rw [hcso, r8]; simp
            · right; omega
          · exact .inl (hsub b hb)
    refine OpRes.when (OpRes.mk' hod _ _ G3 _ (run_append_op w w2 ho hrun) rfl q1 (hI.land hd hTd hTh q2 q3 q1 ((((g3.no_trans (Stay.refl _ _)).trans s4).trans q4) |> fun h => ?_) htook.within (fun n hn => ?_) (fun n hn => ?_)
      (fun b hb hn => ?_) hapd.os hapd.tape hapd.output hapd.size (rg := ⟨false, [.own e dp (ys ++ A.xs)]⟩) (R := ⟨none, [v'], [sk']⟩) ⟨rfl, ⟨hsk, trivial⟩, fun b hb => by cases hb⟩ ?_ ?_ (fun _ h => h) (fun _ h => .inl h) _ _ ?_))
    · simpa [Kl.and, Kl.no] using h
    · rw [Kl.names_and, not_or] at hn
      rw [htook.same n hn.2, s7 n hn.1]
    · rw [Kl.names_and] at hn
      exact hn.elim (s8 n) (absC_names s6 vx n)
    · refine hapd.block b hb (fun h => hn ?_)
      rw [fpL_append, List.mem_append]
      right
      simp [fpL, hcso, h]
    · simpa [RG.fp, fpL] using hsknd
    · intro b hb
      have := hsksub b (by simpa [RG.fp, fpL] using hb)
      rcases this with h | h
      · left; simpa [fpL_append, fpL] using h
      · exact .inr h
    · refine OwnC.ref (d := dp) (xs := ys ++ A.xs) (e := e) (P := P) (w := w2) (G := G3) ?_
      simp only [skAt, setG_self, getSk, nthS_zero]
      exact hsk
end
end Go.Ab
