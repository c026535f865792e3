/- Storing: into boxes, into own slices. -/
import Derived.Test.YtnjgofgogeileaaE21
namespace Go.Ab
open Go
set_option linter.unusedSimpArgs false
set_option linter.unusedVariables false

section
variable {P : Program} {w0 w : World} {F : FG} {N : Nat} {st : St} {a : Act} {G : Nat → Prop} {gm : GM} {deep : TypeId → Bool} {T : List Nm} {rd regs : Nm → Option Rg}

theorem nthS_getD : ∀ (l : List Sk) (j : Nat), nthS l j = (l[j]?).getD .leaf
  | [], j => by simp [nthS]
  | _ :: _, 0 => rfl
  | _ :: l, j + 1 => by simpa [nthS] using nthS_getD l j

theorem nthS_over {cs ss : List Sk} {k j : Nat} (hk : k + ss.length ≤ cs.length) (hj : j < k ∨ k + ss.length ≤ j) : nthS (cs.take k ++ ss ++ cs.drop (k + ss.length)) j = nthS cs j := by
  rw [nthS_getD, nthS_getD]
  congr 1
  have hl : (cs.take k).length = k := by simp; omega
  rcases hj with hj | hj
  · rw [List.append_assoc, List.getElem?_append_left (by omega), List.getElem?_take_of_lt hj]
  · rw [List.getElem?_append_right (by simp; omega), List.getElem?_drop]
    congr 1
    simp; omega

theorem getSk_leaf : ∀ (p : List Nat) (l : List Sk) (i : Nat), nthS l i = .leaf → getSk p l i = .leaf
  | [], _, _, h => h
  | k :: p, l, i, h => by
    simp only [getSk, h, skCells]
    exact getSk_leaf p [] k rfl

theorem nthS_nil (i : Nat) : nthS [] i = .leaf := rfl

/-- Where another own slice of the same head is put, the names stand for what they stood for. -/
theorem set_head : ∀ (p p' : List Nat) (sks : List Sk) (j j' : Nat) (s' : Sk), skHead s' = skHead (getSk p sks j) → getSk p' sks j' ≠ .leaf →
    ((∀ i, nthS (skCells (getSk p sks j)) i = .leaf) ∨ p' = []) → skHead (getSk p' (setSk p sks j s') j') = skHead (getSk p' sks j')
  | p, p', sks, j, j', s', hs, hl, hc => by
    by_cases hj : j = j'
    · subst hj
      have hlt : j < sks.length := by
        rcases Nat.lt_or_ge j sks.length with h | h
        · exact h
        · exact absurd (getSk_leaf p' sks j (by rw [nthS_getD, List.getElem?_eq_none h]; rfl)) hl
      cases p with
      | nil =>
        simp only [setSk, getSk] at hs hc ⊢
        cases p' with
        | nil =>
          simp only [getSk]
          rw [nthS_set_self, if_pos hlt, hs]
        | cons i' p' =>
          rcases hc with hc | hc
          · simp only [getSk] at hl
            exact absurd (getSk_leaf p' _ i' (hc i')) hl
          · cases hc
      | cons i p =>
        cases p' with
        | nil =>
          simp only [getSk, setSk]
          rw [nthS_set_self, if_pos hlt, skHead_skSetCells]
        | cons i' p' =>
          rcases hc with hc | hc
          · simp only [getSk, setSk] at hs hl hc ⊢
            rw [nthS_set_self, if_pos hlt]
            cases hn : nthS sks j with
            | leaf => rw [hn] at hl; exact absurd (getSk_leaf p' _ i' rfl) hl
            | nil => rw [hn] at hl; exact absurd (getSk_leaf p' _ i' rfl) hl
            | node g n cap sz cs =>
              rw [hn] at hs hl hc
              simp only [skCells, skSetCells] at hs hl hc ⊢
              exact set_head p p' cs i i' s' hs hl (.inl hc)
          · cases hc
    · have h1 : nthS (setSk p sks j s') j' = nthS sks j' := by
        cases p with
        | nil => simp only [setSk]; rw [nthS_set_ne _ _ _ _ hj]
        | cons i p => simp only [setSk]; rw [nthS_set_ne _ _ _ _ hj]
      cases p' with
      | nil => simp only [getSk, h1]
      | cons i' p' => simp only [getSk, h1]

theorem OwnL.leaf_at {vs : List Value} {xs : List V} {ss : List Sk} (h : OwnL w G P vs xs ss) (hc : cibL xs = true) (i : Nat) : nthS ss i = .leaf := by
  induction vs generalizing xs ss i with
  | nil => cases xs with
    | nil => cases ss with
      | nil => rfl
      | cons s ss => simp [OwnL] at h
    | cons x xs => simp [OwnL] at h
  | cons v vs ih => cases xs with
    | nil => simp [OwnL] at h
    | cons x xs => cases ss with
      | nil => simp [OwnL] at h
      | cons s ss =>
        simp only [cibL, Bool.and_eq_true] at hc
        cases i with
        | zero =>
          have h1 := h.1
          cases x <;> first | (simp [V.cib, V.cim, V.imm] at hc; done) | exact h1.1
        | succ i => exact ih h.2 hc.2 i

theorem OwnL.leaf_one {vs : List Value} {xs : List V} {ss : List Sk} (h : OwnL w G P vs xs ss) (i : Nat) (hc : (nthV xs i).isOwnB = false) : nthS ss i = .leaf := by
  induction vs generalizing xs ss i with
  | nil => cases xs with
    | nil => cases ss with
      | nil => rfl
      | cons s ss => simp [OwnL] at h
    | cons x xs => simp [OwnL] at h
  | cons v vs ih => cases xs with
    | nil => simp [OwnL] at h
    | cons x xs => cases ss with
      | nil => simp [OwnL] at h
      | cons s ss =>
        cases i with
        | zero =>
          have h1 := h.1
          cases x <;> first | (simp [nthV, V.isOwnB] at hc; done) | exact h1.1
        | succ i => exact ih h.2 i hc

theorem run_store_op (w : World) {o : Oper} {x p : Operand} {t : TypeId} (ho : o.op = .store t p x) {b k : Nat} (hp : a.eval p = .pointer (some ⟨b, k, none⟩)) {w' : World}
    (h : (storeVar t ⟨b, k, none⟩ (a.eval x)).run P w = .ok () w') : (execOp a.eval o).run P w = .ok .skip w' := by
  simp [execOp, ho, hp, Instr.storeAt, Instr.sureAddr, h]

theorem hits_r (r : Nm) (q : Pl) (h : q.r = r) : Kl.hits ⟨[], [r], []⟩ q = true := by simp [Kl.hits, h, Nm.mem, Nm.eq_self]
theorem hits_d (r : Nm) (q : Pl) (h : q.r = r) (hq : Kl.hits ⟨[r], [], []⟩ q = false) : q.p = [] := by
  simp [Kl.hits, h, Nm.mem, Nm.eq_self] at hq
  exact hq

theorem storeB_ok (hI : Inv P w0 F N st a w G gm) {o : Oper} (hd : ∀ x, o.dst = some x → x < N) {t : TypeId} {p x : Operand} (ho : o.op = .store t p x) {T : List Nm} (hTh : Nm.hand.mem T = false)
    {r : Nm} {j : Nat} {vx : V} (hp : Rv w G gm (a.eval p) (.ptrB r j)) (hx : Rv w G gm (a.eval x) vx) (hok : (semStore P deep (only T st.regs) t vx (.ptrB r j)).ok = true) :
    OpRes P w0 F N st a w G o (semStore P deep (only T st.regs) t vx (.ptrB r j)) := by
  unfold semStore at hok ⊢
  simp only at hok ⊢
  split at hok
  · next row0 hr0 =>
    generalize hA : absV P deep true (only T st.regs) vx = A at hok ⊢
    split at hok
    · next row hr1 =>
      obtain ⟨h1, _⟩ := when_ok hok
      simp only [Bool.and_eq_true] at h1
      obtain ⟨⟨⟨⟨⟨p1, p2⟩, p3⟩, p4⟩, p5⟩, p6⟩ := h1
      replace p3 := nbeq p3
      replace p4 := nble p4
      replace p5 : r.mem A.k.a = false := by simpa using p5
      obtain ⟨gm1, g1, g2, g3, g4⟩ := hI.start T
      obtain ⟨htook, _⟩ := absV_ok (deep := deep) (keep := true) g1 g2 rfl rfl (only_within T _) hTh hx (fun _ h => h) (g4 hTh) (by rw [hA]; exact p1)
      rw [hA] at htook
      obtain ⟨G2, gm2, ss, k1, k2, k3, k4, k5⟩ := htook.ex
      simp only [List.nil_append] at k2 k3
      obtain ⟨_, hown⟩ := hand_ok k2 k3
      simp only at hown
      have hmem : r.mem T = true := (only_within T st.regs).mem hr0
      have hne : r ≠ .hand := fun e => by rw [e, hTh] at hmem; cases hmem
      obtain ⟨R, hR, hRok⟩ := k2.ok (show withHand (mix T A.rd st.regs) A.xs r = some ⟨true, row⟩ by rw [withHand_ne _ _ hne, mix_mem hmem, hr1])
      have hstay : Stay A.k gm gm2 := by simpa [Kl.and, Kl.no] using (g3.no_trans (Stay.refl _ _)).trans k4
      obtain ⟨R0, b, b1, b2, b3⟩ := hp
      obtain ⟨R1, b4, b5⟩ := hstay.box r R0 b p5 b1 b2
      rw [hR] at b4
      obtain rfl := Option.some.inj b4
      obtain ⟨⟨t0, hheap⟩, hself⟩ := hRok.2.2 b b5
      have hrl := hRok.2.1.length
      have hol := hown.length
      let us := (a.eval x).cells.toList
      have husl : us.length = szT P t := by rw [← p3]; exact hol.1
      have hsl : ss.length = us.length := by simp only [us]; omega
      have hcs : (R.vals.toArray).size = R.vals.length := by simp
      have hjl : j + us.length ≤ R.vals.length := by simp only [us] at *; omega
      have hrun := run_storeVar p2 hheap (.inl (Nat.le_refl _)) (v := a.eval x) (o := j) (by simpa [us] using husl) (by simpa [us] using hjl) hown.one
      have hnd := k2.nodup _ _ hR
      have hndH := k2.nodup _ _ k3
      have hdj := k2.disj _ _ _ _ hne hR k3
      simp only [RG.fp, Option.toList_none, List.nil_append] at hndH hdj
      have hbfp : b ∈ R.fp := by simp [RG.fp, b5]
      rw [RG.fp, b5] at hnd
      simp only [Option.toList_some, List.cons_append, List.nil_append, List.nodup_cons] at hnd
      have hG2 : ∀ k, G2 k → (w.setRow b (over R.vals.toArray j us)).heap[k]? = w.heap[k]? := by
        intro k hk
        exact setRow_other w b k _ (fun e => k2.apart _ _ b hR hbfp (e ▸ hk))
      have hfa : ∀ k, k ≠ b → (w.setRow b (over R.vals.toArray j us)).heap[k]? = w.heap[k]? := fun k hk => setRow_other w b k _ hk
      have hnew := OwnL.over (P := P) (cur := R.vals.toArray) (n := R.vals.length) (k := j) hG2 (fun _ h => h) (fun k hk => hfa k (fun e => hnd.1 (e ▸ hk)))
        (fun k hk => hfa k (fun e => hdj b hbfp (e ▸ hk))) (by simp) hjl (by simpa using hRok.2.1) hown
      have htk : (over R.vals.toArray j us).toList.take R.vals.length = (over R.vals.toArray j us).toList := by
        apply List.take_of_length_le
        have := over_size (cur := R.vals.toArray) (o := j) (vs := us) (by simpa using hjl)
        simp [this]
      rw [htk] at hnew
      have hdj2 : ∀ c ∈ fpL R.sks, c ∉ fpL ss := fun c hc hc' => hdj c (by simp [RG.fp, hc]) hc'
      refine OpRes.when ⟨undef, _, .skip, G2, _, run_store_op w ho b3 hrun, .inr ⟨rfl, rfl⟩, k1, hI.stored hd hTh k2 k3 k1 hstay htook.same (by rw [← hA]; exact (absV_within (only_within T _) vx).2) hmem hR
        (R' := ⟨some b, (over R.vals.toArray j us).toList, R.sks.take j ++ ss ++ R.sks.drop (j + ss.length)⟩) (fun c hc hn => hfa c (fun e => hn (e ▸ hbfp))) rfl rfl rfl (by simp) (fun i hi hpo => ⟨b5 ▸ hpo.1, fun s hs => absurd (hpo.2 s hs).1 (by rw [b5]; simp)⟩) ⟨rfl, hnew, fun b' hb' => ?_⟩ ?_ ?_ ?_ b5.symm⟩
      · obtain rfl := Option.some.inj hb'
        refine ⟨⟨t0, by simpa using setRow_heap w b _ (over R.vals.toArray j us) t0 (0, 0) hheap⟩, ?_⟩
        have hns := absV_slf (P := P) (deep := deep) (keep := true) (rd := only T st.regs) (x := vx) (by rw [hA]; exact p1)
        rw [hA] at hns
        have hAl : A.xs.length = us.length := by simp only [us]; omega
        intro k hk
        have hk' : (setMany j A.xs row)[k]? = some .slf := hk
        have hjr : j + A.xs.length ≤ row.length := by simp only [us] at *; omega
        rw [setMany_eq _ _ _ hjr, List.append_assoc] at hk'
        have hov := over_get (cur := R.vals.toArray) (o := j) (vs := us) (by simpa using hjl) k
        show (over R.vals.toArray j us).toList[k]? = _ ∨ (over R.vals.toArray j us).toList[k]? = _
        rw [hov]
        have hjl' : (row.take j).length = j := by simp; omega
        by_cases c1 : k < j
        · rw [List.getElem?_append_left (by omega), List.getElem?_take_of_lt c1] at hk'
          rw [if_pos c1]
          exact hself k hk'
        · rw [List.getElem?_append_right (by omega), hjl'] at hk'
          rw [if_neg c1]
          by_cases c2 : k < j + us.length
          · rw [List.getElem?_append_left (by omega)] at hk'
            exact absurd rfl (hns _ (List.mem_of_getElem? hk'))
          · rw [List.getElem?_append_right (by omega), List.getElem?_drop] at hk'
            rw [if_neg c2]
            refine hself k ?_
            rw [← hk']
            congr 1
            omega
      · simp only [RG.fp, Option.toList_some, List.cons_append, List.nil_append, List.nodup_cons]
        refine ⟨fun h => ?_, fpL_over_nodup hnd.2 hndH hdj2⟩
        rcases fpL_over _ _ _ _ b h with h | h
        · exact hnd.1 h
        · exact hdj b hbfp h
      · intro c hc
        simp only [RG.fp, Option.toList_some, List.cons_append, List.nil_append, List.mem_cons] at hc
        rcases hc with rfl | hc
        · exact .inl hbfp
        · rcases fpL_over _ _ _ _ c hc with h | h
          · left; simp [RG.fp, h]
          · exact .inr h
      · intro q hq hhit hl
        cases hsl' : hasSlice P t with
        | true =>
          rw [hsl', cond_true, hits_r r q hq] at hhit; cases hhit
        | false =>
          rw [hsl'] at p6
          simp only [Bool.false_or] at p6
          have hl' : getSk q.p R.sks q.j ≠ .leaf := by
            have : skAt gm2 q = getSk q.p R.sks q.j := by simp only [skAt, hq, hR]
            rwa [this] at hl
          have hout : q.j < j ∨ j + ss.length ≤ q.j := by
            rcases Nat.lt_or_ge q.j j with h | h
            · exact .inl h
            · rcases Nat.lt_or_ge q.j (j + ss.length) with h' | h'
              · exfalso
                refine hl' (getSk_leaf _ _ _ (hRok.2.1.leaf_one q.j ?_))
                have hin : q.j < row.length := by simp only [us] at *; omega
                have hm : nthV row q.j ∈ (row.drop j).take A.xs.length := by
                  rw [nthV_get _ _ hin]
                  refine List.mem_of_getElem? (i := q.j - j) ?_
                  rw [List.get_drop_take _ _ _ _ (by simp only [us] at *; omega), show j + (q.j - j) = q.j by omega]
                  exact List.getElem?_eq_getElem hin
                simpa using List.all_eq_true.1 p6 _ hm
              · exact .inr h'
          have h2 := nthS_over (cs := R.sks) (ss := ss) (k := j) (j := q.j) (by simp only [us] at *; omega) hout
          cases hqp : q.p with
          | nil => simp only [getSk, h2]
          | cons i' p' => simp only [getSk, h2]
    · cases hok
  · cases hok

theorem storeE_ok (hI : Inv P w0 F N st a w G gm) {o : Oper} (hd : ∀ x, o.dst = some x → x < N) {t : TypeId} {p x : Operand} (ho : o.op = .store t p x) {T : List Nm} (hTh : Nm.hand.mem T = false)
    {q : Pl} {i off : Nat} {vx : V} (hp : Rv w G gm (a.eval p) (.ptrE q i off)) (hx : Rv w G gm (a.eval x) vx) (hok : (semStore P deep (only T st.regs) t vx (.ptrE q i off)).ok = true) :
    OpRes P w0 F N st a w G o (semStore P deep (only T st.regs) t vx (.ptrE q i off)) := by
  unfold semStore at hok ⊢
  simp only at hok ⊢
  focus
    generalize hA : absV P deep q.d (only T st.regs) vx = A at hok ⊢
    split at hok
    · next g0 hg0 =>
      obtain ⟨h1, _⟩ := when_ok hok
      simp only [Bool.and_eq_true] at h1
      obtain ⟨⟨⟨⟨⟨p0, p1⟩, p3⟩, p2⟩, p4⟩, p5⟩ := h1
      obtain ⟨e, d, xs, hqe, hqd, hqx, hq1⟩ := ownB_some p3
      rw [hqd] at hA
      simp only [hqe, hqd] at p5 ⊢
      replace p4 := nbeq p4
      replace p5 := nble p5
      obtain ⟨gm1, g1, g2, g3, g4⟩ := hI.start T
      obtain ⟨htook, hcim⟩ := absV_ok (deep := deep) (keep := d) g1 g2 rfl rfl (only_within T _) hTh hx (fun _ h => h) (g4 hTh) (by rw [hA]; exact p1)
      rw [hA] at htook hcim
      obtain ⟨G2, gm2, ss, k1, k2, k3, k4, k5⟩ := htook.ex
      simp only [List.nil_append] at k2 k3
      obtain ⟨_, hown⟩ := hand_ok k2 k3
      simp only at hown
      have hmem : q.r.mem T = true := htook.within.mem hg0
      have hne : q.r ≠ .hand := fun e => by rw [e, hTh] at hmem; cases hmem
      obtain ⟨R, hR, hRok⟩ := k2.ok (show withHand (mix T A.rd st.regs) A.xs q.r = some g0 by rw [withHand_ne _ _ hne, mix_mem hmem, hg0])
      have hstay : Stay A.k gm gm2 := by simpa [Kl.and, Kl.no] using (g3.no_trans (Stay.refl _ _)).trans k4
      have hhead : skHead (skAt gm2 q) = skHead (skAt gm q) := by
        rw [k5 q e d xs hq1]
        obtain ⟨t', ht'⟩ := htook.own q _ hq1
        exact g4 hTh q t'.1 t'.2.1 t'.2.2 ht'
      replace hp : namePtrE gm2 q i off (a.eval p) := namePtrE_head hhead hp
      have hsk : skAt gm2 q = getSk q.p R.sks q.j := by simp only [skAt, hR]
      have hx1 : getV q.p g0.row q.j = .own e d xs := by
        obtain ⟨rg, h1, h2⟩ := ownAt_some hq1
        rw [hg0] at h1
        obtain rfl := Option.some.inj h1
        exact h2
      obtain ⟨v, hv, _⟩ := OwnL.at q.p g0.row q.j R.vals R.sks hRok.2.1 (by rw [hx1]; simp)
      rw [hx1, ← hsk] at hv
      unfold namePtrE at hp
      cases hs : skAt gm2 q with
      | leaf => rw [hs] at hp; exact hp.elim
      | nil => rw [hs] at hp; exact hp.elim
      | node g n cap sz cs =>
        rw [hs] at hp hv
        obtain ⟨hin, hpv⟩ := hp
        obtain ⟨cur, fr, h1, h2, h3, h4, h5, h6, h7, h8, h9, h10, h11⟩ := hv
        subst h6
        have hol := hown.length
        let us := (a.eval x).cells.toList
        have husl : us.length = szT P t := by rw [← p4]; exact hol.1
        have hsl : ss.length = us.length := by simp only [us]; omega
        have hib : i * szT P e + szT P e ≤ n * szT P e := by
          have : (i + 1) * szT P e ≤ n * szT P e := Nat.mul_le_mul_right _ (by omega)
          rwa [Nat.add_mul, Nat.one_mul] at this
        have hkl : i * szT P e + off + us.length ≤ n * szT P e := by simp only [us] at *; omega
        have hnc : n * szT P e ≤ cur.size := by rw [h4]; exact Nat.mul_le_mul_right _ h7
        have huss : us.length = (a.eval x).cells.size := by simp [us]
        have hrun := run_storeVar p2 h2 h3 (v := a.eval x) (o := i * szT P e + off) (by simpa [us] using husl) (by omega) hown.one
        have hnd := k2.nodup _ _ hR
        have hndH := k2.nodup _ _ k3
        have hdj := k2.disj _ _ _ _ hne hR k3
        simp only [RG.fp, Option.toList_none, List.nil_append] at hndH hdj
        obtain ⟨rest, hp1, hp2⟩ := getSk_perm q.p R.sks q.j (by rw [← hsk, hs]; simp)
        rw [← hsk, hs] at hp1
        have hgfp : g ∈ R.fp := by
          simp only [RG.fp, List.mem_append]
          exact .inr (hp1.mem_iff.2 (by simp [Sk.fp]))
        have hG2 : ∀ k, G2 k → (w.setRow g (over cur (i * szT P e + off) us)).heap[k]? = w.heap[k]? := by
          intro k hk
          exact setRow_other w g k _ (fun e => k2.apart _ _ g hR hgfp (e ▸ hk))
        have hfa : ∀ k, k ≠ g → (w.setRow g (over cur (i * szT P e + off) us)).heap[k]? = w.heap[k]? := fun k hk => setRow_other w g k _ hk
        have hndR : (fpL R.sks).Nodup := by
          simp only [RG.fp] at hnd
          exact (List.nodup_append.1 hnd).2.1
        have hndS : (g :: fpL cs ++ rest).Nodup := by simpa [Sk.fp] using hp1.nodup_iff.1 hndR
        rw [List.cons_append, List.nodup_cons] at hndS
        have hnew := OwnL.over (P := P) (cur := cur) (n := n * szT P e) (k := i * szT P e + off) hG2 (fun _ h => h) (fun k hk => hfa k (fun e => hndS.1 (by rw [← e]; simp [hk])))
          (fun k hk => hfa k (fun e => hdj g hgfp (e ▸ hk))) hnc hkl h10 hown
        let cs' := cs.take (i * szT P e + off) ++ ss ++ cs.drop (i * szT P e + off + ss.length)
        let s' := Sk.node g n cap (szT P e) cs'
        have hput : OwnL (w.setRow g (over cur (i * szT P e + off) us)) G2 P R.vals (setV q.p g0.row q.j (.own e d (setMany (i * szT P e + off) A.xs xs))) (setSk q.p R.sks q.j s') := by
          refine OwnL.put hG2 (fun _ h => h) _ _ e d xs q.p g0.row q.j R.vals R.sks hRok.2.1 hndR hx1 (fun v' hv' => ?_) (fun k hk hk' => hfa k (fun e => hk' (by rw [← hsk, hs, e]; simp [Sk.fp])))
          rw [← hsk, hs] at hv'
          obtain ⟨cur', fr', q1, q2, _⟩ := hv'
          refine ⟨over cur (i * szT P e + off) us, fr, q1, setRow_heap w g cur _ e fr h2, ?_, ?_, h5, rfl, h7, h8, ?_, hnew, ?_⟩
          · rw [over_size (by omega)]; exact h3
          · rw [over_size (by omega)]; exact h4
          · have : A.xs.length = us.length := by simp only [us]; omega
            rw [setMany_eq _ _ _ (by omega)]
            simp only [List.length_append, List.length_take, List.length_drop]
            omega
          · intro hdf
            have : A.xs.length = us.length := by simp only [us]; omega
            rw [setMany_eq _ _ _ (by omega), cibL_append, cibL_append, cibL_take _ _ (h11 hdf), cibL_drop _ _ (h11 hdf), cimL_cib _ (hcim hdf)]
            rfl
        have hdj2 : ∀ c ∈ fpL cs, c ∉ fpL ss := fun c hc hc' => hdj c (by simp only [RG.fp, List.mem_append]; exact .inr (hp1.mem_iff.2 (by simp [Sk.fp, hc]))) hc'
        have hrow : (mapAt (setMany (i * szT P e + off) A.xs) q g0) = ⟨g0.box, setV q.p g0.row q.j (.own e d (setMany (i * szT P e + off) A.xs xs))⟩ := by
          simp only [mapAt, hx1, setOwn]
        have hfp' : ∀ c ∈ s'.fp ++ rest, c ∈ fpL R.sks ∨ c ∈ fpL ss := by
          intro c hc
          simp only [s', Sk.fp, List.mem_append, List.mem_cons] at hc
          rcases hc with (rfl | hc) | hc
          · exact .inl (hp1.mem_iff.2 (by simp [Sk.fp]))
          · rcases fpL_over _ _ _ _ c hc with h | h
            · exact .inl (hp1.mem_iff.2 (by simp [Sk.fp, h]))
            · exact .inr h
          · exact .inl (hp1.mem_iff.2 (by simp [Sk.fp, hc]))
        have hbx : ∀ b', R.b = some b' → (∃ t0, (w.setRow g (over cur (i * szT P e + off) us)).heap[b']? = some (.cells R.vals.toArray t0 (0, 0))) ∧ SelfOk b' (setV q.p g0.row q.j (.own e d (setMany (i * szT P e + off) A.xs xs))) R.vals := by
          intro b' hb'
          obtain ⟨⟨t0, ht0⟩, hself⟩ := hRok.2.2 b' hb'
          refine ⟨⟨t0, ?_⟩, hself.of (fun k hk => setV_slf q.p g0.row q.j _ (by simp) k hk)⟩
          rw [hfa b' ?_]
          · exact ht0
          · intro e
            simp only [RG.fp] at hnd
            rw [hb'] at hnd
            simp only [Option.toList_some, List.cons_append, List.nil_append, List.nodup_cons] at hnd
            exact hnd.1 (hp1.mem_iff.2 (by simp [Sk.fp, e]))
        have hroot : ∀ j', skHead (nthS (setSk q.p R.sks q.j s') j') = skHead (nthS R.sks j') := by
          intro j'
          by_cases hl : nthS R.sks j' = .leaf
          · cases hqp : q.p with
            | nil =>
              by_cases hj : q.j = j'
              · subst hj
                have : getSk q.p R.sks q.j = .leaf := by rw [hqp]; exact hl
                rw [← hsk, hs] at this; cases this
              · simp only [setSk]; rw [nthS_set_ne _ _ _ _ hj]
            | cons i p => exact put_head_root p i R.sks q.j j' s'
          · exact set_head q.p [] R.sks q.j j' s' (by rw [← hsk, hs]; rfl) hl (.inr rfl)
        refine OpRes.when ⟨undef, _, .skip, G2, _, run_store_op w ho hpv hrun, .inr ⟨rfl, rfl⟩, k1, hI.stored hd hTh k2 k3 k1 hstay htook.same (by rw [← hA]; exact (absV_within (only_within T _) vx).2) hmem hR
          (R' := ⟨R.b, R.vals, setSk q.p R.sks q.j s'⟩) (fun c hc hn => hfa c (fun e => hn (e ▸ hgfp))) rfl rfl rfl (by simp) (fun i hi hpo => ⟨hpo.1, fun s hs => ⟨(hpo.2 s hs).1, (hpo.2 s hs).2.1, by rw [← (hpo.2 s hs).2.2]; exact hroot 0⟩⟩) (by rw [hrow]; exact ⟨hRok.1, hput, hbx⟩) ?_ ?_ ?_ rfl⟩
        · have hndp : (s'.fp ++ rest).Nodup := by
            rw [List.nodup_append] at hndS ⊢
            simp only [s', Sk.fp, List.nodup_cons]
            refine ⟨⟨fun h => ?_, fpL_over_nodup hndS.2.1 hndH hdj2⟩, hndS.2.2.1, fun c hc c' hc' hcc => ?_⟩
            · rcases fpL_over _ _ _ _ g h with h | h
              · exact hndS.1 (by simp [h])
              · exact hdj g hgfp h
            · subst hcc
              simp only [List.mem_cons] at hc
              rcases hc with rfl | hc
              · exact hndS.1 (by simp [hc'])
              · rcases fpL_over _ _ _ _ c hc with h | h
                · exact hndS.2.2.2 c h c hc' rfl
                · exact hdj c (by simp only [RG.fp, List.mem_append]; exact .inr (hp1.mem_iff.2 (by simp [hc']))) h
          simp only [RG.fp]
          rw [(List.Perm.append_left R.b.toList (hp2 s')).nodup_iff, List.nodup_append]
          refine ⟨?_, hndp, fun c hc c' hc' hcc => ?_⟩
          · cases R.b <;> simp
          · subst hcc
            simp only [RG.fp] at hnd
            rcases hfp' c hc' with h | h
            · exact (List.nodup_append.1 hnd).2.2 c hc c h rfl
            · exact hdj c (by simp only [RG.fp, List.mem_append]; exact .inl hc) h
        · intro c hc
          simp only [RG.fp, List.mem_append] at hc
          rcases hc with hc | hc
          · left; simp only [RG.fp, List.mem_append]; exact .inl hc
          · rcases hfp' c ((hp2 s').mem_iff.1 hc) with h | h
            · left; simp only [RG.fp, List.mem_append]; exact .inr h
            · exact .inr h
        · intro q' hq' hhit hl
          have hl' : getSk q'.p R.sks q'.j ≠ .leaf := by
            have : skAt gm2 q' = getSk q'.p R.sks q'.j := by simp only [skAt, hq', hR]
            rwa [this] at hl
          refine set_head q.p q'.p R.sks q.j q'.j s' (by rw [← hsk, hs]; rfl) hl' ?_
          cases d with
          | true =>
            simp only [cond_true] at hhit
            exact .inr (hits_d q.r q' hq' hhit)
          | false =>
            left
            intro i'
            rw [← hsk, hs]
            exact h10.leaf_at (h11 rfl) i'
    · cases hok
end
end Go.Ab
