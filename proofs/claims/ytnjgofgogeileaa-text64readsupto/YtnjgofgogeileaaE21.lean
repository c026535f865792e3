/- Storing. -/
import Derived.Test.YtnjgofgogeileaaE20
namespace Go.Ab
open Go
set_option linter.unusedSimpArgs false
set_option linter.unusedVariables false

section
variable {P : Program} {w0 w : World} {F : FG} {N : Nat} {st : St} {a : Act} {G : Nat → Prop} {gm : GM} {deep : TypeId → Bool} {T : List Nm} {rd regs : Nm → Option Rg}

/-- A region is written; what was on its way lies in it. -/
theorem Inv.stored (hI : Inv P w0 F N st a w G gm) {o : Option Nat} (hd : ∀ x, o = some x → x < N) {T : List Nm} (hTh : Nm.hand.mem T = false) {rd1 : Nm → Option Rg} {k1 : Kl} {G1 : Nat → Prop} {gm1 : GM}
    {row : List V} {vals : List Value} {sks : List Sk}
    (h1 : Regs P w0 F (withHand (mix T rd1 st.regs) row) w G1 gm1) (hh : gm1 .hand = some ⟨none, vals, sks⟩) (hG : ∀ b, G b → G1 b) (hs : Stay k1 gm gm1)
    (hsame : ∀ n, n ∉ k1.names → rd1 n = only T st.regs n) (hkT : ∀ n, n ∈ k1.names → n.mem T = true)
    {r : Nm} (hr : r.mem T = true) {R R' : RG} (hR : gm1 r = some R) {rg' : Rg} {w2 : World}
    (hw : ∀ b, b < w.heap.size → b ∉ R.fp → w2.heap[b]? = w.heap[b]?) (hos : w2.os = w.os) (htape : w2.tape = w.tape) (hout : w2.output = w.output) (hsize : w.heap.size ≤ w2.heap.size)
    (hpr : ∀ i, r = .par i → ParOk F i R → ParOk F i R') (hok : RgOk w2 G1 P rg' R') (hnd : R'.fp.Nodup) (hsrc : ∀ b ∈ R'.fp, b ∈ R.fp ∨ b ∈ fpL sks)
    {k2 : Kl} (hst : ∀ q : Pl, q.r = r → k2.hits q = false → skAt gm1 q ≠ .leaf → skHead (getSk q.p R'.sks q.j) = skHead (getSk q.p R.sks q.j)) (hbx : R'.b = R.b) :
    Inv P w0 F N (st.app ⟨true, .bad, setR rd1 r (some rg'), r :: k1.names, k1.and k2⟩ o) (a.put o undef) w2 G1 (setG (setG gm1 .hand none) r (some R')) := by
  have hne : r ≠ .hand := by rintro rfl; rw [hTh] at hr; cases hr
  have hh2 : Nm.hand.mem k1.names = false := by
    cases h : Nm.hand.mem k1.names with
    | false => rfl
    | true => have := hkT .hand ((Nm.mem_iff _ _).1 h); rw [hTh] at this; cases this
  have hreg : Regs P w0 F (st.app ⟨true, .bad, setR rd1 r (some rg'), r :: k1.names, k1.and k2⟩ o).regs w2 G1 (setG (setG gm1 .hand none) r (some R')) := by
    refine h1.change (fun r' => r' = .hand ∨ r' = r) ?_ hos htape hout hsize ?_ ?_ ?_ ?_ ?_ (fun _ h => h) (fun _ h => .inl h) (by
      rintro i R1 (hi | hi) hr1
      · cases hi
      · subst hi
        rw [setG_self] at hr1
        obtain rfl := Option.some.inj hr1
        exact hpr i rfl (h1.par i R hR))
    · intro b hb hn
      exact hw b hb (fun hm => hn ⟨r, R, .inr rfl, hR, hm⟩)
    · intro r' hr'
      simp only [not_or] at hr'
      refine ⟨?_, by rw [setG_ne _ _ hr'.2, setG_ne _ _ hr'.1]⟩
      rw [withHand_ne _ _ hr'.1]
      simp only [St.app, mix, Nm.mem, Nm.eq_ne hr'.2, Bool.false_or]
      by_cases hk : r' ∈ k1.names
      · rw [(Nm.mem_iff r' k1.names).2 hk, hkT r' hk]
        simp only [cond_true, setR_ne _ _ hr'.2]
      · rw [(Nm.mem_false r' k1.names).2 hk]
        simp only [cond_false]
        cases hm : r'.mem T with
        | false => rfl
        | true => simp only [cond_true]; rw [hsame r' hk]; simp [only, hm]
    · rintro r' (rfl | rfl)
      · simp only [St.app, Nm.mem, Nm.eq_ne (Ne.symm hne), hh2, Bool.false_or, cond_false, hI.hand]
        rw [setG_ne _ _ (Ne.symm hne), setG_self]
        trivial
      · simp only [St.app, Nm.mem, Nm.eq_self, Bool.true_or, cond_true, setR_self, setG_self]
        exact hok
    · rintro r' R1 (rfl | rfl) hr
      · rw [setG_ne _ _ (Ne.symm hne), setG_self] at hr; cases hr
      · rw [setG_self] at hr
        obtain rfl := Option.some.inj hr
        exact hnd
    · rintro r1 r2 R1 R2 (rfl | rfl) (rfl | rfl) hne' hr1 hr2
      · exact absurd rfl hne'
      · rw [setG_ne _ _ (Ne.symm hne), setG_self] at hr1; cases hr1
      · rw [setG_ne _ _ (Ne.symm hne), setG_self] at hr2; cases hr2
      · exact absurd rfl hne'
    · rintro r' R1 b (rfl | rfl) hr hb
      · rw [setG_ne _ _ (Ne.symm hne), setG_self] at hr; cases hr
      · rw [setG_self] at hr
        obtain rfl := Option.some.inj hr
        left
        rcases hsrc b hb with h | h
        · exact ⟨_, R, .inr rfl, hR, h⟩
        · exact ⟨.hand, _, .inl rfl, hh, by simpa [RG.fp] using h⟩
  have hgh : gm .hand = none := hI.regs.none hI.hand
  have hstay : Stay (k1.and k2) gm (setG (setG gm1 .hand none) r (some R')) := by
    refine ⟨fun q hq hl => ?_, fun r0 R0 b hr0 hg0 hb0 => ?_⟩
    · obtain ⟨hq1, hq2⟩ := hits_and hq
      have hqh : q.r ≠ .hand := by
        intro e
        simp only [skAt, e, hgh] at hl; exact absurd rfl hl
      have h0 := hs.own q hq1 hl
      have hl1 : skAt gm1 q ≠ .leaf := fun e => by rw [e] at h0; exact hl (skHead_leaf.1 h0.symm)
      by_cases hqr : q.r = r
      · rw [← h0]
        have e1 : skAt (setG (setG gm1 .hand none) r (some R')) q = getSk q.p R'.sks q.j := by simp only [skAt, hqr, setG_self]
        have e2 : skAt gm1 q = getSk q.p R.sks q.j := by simp only [skAt, hqr, hR]
        rw [e1, e2]
        exact hst q hqr hq2 hl1
      · rw [skAt_ne (gm := gm1) (by rw [setG_ne _ _ hqr, setG_ne _ _ hqh])]
        exact h0
    · have hr' := mem_append_false hr0
      have hrh : r0 ≠ .hand := by
        intro e; rw [e, hgh] at hg0; cases hg0
      obtain ⟨R1, h1', h2'⟩ := hs.box r0 R0 b hr'.1 hg0 hb0
      by_cases hrr : r0 = r
      · subst hrr
        rw [hR] at h1'
        obtain rfl := Option.some.inj h1'
        exact ⟨R', setG_self _ _ _, hbx.trans h2'⟩
      · exact ⟨R1, by rw [setG_ne _ _ hrr, setG_ne _ _ hrh]; exact h1', h2'⟩
  refine hI.app _ _ hd undef hreg ?_ hG ?_ hstay (fun _ => trivial)
  · simp only [St.app, Nm.mem, Nm.eq_ne (Ne.symm hne), hh2, Bool.false_or, cond_false, hI.hand]
  · intro k hk
    refine hw k (hI.regs.old k hk) (fun hm => h1.apart _ _ k hR hm (hG k hk))

theorem setMany_eq : ∀ (xs : List V) (k : Nat) (row : List V), k + xs.length ≤ row.length → setMany k xs row = row.take k ++ xs ++ row.drop (k + xs.length)
  | [], k, row, _ => by simp [setMany]
  | x :: xs, k, row, h => by
    simp only [setMany]
    rw [setMany_eq xs (k + 1) (row.set k x) (by simp at h ⊢; omega)]
    rw [List.take_set, List.drop_set_of_lt (by omega), List.length_cons]
    have e1 : (row.take (k + 1)).set k x = row.take k ++ [x] := by
      rw [List.take_succ_eq_append_getElem (by simp at h; omega), List.set_append_right _ _ (by simp; omega)]
      simp
      have : k - min k row.length = 0 := by simp at h; omega
      simp [this]
    rw [e1, List.append_assoc, List.append_assoc, Nat.add_assoc, Nat.add_comm 1]
    simp

/-- A row that is written over. -/
theorem OwnL.over {cur : Array Value} {n k : Nat} {xs ys : List V} {cs ss : List Sk} {us : List Value} {w' : World} {G' : Nat → Prop} (hG : ∀ k, G k → w'.heap[k]? = w.heap[k]?) (hGG : ∀ k, G k → G' k)
    (hf1 : ∀ b ∈ fpL cs, w'.heap[b]? = w.heap[b]?) (hf2 : ∀ b ∈ fpL ss, w'.heap[b]? = w.heap[b]?) (hn : n ≤ cur.size) (hk : k + us.length ≤ n)
    (h : OwnL w G P (cur.toList.take n) xs cs) (h' : OwnL w G P us ys ss) :
    OwnL w' G' P ((Ab.over cur k us).toList.take n) (setMany k ys xs) (cs.take k ++ ss ++ cs.drop (k + ss.length)) := by
  have hl := h.length
  have hl' := h'.length
  have hlt : (cur.toList.take n).length = n := by simp; omega
  rw [setMany_eq _ _ _ (by omega)]
  have e : (Ab.over cur k us).toList.take n = (cur.toList.take n).take k ++ us ++ (cur.toList.take n).drop (k + us.length) := by
    apply List.ext_getElem?
    intro j
    rw [List.getElem?_take]
    split
    · rw [over_get (by omega)]
      split
      · rw [List.append_assoc, List.getElem?_append_left (by simp; omega), List.getElem?_take_of_lt (by assumption), List.getElem?_take_of_lt (by assumption)]
      · rw [List.append_assoc, List.getElem?_append_right (by simp; omega)]
        have hkk : ((cur.toList.take n).take k).length = k := by simp; omega
        rw [hkk]
        split
        · rw [List.getElem?_append_left (by omega)]
        · rw [List.getElem?_append_right (by omega), List.getElem?_drop, List.getElem?_take_of_lt (by omega)]
          congr 1; omega
    · rw [eq_comm, List.getElem?_eq_none_iff]
      simp; omega
  rw [e, show ss.length = us.length by omega, show ys.length = us.length by omega]
  have f1 : ∀ b ∈ fpL (cs.take k), w'.heap[b]? = w.heap[b]? := fun b hb => hf1 b ((fpL_take_sub _ _).subset hb)
  have f3 : ∀ b ∈ fpL (cs.drop (k + us.length)), w'.heap[b]? = w.heap[b]? := fun b hb => hf1 b ((fpL_drop_sub _ _).subset hb)
  exact ((OwnL.frame hG hGG _ _ _ f1 (h.take k)).append (OwnL.frame hG hGG _ _ _ hf2 h')).append (OwnL.frame hG hGG _ _ _ f3 (h.drop _))

theorem fpL_over (cs ss : List Sk) (k m : Nat) : ∀ b ∈ fpL (cs.take k ++ ss ++ cs.drop (k + m)), b ∈ fpL cs ∨ b ∈ fpL ss := by
  intro b hb
  rw [fpL_append, fpL_append, List.mem_append, List.mem_append] at hb
  rcases hb with (hb | hb) | hb
  · exact .inl ((fpL_take_sub _ _).subset hb)
  · exact .inr hb
  · exact .inl ((fpL_drop_sub _ _).subset hb)

theorem fpL_over_nodup {cs ss : List Sk} {k m : Nat} (h1 : (fpL cs).Nodup) (h2 : (fpL ss).Nodup) (hd : ∀ b ∈ fpL cs, b ∉ fpL ss) : (fpL (cs.take k ++ ss ++ cs.drop (k + m))).Nodup := by
  have e : cs = cs.take k ++ cs.drop k := (List.take_append_drop k cs).symm
  rw [fpL_append, fpL_append]
  have hsub : (fpL (cs.drop (k + m))).Sublist (fpL (cs.drop k)) := by
    rw [← List.drop_drop]; exact fpL_drop_sub _ _
  have h1' := h1
  rw [e, fpL_append, List.nodup_append] at h1'
  rw [List.nodup_append, List.nodup_append]
  refine ⟨⟨(fpL_take_sub _ _).nodup h1, h2, ?_⟩, (fpL_drop_sub _ _).nodup h1, ?_⟩
  · intro x hx y hy hxy
    subst hxy
    exact hd x ((fpL_take_sub _ _).subset hx) hy
  · intro x hx y hy hxy
    subst hxy
    rw [List.mem_append] at hx
    rcases hx with hx | hx
    · exact h1'.2.2 x hx x (hsub.subset hy) rfl
    · exact hd x ((fpL_drop_sub _ _).subset hy) hx
end
end Go.Ab
