/- What a call hands back lies in the state. -/
import Derived.Test.YtnjgofgogeileaaE26
namespace Go.Ab
open Go
set_option linter.unusedSimpArgs false
set_option linter.unusedVariables false

section
variable {P : Program} {w0 w w' : World} {F : FG} {N : Nat} {st : St} {a : Act} {G G' G1 : Nat → Prop} {gm gm' : GM} {deep : TypeId → Bool} {T : List Nm} {rd regs : Nm → Option Rg}

theorem bn_at {bn : List Nm} {n : Nm} (h : n ∈ bn) : bn[idxOf n bn]? = some n := idxOf_get bn n h

/-- Regions and results, as they come back. -/
theorem back_ok (hI : Inv P w0 F N st a w G gm) {o : Option Nat} (hd : ∀ x, o = some x → x < N) {bn : List Nm} (hnd : bn.Nodup) (hbh : Nm.hand ∉ bn) {T : List Nm} {gs : List Rg} (hgs : bn.map (only T st.regs) = gs.map some)
    {Rs : List RG} (hRl : Rs.length = bn.length) (hRs : ∀ (i : Nat) (n : Nm), bn[i]? = some n → gm n = Rs[i]?)
    {sh : Sh} {v : V} {gs' : List Rg} (hok : (semRet o (only T st.regs) bn gs sh v gs').ok = true) {res : Value} (hb : Back P w (handF bn gm G gs Rs) v gs' res w') :
    ∃ G' gm', (∀ b, G b → G' b) ∧ Inv P w0 F N (st.app (semRet o (only T st.regs) bn gs sh v gs') o) (a.put o res) w' G' gm' := by
  obtain ⟨G', gm1, hR1, hres⟩ := hb
  unfold semRet at hok ⊢
  simp only at hok ⊢
  obtain ⟨h1, _⟩ := when_ok hok
  simp only [Bool.and_eq_true] at h1
  obtain ⟨⟨⟨p1, p2⟩, p3⟩, p4⟩ := h1
  have hre := Sh.re_eq sh v p1
  rw [hre] at p2 p4 ⊢
  replace p3 := nbeq p3
  have hnames : v.names = [] := by simpa using p2
  clear hok
  generalize hdd : ddOf o = dd at p4 ⊢
  generalize hnw : (o.isSome && !(v.land (.loc dd) 0).2.isEmpty) = nw
  have hrows : (v.land (.loc dd) 0).2 = (v.land .hand 0).2 := V.land_rows _ _ v 0
  have hlen : gs.length = bn.length := by simpa using (congrArg List.length hgs).symm
  have hreg : ∀ (i : Nat) (n : Nm), bn[i]? = some n → ∃ g R, gs[i]? = some g ∧ gm n = some R ∧ Rs[i]? = some R ∧ RgOk w G P g R := by
    intro i n hn
    have : (bn.map (only T st.regs))[i]? = some (only T st.regs n) := by rw [List.getElem?_map, hn]; rfl
    rw [hgs, List.getElem?_map] at this
    cases hg : gs[i]? with
    | none => rw [hg] at this; cases this
    | some g =>
      rw [hg] at this
      obtain ⟨R, h1, h2⟩ := hI.regs.ok (only_some (Option.some.inj this).symm)
      exact ⟨g, R, rfl, h1, by rw [← hRs i n hn]; exact h1, h2⟩
  -- the bones behind the call
  let gm2 : GM := fun n => bif nw && Nm.eq n (.loc dd) then gm1 .hand else bif n.mem bn then gm1 (.par (idxOf n bn)) else gm n
  have hgl : nw = true → gm2 (.loc dd) = gm1 .hand := fun h => by simp only [gm2, h, Nm.eq_self, Bool.and_self, cond_true]
  have hgb : ∀ n : Nm, n ∈ bn → (nw = true → n ≠ .loc dd) → gm2 n = gm1 (.par (idxOf n bn)) := by
    intro n hn hne
    have : (nw && Nm.eq n (.loc dd)) = false := by
      cases hw : nw with
      | false => rfl
      | true => rw [Nm.eq_ne (hne hw)]; rfl
    simp only [gm2, this, cond_false, (Nm.mem_iff n bn).2 hn, cond_true]
  have hgo : ∀ n : Nm, n ∉ bn → (nw = true → n ≠ .loc dd) → gm2 n = gm n := by
    intro n hn hne
    have : (nw && Nm.eq n (.loc dd)) = false := by
      cases hw : nw with
      | false => rfl
      | true => rw [Nm.eq_ne (hne hw)]; rfl
    simp only [gm2, this, cond_false, (Nm.mem_false n bn).2 hn]
  let e : Eff := ⟨true, (v.land (.loc dd) 0).1, bif nw then setR (zipSet bn gs' (only T st.regs)) (.loc dd) (some ⟨false, (v.land (.loc dd) 0).2⟩) else zipSet bn gs' (only T st.regs), (bif nw then [.loc dd] else []) ++ bn, ⟨bn, roots bn gs, bif nw then [.loc dd] else []⟩⟩
  show ∃ G' gm', (∀ b, G b → G' b) ∧ Inv P w0 F N (st.app e o) (a.put o res) w' G' gm'
  -- the regions behind the call
  have hrl : nw = true → (st.app e o).regs (.loc dd) = some ⟨false, (v.land .hand 0).2⟩ := by
    intro h
    simp only [St.app, e, h, cond_true, List.cons_append, List.nil_append, Nm.mem, Nm.eq_self, Bool.true_or, setR_self, hrows]
  have hmw : ∀ n : Nm, (nw = true → n ≠ .loc dd) → n.mem ((bif nw then [Nm.loc dd] else []) ++ bn) = n.mem bn := by
    intro n hne
    cases hw : nw with
    | false => rfl
    | true => simp only [cond_true, List.cons_append, List.nil_append, Nm.mem, Nm.eq_ne (hne hw), Bool.false_or]
  have hreg0 : ∀ n : Nm, (nw = true → n ≠ .loc dd) → e.regs n = zipSet bn gs' (only T st.regs) n := by
    intro n hne
    simp only [e]
    cases hw : nw with
    | false => rfl
    | true => simp only [cond_true, setR_ne _ _ (hne hw)]
  have hrb : ∀ n : Nm, n ∈ bn → (nw = true → n ≠ .loc dd) → (st.app e o).regs n = gs'[idxOf n bn]? := by
    intro n hn hne
    have hi := bn_at hn
    have hlt : idxOf n bn < bn.length := (List.getElem?_eq_some_iff.1 hi).1
    simp only [St.app]
    rw [show n.mem e.w = true by rw [show e.w = (bif nw then [Nm.loc dd] else []) ++ bn from rfl, hmw n hne]; exact (Nm.mem_iff n bn).2 hn]
    simp only [cond_true]
    rw [hreg0 n hne]
    exact zipSet_at bn gs' _ _ n hnd hi (by omega)
  have hro : ∀ n : Nm, n ∉ bn → (nw = true → n ≠ .loc dd) → (st.app e o).regs n = st.regs n := by
    intro n hn hne
    simp only [St.app]
    rw [show n.mem e.w = false by rw [show e.w = (bif nw then [Nm.loc dd] else []) ++ bn from rfl, hmw n hne]; exact (Nm.mem_false n bn).2 hn]
    rfl
  -- who is who in the call
  have hwho : ∀ n : Nm, ((nw = true ∧ n = .loc dd) ∨ n ∈ bn) → ∃ m, (withHand (parR gs') (v.land .hand 0).2) m = (st.app e o).regs n ∧ gm2 n = gm1 m ∧ ((nw = true ∧ n = .loc dd ∧ m = .hand) ∨ ((nw = true → n ≠ .loc dd) ∧ n ∈ bn ∧ m = .par (idxOf n bn))) := by
    intro n hn
    by_cases hl : nw = true ∧ n = .loc dd
    · obtain ⟨h1, rfl⟩ := hl
      exact ⟨.hand, by rw [withHand_hand, hrl h1], hgl h1, .inl ⟨h1, rfl, rfl⟩⟩
    · have hn' : n ∈ bn := hn.resolve_left hl
      have hne : nw = true → n ≠ .loc dd := fun h1 h2 => hl ⟨h1, h2⟩
      exact ⟨.par (idxOf n bn), by rw [hrb n hn' hne]; rfl, hgb n hn' hne, .inr ⟨hne, hn', rfl⟩⟩
  have hinj : ∀ n n' m : Nm, ((nw = true ∧ n = .loc dd ∧ m = .hand) ∨ ((nw = true → n ≠ .loc dd) ∧ n ∈ bn ∧ m = .par (idxOf n bn))) →
      ((nw = true ∧ n' = .loc dd ∧ m = .hand) ∨ ((nw = true → n' ≠ .loc dd) ∧ n' ∈ bn ∧ m = .par (idxOf n' bn))) → n = n' := by
    rintro n n' m (⟨_, rfl, rfl⟩ | ⟨_, h2, rfl⟩) (⟨_, rfl, h⟩ | ⟨_, h4, h⟩)
    · rfl
    · cases h
    · cases h
    · have h5 := bn_at h2
      have h6 := bn_at h4
      have : idxOf n bn = idxOf n' bn := by simpa using h
      rw [this, h6] at h5
      exact (Option.some.inj h5).symm
  have hregs : Regs P w0 F (st.app e o).regs w' G' gm2 := by
    refine hI.regs.change (fun n => (nw = true ∧ n = .loc dd) ∨ n ∈ bn) ?_ hR1.keep.os hR1.keep.tape hR1.keep.output hR1.keep.size ?_ ?_ ?_ ?_ ?_ (fun b hb => hR1.base b hb) ?_ ?_
    · intro k hk hn
      refine hR1.keep.block k hk ?_
      rintro ⟨r, R, hr, hR, hb⟩
      exact hn ⟨r, R, .inr hr, hR, hb⟩
    · intro r hr
      simp only [not_or, not_and] at hr
      exact ⟨hro r hr.2 hr.1, hgo r hr.2 hr.1⟩
    · intro r hr
      obtain ⟨m, h1, h2, _⟩ := hwho r hr
      have := hR1.reg m
      rw [h1, ← h2] at this
      exact this
    · intro r R hr hg
      obtain ⟨m, _, h2, _⟩ := hwho r hr
      exact hR1.nodup m R (by rw [← h2]; exact hg)
    · intro r r' R R' hr hr' hne hg hg'
      obtain ⟨m, _, h2, h3⟩ := hwho r hr
      obtain ⟨m', _, h2', h3'⟩ := hwho r' hr'
      exact hR1.disj m m' R R' (fun e => hne (hinj r r' m h3 (e ▸ h3'))) (by rw [← h2]; exact hg) (by rw [← h2']; exact hg')
    · intro r R b hr hg hb
      obtain ⟨m, _, h2, _⟩ := hwho r hr
      rcases hR1.mine m R b (by rw [← h2]; exact hg) hb with h | ⟨r', R', hr', hR', hb'⟩
      · exact .inr h
      · exact .inl ⟨r', R', .inr hr', hR', hb'⟩
    · intro b hb
      rcases hR1.grow b hb with h | h
      · exact .inl h
      · refine .inr ⟨?_, hR1.old b hb, ?_⟩
        · rcases h with h | ⟨r', R', hr', hR', hb'⟩
          · exact .inr h
          · exact .inl ⟨r', R', .inr hr', hR', hb'⟩
        · rintro ⟨r, R, hr, hg, hb'⟩
          obtain ⟨m, _, h2, _⟩ := hwho r hr
          exact hR1.apart m R b (by rw [← h2]; exact hg) hb' hb
    · rintro i R' (⟨_, h⟩ | hi) hg
      · cases h
      · rw [hgb _ hi (fun _ h => by cases h)] at hg
        have hix := bn_at hi
        obtain ⟨g, R, q1, q2, q3, q4⟩ := hreg _ _ hix
        obtain ⟨c1, c2⟩ := hR1.par _ R' hg
        obtain ⟨d1, d2⟩ := hI.regs.par i R q2
        simp only [handF, q1, q3, Option.bind_some] at c1 c2
        refine ⟨c1.trans d1, fun s hs => ?_⟩
        obtain ⟨e1, e2, e3⟩ := d2 s hs
        have hl := (lone_spec q4).2 ⟨e1, e2⟩
        rw [if_pos hl] at c2
        obtain ⟨f1, f2, f3⟩ := c2 _ rfl
        exact ⟨f1, f2, f3.trans e3⟩
  have hge : ∀ n, n ∈ bn → ∃ R', gm1 (.par (idxOf n bn)) = some R' := by
    intro n hn
    have hi := bn_at hn
    have hlt : idxOf n bn < bn.length := (List.getElem?_eq_some_iff.1 hi).1
    have h1 : withHand (parR gs') (v.land .hand 0).2 (.par (idxOf n bn)) = some gs'[idxOf n bn] := by
      rw [withHand_ne _ _ (by simp)]
      exact List.getElem?_eq_getElem (by omega)
    obtain ⟨R', h2, _⟩ := hR1.ok h1
    exact ⟨R', h2⟩
  have hstay : Stay e.k gm gm2 := by
    refine ⟨fun q hq hl => ?_, fun r R b hr hg hb => ?_⟩
    · have hk : e.k = ⟨bn, roots bn gs, bif nw then [.loc dd] else []⟩ := rfl
      rw [hk] at hq
      simp only [Kl.hits, Bool.or_eq_false_iff] at hq
      have hne : nw = true → q.r ≠ .loc dd := by
        intro h e
        have := hq.1.1
        rw [h, e] at this
        simp [Nm.mem, Nm.eq_self] at this
      by_cases hb : q.r ∈ bn
      · have hp : q.p = [] := by
          have := hq.2
          rw [(Nm.mem_iff _ _).2 hb] at this
          simpa using this
        obtain ⟨g, R, q1, q2, q3, q4⟩ := hreg _ _ (bn_at hb)
        have hlone : g.lone = true := by
          cases hl : g.lone with
          | true => rfl
          | false => exact absurd (roots_mem bn gs _ _ g (bn_at hb) q1 hl) ((Nm.mem_false _ _).1 hq.1.2)
        obtain ⟨R', hR'⟩ := hge _ hb
        obtain ⟨c1, c2⟩ := hR1.par _ R' hR'
        simp only [handF, q1, q3, if_pos hlone] at c2
        obtain ⟨f1, f2, f3⟩ := c2 _ rfl
        simp only [skAt, q2, hp, getSk] at hl
        have hj : q.j = 0 := by
          have h1 := ((lone_spec q4).1 hlone).2
          have h2 := q4.2.1.length
          rcases Nat.eq_zero_or_pos q.j with h | h
          · exact h
          · exact absurd (nthS_out R.sks q.j (by omega)) hl
        simp only [skAt, q2, hgb _ hb hne, hR', hp, getSk, hj]
        exact f3
      · rw [skAt_ne (gm := gm) (hgo _ hb hne)]
    · have hne : nw = true → r ≠ .loc dd := by
        intro h e'
        have hk : e.k.a = bif nw then [.loc dd] else [] := rfl
        rw [hk, h, e'] at hr
        simp [Nm.mem, Nm.eq_self] at hr
      by_cases hb' : r ∈ bn
      · obtain ⟨g, R2, q1, q2, q3, q4⟩ := hreg _ _ (bn_at hb')
        rw [hg] at q2
        obtain rfl := Option.some.inj q2
        obtain ⟨R', hR'⟩ := hge _ hb'
        obtain ⟨c1, _⟩ := hR1.par _ R' hR'
        simp only [handF, q3, Option.bind_some] at c1
        exact ⟨R', by rw [hgb _ hb' hne]; exact hR', c1.trans hb⟩
      · exact ⟨R, by rw [hgo _ hb' hne]; exact hg, hb⟩
  refine ⟨G', gm2, fun b hb => hR1.base b hb, hI.app e o hd res hregs ?_ (fun b hb => hR1.base b hb) ?_ hstay (fun ho => ?_)⟩
  · rw [hro _ hbh (fun _ h => by cases h)]; exact hI.hand
  · intro k hk
    refine hR1.keep.block k (hI.regs.old k hk) ?_
    rintro ⟨r, R, _, hR, hb⟩
    exact hI.regs.apart r R k hR hb hk
  · refine Rv.land v res 0 hnames (fun hx => hgl ?_) hres
    rw [← hnw]
    have : o.isSome = true := by
      cases o with
      | none => exact absurd rfl ho
      | some d => rfl
    rw [this, hrows]
    simpa [List.isEmpty_iff] using hx

/-! ### results that hold no slice -/
mutual
theorem scalar_land : ∀ (h : Sh) (v : V), h.scalar = true → (h.re v).1 = true → ∀ n j, ((h.re v).2.land n j).2 = []
  | .i k, v, _, _, _, _ => rfl
  | .b, v, _, _, _, _ => rfl
  | .s, v, _, _, _, _ => rfl
  | .ag l, v, hs, h, n, j => by
    simp only [Sh.re, Bool.and_eq_true] at h
    simp only [Sh.re, V.land]
    exact scalarL_land l v.partsOf 0 hs h.2 n j
  | .tp l, v, hs, h, n, j => by
    simp only [Sh.re, Bool.and_eq_true] at h
    simp only [Sh.re, V.land]
    exact scalarL_land l v.partsOf 0 hs h.2 n j
  | .sl _, _, hs, _, _, _ => by cases hs
  | .own _ _, _, hs, _, _, _ => by cases hs
  | .any, _, hs, _, _, _ => by cases hs
theorem scalarL_land : ∀ (l : List Sh) (xs : List V) (k : Nat), scalarL l = true → (Sh.reL l xs k).1 = true → ∀ n j, (landL n j (Sh.reL l xs k).2).2 = []
  | [], _, _, _, _, _, _ => rfl
  | h :: l, xs, k, hs, hok, n, j => by
    simp only [scalarL, Bool.and_eq_true] at hs
    simp only [Sh.reL, Bool.and_eq_true] at hok
    simp only [Sh.reL, landL]
    rw [scalar_land h _ hs.1 hok.1 n j, scalarL_land l xs (k + 1) hs.2 hok.2 n _]
    rfl
end

mutual
theorem scalar_rv {w1 w2 : World} {G1 G2 : Nat → Prop} {g1 g2 : GM} : ∀ (h : Sh) (v : V) (u : Value), h.scalar = true → (h.re v).1 = true → ∀ n m j, Rv w1 G1 g1 u ((h.re v).2.land n j).1 → Rv w2 G2 g2 u ((h.re v).2.land m j).1
  | .i k, v, u, _, _, _, _, _, h => h
  | .b, v, u, _, _, _, _, _, h => h
  | .s, v, u, _, _, _, _, _, h => h
  | .ag l, v, u, hs, h, n, m, j, hr => by
    simp only [Sh.re, Bool.and_eq_true] at h
    simp only [Sh.re, V.land] at hr ⊢
    obtain ⟨cs, h1, h2⟩ := hr
    exact ⟨cs, h1, scalarL_rv l v.partsOf 0 _ hs h.2 n m j h2⟩
  | .tp l, v, u, hs, h, n, m, j, hr => by
    simp only [Sh.re, Bool.and_eq_true] at h
    simp only [Sh.re, V.land] at hr ⊢
    obtain ⟨cs, h1, h2⟩ := hr
    exact ⟨cs, h1, scalarL_rv l v.partsOf 0 _ hs h.2 n m j h2⟩
  | .sl _, _, _, hs, _, _, _, _, _ => by cases hs
  | .own _ _, _, _, hs, _, _, _, _, _ => by cases hs
  | .any, _, _, hs, _, _, _, _, _ => by cases hs
theorem scalarL_rv {w1 w2 : World} {G1 G2 : Nat → Prop} {g1 g2 : GM} : ∀ (l : List Sh) (xs : List V) (k : Nat) (us : List Value), scalarL l = true → (Sh.reL l xs k).1 = true → ∀ n m j,
    RvL w1 G1 g1 us (landL n j (Sh.reL l xs k).2).1 → RvL w2 G2 g2 us (landL m j (Sh.reL l xs k).2).1
  | [], _, _, us, _, _, _, _, _, hr => by
    simp only [Sh.reL, landL] at hr ⊢
    rw [RvL.nil_of hr]; exact trivial
  | h :: l, xs, k, us, hs, hok, n, m, j, hr => by
    simp only [scalarL, Bool.and_eq_true] at hs
    simp only [Sh.reL, Bool.and_eq_true] at hok
    simp only [Sh.reL, landL] at hr ⊢
    cases us with
    | nil => exact hr.elim
    | cons u us =>
      refine ⟨scalar_rv h _ u hs.1 hok.1 n m j hr.1, ?_⟩
      rw [scalar_land h _ hs.1 hok.1 n j] at hr
      rw [scalar_land h _ hs.1 hok.1 m j]
      exact scalarL_rv l xs (k + 1) us hs.2 hok.2 n m _ hr.2
end

/-- A call that is handed values alone, and hands back what holds no slice, leaves the regions as they are. -/
theorem back_scalar (hI : Inv P w0 F N st a w G gm) {o : Option Nat} (hd : ∀ x, o = some x → x < N) {T : List Nm} {sh : Sh} (hsc : sh.scalar = true) {v : V} {gs' : List Rg} (hok : (semRet o (only T st.regs) [] [] sh v gs').ok = true)
    {Rs : List RG} {res : Value} (hb : Back P w (handF [] gm G1 [] Rs) v gs' res w') :
    Inv P w0 F N (st.app (semRet o (only T st.regs) [] [] sh v gs') o) (a.put o res) w' G gm := by
  obtain ⟨G', gm1, hR1, hres⟩ := hb
  unfold semRet at hok ⊢
  simp only at hok ⊢
  obtain ⟨h1, _⟩ := when_ok hok
  simp only [Bool.and_eq_true] at h1
  obtain ⟨⟨⟨p1, p2⟩, p3⟩, p4⟩ := h1
  have hre := Sh.re_eq sh v p1
  generalize hdd : ddOf o = dd at p4 ⊢
  have hl0 := scalar_land sh v hsc p1 (.loc dd) 0
  have hkeep : ∀ k, k < w.heap.size → w'.heap[k]? = w.heap[k]? := fun k hk => hR1.keep.block k hk (by rintro ⟨r, R, hr, _⟩; cases hr)
  have hregs : Regs P w0 F st.regs w' G gm :=
    hI.regs.change (fun _ => False) (fun k hk _ => hkeep k hk) hR1.keep.os hR1.keep.tape hR1.keep.output hR1.keep.size (fun _ _ => ⟨rfl, rfl⟩) (fun _ h => h.elim) (fun _ _ h => h.elim) (fun _ _ _ _ h => h.elim) (fun _ _ _ h => h.elim) (fun _ h => h) (fun _ h => .inl h) (fun _ _ h => h.elim)
  have hw0 : (o.isSome && !((sh.re v).2.land (.loc dd) 0).2.isEmpty) = false := by rw [hl0]; simp
  simp only [hw0, cond_false, roots, zipSet, List.nil_append]
  refine hI.app _ o hd res ?_ ?_ (fun _ h => h) (fun k hk => hkeep k (hI.regs.old k hk)) (Stay.refl _ _) (fun _ => ?_)
  · simpa [St.app, Nm.mem, when_w, when_regs, Eff.when] using hregs
  · simp only [St.app, Eff.when, Nm.mem, cond_false]; exact hI.hand
  · rw [when_val]
    simp only
    rw [← hre] at hres
    exact scalar_rv sh v res hsc p1 .hand (.loc dd) 0 hres
end
end Go.Ab
