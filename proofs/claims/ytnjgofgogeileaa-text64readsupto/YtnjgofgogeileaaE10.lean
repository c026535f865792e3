/- States: what an operation's effect leaves of the invariant. -/
import Derived.Test.YtnjgofgogeileaaE9
namespace Go.Ab
open Go
set_option linter.unusedSimpArgs false
set_option linter.unusedVariables false

section
variable {P : Program} {w0 w w' : World} {F : FG} {N : Nat} {st : St} {a : Act} {G G' : Nat → Prop} {gm gm' : GM}

theorem getD_put_self (a : Act) (d : Nat) (v : Value) (h : d < a.tmps.size) : (a.put (some d) v).tmps.getD d undef = v := by
  simp [Act.put, h]
theorem getD_put_ne (a : Act) (d i : Nat) (v : Value) (h : d ≠ i) : (a.put (some d) v).tmps.getD i undef = a.tmps.getD i undef := by
  simp [Act.put, Array.getElem?_setIfInBounds_ne h]

theorem isDst_some (d i : Nat) : isDst (some d) i = true ↔ i = d := by
  simp only [isDst]
  exact ⟨nbeq, fun h => by subst h; simp⟩
theorem isDst_none (i : Nat) : isDst none i = false := rfl

theorem Kl.isNo_eq {k : Kl} (h : k.isNo = true) : k = .no := by
  obtain ⟨d, r, a⟩ := k
  simp only [Kl.isNo, Bool.and_eq_true, List.isEmpty_iff] at h
  obtain ⟨⟨rfl, rfl⟩, rfl⟩ := h
  rfl

/-- The state behind an effect. -/
theorem Inv.app (hI : Inv P w0 F N st a w G gm) (e : Eff) (d : Option Nat) (hd : ∀ x, d = some x → x < N) (v : Value)
    (hR : Regs P w0 F (st.app e d).regs w' G' gm') (hh : (st.app e d).regs .hand = none) (hG : ∀ b, G b → G' b) (hw : ∀ k, G k → w'.heap[k]? = w.heap[k]?) (hs : Stay e.k gm gm')
    (hv : d ≠ none → Rv w' G' gm' v e.val) : Inv P w0 F N (st.app e d) (a.put d v) w' G' gm' := by
  refine ⟨hR, fun i => ?_, ?_, ?_, hh⟩
  · have key : ∀ y, Rv w G gm y (st.env i) → Rv w' G' gm' y (bif e.k.isNo then st.env i else (st.env i).kill e.k) := by
      intro y hy
      cases hk : e.k.isNo with
      | true => simp only [cond_true]; exact Rv.stay hw hG (Kl.isNo_eq hk ▸ hs) _ _ hy
      | false => simp only [cond_false]; exact Rv.kill hw hG e.k hs _ _ hy
    cases d with
    | none => exact key _ (hI.env i)
    | some d =>
      by_cases hi : i = d
      · subst hi
        have : isDst (some i) i = true := (isDst_some i i).2 rfl
        simp only [St.app, this, cond_true]
        rw [getD_put_self a i v (by rw [hI.size]; exact hd i rfl)]
        exact hv (by simp)
      · have : isDst (some d) i = false := by
          cases h : isDst (some d) i with
          | false => rfl
          | true => exact absurd ((isDst_some d i).1 h) hi
        simp only [St.app, this, cond_false]
        rw [getD_put_ne a d i v (fun h => hi h.symm)]
        exact key _ (hI.env i)
  · cases d with
    | none => exact hI.size
    | some d => simpa [Act.put] using hI.size
  · cases d with
    | none => exact hI.defers
    | some d => exact hI.defers

/-- An effect that touches no region. -/
theorem Inv.quiet (hI : Inv P w0 F N st a w G gm) (e : Eff) (d : Option Nat) (hd : ∀ x, d = some x → x < N) (v : Value) (hk : e.k = .no) (hwr : e.w = [])
    (hv : d ≠ none → Rv w G gm v e.val) : Inv P w0 F N (st.app e d) (a.put d v) w G gm := by
  have hreg : (st.app e d).regs = st.regs := by
    funext n
    simp only [St.app, hwr, Nm.mem, cond_false]
  refine hI.app e d hd v (by rw [hreg]; exact hI.regs) (by rw [hreg]; exact hI.hand) (fun _ h => h) (fun _ _ => rfl) (by rw [hk]; exact Stay.refl _ _) hv

theorem Act.put_none (a : Act) (v : Value) : a.put none v = a := rfl

/-- Only draws have been made. -/
theorem Inv.world (hI : Inv P w0 F N st a w G gm) (hh : w'.heap = w.heap) (hos : w'.os = w.os) (htape : w'.tape = w.tape) (hout : w'.output = w.output) : Inv P w0 F N st a w' G gm :=
  ⟨hI.regs.world hh hos htape hout, fun i => Rv.stay (fun _ _ => by rw [hh]) (fun _ h => h) (Stay.refl _ _) _ _ (hI.env i), hI.size, hI.defers, hI.hand⟩

theorem only_within (T : List Nm) (rd : Nm → Option Rg) : Within T (only T rd) := fun n hn => by simp [only, hn]
theorem mix_only (T : List Nm) (rd : Nm → Option Rg) : mix T (only T rd) rd = rd := by
  funext n
  cases h : n.mem T <;> simp [mix, only, h]

/-- An empty hand. -/
theorem Inv.start (hI : Inv P w0 F N st a w G gm) (T : List Nm) : ∃ gm1, Regs P w0 F (withHand (mix T (only T st.regs) st.regs) []) w G gm1 ∧ gm1 .hand = some ⟨none, [], []⟩ ∧ Stay .no gm gm1 ∧
    (Nm.hand.mem T = false → Live (only T st.regs) gm gm1) := by
  have hg : gm .hand = none := hI.regs.none hI.hand
  have hst : Stay .no gm (setG gm .hand (some ⟨none, [], []⟩)) := by
    constructor
    · intro q _ hl
      by_cases hq : q.r = .hand
      · simp only [skAt, hq, hg] at hl; exact absurd rfl hl
      · rw [skAt_ne (setG_ne _ _ hq)]
    · intro r R b _ h1 h2
      by_cases hr : r = .hand
      · subst hr; rw [hg] at h1; cases h1
      · exact ⟨R, by rw [setG_ne _ _ hr]; exact h1, h2⟩
  refine ⟨setG gm .hand (some ⟨none, [], []⟩), ?_, setG_self _ _ _, hst, ?_⟩
  · rw [mix_only]
    refine hI.regs.change (fun r => r = .hand) (fun _ _ _ => rfl) rfl rfl rfl (Nat.le_refl _) ?_ ?_ ?_ ?_ ?_ (fun _ h => h) (fun _ h => .inl h)
    · intro r hr
      exact ⟨withHand_ne _ _ hr, setG_ne _ _ hr⟩
    · rintro r rfl
      rw [withHand_hand, setG_self]
      exact ⟨rfl, trivial, fun b hb => by cases hb⟩
    · rintro r R rfl hr
      rw [setG_self] at hr
      obtain rfl := Option.some.inj hr
      simp [RG.fp, fpL]
    · rintro r r' R R' rfl rfl hne
      exact absurd rfl hne
    · rintro r R b rfl hr hb
      rw [setG_self] at hr
      obtain rfl := Option.some.inj hr
      simp [RG.fp, fpL] at hb
  · intro hT q e d xs hq
    obtain ⟨rg, hr, hx⟩ := ownAt_some hq
    have : q.r ≠ .hand := by
      intro e
      have := (only_within T st.regs).mem hr
      rw [e, hT] at this; cases this
    rw [skAt_ne (setG_ne _ _ this)]

/-- What was on its way becomes a region of the operation's own, maybe after memory was written. -/
theorem Inv.land (hI : Inv P w0 F N st a w G gm) {d : Nat} (hd : d < N) {T : List Nm} (hTd : (Nm.loc d).mem T = true) (hTh : Nm.hand.mem T = false) {rd1 : Nm → Option Rg} {k : Kl} {G1 : Nat → Prop} {gm1 : GM}
    {row : List V} {vals : List Value} {sks : List Sk}
    (h1 : Regs P w0 F (withHand (mix T rd1 st.regs) row) w G1 gm1) (hh : gm1 .hand = some ⟨none, vals, sks⟩) (hG : ∀ b, G b → G1 b) (hs : Stay k gm gm1) (hT : Within T rd1)
    (hsame : ∀ n, n ∉ k.names → rd1 n = only T st.regs n) (hkT : ∀ n, n ∈ k.names → n.mem T = true)
    {w2 : World} (hw : ∀ b, b < w.heap.size → b ∉ fpL sks → w2.heap[b]? = w.heap[b]?) (hos : w2.os = w.os) (htape : w2.tape = w.tape) (hout : w2.output = w.output) (hsize : w.heap.size ≤ w2.heap.size)
    {rg : Rg} {R : RG} {G2 : Nat → Prop} (hok : RgOk w2 G2 P rg R) (hnd : R.fp.Nodup) (hsrc : ∀ b ∈ R.fp, b ∈ fpL sks ∨ w.heap.size ≤ b)
    (hG1 : ∀ b, G1 b → G2 b) (hG2 : ∀ b, G2 b → G1 b ∨ ((b ∈ fpL sks ∨ w.heap.size ≤ b) ∧ b < w2.heap.size ∧ b ∉ R.fp))
    (v : Value) (x : V) (hv : Rv w2 G2 (setG (setG gm1 .hand none) (.loc d) (some R)) v x) :
    Inv P w0 F N (st.app (newReg d rd1 rg x k) (some d)) (a.put (some d) v) w2 G2 (setG (setG gm1 .hand none) (.loc d) (some R)) := by
  have hne : Nm.loc d ≠ .hand := by simp
  have hfp : ∀ b, b ∈ fpL sks → InC (fun r => r = .hand ∨ r = .loc d) gm1 b := fun b hb => ⟨.hand, _, .inl rfl, hh, by simpa [RG.fp] using hb⟩
  have hfresh : ∀ b ∈ R.fp, ¬ G1 b := by
    intro b hb hg
    rcases hsrc b hb with h | h
    · exact h1.apart _ _ b hh (by simpa [RG.fp] using h) hg
    · have := h1.old b hg; omega
  have hreg : Regs P w0 F (st.app (newReg d rd1 rg x k) (some d)).regs w2 G2 (setG (setG gm1 .hand none) (.loc d) (some R)) := by
    refine h1.change (fun r => r = .hand ∨ r = .loc d) ?_ hos htape hout hsize ?_ ?_ ?_ ?_ ?_ hG1 ?_
    · intro b hb hn
      exact hw b hb (fun hm => hn (hfp b hm))
    · intro r hr
      simp only [not_or] at hr
      refine ⟨?_, by rw [setG_ne _ _ hr.2, setG_ne _ _ hr.1]⟩
      rw [withHand_ne _ _ hr.1]
      simp only [St.app, newReg, mix, Nm.mem, Nm.eq_ne hr.2, Bool.false_or]
      by_cases hk : r ∈ k.names
      · rw [(Nm.mem_iff r k.names).2 hk, hkT r hk]
        simp only [cond_true, setR_ne _ _ hr.2]
      · rw [(Nm.mem_false r k.names).2 hk]
        simp only [cond_false]
        cases hm : r.mem T with
        | false => rfl
        | true => simp only [cond_true]; rw [hsame r hk]; simp [only, hm]
    · rintro r (rfl | rfl)
      · have hh2 : Nm.hand.mem k.names = false := by
          cases h : Nm.hand.mem k.names with
          | false => rfl
          | true => have := hkT .hand ((Nm.mem_iff _ _).1 h); rw [hTh] at this; cases this
        simp only [St.app, newReg, Nm.mem, Nm.eq_ne (Ne.symm hne), hh2, Bool.false_or, cond_false, hI.hand]
        rw [setG_ne _ _ (Ne.symm hne), setG_self]
        trivial
      · simp only [St.app, newReg, Nm.mem, Nm.eq_self, Bool.true_or, cond_true, setR_self, setG_self]
        exact hok
    · rintro r R1 (rfl | rfl) hr
      · rw [setG_ne _ _ (Ne.symm hne), setG_self] at hr; cases hr
      · rw [setG_self] at hr
        obtain rfl := Option.some.inj hr
        exact hnd
    · rintro r r' R1 R2 (rfl | rfl) (rfl | rfl) hne' hr1 hr2
      · exact absurd rfl hne'
      · rw [setG_ne _ _ (Ne.symm hne), setG_self] at hr1; cases hr1
      · rw [setG_ne _ _ (Ne.symm hne), setG_self] at hr2; cases hr2
      · exact absurd rfl hne'
    · rintro r R1 b (rfl | rfl) hr hb
      · rw [setG_ne _ _ (Ne.symm hne), setG_self] at hr; cases hr
      · rw [setG_self] at hr
        obtain rfl := Option.some.inj hr
        exact (hsrc b hb).imp (hfp b) id
    · intro b hb
      rcases hG2 b hb with h | ⟨h2, h3, h4⟩
      · exact .inl h
      · refine .inr ⟨h2.imp (hfp b) id, h3, ?_⟩
        rintro ⟨r, R1, (rfl | rfl), hr, hb'⟩
        · rw [setG_ne _ _ (Ne.symm hne), setG_self] at hr; cases hr
        · rw [setG_self] at hr
          obtain rfl := Option.some.inj hr
          exact h4 hb'
  refine hI.app _ _ (fun x hx => by obtain rfl := Option.some.inj hx; exact hd) v hreg ?_ (fun b hb => hG1 b (hG b hb)) ?_ ?_ (fun _ => hv)
  · have hh2 : Nm.hand.mem k.names = false := by
      cases h : Nm.hand.mem k.names with
      | false => rfl
      | true => have := hkT .hand ((Nm.mem_iff _ _).1 h); rw [hTh] at this; cases this
    simp only [St.app, newReg, Nm.mem, Nm.eq_ne (Ne.symm hne), hh2, Bool.false_or, cond_false, hI.hand]
  · intro b hb
    refine hw b (hI.regs.old b hb) (fun hm => ?_)
    exact h1.apart _ _ b hh (by simpa [RG.fp] using hm) (hG b hb)
  · refine ⟨?_, ?_⟩
    · intro q hq hl
      obtain ⟨hq1, hq2⟩ := hits_and hq
      have hqd : q.r ≠ .loc d := by
        intro e
        simp [Kl.hits, e, Nm.mem, Nm.eq_self] at hq2
      have hqh : q.r ≠ .hand := by
        intro e
        have hg : gm .hand = none := hI.regs.none hI.hand
        simp only [skAt, e, hg] at hl; exact absurd rfl hl
      rw [skAt_ne (gm := gm1) (by rw [setG_ne _ _ hqd, setG_ne _ _ hqh])]
      exact hs.own q hq1 hl
    · intro r R1 b hr g1 g2
      have hr' := mem_append_false hr
      have hrd : r ≠ .loc d := by
        intro e
        have := hr'.2
        simp [e, Nm.mem, Nm.eq_self] at this
      have hrh : r ≠ .hand := by
        intro e
        have hg : gm .hand = none := hI.regs.none hI.hand
        rw [e, hg] at g1; cases g1
      obtain ⟨R', k1, k2⟩ := hs.box r R1 b hr'.1 g1 g2
      exact ⟨R', by rw [setG_ne _ _ hrd, setG_ne _ _ hrh]; exact k1, k2⟩
end
end Go.Ab
