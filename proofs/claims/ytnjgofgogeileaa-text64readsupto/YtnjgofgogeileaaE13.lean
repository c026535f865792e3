/- Slices of slices, lengths, parts of values. -/
import Derived.Test.YtnjgofgogeileaaE12
namespace Go.Ab
open Go
set_option linter.unusedSimpArgs false
set_option linter.unusedVariables false

section
variable {P : Program} {w0 w : World} {F : FG} {N : Nat} {st : St} {a : Act} {G : Nat → Prop} {gm : GM}

/-- A bound, as a value and as a number. -/
inductive BndV : Option Value → Option Int → Prop
  | none : BndV none none
  | some (k : IntKind) (n : Int) : BndV (some (.int k n)) (some n)

theorem bnds_spec {n : Nat} {lo hi : Option Int} {l h : Nat} (hb : bnds n lo hi = (true, l, h)) :
    l ≤ h ∧ h ≤ n ∧ (∀ x, lo = some x → 0 ≤ x ∧ x = l) ∧ (lo = none → l = 0) ∧ (∀ x, hi = some x → 0 ≤ x ∧ x = h) ∧ (hi = none → h = n) := by
  cases lo <;> cases hi <;> simp [bnds] at hb <;> grind

theorem run_sliceBounds {isS : Bool} {len cap : Nat} {lo hi : Option Value} {lo' hi' : Option Int} (hl : BndV lo lo') (hh : BndV hi hi') {l h : Nat} (hb : bnds len lo' hi' = (true, l, h)) (hc : len ≤ cap) :
    (Instr.sliceBounds isS len cap lo hi none).run P w = .ok (l, h, cap) w := by
  obtain ⟨h1, h2, h3, h4, h5, h6⟩ := bnds_spec hb
  have hx : ∀ (k : IntKind) (x : Int) (y : Nat) (c : BoundsCode), 0 ≤ x → x ≤ (y : Int) → (Instr.sliceBound (.int k x) y c).run P w = .ok x.toNat w := by
    intro k x y c hx hy
    simp [Instr.sliceBound, asIntOf, hx, hy]
  cases hl with
  | none =>
    have := h4 rfl
    subst this
    cases hh with
    | none => have := h6 rfl; subst this; simp [Instr.sliceBounds]
    | some k x =>
      obtain ⟨g1, g2⟩ := h5 x rfl
      simp only [Instr.sliceBounds, Sem.run_bind, Sem.run_pure, Result.andThen_ok]
      rw [hx k x cap _ g1 (by omega)]
      simp only [Result.andThen_ok, g2, Int.toNat_natCast]
  | some k y =>
    obtain ⟨g1, g2⟩ := h3 y rfl
    cases hh with
    | none =>
      have := h6 rfl
      subst this
      simp only [Instr.sliceBounds, Sem.run_bind, Sem.run_pure, Result.andThen_ok]
      rw [hx k y h _ g1 (by omega)]
      simp only [Result.andThen_ok, g2, Int.toNat_natCast]
    | some k' x =>
      obtain ⟨g3, g4⟩ := h5 x rfl
      simp only [Instr.sliceBounds, Sem.run_bind, Sem.run_pure, Result.andThen_ok]
      rw [hx k' x cap _ g3 (by omega)]
      simp only [Result.andThen_ok, g4, Int.toNat_natCast]
      rw [hx k y h _ g1 (by omega)]
      simp only [Result.andThen_ok, g2, Int.toNat_natCast]

theorem cut_eq {sz n : Nat} {xs : List V} {lo hi : Option Int} {l h : Nat} (hb : bnds n lo hi = (true, l, h)) (hx : xs.length = n * sz) :
    cut sz xs lo hi l h = (xs.drop (l * sz)).take ((h - l) * sz) := by
  obtain ⟨h1, h2, h3, h4, h5, h6⟩ := bnds_spec hb
  unfold cut
  cases lo with
  | none =>
    have := h4 rfl
    subst this
    cases hi with
    | none => have := h6 rfl; subst this; simp [← hx]
    | some _ => simp
  | some _ =>
    cases hi with
    | none =>
      have := h6 rfl
      subst this
      simp only
      rw [List.take_of_length_le]
      simp only [List.length_drop, hx, Nat.sub_mul]
      omega
    | some _ => rfl

theorem run_slice_slice {t e : TypeId} {i : TypeInfo} (hu : P.underlying t = some (.slice e)) (hinf : P.info? e = some i) {ad : Option Addr} {len cap : Nat} {lo hi : Option Value} {lo' hi' : Option Int}
    (hl : BndV lo lo') (hh : BndV hi hi') {l h : Nat} (hb : bnds len lo' hi' = (true, l, h)) (hc : len ≤ cap) :
    (Instr.sliceAt t (.slice ad len cap) lo hi none).run P w = .ok (.slice (if cap = l then ad else ad.map (·.add (l * i.size))) (h - l) (cap - l)) w := by
  simp only [Instr.sliceAt, Instr.slice, Sem.run_bind, run_underlying hu, Result.andThen_ok, run_sliceBounds hl hh hb hc, run_sizeOf' hinf]
  rfl

theorem run_slice_string {t : TypeId} (hu : P.underlying t = some .string) {s : ByteArray} {lo hi : Option Value} {lo' hi' : Option Int}
    (hl : BndV lo lo') (hh : BndV hi hi') {l h : Nat} (hb : bnds s.size lo' hi' = (true, l, h)) :
    (Instr.sliceAt t (.string s) lo hi none).run P w = .ok (.string (s.extract l h)) w := by
  simp only [Instr.sliceAt, Instr.slice, Sem.run_bind, run_underlying hu, Result.andThen_ok, Option.isSome_none, Bool.false_eq_true, if_false, run_sliceBounds hl hh hb (Nat.le_refl _)]
  rfl

theorem info_of_sz {e : TypeId} (h : 0 < szT P e) : ∃ i, P.info? e = some i ∧ i.size = szT P e := by
  unfold szT at h ⊢
  cases hi : P.info? e with
  | none => simp only [hi] at h; omega
  | some i => exact ⟨i, rfl, rfl⟩

theorem info_of_el {t e : TypeId} (h : elT P t = some e) (hs : szT P e ≠ 0 ∨ (P.info? e).isSome) : ∃ i, P.info? e = some i ∧ i.size = szT P e := by
  rcases hs with h | h
  · exact info_of_sz (Nat.pos_of_ne_zero h)
  · obtain ⟨i, hi⟩ := Option.isSome_iff_exists.1 h
    exact ⟨i, hi, by simp [szT, hi]⟩

theorem isStrT_spec {t : TypeId} (h : isStrT P t = true) : P.underlying t = some .string := by
  unfold isStrT at h
  split at h <;> simp_all

theorem semSlice_ok (hI : Inv P w0 F N st a w G gm) {o : Oper} (hd : ∀ x, o.dst = some x → x < N) {t : TypeId} {x : Operand} {lo hi : Option Operand} (ho : o.op = .slice t x lo hi none) {T : List Nm}
    {vx : V} {lo' hi' : Option Int} (hx : Rv w G gm (a.eval x) vx) (hl : BndV (lo.map a.eval) lo') (hh : BndV (hi.map a.eval) hi')
    (hok : (semSlice P (only T st.regs) t vx lo' hi').ok = true) :
    OpRes P w0 F N st a w G o (semSlice P (only T st.regs) t vx lo' hi') := by
  unfold semSlice at hok ⊢
  have hrun : ∀ v, (Instr.sliceAt t (a.eval x) (lo.map a.eval) (hi.map a.eval) none).run P w = .ok v w → (execOp a.eval o).run P w = .ok (.value v) w := by
    intro v hv
    simp only [execOp, ho, Option.map_none, Sem.run_bind, hv, Result.andThen_ok]
    rfl
  have slice : ∀ e, elT P t = some e → (P.info? e).isSome = true → ∀ ad len cap, a.eval x = .slice ad len cap → len ≤ cap → ∀ l h, bnds len lo' hi' = (true, l, h) →
      (execOp a.eval o).run P w = .ok (.value (.slice (if cap = l then ad else ad.map (·.add (l * szT P e))) (h - l) (cap - l))) w := by
    intro e he hin ad len cap hxx hc l h hb
    obtain ⟨i, hi, hi2⟩ := info_of_el he (.inr hin)
    rw [← hi2]
    exact hrun _ (by rw [hxx]; exact run_slice_slice (elT_spec he) hi hl hh hb hc)
  cases vx <;> try (first | (cases hok; done) | (simp only at hok; cases he : elT P t <;> rw [he] at hok <;> cases hok; done))
  case sc u =>
    cases u <;> try (first | (cases hok; done) | (simp only at hok; cases he : elT P t <;> rw [he] at hok <;> cases hok; done))
    rename_i s
    simp only at hok ⊢
    obtain ⟨h1, _⟩ := when_ok hok
    simp only [Bool.and_eq_true] at h1
    refine OpRes.when (OpRes.quiet hI hd _ (hrun _ ?_) rfl rfl ⟨rfl, rfl⟩)
    rw [hx.sc_eq.1]
    exact run_slice_string (isStrT_spec h1.2) hl hh (by rw [← h1.1])
  case sl sz xs =>
    simp only at hok ⊢
    cases he : elT P t with
    | none => rw [he] at hok; cases hok
    | some e =>
      rw [he] at hok
      simp only at hok ⊢
      obtain ⟨h1, _⟩ := when_ok hok
      simp only [Bool.and_eq_true] at h1
      obtain ⟨h1, hin⟩ := h1
      have hsz := nbeq h1.2
      subst hsz
      have hb : bnds (lenE (szT P e) xs.length) lo' hi' = (true, (bnds (lenE (szT P e) xs.length) lo' hi').2.1, (bnds (lenE (szT P e) xs.length) lo' hi').2.2) := by rw [← h1.1]
      refine OpRes.when ?_
      rcases hx with ⟨hxx, rfl⟩ | ⟨ad, len, cap, cs, hxx, k2, k3, k4, k5, k6, k7, k8, k9, k10⟩
      · rw [List.length_nil, lenE_zero] at hb ⊢
        obtain ⟨q1, q2, _⟩ := bnds_spec hb
        have q3 : (bnds 0 lo' hi').2.1 = 0 := by omega
        have q4 : (bnds 0 lo' hi').2.2 = 0 := by omega
        refine OpRes.quiet hI hd _ (slice e he hin none 0 0 hxx (Nat.le_refl _) _ _ hb) rfl rfl (.inl ⟨?_, ?_⟩)
        · rw [q3, q4]; rfl
        · unfold cut; split <;> simp
      · rw [k4, lenE_mul k5] at hb ⊢
        obtain ⟨q1, q2, _⟩ := bnds_spec hb
        generalize (bnds len lo' hi').2.1 = l at *
        generalize (bnds len lo' hi').2.2 = h at *
        by_cases hxe : xs = []
        · subst hxe
          have h0 : len = 0 := by
            have : len * szT P e = 0 := by simpa using k4.symm
            rcases Nat.mul_eq_zero.1 this with h | h <;> omega
          subst h0
          obtain rfl : l = 0 := by omega
          obtain rfl : h = 0 := by omega
          refine OpRes.quiet hI hd _ (slice e he hin _ 0 cap hxx k3 _ _ hb) rfl rfl ?_
          simp only [Eff.put]
          rw [cut_eq hb k4]
          have hcs : cs = [] := List.eq_nil_of_length_eq_zero (by have := k8.length; simpa using this)
          subst hcs
          refine .inr ⟨if cap = 0 then ad else ad.add (0 * szT P e), 0, cap, [], ?_, fun h => absurd (by simp) h, by omega, by simp, k5, CellsAt.nil _ _, fun h => absurd (by simp) h, by simp [RvL], by simp [cibL], fun u hu => by cases hu⟩
          split <;> simp_all
        have k2 := k2 hxe
        obtain ⟨bk, oo, sp⟩ := ad
        simp only at k2
        subst k2
        refine OpRes.quiet hI hd _ (slice e he hin _ len cap hxx k3 _ _ hb) rfl rfl ?_
        have hle : (h - l) * szT P e ≤ len * szT P e - l * szT P e := by
          rw [← Nat.sub_mul]; exact Nat.mul_le_mul_right _ (by omega)
        simp only [Eff.put]
        rw [cut_eq hb k4]
        refine .inr ⟨if cap = l then ⟨bk, oo, none⟩ else ⟨bk, oo + l * szT P e, none⟩, h - l, cap - l, (cs.drop (l * szT P e)).take ((h - l) * szT P e), ?_, fun _ => by split <;> rfl, by omega, ?_, k5, ?_, ?_, ?_, cibL_take _ _ (cibL_drop _ _ k9), fun u hu => k10 u (List.mem_of_mem_drop (List.mem_of_mem_take hu))⟩
        · split <;> simp [add_addr]
        · simp only [List.length_take, List.length_drop, k4]; omega
        · intro j v hv
          by_cases hj : j < (h - l) * szT P e
          · rw [List.get_drop_take _ _ _ _ hj] at hv
            have hne : ¬ cap = l := by
              intro e
              have : h - l = 0 := by omega
              rw [this] at hj; simp at hj
            rw [if_neg hne]
            have := k6 _ _ hv
            simpa [Nat.add_assoc] using this
          · rw [List.getElem?_take, if_neg hj] at hv; cases hv
        · intro hxs
          have : xs ≠ [] := by rintro rfl; simp at hxs
          have := k7 this
          split <;> exact this
        · have hlen := k8.length
          refine RvL.of_get _ _ (by simp only [List.length_take, List.length_drop]; omega) ?_
          intro j v x' hv hx'
          have hj : j < (h - l) * szT P e := by
            rcases Nat.lt_or_ge j ((h - l) * szT P e) with h' | h'
            · exact h'
            · rw [List.getElem?_take, if_neg (by omega)] at hv; cases hv
          rw [List.get_drop_take _ _ _ _ hj] at hv hx'
          obtain ⟨v', q1, q2⟩ := k8.get (l * szT P e + j) (List.getElem?_eq_some_iff.1 hx').1
          rw [q1] at hv
          obtain rfl := Option.some.inj hv
          have : nthV xs (l * szT P e + j) = x' := by
            rw [nthV_get _ _ (List.getElem?_eq_some_iff.1 hx').1]
            exact (List.getElem?_eq_some_iff.1 hx').2
          rwa [this] at q2
  case ref q =>
    simp only at hok ⊢
    cases he : elT P t with
    | none => rw [he] at hok; cases hok
    | some e =>
      rw [he] at hok
      simp only at hok ⊢
      obtain ⟨h1, _⟩ := when_ok hok
      simp only [Bool.and_eq_true] at h1
      obtain ⟨⟨⟨g0, h1⟩, g1⟩, hin⟩ := h1
      obtain ⟨e', d, xs, hqe, hqd, hqx, hq⟩ := ownB_some g0
      focus
        simp only [hqx] at h1 ⊢
        rw [hqe] at g1
        have g1 := nbeq g1
        subst g1
        have hb : bnds (lenE (szT P e') xs.length) lo' hi' = (true, (bnds (lenE (szT P e') xs.length) lo' hi').2.1, (bnds (lenE (szT P e') xs.length) lo' hi').2.2) := by rw [← h1]
        refine OpRes.when ?_
        obtain ⟨u, hu'⟩ := own_at hI.regs hq
        simp only [Rv, nameRef] at hx
        cases hs : skAt gm q with
        | leaf => rw [hs] at hx; exact hx.elim
        | nil =>
          rw [hs] at hu' hx
          obtain ⟨_, rfl⟩ := hu'
          rw [List.length_nil, lenE_zero] at hb ⊢
          obtain ⟨q1, q2, _⟩ := bnds_spec hb
          have q3 : (bnds 0 lo' hi').2.1 = 0 := by omega
          have q4 : (bnds 0 lo' hi').2.2 = 0 := by omega
          refine OpRes.quiet hI hd _ (slice e' he hin none 0 0 hx (Nat.le_refl _) _ _ hb) rfl rfl ?_
          simp only [Eff.put, Rv, nameVw, hs]
          rw [q3, q4]
          exact ⟨rfl, rfl, rfl⟩
        | node g n' cap sz cs =>
          rw [hs] at hx hu'
          obtain ⟨p1, p2, p3⟩ := szT_pos_of hu'
          have hcap : n' ≤ cap := by obtain ⟨_, _, _, _, _, _, _, _, h7, _⟩ := hu'; exact h7
          rw [p3, ← p2, lenE_mul p1] at hb ⊢
          obtain ⟨q1, q2, _⟩ := bnds_spec hb
          generalize (bnds n' lo' hi').2.1 = l at *
          generalize (bnds n' lo' hi').2.2 = h at *
          refine OpRes.quiet hI hd _ (slice e' he hin _ n' cap hx hcap _ _ hb) rfl rfl ?_
          simp only [Eff.put, Rv, nameVw, hs]
          refine ⟨q1, q2, if cap = l then 0 else l * szT P e', ?_, ?_⟩
          · split <;> simp [add_addr]
          · intro hc
            split
            · rcases hc with hc | hc
              · exact absurd (by assumption) hc
              · rw [hc]; simp
            · rw [p2]
  case vw q l0 h0 =>
    simp only at hok ⊢
    cases he : elT P t with
    | none => rw [he] at hok; cases hok
    | some e =>
      rw [he] at hok
      simp only at hok ⊢
      obtain ⟨h1, _⟩ := when_ok hok
      simp only [Bool.and_eq_true] at h1
      obtain ⟨⟨⟨g0, h1⟩, g1⟩, hin⟩ := h1
      obtain ⟨e', d, xs, hqe, hqd, hqx, hq⟩ := ownB_some g0
      focus
        rw [hqe] at g1
        have g1 := nbeq g1
        subst g1
        have hb : bnds (h0 - l0) lo' hi' = (true, (bnds (h0 - l0) lo' hi').2.1, (bnds (h0 - l0) lo' hi').2.2) := by rw [← h1]
        refine OpRes.when ?_
        obtain ⟨u, hu'⟩ := own_at hI.regs hq
        simp only [Rv, nameVw] at hx
        cases hs : skAt gm q with
        | leaf => rw [hs] at hx; exact hx.elim
        | nil =>
          rw [hs] at hx
          obtain ⟨rfl, rfl, hx⟩ := hx
          obtain ⟨q1, q2, _⟩ := bnds_spec hb
          have q3 : (bnds (0 - 0) lo' hi').2.1 = 0 := by omega
          have q4 : (bnds (0 - 0) lo' hi').2.2 = 0 := by omega
          refine OpRes.quiet hI hd _ (slice e' he hin none 0 0 hx (Nat.le_refl _) _ _ hb) rfl rfl ?_
          simp only [Eff.put, Rv, nameVw, hs]
          rw [q3, q4]
          exact ⟨rfl, rfl, rfl⟩
        | node g n' cap sz cs =>
          rw [hs] at hx hu'
          obtain ⟨p1, p2, p3⟩ := szT_pos_of hu'
          have hcap : n' ≤ cap := by obtain ⟨_, _, _, _, _, _, _, _, h7, _⟩ := hu'; exact h7
          obtain ⟨x1, x2, oo, x3, x4⟩ := hx
          obtain ⟨q1, q2, _⟩ := bnds_spec hb
          generalize (bnds (h0 - l0) lo' hi').2.1 = l at *
          generalize (bnds (h0 - l0) lo' hi').2.2 = h at *
          refine OpRes.quiet hI hd _ (slice e' he hin _ _ _ x3 (by omega) _ _ hb) rfl rfl ?_
          simp only [Eff.put, Rv, nameVw, hs]
          refine ⟨by omega, by omega, if cap - l0 = l then oo else oo + l * szT P e', ?_, ?_⟩
          · have e1 : l0 + h - (l0 + l) = h - l := by omega
            have e2 : cap - (l0 + l) = cap - l0 - l := by omega
            rw [e1, e2]
            split <;> simp [add_addr]
          · intro hc
            split
            · rename_i hcl
              rcases hc with hc | hc
              · omega
              · have e1 : l0 = 0 := by omega
                rw [hc, x4 (.inr e1), e1]
            · have : cap ≠ l0 := by omega
              rw [x4 (.inl this), p2, Nat.add_mul]

theorem run_len_slice {t e ty : TypeId} (hu : P.underlying t = some (.slice e)) (ad : Option Addr) (n c : Nat) : (Builtin.len_ #[t] ty #[.slice ad n c]).run P w = .ok (.int .i64 n) w := by
  simp [Builtin.len_, run_underlying hu, goInt]

theorem semLen_ok (hI : Inv P w0 F N st a w G gm) {o : Oper} (hd : ∀ x, o.dst = some x → x < N) {t : TypeId} {x : Operand} (ho : o.op = .call { callee := .builtin .len, args := #[x], argTypes := #[t] }) {T : List Nm}
    {vx : V} (hx : Rv w G gm (a.eval x) vx)
    (hok : (semLen P (only T st.regs) t vx).ok = true) : OpRes P w0 F N st a w G o (semLen P (only T st.regs) t vx) := by
  have hrun : ∀ v, (Builtin.len_ #[t] o.type #[a.eval x]).run P w = .ok v w → (execOp a.eval o).run P w = .ok (.value v) w := by
    intro v hv
    simp [execOp, ho, resolve, invoke, builtin, hv]
  have slice : ∀ e, elT P t = some e → ∀ ad n c, a.eval x = .slice ad n c → (execOp a.eval o).run P w = .ok (.value (.int .i64 n)) w := by
    intro e he ad n c hxx
    exact hrun _ (by rw [hxx]; exact run_len_slice (elT_spec he) ad n c)
  unfold semLen at hok ⊢
  cases vx <;> try (first | (cases hok; done) | (simp only at hok; cases he : elT P t <;> rw [he] at hok <;> cases hok; done))
  case sc u =>
    cases u <;> try (first | (cases hok; done) | (simp only at hok; cases he : elT P t <;> rw [he] at hok <;> cases hok; done))
    rename_i s
    obtain ⟨h1, _⟩ := when_ok hok
    refine OpRes.when (OpRes.quiet hI hd _ (hrun (.int .i64 s.size) ?_) rfl rfl ⟨rfl, rfl⟩)
    rw [hx.sc_eq.1]
    simp [Builtin.len_, run_underlying (isStrT_spec h1), goInt]
  case vw q lo hi =>
    simp only at hok ⊢
    obtain ⟨h1, _⟩ := when_ok hok
    refine OpRes.when ?_
    simp only [Bool.and_eq_true] at h1
    cases he : elT P t with
    | none => rw [he] at h1; cases h1.1
    | some e =>
      focus
        simp only [Rv, nameVw] at hx
        cases hs : skAt gm q with
        | leaf => rw [hs] at hx; exact hx.elim
        | nil =>
          rw [hs] at hx
          obtain ⟨rfl, rfl, hx⟩ := hx
          exact OpRes.quiet hI hd _ (slice e he _ _ _ hx) rfl rfl ⟨rfl, rfl⟩
        | node g n' cap sz cs =>
          rw [hs] at hx
          obtain ⟨_, _, oo, x3, _⟩ := hx
          exact OpRes.quiet hI hd _ (slice e he _ _ _ x3) rfl rfl ⟨rfl, rfl⟩
  case nl e0 =>
    cases he : elT P t with
    | none => rw [he] at hok; cases hok
    | some e =>
      replace hx : a.eval x = .slice none 0 0 := hx
      refine OpRes.when (OpRes.quiet hI hd _ (slice e he none 0 0 hx) rfl rfl ?_)
      simp only [Eff.put, sliOf, List.length_nil, lenE_zero]
      exact ⟨rfl, rfl⟩
  case sl sz xs =>
    cases he : elT P t with
    | none => rw [he] at hok; cases hok
    | some e =>
      rcases hx with ⟨hxx, rfl⟩ | ⟨ad, len, cap, cs, hxx, k2, k3, k4, k5, k6, k7, k8⟩
      · refine OpRes.when (OpRes.quiet hI hd _ (slice e he none 0 0 hxx) rfl rfl ?_)
        simp only [Eff.put, sliOf, List.length_nil, lenE_zero]
        exact ⟨rfl, rfl⟩
      · refine OpRes.when (OpRes.quiet hI hd _ (slice e he _ _ _ hxx) rfl rfl ?_)
        simp only [Eff.put, sliOf, k4, lenE_mul k5]
        exact ⟨rfl, rfl⟩
  case ref q =>
    simp only at hok ⊢
    cases he : elT P t with
    | none => rw [he] at hok; cases hok
    | some e =>
      rw [he] at hok
      simp only at hok ⊢
      obtain ⟨h1, _⟩ := when_ok hok
      simp only [sliOf, Bool.and_eq_true] at h1
      obtain ⟨g0, g1⟩ := h1
      obtain ⟨e', d, xs, hqe, hqd, hqx, hq⟩ := ownB_some g0
      focus
        rw [hqe] at g1
        have g1 := nbeq g1
        subst g1
        obtain ⟨u, hu'⟩ := own_at hI.regs hq
        simp only [Rv, nameRef] at hx
        refine OpRes.when ?_
        simp only [sliOf, hqx]
        cases hs : skAt gm q with
        | leaf => rw [hs] at hx; exact hx.elim
        | nil =>
          rw [hs] at hu' hx
          obtain ⟨_, rfl⟩ := hu'
          refine OpRes.quiet hI hd _ (slice e' he none 0 0 hx) rfl rfl ?_
          simp only [Eff.put, List.length_nil, lenE_zero]
          exact ⟨rfl, rfl⟩
        | node g n' cap sz cs =>
          rw [hs] at hx hu'
          obtain ⟨p1, p2, p3⟩ := szT_pos_of hu'
          refine OpRes.quiet hI hd _ (slice e' he _ _ _ hx) rfl rfl ?_
          simp only [Eff.put, p3, ← p2, lenE_mul p1]
          exact ⟨rfl, rfl⟩
end
end Go.Ab
