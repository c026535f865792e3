/- The engine, part B: an abstract machine for Go code in its Lean form, and that what it computes is what the code does. -/
import Derived.Test.YtbeemjiaohaamaaGreatDoorEngA
import Derived.Laws.AppendOwn
import Derived.Laws.MakeOwn
import Derived.Laws.BytesString
import Derived.Lib.AppendStr
import Derived.Great.BuildSlice
import Derived.Lib.ConvBytes
/- Slices of slices, lengths, parts of values. -/
namespace Go.Ab
open Go
set_option linter.unusedSimpArgs false
set_option linter.unusedVariables false

section
variable {P : Program} {w0 w : World} {F : FG} {N : Nat} {st : St} {a : Act} {G : Nat → Prop} {gm : GM}

/-- A bound, as a value and as a number. -/
inductive BndV : Option Value → Option Int → Prop
  | none : BndV none none
  | some (k : IntKind) (n : Int) : BndV (some (.int k n)) (some n)

theorem bnds_spec {n : Nat} {lo hi : Option Int} {l h : Nat} (hb : bnds n lo hi = (true, l, h)) :
    l ≤ h ∧ h ≤ n ∧ (∀ x, lo = some x → 0 ≤ x ∧ x = l) ∧ (lo = none → l = 0) ∧ (∀ x, hi = some x → 0 ≤ x ∧ x = h) ∧ (hi = none → h = n) := by
  cases lo <;> cases hi <;> simp [bnds] at hb <;> grind

theorem run_sliceBounds {isS : Bool} {len cap : Nat} {lo hi : Option Value} {lo' hi' : Option Int} (hl : BndV lo lo') (hh : BndV hi hi') {l h : Nat} (hb : bnds len lo' hi' = (true, l, h)) (hc : len ≤ cap) :
    (Instr.sliceBounds isS len cap lo hi none).run P w = .ok (l, h, cap) w := by
  obtain ⟨h1, h2, h3, h4, h5, h6⟩ := bnds_spec hb
  have hx : ∀ (k : IntKind) (x : Int) (y : Nat) (c : BoundsCode), 0 ≤ x → x ≤ (y : Int) → (Instr.sliceBound (.int k x) y c).run P w = .ok x.toNat w := by
    intro k x y c hx hy
    simp [Instr.sliceBound, asIntOf, hx, hy]
  cases hl with
  | none =>
    have := h4 rfl
    subst this
    cases hh with
    | none => have := h6 rfl; subst this; simp [Instr.sliceBounds]
    | some k x =>
      obtain ⟨g1, g2⟩ := h5 x rfl
      simp only [Instr.sliceBounds, Sem.run_bind, Sem.run_pure, Result.andThen_ok]
      rw [hx k x cap _ g1 (by omega)]
      simp only [Result.andThen_ok, g2, Int.toNat_natCast]
  | some k y =>
    obtain ⟨g1, g2⟩ := h3 y rfl
    cases hh with
    | none =>
      have := h6 rfl
      subst this
      simp only [Instr.sliceBounds, Sem.run_bind, Sem.run_pure, Result.andThen_ok]
      rw [hx k y h _ g1 (by omega)]
      simp only [Result.andThen_ok, g2, Int.toNat_natCast]
    | some k' x =>
      obtain ⟨g3, g4⟩ := h5 x rfl
      simp only [Instr.sliceBounds, Sem.run_bind, Sem.run_pure, Result.andThen_ok]
      rw [hx k' x cap _ g3 (by omega)]
      simp only [Result.andThen_ok, g4, Int.toNat_natCast]
      rw [hx k y h _ g1 (by omega)]
      simp only [Result.andThen_ok, g2, Int.toNat_natCast]

theorem cut_eq {sz n : Nat} {xs : List V} {lo hi : Option Int} {l h : Nat} (hb : bnds n lo hi = (true, l, h)) (hx : xs.length = n * sz) :
    cut sz xs lo hi l h = (xs.drop (l * sz)).take ((h - l) * sz) := by
  obtain ⟨h1, h2, h3, h4, h5, h6⟩ := bnds_spec hb
  unfold cut
  cases lo with
  | none =>
    have := h4 rfl
    subst this
    cases hi with
    | none => have := h6 rfl; subst this; simp [← hx]
    | some _ => simp
  | some _ =>
    cases hi with
    | none =>
      have := h6 rfl
      subst this
      simp only
      rw [List.take_of_length_le]
      simp only [List.length_drop, hx, Nat.sub_mul]
      omega
    | some _ => rfl

theorem run_slice_slice {t e : TypeId} {i : TypeInfo} (hu : P.underlying t = some (.slice e)) (hinf : P.info? e = some i) {ad : Option Addr} {len cap : Nat} {lo hi : Option Value} {lo' hi' : Option Int}
    (hl : BndV lo lo') (hh : BndV hi hi') {l h : Nat} (hb : bnds len lo' hi' = (true, l, h)) (hc : len ≤ cap) :
    (Instr.sliceAt t (.slice ad len cap) lo hi none).run P w = .ok (.slice (if cap = l then ad else ad.map (·.add (l * i.size))) (h - l) (cap - l)) w := by
  simp only [Instr.sliceAt, Instr.slice, Sem.run_bind, run_underlying hu, Result.andThen_ok, run_sliceBounds hl hh hb hc, run_sizeOf' hinf]
  rfl

theorem run_slice_string {t : TypeId} (hu : P.underlying t = some .string) {s : ByteArray} {lo hi : Option Value} {lo' hi' : Option Int}
    (hl : BndV lo lo') (hh : BndV hi hi') {l h : Nat} (hb : bnds s.size lo' hi' = (true, l, h)) :
    (Instr.sliceAt t (.string s) lo hi none).run P w = .ok (.string (s.extract l h)) w := by
  simp only [Instr.sliceAt, Instr.slice, Sem.run_bind, run_underlying hu, Result.andThen_ok, Option.isSome_none, Bool.false_eq_true, if_false, run_sliceBounds hl hh hb (Nat.le_refl _)]
  rfl

theorem info_of_sz {e : TypeId} (h : 0 < szT P e) : ∃ i, P.info? e = some i ∧ i.size = szT P e := by
  unfold szT at h ⊢
  cases hi : P.info? e with
  | none => simp only [hi] at h; omega
  | some i => exact ⟨i, rfl, rfl⟩

theorem info_of_el {t e : TypeId} (h : elT P t = some e) (hs : szT P e ≠ 0 ∨ (P.info? e).isSome) : ∃ i, P.info? e = some i ∧ i.size = szT P e := by
  rcases hs with h | h
  · exact info_of_sz (Nat.pos_of_ne_zero h)
  · obtain ⟨i, hi⟩ := Option.isSome_iff_exists.1 h
    exact ⟨i, hi, by simp [szT, hi]⟩

theorem isStrT_spec {t : TypeId} (h : isStrT P t = true) : P.underlying t = some .string := by
  unfold isStrT at h
  split at h <;> simp_all

theorem semSlice_ok (hI : Inv P w0 F N st a w G gm) {o : Oper} (hd : ∀ x, o.dst = some x → x < N) {t : TypeId} {x : Operand} {lo hi : Option Operand} (ho : o.op = .slice t x lo hi none) {T : List Nm}
    {vx : V} {lo' hi' : Option Int} (hx : Rv w G gm (a.eval x) vx) (hl : BndV (lo.map a.eval) lo') (hh : BndV (hi.map a.eval) hi')
    (hok : (semSlice P (only T st.regs) t vx lo' hi').ok = true) :
    OpRes P w0 F N st a w G o (semSlice P (only T st.regs) t vx lo' hi') := by
  unfold semSlice at hok ⊢
  have hrun : ∀ v, (Instr.sliceAt t (a.eval x) (lo.map a.eval) (hi.map a.eval) none).run P w = .ok v w → (execOp a.eval o).run P w = .ok (.value v) w := by
    intro v hv
    simp only [execOp, ho, Option.map_none, Sem.run_bind, hv, Result.andThen_ok]
    rfl
  have slice : ∀ e, elT P t = some e → (P.info? e).isSome = true → ∀ ad len cap, a.eval x = .slice ad len cap → len ≤ cap → ∀ l h, bnds len lo' hi' = (true, l, h) →
      (execOp a.eval o).run P w = .ok (.value (.slice (if cap = l then ad else ad.map (·.add (l * szT P e))) (h - l) (cap - l))) w := by
    intro e he hin ad len cap hxx hc l h hb
    obtain ⟨i, hi, hi2⟩ := info_of_el he (.inr hin)
    rw [← hi2]
    exact hrun _ (by rw [hxx]; exact run_slice_slice (elT_spec he) hi hl hh hb hc)
  cases vx <;> try (first | (cases hok; done) | (simp only at hok; cases he : elT P t <;> rw [he] at hok <;> cases hok; done))
  case sc u =>
    cases u <;> try (first | (cases hok; done) | (simp only at hok; cases he : elT P t <;> rw [he] at hok <;> cases hok; done))
    rename_i s
    simp only at hok ⊢
    obtain ⟨h1, _⟩ := when_ok hok
    simp only [Bool.and_eq_true] at h1
    refine OpRes.when (OpRes.quiet hI hd _ (hrun _ ?_) rfl rfl ⟨rfl, rfl⟩)
    rw [hx.sc_eq.1]
    exact run_slice_string (isStrT_spec h1.2) hl hh (by rw [← h1.1])
  case sl sz xs =>
    simp only at hok ⊢
    cases he : elT P t with
    | none => rw [he] at hok; cases hok
    | some e =>
      rw [he] at hok
      simp only at hok ⊢
      obtain ⟨h1, _⟩ := when_ok hok
      simp only [Bool.and_eq_true] at h1
      obtain ⟨h1, hin⟩ := h1
      have hsz := nbeq h1.2
      subst hsz
      have hb : bnds (lenE (szT P e) xs.length) lo' hi' = (true, (bnds (lenE (szT P e) xs.length) lo' hi').2.1, (bnds (lenE (szT P e) xs.length) lo' hi').2.2) := by rw [← h1.1]
      refine OpRes.when ?_
      rcases hx with ⟨hxx, rfl⟩ | ⟨ad, len, cap, cs, hxx, k2, k3, k4, k5, k6, k7, k8, k9, k10⟩
      · rw [List.length_nil, lenE_zero] at hb ⊢
        obtain ⟨q1, q2, _⟩ := bnds_spec hb
        have q3 : (bnds 0 lo' hi').2.1 = 0 := by omega
        have q4 : (bnds 0 lo' hi').2.2 = 0 := by omega
        refine OpRes.quiet hI hd _ (slice e he hin none 0 0 hxx (Nat.le_refl _) _ _ hb) rfl rfl (.inl ⟨?_, ?_⟩)
        · rw [q3, q4]; rfl
        · unfold cut; split <;> simp
      · rw [k4, lenE_mul k5] at hb ⊢
        obtain ⟨q1, q2, _⟩ := bnds_spec hb
        generalize (bnds len lo' hi').2.1 = l at *
        generalize (bnds len lo' hi').2.2 = h at *
        by_cases hxe : xs = []
        · subst hxe
          have h0 : len = 0 := by
            have : len * szT P e = 0 := by simpa using k4.symm
            rcases Nat.mul_eq_zero.1 this with h | h <;> omega
          subst h0
          obtain rfl : l = 0 := by omega
          obtain rfl : h = 0 := by omega
          refine OpRes.quiet hI hd _ (slice e he hin _ 0 cap hxx k3 _ _ hb) rfl rfl ?_
          simp only [Eff.put]
          rw [cut_eq hb k4]
          have hcs : cs = [] := List.eq_nil_of_length_eq_zero (by have := k8.length; simpa using this)
          subst hcs
          refine .inr ⟨if cap = 0 then ad else ad.add (0 * szT P e), 0, cap, [], ?_, fun h => absurd (by simp) h, by omega, by simp, k5, CellsAt.nil _ _, fun h => absurd (by simp) h, by simp [RvL], by simp [cibL], fun u hu => by cases hu⟩
          split <;> simp_all
        have k2 := k2 hxe
        obtain ⟨bk, oo, sp⟩ := ad
        simp only at k2
        subst k2
        refine OpRes.quiet hI hd _ (slice e he hin _ len cap hxx k3 _ _ hb) rfl rfl ?_
        have hle : (h - l) * szT P e ≤ len * szT P e - l * szT P e := by
          rw [← Nat.sub_mul]; exact Nat.mul_le_mul_right _ (by omega)
        simp only [Eff.put]
        rw [cut_eq hb k4]
        refine .inr ⟨if cap = l then ⟨bk, oo, none⟩ else ⟨bk, oo + l * szT P e, none⟩, h - l, cap - l, (cs.drop (l * szT P e)).take ((h - l) * szT P e), ?_, fun _ => by split <;> rfl, by omega, ?_, k5, ?_, ?_, ?_, cibL_take _ _ (cibL_drop _ _ k9), fun u hu => k10 u (List.mem_of_mem_drop (List.mem_of_mem_take hu))⟩
        · split <;> simp [add_addr]
        · simp only [List.length_take, List.length_drop, k4]; omega
        · intro j v hv
          by_cases hj : j < (h - l) * szT P e
          · rw [List.get_drop_take _ _ _ _ hj] at hv
            have hne : ¬ cap = l := by
              intro e
              have : h - l = 0 := by omega
              rw [this] at hj; simp at hj
            rw [if_neg hne]
            have := k6 _ _ hv
            simpa [Nat.add_assoc] using this
          · rw [List.getElem?_take, if_neg hj] at hv; cases hv
        · intro hxs
          have : xs ≠ [] := by rintro rfl; simp at hxs
          have := k7 this
          split <;> exact this
        · have hlen := k8.length
          refine RvL.of_get _ _ (by simp only [List.length_take, List.length_drop]; omega) ?_
          intro j v x' hv hx'
          have hj : j < (h - l) * szT P e := by
            rcases Nat.lt_or_ge j ((h - l) * szT P e) with h' | h'
            · exact h'
            · rw [List.getElem?_take, if_neg (by omega)] at hv; cases hv
          rw [List.get_drop_take _ _ _ _ hj] at hv hx'
          obtain ⟨v', q1, q2⟩ := k8.get (l * szT P e + j) (List.getElem?_eq_some_iff.1 hx').1
          rw [q1] at hv
          obtain rfl := Option.some.inj hv
          have : nthV xs (l * szT P e + j) = x' := by
            rw [nthV_get _ _ (List.getElem?_eq_some_iff.1 hx').1]
            exact (List.getElem?_eq_some_iff.1 hx').2
          rwa [this] at q2
  case ref q =>
    simp only at hok ⊢
    cases he : elT P t with
    | none => rw [he] at hok; cases hok
    | some e =>
      rw [he] at hok
      simp only at hok ⊢
      obtain ⟨h1, _⟩ := when_ok hok
      simp only [Bool.and_eq_true] at h1
      obtain ⟨⟨⟨g0, h1⟩, g1⟩, hin⟩ := h1
      obtain ⟨e', d, xs, hqe, hqd, hqx, hq⟩ := ownB_some g0
      focus
        simp only [hqx] at h1 ⊢
        rw [hqe] at g1
        have g1 := nbeq g1
        subst g1
        have hb : bnds (lenE (szT P e') xs.length) lo' hi' = (true, (bnds (lenE (szT P e') xs.length) lo' hi').2.1, (bnds (lenE (szT P e') xs.length) lo' hi').2.2) := by rw [← h1]
        refine OpRes.when ?_
        obtain ⟨u, hu'⟩ := own_at hI.regs hq
        simp only [Rv, nameRef] at hx
        cases hs : skAt gm q with
        | leaf => rw [hs] at hx; exact hx.elim
        | nil =>
          rw [hs] at hu' hx
          obtain ⟨_, rfl⟩ := hu'
          rw [List.length_nil, lenE_zero] at hb ⊢
          obtain ⟨q1, q2, _⟩ := bnds_spec hb
          have q3 : (bnds 0 lo' hi').2.1 = 0 := by omega
          have q4 : (bnds 0 lo' hi').2.2 = 0 := by omega
          refine OpRes.quiet hI hd _ (slice e' he hin none 0 0 hx (Nat.le_refl _) _ _ hb) rfl rfl ?_
          simp only [Eff.put, Rv, nameVw, hs]
          rw [q3, q4]
          exact ⟨rfl, rfl, rfl⟩
        | node g n' cap sz cs =>
          rw [hs] at hx hu'
          obtain ⟨p1, p2, p3⟩ := szT_pos_of hu'
          have hcap : n' ≤ cap := by obtain ⟨_, _, _, _, _, _, _, _, h7, _⟩ := hu'; exact h7
          rw [p3, ← p2, lenE_mul p1] at hb ⊢
          obtain ⟨q1, q2, _⟩ := bnds_spec hb
          generalize (bnds n' lo' hi').2.1 = l at *
          generalize (bnds n' lo' hi').2.2 = h at *
          refine OpRes.quiet hI hd _ (slice e' he hin _ n' cap hx hcap _ _ hb) rfl rfl ?_
          simp only [Eff.put, Rv, nameVw, hs]
          refine ⟨q1, q2, if cap = l then 0 else l * szT P e', ?_, ?_⟩
          · split <;> simp [add_addr]
          · intro hc
            split
            · rcases hc with hc | hc
              · exact absurd (by assumption) hc
              · rw [hc]; simp
            · rw [p2]
  case vw q l0 h0 =>
    simp only at hok ⊢
    cases he : elT P t with
    | none => rw [he] at hok; cases hok
    | some e =>
      rw [he] at hok
      simp only at hok ⊢
      obtain ⟨h1, _⟩ := when_ok hok
      simp only [Bool.and_eq_true] at h1
      obtain ⟨⟨⟨g0, h1⟩, g1⟩, hin⟩ := h1
      obtain ⟨e', d, xs, hqe, hqd, hqx, hq⟩ := ownB_some g0
      focus
        rw [hqe] at g1
        have g1 := nbeq g1
        subst g1
        have hb : bnds (h0 - l0) lo' hi' = (true, (bnds (h0 - l0) lo' hi').2.1, (bnds (h0 - l0) lo' hi').2.2) := by rw [← h1]
        refine OpRes.when ?_
        obtain ⟨u, hu'⟩ := own_at hI.regs hq
        simp only [Rv, nameVw] at hx
        cases hs : skAt gm q with
        | leaf => rw [hs] at hx; exact hx.elim
        | nil =>
          rw [hs] at hx
          obtain ⟨rfl, rfl, hx⟩ := hx
          obtain ⟨q1, q2, _⟩ := bnds_spec hb
          have q3 : (bnds (0 - 0) lo' hi').2.1 = 0 := by omega
          have q4 : (bnds (0 - 0) lo' hi').2.2 = 0 := by omega
          refine OpRes.quiet hI hd _ (slice e' he hin none 0 0 hx (Nat.le_refl _) _ _ hb) rfl rfl ?_
          simp only [Eff.put, Rv, nameVw, hs]
          rw [q3, q4]
          exact ⟨rfl, rfl, rfl⟩
        | node g n' cap sz cs =>
          rw [hs] at hx hu'
          obtain ⟨p1, p2, p3⟩ := szT_pos_of hu'
          have hcap : n' ≤ cap := by obtain ⟨_, _, _, _, _, _, _, _, h7, _⟩ := hu'; exact h7
          obtain ⟨x1, x2, oo, x3, x4⟩ := hx
          obtain ⟨q1, q2, _⟩ := bnds_spec hb
          generalize (bnds (h0 - l0) lo' hi').2.1 = l at *
          generalize (bnds (h0 - l0) lo' hi').2.2 = h at *
          refine OpRes.quiet hI hd _ (slice e' he hin _ _ _ x3 (by omega) _ _ hb) rfl rfl ?_
          simp only [Eff.put, Rv, nameVw, hs]
          refine ⟨by omega, by omega, if cap - l0 = l then oo else oo + l * szT P e', ?_, ?_⟩
          · have e1 : l0 + h - (l0 + l) = h - l := by omega
            have e2 : cap - (l0 + l) = cap - l0 - l := by omega
            rw [e1, e2]
            split <;> simp [add_addr]
          · intro hc
            split
            · rename_i hcl
              rcases hc with hc | hc
              · omega
              · have e1 : l0 = 0 := by omega
                rw [hc, x4 (.inr e1), e1]
            · have : cap ≠ l0 := by omega
              rw [x4 (.inl this), p2, Nat.add_mul]

theorem run_len_slice {t e ty : TypeId} (hu : P.underlying t = some (.slice e)) (ad : Option Addr) (n c : Nat) : (Builtin.len_ #[t] ty #[.slice ad n c]).run P w = .ok (.int .i64 n) w := by
  simp [Builtin.len_, run_underlying hu, goInt]

theorem semLen_ok (hI : Inv P w0 F N st a w G gm) {o : Oper} (hd : ∀ x, o.dst = some x → x < N) {t : TypeId} {x : Operand} (ho : o.op = .call { callee := .builtin .len, args := #[x], argTypes := #[t] }) {T : List Nm}
    {vx : V} (hx : Rv w G gm (a.eval x) vx)
    (hok : (semLen P (only T st.regs) t vx).ok = true) : OpRes P w0 F N st a w G o (semLen P (only T st.regs) t vx) := by
  have hrun : ∀ v, (Builtin.len_ #[t] o.type #[a.eval x]).run P w = .ok v w → (execOp a.eval o).run P w = .ok (.value v) w := by
    intro v hv
    simp [execOp, ho, resolve, invoke, builtin, hv]
  have slice : ∀ e, elT P t = some e → ∀ ad n c, a.eval x = .slice ad n c → (execOp a.eval o).run P w = .ok (.value (.int .i64 n)) w := by
    intro e he ad n c hxx
    exact hrun _ (by rw [hxx]; exact run_len_slice (elT_spec he) ad n c)
  unfold semLen at hok ⊢
  cases vx <;> try (first | (cases hok; done) | (simp only at hok; cases he : elT P t <;> rw [he] at hok <;> cases hok; done))
  case sc u =>
    cases u <;> try (first | (cases hok; done) | (simp only at hok; cases he : elT P t <;> rw [he] at hok <;> cases hok; done))
    rename_i s
    obtain ⟨h1, _⟩ := when_ok hok
    refine OpRes.when (OpRes.quiet hI hd _ (hrun (.int .i64 s.size) ?_) rfl rfl ⟨rfl, rfl⟩)
    rw [hx.sc_eq.1]
    simp [Builtin.len_, run_underlying (isStrT_spec h1), goInt]
  case vw q lo hi =>
    simp only at hok ⊢
    obtain ⟨h1, _⟩ := when_ok hok
    refine OpRes.when ?_
    simp only [Bool.and_eq_true] at h1
    cases he : elT P t with
    | none => rw [he] at h1; cases h1.1
    | some e =>
      focus
        simp only [Rv, nameVw] at hx
        cases hs : skAt gm q with
        | leaf => rw [hs] at hx; exact hx.elim
        | nil =>
          rw [hs] at hx
          obtain ⟨rfl, rfl, hx⟩ := hx
          exact OpRes.quiet hI hd _ (slice e he _ _ _ hx) rfl rfl ⟨rfl, rfl⟩
        | node g n' cap sz cs =>
          rw [hs] at hx
          obtain ⟨_, _, oo, x3, _⟩ := hx
          exact OpRes.quiet hI hd _ (slice e he _ _ _ x3) rfl rfl ⟨rfl, rfl⟩
  case nl e0 =>
    cases he : elT P t with
    | none => rw [he] at hok; cases hok
    | some e =>
      replace hx : a.eval x = .slice none 0 0 := hx
      refine OpRes.when (OpRes.quiet hI hd _ (slice e he none 0 0 hx) rfl rfl ?_)
      simp only [Eff.put, sliOf, List.length_nil, lenE_zero]
      exact ⟨rfl, rfl⟩
  case sl sz xs =>
    cases he : elT P t with
    | none => rw [he] at hok; cases hok
    | some e =>
      rcases hx with ⟨hxx, rfl⟩ | ⟨ad, len, cap, cs, hxx, k2, k3, k4, k5, k6, k7, k8⟩
      · refine OpRes.when (OpRes.quiet hI hd _ (slice e he none 0 0 hxx) rfl rfl ?_)
        simp only [Eff.put, sliOf, List.length_nil, lenE_zero]
        exact ⟨rfl, rfl⟩
      · refine OpRes.when (OpRes.quiet hI hd _ (slice e he _ _ _ hxx) rfl rfl ?_)
        simp only [Eff.put, sliOf, k4, lenE_mul k5]
        exact ⟨rfl, rfl⟩
  case ref q =>
    simp only at hok ⊢
    cases he : elT P t with
    | none => rw [he] at hok; cases hok
    | some e =>
      rw [he] at hok
      simp only at hok ⊢
      obtain ⟨h1, _⟩ := when_ok hok
      simp only [sliOf, Bool.and_eq_true] at h1
      obtain ⟨g0, g1⟩ := h1
      obtain ⟨e', d, xs, hqe, hqd, hqx, hq⟩ := ownB_some g0
      focus
        rw [hqe] at g1
        have g1 := nbeq g1
        subst g1
        obtain ⟨u, hu'⟩ := own_at hI.regs hq
        simp only [Rv, nameRef] at hx
        refine OpRes.when ?_
        simp only [sliOf, hqx]
        cases hs : skAt gm q with
        | leaf => rw [hs] at hx; exact hx.elim
        | nil =>
          rw [hs] at hu' hx
          obtain ⟨_, rfl⟩ := hu'
          refine OpRes.quiet hI hd _ (slice e' he none 0 0 hx) rfl rfl ?_
          simp only [Eff.put, List.length_nil, lenE_zero]
          exact ⟨rfl, rfl⟩
        | node g n' cap sz cs =>
          rw [hs] at hx hu'
          obtain ⟨p1, p2, p3⟩ := szT_pos_of hu'
          refine OpRes.quiet hI hd _ (slice e' he _ _ _ hx) rfl rfl ?_
          simp only [Eff.put, p3, ← p2, lenE_mul p1]
          exact ⟨rfl, rfl⟩
end
end Go.Ab
/- The other operations that leave memory as it is. -/
namespace Go.Ab
open Go
set_option linter.unusedSimpArgs false
set_option linter.unusedVariables false

section
variable {P : Program} {w0 w : World} {F : FG} {N : Nat} {st : St} {a : Act} {G : Nat → Prop} {gm : GM}

theorem move_ok (hI : Inv P w0 F N st a w G gm) {o : Oper} (hd : ∀ x, o.dst = some x → x < N) {x : Operand} (ho : o.op = .move x ∨ o.op = .assign x) {vx : V} (hx : Rv w G gm (a.eval x) vx) :
    OpRes P w0 F N st a w G o (Eff.put vx) := by
  refine OpRes.quiet hI hd (a.eval x) ?_ rfl rfl hx
  rcases ho with ho | ho <;> simp [execOp, ho]

theorem pick_ok (hI : Inv P w0 F N st a w G gm) {o : Oper} (hd : ∀ x, o.dst = some x → x < N) {c x y : Operand} (ho : o.op = .pick c x y) {t : Bool} {vx vy : V}
    (hc : a.eval c = .bool t) (hx : Rv w G gm (a.eval x) vx) (hy : Rv w G gm (a.eval y) vy) : OpRes P w0 F N st a w G o (Eff.put (bif t then vx else vy)) := by
  cases t
  · refine OpRes.quiet hI hd (a.eval y) ?_ rfl rfl hy
    simp [execOp, ho, hc, asBool]
  · refine OpRes.quiet hI hd (a.eval x) ?_ rfl rfl hx
    simp [execOp, ho, hc, asBool]

theorem nilCheck_ok (hI : Inv P w0 F N st a w G gm) {o : Oper} (hd : ∀ x, o.dst = some x → x < N) {x : Operand} (ho : o.op = .nilCheck x) {vx : V} (hx : Rv w G gm (a.eval x) vx)
    (hp : ∃ ad, a.eval x = .pointer (some ad)) : OpRes P w0 F N st a w G o (Eff.put vx) := by
  obtain ⟨ad, hp⟩ := hp
  refine OpRes.quiet hI hd (a.eval x) ?_ rfl rfl hx
  simp [execOp, ho, hp]

theorem makeInterface_ok (hI : Inv P w0 F N st a w G gm) {o : Oper} (hd : ∀ x, o.dst = some x → x < N) {t : TypeId} {x : Operand} (ho : o.op = .makeInterface t x) {vx : V} (hx : Rv w G gm (a.eval x) vx)
    (ht : (!(match P.underlying t with | some (.interface _) => true | none => true | _ => false)) = true) : OpRes P w0 F N st a w G o (Eff.put (.ifc t vx)) := by
  refine OpRes.quiet hI hd (.iface t (a.eval x)) ?_ rfl rfl ⟨_, rfl, hx⟩
  cases hu : P.underlying t with
  | none => rw [hu] at ht; cases ht
  | some d =>
    rw [hu] at ht
    simp only [execOp, ho, Instr.makeInterface, Sem.run_bind, run_underlying hu, Result.andThen_ok]
    cases d <;> first | rfl | cases ht

theorem RvL.append_iff : ∀ (vs : List Value) (n : Nat) (xs : List V), RvL w G gm vs xs → RvL w G gm (vs.take n) (xs.take n) ∧ RvL w G gm (vs.drop n) (xs.drop n)
  | [], n, [], _ => by cases n <;> exact ⟨trivial, trivial⟩
  | v :: vs, 0, x :: xs, h => ⟨trivial, h⟩
  | v :: vs, n + 1, x :: xs, h => ⟨⟨h.1, (RvL.append_iff vs n xs h.2).1⟩, (RvL.append_iff vs n xs h.2).2⟩
  | [], _, _ :: _, h => h.elim
  | _ :: _, _, [], h => h.elim

theorem makeFunc_ok (hI : Inv P w0 F N st a w G gm) {o : Oper} (hd : ∀ x, o.dst = some x → x < N) {f : FuncId} {first caps : Array Operand} (ho : o.op = .makeFunc (.func f) first caps) {vs : List V}
    (hx : RvL w G gm ((first ++ caps).toList.map a.eval) vs) : OpRes P w0 F N st a w G o (Eff.put (.fn f (vs.take first.size) (vs.drop first.size))) := by
  refine OpRes.quiet hI hd (.func (.func f) (first.map a.eval) (caps.map a.eval)) ?_ rfl rfl ⟨_, _, rfl, ?_, ?_⟩
  · simp [execOp, ho, Instr.makeFunc]
  · have := (RvL.append_iff _ first.size _ hx).1
    simpa using this
  · have := (RvL.append_iff _ first.size _ hx).2
    simpa using this

theorem extract_ok (hI : Inv P w0 F N st a w G gm) {o : Oper} (hd : ∀ x, o.dst = some x → x < N) {x : Operand} {i : Nat} (ho : o.op = .extract x i) {xs : List V} (hx : Rv w G gm (a.eval x) (.tp xs)) (hi : i < xs.length) :
    OpRes P w0 F N st a w G o (Eff.put (nthV xs i)) := by
  obtain ⟨cs, h1, h2⟩ := hx
  obtain ⟨v, h3, h4⟩ := h2.get i hi
  refine OpRes.quiet hI hd v ?_ rfl rfl h4
  have : cs[i]? = some v := by simpa using h3
  simp [execOp, ho, h1, Instr.extract, this]

theorem index_ok (hI : Inv P w0 F N st a w G gm) {o : Oper} (hd : ∀ x, o.dst = some x → x < N) {t : TypeId} {x y : Operand} (ho : o.op = .index t x y) {s : ByteArray} {k : IntKind} {n : Int}
    (hx : a.eval x = .string s) (hy : a.eval y = .int k n) (hu : P.underlying t = some .string) (h0 : 0 ≤ n) (h1 : n < (s.size : Int)) :
    OpRes P w0 F N st a w G o (Eff.put (.sc (.int .u8 (s.data.getD n.toNat 0).toNat))) := by
  refine OpRes.quiet hI hd (.int .u8 (s.data.getD n.toNat 0).toNat) ?_ rfl rfl ⟨rfl, rfl⟩
  have hlt : n.toNat < s.size := by omega
  have hg : s[n.toNat]? = some (s.data.getD n.toNat 0) := by
    have h2 : n.toNat < s.data.size := hlt
    rw [getElem?_pos s n.toNat hlt]
    congr 1
    simp only [Array.getD, h2, dif_pos]
    rfl
  simp [execOp, ho, hx, hy, Instr.index, asIntOf, run_underlying hu, h0, hg]

theorem field_ok (hI : Inv P w0 F N st a w G gm) {o : Oper} (hd : ∀ x, o.dst = some x → x < N) {t : TypeId} {x : Operand} {f : Nat} (ho : o.op = .field t x f) {vx : V} (hx : Rv w G gm (a.eval x) vx)
    (hok : (semField P t f vx).ok = true) : OpRes P w0 F N st a w G o (semField P t f vx) := by
  cases vx <;> try (cases hok; done)
  rename_i xs
  obtain ⟨cs, h1, h2⟩ := hx
  unfold semField at hok ⊢
  simp only at hok ⊢
  cases hf : fieldT P t f with
  | none => rw [hf] at hok; cases hok
  | some fd =>
    rw [hf] at hok
    simp only at hok ⊢
    have hfs : ∃ fs, P.underlying t = some (.struct fs) ∧ fs[f]? = some fd := by
      unfold fieldT at hf
      split at hf
      · rename_i fs hu; exact ⟨fs, hu, hf⟩
      · cases hf
    obtain ⟨fs, hu, hff⟩ := hfs
    have hlen := h2.length
    cases ha : aggT P fd.type with
    | true =>
      rw [ha] at hok
      simp only [cond_true] at hok ⊢
      obtain ⟨g1, _⟩ := when_ok hok
      simp only [Bool.and_eq_true] at g1
      obtain ⟨hty, g1⟩ := g1
      have g1 := nble g1
      refine OpRes.when (OpRes.quiet hI hd (.agg (cs.extract fd.offset (fd.offset + szT P fd.type))) ?_ rfl rfl ⟨_, rfl, ?_⟩)
      · simp only [execOp, ho, h1, Instr.field, Sem.run_bind, run_underlying hu, Result.andThen_ok, hff, asAgg, part, run_isAgg hty, ha, if_true, run_sizeOf hty]
        rfl
      · have := (RvL.append_iff _ (szT P fd.type) _ (RvL.append_iff _ fd.offset _ h2).2).1
        rw [Array.toList_extract]
        simpa using this
    | false =>
      rw [ha] at hok
      simp only [cond_false] at hok ⊢
      obtain ⟨g1, _⟩ := when_ok hok
      simp only [Bool.and_eq_true] at g1
      obtain ⟨hty, g1⟩ := g1
      have g1 := nblt g1
      obtain ⟨v, h3, h4⟩ := h2.get fd.offset g1
      have h3' : cs[fd.offset]? = some v := by simpa using h3
      refine OpRes.when (OpRes.quiet hI hd v ?_ rfl rfl h4)
      simp only [execOp, ho, h1, Instr.field, Sem.run_bind, run_underlying hu, Result.andThen_ok, hff, asAgg, part, run_isAgg hty, ha, Bool.false_eq_true, if_false, Sem.run_pure, h3']

theorem minmax_ok (hI : Inv P w0 F N st a w G gm) {o : Oper} (hd : ∀ x, o.dst = some x → x < N) {x y : Operand} {ts : Array TypeId} (isMax : Bool)
    (ho : o.op = .call { callee := .builtin (if isMax then .max else .min), args := #[x, y], argTypes := ts }) {vx vy : V} (hx : Rv w G gm (a.eval x) vx) (hy : Rv w G gm (a.eval y) vy)
    (hok : (semMinMax isMax vx vy).ok = true) : OpRes P w0 F N st a w G o (semMinMax isMax vx vy) := by
  have hu : ∃ k n k' n', vx = .sc (.int k n) ∧ vy = .sc (.int k' n') := by
    cases vx <;> try (cases hok; done)
    rename_i u
    cases u <;> try (cases hok; done)
    cases vy <;> try (cases hok; done)
    rename_i v
    cases v <;> try (cases hok; done)
    exact ⟨_, _, _, _, rfl, rfl⟩
  obtain ⟨k, n, k', n', rfl, rfl⟩ := hu
  have hx := hx.sc_eq
  have hy := hy.sc_eq
  simp only [semMinMax] at hok ⊢
  obtain ⟨h1, _⟩ := when_ok hok
  have h1 := of_decide_eq_true h1
  subst h1
  cases isMax with
  | true =>
    refine OpRes.when (OpRes.quiet hI hd (.int k (bif decide (n' > n) then n' else n)) ?_ rfl rfl ⟨rfl, rfl⟩)
    simp only [execOp, ho, if_true, resolve, Sem.run_bind, Sem.run_pure, Result.andThen_ok, invoke, builtin, Builtin.max_]
    simp [hx.1, hy.1, Builtin.max2]
    try (by_cases h : n < n' <;> simp [h])
  | false =>
    refine OpRes.when (OpRes.quiet hI hd (.int k (bif decide (n' < n) then n' else n)) ?_ rfl rfl ⟨rfl, rfl⟩)
    simp only [execOp, ho, Bool.false_eq_true, if_false, resolve, Sem.run_bind, Sem.run_pure, Result.andThen_ok, invoke, builtin, Builtin.min_]
    simp [hx.1, hy.1, Builtin.min2]
    try (by_cases h : n' < n <;> simp [h])

/-! ### building a struct -/
theorem Rv.single {v : Value} {x : V} (h : Rv w G gm v x) (hc : x.isCell = true) (hb : x ≠ .bad) : v.cells.toList = [v] := by
  have := h.one hc hb
  cases v <;> first | rfl | cases this

theorem setMany_length : ∀ (xs : List V) (k : Nat) (row : List V), (setMany k xs row).length = row.length
  | [], _, _ => rfl
  | x :: xs, k, row => by simp [setMany, setMany_length xs]

def setVals : Nat → List Value → List Value → List Value
  | _, [], row => row
  | k, x :: xs, row => setVals (k + 1) xs (row.set k x)

theorem setVals_length : ∀ (xs : List Value) (k : Nat) (row : List Value), (setVals k xs row).length = row.length
  | [], _, _ => rfl
  | x :: xs, k, row => by simp [setVals, setVals_length xs]

theorem RvL.set : ∀ {vs : List Value} {xs : List V}, RvL w G gm vs xs → ∀ k v x, Rv w G gm v x → RvL w G gm (vs.set k v) (xs.set k x)
  | v :: vs, x :: xs, h, 0, _, _, h' => ⟨h', h.2⟩
  | v :: vs, x :: xs, h, k + 1, _, _, h' => ⟨h.1, RvL.set h.2 k _ _ h'⟩
  | [], [], _, _, _, _, _ => trivial
  | [], _ :: _, h, _, _, _, _ => h.elim
  | _ :: _, [], h, _, _, _, _ => h.elim

theorem RvL.setMany : ∀ {us : List Value} {ys : List V} {vs : List Value} {xs : List V} (k : Nat), RvL w G gm us ys → RvL w G gm vs xs → RvL w G gm (setVals k us vs) (Ab.setMany k ys xs)
  | [], [], _, _, _, _, h => h
  | u :: us, y :: ys, vs, xs, k, hu, h => RvL.setMany (k + 1) hu.2 (h.set k u y hu.1)
  | [], _ :: _, _, _, _, h, _ => h.elim
  | _ :: _, [], _, _, _, h, _ => h.elim

theorem foldl_set (off : Nat) : ∀ (vs : List Value) (k : Nat) (cs : Array Value),
    ((vs.zipIdx k).foldl (fun cs x => cs.setIfInBounds (off + x.2) x.1) cs).toList = setVals (off + k) vs cs.toList
  | [], _, _ => rfl
  | v :: vs, k, cs => by
    simp only [List.zipIdx_cons, List.foldl_cons, setVals]
    rw [foldl_set off vs (k + 1)]
    simp [Nat.add_assoc]

theorem fill_ok (place : Nat → Option (Nat × Nat)) : ∀ (ps : List (Nat × Value)) (qs : List (Nat × V)) (cells : Array Value) (row : List V),
    ps.map (fun p => (place p.1).map (·.1)) = qs.map (fun q => some q.1) →
    RvL w G gm (ps.map (·.2)) (qs.map (·.2)) → RvL w G gm cells.toList row →
    (∀ p ∈ ps, ∀ off sz, place p.1 = some (off, sz) → p.2.cells.size = sz ∧ off + sz ≤ cells.size) → (∀ q ∈ qs, q.2.isPart = true) →
    ∃ cells', Instr.fill place cells ps = some cells' ∧ cells'.size = cells.size ∧ RvL w G gm cells'.toList (placeParts qs row).2
  | [], [], cells, row, _, _, h, _, _ => ⟨cells, rfl, rfl, h⟩
  | (i, v) :: ps, (off, x) :: qs, cells, row, hp, hv, h, hs, hi => by
    simp only [List.map_cons, List.cons.injEq] at hp
    obtain ⟨hp1, hp2⟩ := hp
    cases hpl : place i with
    | none => rw [hpl] at hp1; cases hp1
    | some pr =>
      obtain ⟨o', sz⟩ := pr
      rw [hpl] at hp1
      obtain rfl : o' = off := by simpa using hp1
      obtain ⟨s1, s2⟩ := hs (i, v) (by simp) o' sz hpl
      simp only at s1
      have hcells : RvL w G gm v.cells.toList (partCells x) := by
        have hv1 := hv.1
        have hpart := hi (o', x) (by simp)
        simp only at hv1 hpart
        cases x with
        | ag xs => obtain ⟨cs, rfl, h2⟩ := hv1; exact h2
        | bad => cases hpart
        | tp xs => cases hpart
        | _ => rw [hv1.single rfl (by simp)]; exact ⟨hv1, trivial⟩
      have hrow : RvL w G gm ((v.cells.zipIdx.foldl (fun cs x => cs.setIfInBounds (o' + x.2) x.1) cells).toList) (setMany o' (partCells x) row) := by
        rw [← Array.foldl_toList, Array.toList_zipIdx, foldl_set]
        exact RvL.setMany _ hcells h
      have hsize : (v.cells.zipIdx.foldl (fun cs x => cs.setIfInBounds (o' + x.2) x.1) cells).size = cells.size := by
        have : (v.cells.zipIdx.foldl (fun cs x => cs.setIfInBounds (o' + x.2) x.1) cells).toList.length = cells.toList.length := by
          rw [← Array.foldl_toList, Array.toList_zipIdx, foldl_set, setVals_length]
        simpa using this
      obtain ⟨cells', k1, k2, k3⟩ := fill_ok place ps qs _ _ hp2 hv.2 hrow (by
        intro p hp off sz hpl
        rw [hsize]
        exact hs p (by simp [hp]) off sz hpl) (fun q hq => hi q (by simp [hq]))
      refine ⟨cells', ?_, by rw [k2, hsize], k3⟩
      simp only [Instr.fill, hpl]
      rw [if_neg]
      · exact k1
      · simp only [s1, ne_eq, not_true, Bool.or_eq_true, decide_eq_true_eq, false_or]
        simp; omega
  | [], _ :: _, _, _, h, _, _, _, _ => by simp at h
  | _ :: _, [], _, _, h, _, _, _, _ => by simp at h
end
end Go.Ab
/- Runs of append and make; zero values; building structs. -/
namespace Go.Ab
open Go
set_option linter.unusedSimpArgs false
set_option linter.unusedVariables false

section
variable {P : Program} {w0 w : World} {F : FG} {N : Nat} {st : St} {a : Act} {G : Nat → Prop} {gm : GM}

theorem length_zeroCells (z : Array Value) (n : Nat) : (Builtin.zeroCells z n).size = n * z.size := by simp [Builtin.zeroCells]

/-- What an append leaves: the row that bears the result. -/
structure Apd (w w2 : World) (e : TypeId) (sz : Nat) (g0 : Option Nat) (old news : List Value) (n : Nat) (v' : Value) : Prop where
  row : (v' = .slice none 0 0 ∧ n = 0 ∧ w2 = w ∧ g0 = none) ∨ ∃ g cap cur fr, v' = .slice (some ⟨g, 0, none⟩) n cap ∧ w2.heap[g]? = some (.cells cur e fr) ∧ frOk fr cur.size ∧ cur.size = cap * sz ∧ n ≤ cap ∧ cap ≤ maxLen ∧
    cur.toList.take (n * sz) = old ++ news ∧ (g0 = some g ∨ g = w.heap.size)
  block : ∀ k, k < w.heap.size → g0 ≠ some k → w2.heap[k]? = w.heap[k]?
  size : w.heap.size ≤ w2.heap.size
  os : w2.os = w.os
  tape : w2.tape = w.tape
  output : w2.output = w.output

/-- Growing: a new row. -/
theorem run_append_new {t xt ty e : TypeId} {i : TypeInfo} {z : Value} (ht : P.underlying t = some (.slice e)) (hxt : P.underlying xt = some (.slice e) ∨ P.underlying xt = some .string)
    (hi : P.info? e = some i) (hz : i.zero = some z) {base : Option Addr} {x : Value} {n m cap : Nat} {old news : List Value}
    (hlen : (Builtin.lenOf x).run P w = .ok m w) (hfirst : (Builtin.firstCells i.size m x).run P w.drew = .ok news.toArray w.drew)
    (hold : (Builtin.firstCells i.size n (.slice base n cap)).run P w.drew = .ok old.toArray w.drew)
    (hlt : cap < n + m) (hb : Builtin.nextslicecap (n + m) cap * i.bytes ≤ 281474976710656) (h63 : n + m ≤ 9223372036854775807) :
    (Builtin.append_ #[t, xt] ty #[.slice base n cap, x]).run P w = .ok (.slice (some ⟨w.heap.size, 0, none⟩) (n + m) (grownCap w (n + m) cap e))
      (w.drew.alloc (.cells (old.toArray ++ news.toArray ++ Builtin.zeroCells z.cells (grownCap w (n + m) cap e - (n + m))) e)) := by
  have c1 : ¬ (n + m ≤ cap) := by omega
  have c2 : ¬ (9223372036854775807 < ((n : Int) + (m : Int))) := by omega
  have c3 : ¬ (281474976710656 < Builtin.nextslicecap (n + m) cap * i.bytes) := by omega
  rcases hxt with hxt | hxt
  all_goals
    simp [Builtin.append_, run_underlying ht, run_underlying hxt, sizeOf, typeInfo, zeroValue, hi, hz, hlen, c1, c2, c3, Question.forced, hfirst, hold, newRow, grownCap]
    congr 2
    apply Array.ext'
    simp [List.append_assoc]

/-- With room: into the row. -/
theorem run_append_in {t xt ty e : TypeId} {i : TypeInfo} (ht : P.underlying t = some (.slice e)) (hxt : P.underlying xt = some (.slice e) ∨ P.underlying xt = some .string)
    (hi : P.info? e = some i) {g : Nat} {x : Value} {n m cap : Nat} {news : List Value} {w2 : World}
    (hlen : (Builtin.lenOf x).run P w = .ok m w) (hfirst : (Builtin.firstCells i.size m x).run P w = .ok news.toArray w) (hle : n + m ≤ cap)
    (hst : (storeCells ⟨g, n * i.size, none⟩ news).run P w = .ok () w2) :
    (Builtin.append_ #[t, xt] ty #[.slice (some ⟨g, 0, none⟩) n cap, x]).run P w = .ok (.slice (some ⟨g, 0, none⟩) (n + m) cap) w2 := by
  rcases hxt with hxt | hxt
  all_goals
    simp [Builtin.append_, run_underlying ht, run_underlying hxt, sizeOf, typeInfo, hi, hlen, hle, hfirst, add_addr, hst]

theorem run_append_nilnil {t xt ty e : TypeId} {i : TypeInfo} (ht : P.underlying t = some (.slice e)) (hxt : P.underlying xt = some (.slice e) ∨ P.underlying xt = some .string)
    (hi : P.info? e = some i) {x : Value} {news : List Value} (hlen : (Builtin.lenOf x).run P w = .ok 0 w) (hfirst : (Builtin.firstCells i.size 0 x).run P w = .ok news.toArray w) :
    (Builtin.append_ #[t, xt] ty #[.slice none 0 0, x]).run P w = .ok (.slice none 0 0) w := by
  rcases hxt with hxt | hxt
  all_goals
    simp [Builtin.append_, run_underlying ht, run_underlying hxt, sizeOf, typeInfo, hi, hlen, hfirst]

theorem run_append_gen {t xt ty e : TypeId} {i : TypeInfo} {z : Value} (ht : P.underlying t = some (.slice e)) (hxt : P.underlying xt = some (.slice e) ∨ P.underlying xt = some .string)
    (hi : P.info? e = some i) (hz : i.zero = some z) (hzs : z.cells.size = i.size) {v x : Value} {n m : Nat} {old news : List Value} {g0 : Option Nat}
    (hv : (v = .slice none 0 0 ∧ n = 0 ∧ old = [] ∧ g0 = none) ∨ ∃ g cap cur fr, v = .slice (some ⟨g, 0, none⟩) n cap ∧ w.heap[g]? = some (.cells cur e fr) ∧ frOk fr cur.size ∧ cur.size = cap * i.size ∧ n ≤ cap ∧ cap ≤ maxLen ∧ cur.toList.take (n * i.size) = old ∧ g0 = some g)
    (hlen : (Builtin.lenOf x).run P w = .ok m w) (hfirst : ∀ w', w'.heap = w.heap → (Builtin.firstCells i.size m x).run P w' = .ok news.toArray w') (hn : news.length = m * i.size) (h1 : ∀ u ∈ news, u.oneCell' = true)
    (hb : (n + m) * i.bytes ≤ 140737488355328) (h63 : n + m ≤ maxLen) :
    ∃ v' w2, (Builtin.append_ #[t, xt] ty #[v, x]).run P w = .ok v' w2 ∧ Apd w w2 e i.size g0 old news (n + m) v' := by
  have h63' : n + m ≤ 9223372036854775807 := by simp only [maxLen] at h63; omega
  -- growing
  have grow : ∀ (base : Option Addr) (cap : Nat), v = .slice base n cap → (Builtin.firstCells i.size n v).run P w.drew = .ok old.toArray w.drew → old.length = n * i.size → cap < n + m →
      ∃ v' w2, (Builtin.append_ #[t, xt] ty #[v, x]).run P w = .ok v' w2 ∧ Apd w w2 e i.size g0 old news (n + m) v' := by
    intro base cap hve hold hol hlt
    have hfit := growslice_fits (need := n + m) (old := cap) (bytes := i.bytes) hlt hb
    have hge : n + m ≤ grownCap w (n + m) cap e := grownCap_ge w (n + m) cap e
    have hle : grownCap w (n + m) cap e ≤ maxLen := grownCap_le_maxLen w (n + m) cap e h63
    subst hve
    refine ⟨_, _, run_append_new ht hxt hi hz hlen (hfirst _ rfl) hold hlt hfit h63', ⟨.inr ⟨w.heap.size, grownCap w (n + m) cap e, _, (0, 0), rfl, heap_alloc_new w.drew _, .inl (Nat.le_refl _), ?_, hge, hle, ?_, .inr rfl⟩, ?_, ?_, rfl, rfl, rfl⟩⟩
    · simp only [Array.size_append, List.size_toArray, length_zeroCells, hzs, hol, hn, ← Nat.add_mul]
      congr 1; omega
    · simp only [Array.toList_append, List.append_assoc]
      rw [← List.append_assoc, List.take_left']
      simp [hol, hn, Nat.add_mul]
    · intro k hk _
      exact heap_alloc_old w.drew _ k hk
    · simp
  rcases hv with ⟨rfl, rfl, rfl, rfl⟩ | ⟨g, cap, cur, fr, rfl, hg, hfr, hcs, hnc, hcm, htake, rfl⟩
  · by_cases hm : m = 0
    · subst hm
      have hn0 : news = [] := List.eq_nil_of_length_eq_zero (by simpa using hn)
      refine ⟨_, _, run_append_nilnil ht hxt hi hlen (hfirst w rfl), ⟨.inl ⟨rfl, rfl, rfl, rfl⟩, fun _ _ _ => rfl, Nat.le_refl _, rfl, rfl, rfl⟩⟩
    · exact grow none 0 rfl (by simp [Builtin.firstCells]) (by simp) (by omega)
  · by_cases hroom : n + m ≤ cap
    · have hfit : n * i.size + 0 + news.length ≤ cur.size := by rw [hn, hcs, Nat.add_zero, ← Nat.add_mul]; exact Nat.mul_le_mul_right _ hroom
      have hst := run_storeCells (P := P) g (n * i.size) e fr news 0 cur w hg hfr hfit h1
      simp only [Nat.add_zero] at hst hfit
      refine ⟨_, _, run_append_in ht hxt hi hlen (hfirst w rfl) hroom hst, ⟨.inr ⟨g, cap, _, fr, rfl, setRow_heap w g cur _ e fr hg, ?_, ?_, hroom, hcm, ?_, .inl rfl⟩, ?_, by simp, rfl, rfl, rfl⟩⟩
      · rw [over_size hfit]; exact hfr
      · rw [over_size hfit]; exact hcs
      · simp only [over]
        rw [htake, List.take_left']
        have : old.length = n * i.size := by
          rw [← htake, List.length_take, Array.length_toList, hcs, Nat.min_eq_left (Nat.mul_le_mul_right _ hnc)]
        simp [this, hn, Nat.add_mul]
      · intro k _ hk
        exact setRow_other w g k _ (fun e => hk (by rw [e]))
    · have hol : old.length = n * i.size := by
        rw [← htake, List.length_take, Array.length_toList, hcs, Nat.min_eq_left (Nat.mul_le_mul_right _ hnc)]
      refine grow (some ⟨g, 0, none⟩) cap rfl ?_ hol (by omega)
      refine run_firstCells_some (P := P) w.drew i.size n ⟨g, 0, none⟩ n cap old hol ?_
      intro j u hu
      rw [add_addr, ← htake, List.getElem?_take] at *
      split at hu
      · have : w.drew.cell? ⟨g, 0 + j, none⟩ = w.cell? ⟨g, 0 + j, none⟩ := rfl
        rw [this]
        simp only [World.cell?, hg]
        simpa using hu
      · cases hu

/-! ### zero values -/
theorem cellRow_ok (deep : TypeId → Bool) (keep : Bool) (v : Value) (c : TypeId) (h1 : v.oneCell' = true) : ∃ s : Sk, s.fp = [] ∧ OwnC w G P v (cellRow P deep keep v c) s := by
  unfold cellRow
  split
  · cases elT P c with
    | none => exact ⟨.leaf, rfl, rfl, h1⟩
    | some e =>
      cases keep with
      | true => exact ⟨.nil, rfl, rfl, rfl⟩
      | false => exact ⟨.leaf, rfl, rfl, rfl, .inl ⟨rfl, rfl⟩⟩
  · cases deep c with
    | true => exact ⟨.leaf, rfl, rfl, rfl⟩
    | false => exact ⟨.leaf, rfl, rfl, rfl, rfl, rfl⟩
  · cases hf : flat v with
    | true => exact ⟨.leaf, rfl, rfl, rfl, rfl, hf⟩
    | false => exact ⟨.leaf, rfl, rfl, h1⟩

theorem cellsRow_ok (deep : TypeId → Bool) (keep : Bool) : ∀ (vs : List Value) (cs : List TypeId), vs.length = cs.length → vs.all Value.oneCell' = true →
    ∃ ss : List Sk, fpL ss = [] ∧ OwnL w G P vs ((vs.zip cs).map fun x => cellRow P deep keep x.1 x.2) ss
  | [], [], _, _ => ⟨[], rfl, trivial⟩
  | v :: vs, c :: cs, h, hz => by
    simp only [List.all_cons, Bool.and_eq_true] at hz
    obtain ⟨s, h1, h2⟩ := cellRow_ok (w := w) (G := G) (P := P) deep keep v c hz.1
    obtain ⟨ss, h3, h4⟩ := cellsRow_ok deep keep vs cs (by simpa using h) hz.2
    exact ⟨s :: ss, by simp [fpL, h1, h3], h2, h4⟩
  | [], _ :: _, h, _ => by simp at h
  | _ :: _, [], h, _ => by simp at h

theorem zeroCells_info {t : TypeId} {i : TypeInfo} (hi : P.info? t = some i) {z : Value} (hz : i.zero = some z) : zeroCells P t = z.cells.toList := by
  simp [zeroCells, hi, hz]

theorem zeroCells_ne {t : TypeId} (h : zeroCells P t ≠ []) : ∃ i z, P.info? t = some i ∧ i.zero = some z ∧ zeroCells P t = z.cells.toList := by
  unfold zeroCells at h ⊢
  cases hi : P.info? t with
  | none => simp [hi] at h
  | some i =>
    cases hz : i.zero with
    | none => simp [hi, hz] at h
    | some z => exact ⟨i, z, rfl, hz, by simp [hz]⟩

/-! ### building a struct -/
theorem mapM_places : ∀ (fs : List Field), (fs.all fun f => (P.info? f.type).isSome) = true →
    fs.mapM (fun f => (P.info? f.type).map fun i => (f.offset, i.size)) = some (fs.map fun f => (f.offset, szT P f.type))
  | [], _ => rfl
  | f :: fs, h => by
    simp only [List.all_cons, Bool.and_eq_true] at h
    obtain ⟨i, hi⟩ := Option.isSome_iff_exists.1 h.1
    simp [List.mapM_cons, hi, mapM_places fs h.2, szT]

theorem partLen_cells {v : Value} {x : V} (h : Rv w G gm v x) (hp : x.isPart = true) : v.cells.size = partLen x := by
  cases x with
  | ag xs => obtain ⟨cs, rfl, h2⟩ := h; simpa [Value.cells, partLen] using h2.length
  | bad => cases hp
  | tp xs => cases hp
  | own e d xs => cases hp
  | _ =>
    have := h.single rfl (by simp)
    have h2 : v.cells.toList.length = 1 := by rw [this]; rfl
    simpa [partLen] using h2

theorem RvL.zip_parts : ∀ (ps : List Nat) (us : List Value) (vs : List V), RvL w G gm us vs → RvL w G gm ((ps.zip us).map (·.2)) ((ps.zip vs).map (·.2))
  | [], _, _, _ => trivial
  | p :: ps, u :: us, v :: vs, h => ⟨h.1, RvL.zip_parts ps us vs h.2⟩
  | p :: ps, [], [], _ => trivial
  | p :: ps, [], _ :: _, h => h.elim
  | p :: ps, _ :: _, [], h => h.elim

theorem semBuild_ok (hI : Inv P w0 F N st a w G gm) {o : Oper} (hd : ∀ x, o.dst = some x → x < N) {t : TypeId} {ps : Array (Nat × Operand)} (ho : o.op = .build t ps) {vs : List V}
    (hx : RvL w G gm (ps.toList.map fun p => a.eval p.2) vs) (hok : (semBuild P t (ps.toList.map (·.1)) vs).ok = true) : OpRes P w0 F N st a w G o (semBuild P t (ps.toList.map (·.1)) vs) := by
  unfold semBuild at hok ⊢
  obtain ⟨h1, _⟩ := when_ok hok
  simp only [Bool.and_eq_true] at h1
  obtain ⟨⟨⟨hb, hz1⟩, hz2⟩, hall⟩ := h1
  have hz1 := nbeq hz1
  have hz2 := nbeq hz2
  simp only [bldOk, Bool.and_eq_true] at hb
  obtain ⟨hb1, hb2⟩ := hb
  cases hit : P.info? t with
  | none => simp [hit] at hb2
  | some it =>
    simp only [hit] at hb2
    obtain ⟨z, hz⟩ := Option.isSome_iff_exists.1 hb2
    have hzc := zeroCells_info hit hz
    have hzero : RvL w G gm z.cells.toList (zeroEnv P t) := by
      unfold zeroEnv
      rw [hzc] at hz2 ⊢
      exact cellsEnv_ok _ _ hz2
    have hzl : z.cells.size = szT P t := by
      have := hzero.length
      rw [hz1] at this
      simpa using this
    have main : ∀ (place : Nat → Option (Nat × Nat)), (∀ i c, partTy P t i = some c → place i = some (offOf P t i, szT P c)) →
        ∃ cells', Instr.fill place z.cells (ps.toList.map fun p => (p.1, a.eval p.2)) = some cells' ∧ RvL w G gm cells'.toList (placeParts ((ps.toList.map (·.1)).zip vs |>.map fun p => (offOf P t p.1, p.2)) (zeroEnv P t)).2 := by
      intro place hplace
      have hzip : (ps.toList.map fun p => (p.1, a.eval p.2)) = (ps.toList.map (·.1)).zip (ps.toList.map fun p => a.eval p.2) := by
        rw [List.zip_map_left, List.zip_map_right, List.map_map]
        generalize ps.toList = l
        induction l with
        | nil => rfl
        | cons p l ih => simp [ih]
      have hall' : ∀ q ∈ (ps.toList.map (·.1)).zip vs, partOk P t q = true := by
        intro q hq
        exact List.all_eq_true.1 hall q hq
      refine Exists.elim (fill_ok (w := w) (G := G) (gm := gm) place (ps.toList.map fun p => (p.1, a.eval p.2)) (((ps.toList.map (·.1)).zip vs).map fun p => (offOf P t p.1, p.2)) z.cells (zeroEnv P t) ?_ ?_ hzero ?_ ?_) (fun cells' k => ⟨cells', k.1, k.2.2⟩)
      · have key2 : ∀ (is : List Nat) (us : List Value) (vs : List V), us.length = vs.length → (∀ q ∈ is.zip vs, partOk P t q = true) →
            (is.zip us).map (fun p => (place p.1).map (·.1)) = ((is.zip vs).map fun p => (offOf P t p.1, p.2)).map (fun q => some q.1) := by
          intro is
          induction is with
          | nil => intro us vs _ _; rfl
          | cons i is ih =>
            intro us vs hl hq
            cases us with
            | nil => cases vs with
              | nil => rfl
              | cons v vs => simp at hl
            | cons u us =>
              cases vs with
              | nil => simp at hl
              | cons v vs =>
                have hp := hq (i, v) (by simp)
                unfold partOk at hp
                cases hpt : partTy P t i with
                | none => simp [hpt] at hp
                | some c =>
                  simp only [List.zip_cons_cons, List.map_cons, hplace i c hpt, Option.map_some]
                  rw [ih us vs (by simpa using hl) (fun q hq' => hq q (by simp [hq']))]
        rw [hzip]
        exact key2 _ _ _ hx.length hall'
      · rw [hzip, List.map_map]
        exact RvL.zip_parts _ _ _ hx
      · intro p hp off sz hpl
        rw [hzip] at hp
        have key : ∀ (is : List Nat) (us : List Value) (vs : List V), RvL w G gm us vs → (∀ q ∈ is.zip vs, partOk P t q = true) → ∀ p ∈ is.zip us, ∃ x, Rv w G gm p.2 x ∧ partOk P t (p.1, x) = true := by
          intro is
          induction is with
          | nil => intro us vs _ _ p hp; simp at hp
          | cons i is ih =>
            intro us vs h hq p hp
            cases us with
            | nil => simp at hp
            | cons u us =>
              cases vs with
              | nil => exact h.elim
              | cons v vs =>
                simp only [List.zip_cons_cons, List.mem_cons] at hp
                rcases hp with rfl | hp
                · exact ⟨v, h.1, hq (i, v) (by simp)⟩
                · exact ih us vs h.2 (fun q hq' => hq q (by simp [hq'])) p hp
        obtain ⟨x, hx1, hx2⟩ := key _ _ _ hx hall' p hp
        unfold partOk at hx2
        cases hpt : partTy P t p.1 with
        | none => simp [hpt] at hx2
        | some c =>
          simp only [hpt, Bool.and_eq_true] at hx2
          rw [hplace _ c hpt] at hpl
          simp only [Option.some.injEq, Prod.mk.injEq] at hpl
          obtain ⟨rfl, rfl⟩ := hpl
          have e1 := nbeq hx2.1.2
          have e2 := nble hx2.2
          exact ⟨by rw [partLen_cells hx1 hx2.1.1, e1], by rw [hzl]; exact e2⟩
      · intro q hq
        simp only [List.mem_map] at hq
        obtain ⟨q', hq', rfl⟩ := hq
        have := hall' q' hq'
        unfold partOk at this
        cases hpt : partTy P t q'.1 with
        | none => simp [hpt] at this
        | some c => simp only [hpt, Bool.and_eq_true] at this; exact this.1.1
    have fin : ∀ cells', P.built t (ps.toList.map fun p => (p.1, a.eval p.2)) = some cells' → RvL w G gm cells'.toList (placeParts ((ps.toList.map (·.1)).zip vs |>.map fun p => (offOf P t p.1, p.2)) (zeroEnv P t)).2 →
        OpRes P w0 F N st a w G o (Eff.put (.ag (placeParts ((ps.toList.map (·.1)).zip vs |>.map fun p => (offOf P t p.1, p.2)) (zeroEnv P t)).2)) := by
      intro cells' hbt hr
      refine OpRes.quiet hI hd (.agg cells') ?_ rfl rfl ⟨cells', rfl, hr⟩
      have := run_build (P := P) w t (ps.map fun (i, x) => (i, a.eval x)) cells' (by simpa using hbt)
      simp only [execOp, ho, Sem.run_bind, this, Result.andThen_ok]
      rfl
    refine OpRes.when ?_
    cases hu : P.underlying t with
    | none => simp [hu] at hb1
    | some d =>
      cases d <;> simp only [hu] at hb1 <;> try (cases hb1; done)
      case array n e =>
        obtain ⟨ie, hie⟩ := Option.isSome_iff_exists.1 hb1
        obtain ⟨cells', k1, k2⟩ := main (fun i => some (i * ie.size, ie.size)) (by
          intro i c hc
          simp only [partTy, hu, Option.some.injEq] at hc
          subst hc
          simp [offOf, hu, szT, hie])
        exact fin cells' (by simp [Program.built, hit, hu, hz, hie, k1]) k2
      case struct fs =>
        obtain ⟨cells', k1, k2⟩ := main ((fs.toList.map fun f => (f.offset, szT P f.type)).toArray[·]?) (by
          intro i c hc
          simp only [partTy, hu] at hc
          cases hf : fs[i]? with
          | none => simp [hf] at hc
          | some f =>
            simp only [hf, Option.map_some, Option.some.injEq] at hc
            subst hc
            simp [offOf, hu, hf])
        refine fin cells' ?_ k2
        simp only [Program.built, hit, hu, hz, mapM_places fs.toList hb1]
        exact k1
end
end Go.Ab
/- Operations that make regions: alloc, box, make, slices that are written out, assignments. -/
namespace Go.Ab
open Go
set_option linter.unusedSimpArgs false
set_option linter.unusedVariables false

section
variable {P : Program} {w0 w : World} {F : FG} {N : Nat} {st : St} {a : Act} {G : Nat → Prop} {gm : GM} {deep : TypeId → Bool}

theorem cellRow_slf {deep : TypeId → Bool} {keep : Bool} {v : Value} {c : TypeId} (h : cellRow P deep keep v c = .slf) : v = .pointer none := by
  unfold cellRow at h
  split at h
  · split at h
    · cases keep <;> cases h
    · cases h
  · rfl
  · cases hf : flat v <;> rw [hf] at h <;> cases h

theorem zeroRow_slf {deep : TypeId → Bool} {keep : Bool} {t : TypeId} {b : Nat} : SelfOk b (zeroRow P deep keep t) (zeroCells P t) := by
  intro k hk
  left
  unfold zeroRow at hk
  rw [List.getElem?_map] at hk
  cases hz : ((zeroCells P t).zip (cellsT P t))[k]? with
  | none => rw [hz] at hk; cases hk
  | some x =>
    rw [hz] at hk
    have hv := cellRow_slf (Option.some.inj hk)
    obtain ⟨v, c⟩ := x
    rw [List.getElem?_zip_eq_some] at hz
    rw [hz.1, hv]

theorem absC_slf {deep : TypeId → Bool} {keep : Bool} {rd : Nm → Option Rg} {x : V} (hok : (absC P deep keep rd x).ok = true) : ∀ y ∈ (absC P deep keep rd x).xs, y ≠ .slf := by
  intro y hy
  cases x <;> simp only [absC, List.mem_singleton] at hy hok <;> subst hy <;> first
    | (simp; done)
    | (cases keep <;> simp [frz]; done)
    | cases hok
theorem absL_slf {deep : TypeId → Bool} {keep : Bool} : ∀ (xs : List V) {rd : Nm → Option Rg}, (absL P deep keep xs rd).ok = true → ∀ y ∈ (absL P deep keep xs rd).xs, y ≠ .slf
  | [], _, _, y, hy => by simp [absL] at hy
  | x :: xs, rd, hok, y, hy => by
    simp only [absL, Bool.and_eq_true] at hok
    simp only [absL, List.mem_append] at hy
    rcases hy with hy | hy
    · exact absC_slf hok.1 y hy
    · exact absL_slf xs hok.2 y hy
theorem absV_slf {deep : TypeId → Bool} {keep : Bool} {rd : Nm → Option Rg} {x : V} (hok : (absV P deep keep rd x).ok = true) : ∀ y ∈ (absV P deep keep rd x).xs, y ≠ .slf := by
  cases x with
  | ag xs => exact absL_slf xs hok
  | _ => exact absC_slf hok


theorem OpRes.mk' {o : Oper} {e : Eff} {d : Nat} (hod : o.dst = some d) (v : Value) (w' : World) {nx : Next} (G' : Nat → Prop) (gm' : GM)
    (hr : (execOp a.eval o).run P w = .ok nx w') (hnx : nx = .value v) (hG : ∀ b, G b → G' b) (hI : Inv P w0 F N (st.app e (some d)) (a.put (some d) v) w' G' gm') : OpRes P w0 F N st a w G o e :=
  ⟨v, w', nx, G', gm', hr, .inl hnx, hG, by rw [hod]; exact hI⟩

theorem no_names {n : Nm} (h : n ∈ Kl.no.names) : False := by simp [Kl.no, Kl.names] at h

theorem alloc_old (w : World) (o : Obj) (b : Nat) (h : b < w.heap.size) : (w.alloc o).heap[b]? = w.heap[b]? := heap_alloc_old w o b h

/-- A box for a variable's zero. -/
theorem alloc_ok {keep : Bool} (hI : Inv P w0 F N st a w G gm) {o : Oper} {d : Nat} (hod : o.dst = some d) (hd : d < N) {t : TypeId} (ho : o.op = .alloc t) {T : List Nm} (hTd : (Nm.loc d).mem T = true) (hTh : Nm.hand.mem T = false)
    (h1 : tyOk P t = true) (h0 : zeroOne P t = true) (h2 : 0 < szT P t) (h3 : (zeroCells P t).length = szT P t) (h4 : ((zeroRow P deep keep t).all V.noSlf || selfT P t) = true) :
    OpRes P w0 F N st a w G o (newReg d (only T st.regs) ⟨true, zeroRow P deep keep t⟩ (.ptrB (.loc d) 0) .no) := by
  obtain ⟨_, _, _, _, _, _, hcl⟩ := tyOk_spec h1
  obtain ⟨i, z, hi, hz, hzc⟩ := zeroCells_ne (P := P) (t := t) (by intro e; rw [e] at h3; simp at h3; omega)
  obtain ⟨gm1, g1, g2, g3, g4⟩ := hI.start T
  have hrun : (execOp a.eval o).run P w = .ok (.value (.pointer (some ⟨w.heap.size, 0, none⟩))) (w.alloc (.cells z.cells t)) := by
    simp [execOp, ho, Instr.alloc, zeroValue, typeInfo, hi, hz, newVar, newRow]
  obtain ⟨ss, hs1, hs2⟩ := cellsRow_ok (w := w.alloc (.cells z.cells t)) (G := G) (P := P) deep keep (zeroCells P t) (cellsT P t) (by rw [h3, hcl]) h0
  refine OpRes.mk' hod _ _ G _ hrun rfl (fun _ h => h) (hI.land hd hTd hTh g1 g2 (fun _ h => h) g3 (only_within T _) (fun _ _ => rfl) (fun n hn => (no_names hn).elim)
    (fun b hb _ => alloc_old w _ b hb) rfl rfl rfl (by simp) (R := ⟨some w.heap.size, zeroCells P t, ss⟩) ⟨rfl, hs2, fun b hb => ?_⟩ ?_ ?_ (fun _ h => h) (fun _ h => .inl h) _ _ ?_)
  · obtain rfl := Option.some.inj hb
    refine ⟨⟨t, by rw [hzc]; simpa using heap_alloc_new w (.cells z.cells t), fun k hk => ?_⟩, zeroRow_slf⟩
    rcases Bool.or_eq_true_iff.1 h4 with h | h
    · have := List.all_eq_true.1 h _ (List.mem_of_getElem? hk)
      cases this
    · exact h
  · simp [RG.fp, hs1]
  · intro b hb
    simp [RG.fp, hs1] at hb
    exact .inr (by omega)
  · exact ⟨_, w.heap.size, setG_self _ _ _, rfl, rfl⟩

theorem Took.names {T : List Nm} {regs rd : Nm → Option Rg} {row : List V} {vals : List Value} {sks : List Sk} {ab : Abs} {vs : List Value} (h : Took P w0 w F T regs rd row vals sks G gm ab vs)
    (hk : ∀ n, n ∈ ab.k.names → n.mem T = true) : True := trivial

/-- The names that go when cells are taken are names that were looked at. -/
theorem takeAt_names (rd : Nm → Option Rg) (q : Pl) (n : Nm) (h : n ∈ (takeAt rd q).2.names) : n = q.r ∧ ∃ rg, rd q.r = some rg := by
  unfold takeAt at h
  split at h
  · exact (no_names h).elim
  · next hr => split at h <;> exact ⟨by simpa [Kl.names] using h, _, hr⟩
  · next h1 h2 =>
    refine ⟨by split at h <;> simpa [Kl.names] using h, ?_⟩
    cases hr : rd q.r with
    | none => exact absurd hr h1
    | some rg => exact ⟨rg, rfl⟩

theorem absC_names {keep : Bool} {rd : Nm → Option Rg} {T : List Nm} (hT : Within T rd) (x : V) (n : Nm) (h : n ∈ (absC P deep keep rd x).k.names) : n.mem T = true := by
  have key : ∀ q : Pl, n ∈ (takeAt rd q).2.names → n.mem T = true := by
    intro q hn
    obtain ⟨rfl, rg, hr⟩ := takeAt_names rd q n hn
    exact hT.mem hr
  cases x <;> simp only [absC] at h <;> try (exact (no_names h).elim)
  case ref q => exact key q h
  case vw q lo hi => exact key q h

theorem takeAt_within {rd : Nm → Option Rg} {T : List Nm} (hT : Within T rd) (q : Pl) : Within T (takeAt rd q).1 := by
  cases hr : rd q.r with
  | none =>
    have : takeAt rd q = (rd, .no) := by unfold takeAt; rw [hr]
    rw [this]; exact hT
  | some rg =>
    have hm := hT.mem hr
    have key : ∀ g', Within T (setR rd q.r g') := by
      intro g' n hn
      have : n ≠ q.r := fun e => by rw [e, hm] at hn; cases hn
      rw [setR_ne _ _ this]; exact hT n hn
    unfold takeAt
    split
    · exact hT
    · split <;> exact key _
    · exact key _

theorem absC_within {keep : Bool} {rd : Nm → Option Rg} {T : List Nm} (hT : Within T rd) (x : V) : Within T (absC P deep keep rd x).rd := by
  cases x <;> simp only [absC] <;> try exact hT
  case ref q => exact takeAt_within hT q
  case vw q lo hi => exact takeAt_within hT q

theorem absL_within {keep : Bool} {T : List Nm} : ∀ (xs : List V) {rd : Nm → Option Rg}, Within T rd → Within T (absL P deep keep xs rd).rd ∧ ∀ n, n ∈ (absL P deep keep xs rd).k.names → n.mem T = true
  | [], _, h => ⟨h, fun n hn => (no_names hn).elim⟩
  | x :: xs, rd, h => by
    have := absL_within (keep := keep) xs (absC_within (P := P) (deep := deep) (keep := keep) h x)
    refine ⟨this.1, fun n hn => ?_⟩
    simp only [absL, Kl.names_and] at hn
    exact hn.elim (absC_names h x n) (this.2 n)

theorem absV_within {keep : Bool} {T : List Nm} {rd : Nm → Option Rg} (h : Within T rd) (x : V) : Within T (absV P deep keep rd x).rd ∧ ∀ n, n ∈ (absV P deep keep rd x).k.names → n.mem T = true := by
  cases x with
  | ag xs => exact absL_within xs h
  | _ => exact ⟨absC_within h _, absC_names h _⟩

/-- A box for a value. -/
theorem box_ok {keep : Bool} (hI : Inv P w0 F N st a w G gm) {o : Oper} {d : Nat} (hod : o.dst = some d) (hd : d < N) {t : TypeId} {x : Operand} (ho : o.op = .box t x) {T : List Nm} (hTd : (Nm.loc d).mem T = true) (hTh : Nm.hand.mem T = false)
    {vx : V} (hx : Rv w G gm (a.eval x) vx) (hok : (absV P deep keep (only T st.regs) vx).ok = true) :
    OpRes P w0 F N st a w G o (newReg d (absV P deep keep (only T st.regs) vx).rd ⟨true, (absV P deep keep (only T st.regs) vx).xs⟩ (.ptrB (.loc d) 0) (absV P deep keep (only T st.regs) vx).k) := by
  obtain ⟨gm1, g1, g2, g3, g4⟩ := hI.start T
  obtain ⟨htook, _⟩ := absV_ok (deep := deep) (keep := keep) g1 g2 rfl rfl (only_within T _) hTh hx (fun _ h => h) (g4 hTh) hok
  obtain ⟨G2, gm2, ss, k1, k2, k3, k4, k5⟩ := htook.ex
  simp only [List.nil_append] at k2 k3
  have hrun : (execOp a.eval o).run P w = .ok (.value (.pointer (some ⟨w.heap.size, 0, none⟩))) (w.alloc (.cells (a.eval x).cells t)) := by
    simp [execOp, ho, Instr.box, newVar, newRow]
  obtain ⟨hb, hown⟩ := hand_ok k2 k3
  have hnd := k2.nodup _ _ k3
  simp only [RG.fp, Option.toList_none, List.nil_append] at hnd
  have hlt : ∀ b ∈ fpL ss, b < w.heap.size := fun b hb => k2.lt k3 b (by simpa [RG.fp] using hb)
  refine OpRes.mk' hod _ _ G2 _ hrun rfl k1 (hI.land hd hTd hTh k2 k3 k1 ((g3.no_trans (Stay.refl _ _)).trans k4 |> fun h => ?_) htook.within (fun n hn => htook.same n hn) (absV_within (only_within T _) vx).2
    (fun b hb _ => alloc_old w _ b hb) rfl rfl rfl (by simp) (R := ⟨some w.heap.size, (a.eval x).cells.toList, ss⟩) ⟨rfl, ?_, fun b hb => ?_⟩ ?_ ?_ (fun _ h => h) (fun _ h => .inl h) _ _ ?_)
  · simpa [Kl.and, Kl.no] using h
  · exact OwnL.frame (fun k hk => alloc_old w _ k (k2.old k hk)) (fun _ h => h) _ _ _ (fun k hk => alloc_old w _ k (hlt k hk)) hown
  · obtain rfl := Option.some.inj hb
    exact ⟨⟨t, by simpa using heap_alloc_new w (.cells (a.eval x).cells t), TypT.none (absV_slf hok)⟩, SelfOk.none (absV_slf hok)⟩
  · simp only [RG.fp, Option.toList_some, List.cons_append, List.nil_append, List.nodup_cons]
    exact ⟨fun h => by have := hlt _ h; omega, hnd⟩
  · intro b hb
    simp only [RG.fp, Option.toList_some, List.cons_append, List.nil_append, List.mem_cons] at hb
    rcases hb with rfl | hb
    · exact .inr (Nat.le_refl _)
    · exact .inl hb
  · exact ⟨_, w.heap.size, setG_self _ _ _, rfl, rfl⟩

/-! ### make -/
theorem cimL_flatten_replicate (n : Nat) (l : List V) (h : cimL l = true) : cimL (List.replicate n l).flatten = true := by
  induction n with
  | zero => rfl
  | succ n ih => rw [List.replicate_succ, List.flatten_cons, cimL_append, h, ih]; rfl

theorem OwnL.replicate {vs : List Value} {xs : List V} {ss : List Sk} (h : OwnL w G P vs xs ss) (n : Nat) :
    OwnL w G P (List.replicate n vs).flatten (List.replicate n xs).flatten (List.replicate n ss).flatten := by
  induction n with
  | zero => exact trivial
  | succ n ih => rw [List.replicate_succ, List.replicate_succ, List.replicate_succ, List.flatten_cons, List.flatten_cons, List.flatten_cons]; exact h.append ih

theorem fpL_replicate {ss : List Sk} (h : fpL ss = []) (n : Nat) : fpL (List.replicate n ss).flatten = [] := by
  induction n with
  | zero => rfl
  | succ n ih => rw [List.replicate_succ, List.flatten_cons, fpL_append, h, ih]; rfl

theorem flatten_replicate_get {α : Type} (l : List α) (n j : Nat) (h : j < n * l.length) : (List.replicate n l).flatten[j]? = l[j % l.length]? := by
  induction n generalizing j with
  | zero => omega
  | succ n ih =>
    rw [List.replicate_succ, List.flatten_cons]
    by_cases hj : j < l.length
    · rw [List.getElem?_append_left hj, Nat.mod_eq_of_lt hj]
    · rw [List.getElem?_append_right (by omega), ih (j - l.length) (by rw [Nat.add_mul, Nat.one_mul] at h; omega)]
      congr 1
      rw [Nat.mod_eq_sub_mod (by omega : j ≥ l.length)]

theorem madeCells_take (z : Array Value) (sz l c : Nat) (hz : z.size = sz) (hs : 0 < sz) (hlc : l ≤ c) :
    (madeCells z (c * sz)).toList.take (l * sz) = (List.replicate l z.toList).flatten := by
  have hle : l * sz ≤ c * sz := Nat.mul_le_mul_right _ hlc
  apply List.ext_getElem?
  intro j
  by_cases hj : j < l * sz
  · rw [List.getElem?_take_of_lt hj, flatten_replicate_get _ _ _ (by simpa [hz] using hj)]
    have hm : j % sz < sz := Nat.mod_lt _ hs
    simp only [madeCells, Array.toList_map, Array.toList_range, List.getElem?_map, List.getElem?_range (show j < c * sz by omega), Option.map_some, Array.length_toList, hz]
    rw [getElem!_pos z (j % sz) (by omega)]
    simp [hz, hm]
  · rw [List.getElem?_take, if_neg hj, List.getElem?_eq_none]
    simp [hz]; omega

theorem make_ok (hI : Inv P w0 F N st a w G gm) {o : Oper} {d : Nat} (hod : o.dst = some d) (hd : d < N) {t : TypeId} {x y : Operand} (ho : o.op = .makeSlice t x y) {T : List Nm} (hTd : (Nm.loc d).mem T = true) (hTh : Nm.hand.mem T = false)
    {kl kc : IntKind} {l c : Int} (hx : a.eval x = .int kl l) (hy : a.eval y = .int kc c) (hok : (semMake P deep d (only T st.regs) t l c).ok = true) :
    OpRes P w0 F N st a w G o (semMake P deep d (only T st.regs) t l c) := by
  unfold semMake at hok ⊢
  cases he : elT P t with
  | none => rw [he] at hok; cases hok
  | some e =>
    rw [he] at hok
    simp only at hok ⊢
    obtain ⟨h1, _⟩ := when_ok hok
    simp only [Bool.and_eq_true, decide_eq_true_eq, roomy, Bool.or_eq_true] at h1
    obtain ⟨⟨⟨⟨⟨⟨⟨⟨p1, p2⟩, p3⟩, p30⟩, p4⟩, p5⟩, p6⟩, p7⟩, p8⟩ := h1
    have p4 := nblt p4
    have p5 := nbeq p5
    obtain ⟨_, i, hdt, hi, hsz, hby, hcl⟩ := tyOk_spec p3
    obtain ⟨i', z, hi', hz, hzc⟩ := zeroCells_ne (P := P) (t := e) (by intro h; rw [h] at p5; simp at p5; omega)
    rw [hi] at hi'
    obtain rfl := Option.some.inj hi'
    obtain ⟨gm1, g1, g2, g3, g4⟩ := hI.start T
    obtain ⟨ln, rfl⟩ := Int.eq_ofNat_of_zero_le p1
    obtain ⟨cn, rfl⟩ := Int.eq_ofNat_of_zero_le (show 0 ≤ c by omega)
    simp only [Int.toNat_natCast] at p7 p8 ⊢
    have hlc : ln ≤ cn := by omega
    have hcm : cn ≤ maxLen := Nat.le_trans p8 (by decide)
    have hbb : (i.bytes : Int) * (cn : Int) ≤ 281474976710656 := by
      rw [hby] at p7
      have h := Int.ofNat_le.2 p7
      rw [Int.natCast_mul, Int.mul_comm] at h
      omega
    have hrun : (execOp a.eval o).run P w = .ok (.value (.slice (some ⟨w.heap.size, 0, none⟩) ln cn)) (w.alloc (.cells (madeCells z.cells (cn * i.size)) e)) := by
      have := run_make (P := P) w t e i z (elT_spec he) hi hz kl kc ln cn (by omega) (by omega) hbb (by omega)
      simp only [Int.toNat_natCast] at this
      simp only [execOp, ho, hx, hy, Sem.run_bind, this, Result.andThen_ok]
      rfl
    obtain ⟨ss, hs1, hs2⟩ := cellsRow_ok (w := w.alloc (.cells (madeCells z.cells (cn * i.size)) e)) (G := G) (P := P) deep (deep e) (zeroCells P e) (cellsT P e) (by rw [p5, hcl]) p30
    have hzs : z.cells.size = szT P e := by rw [hzc] at p5; simpa using p5
    have hlr : (zeroRow P deep (deep e) e).length = szT P e := by simp [zeroRow, p5, hcl]
    refine OpRes.when (OpRes.mk' hod _ _ G _ hrun rfl (fun _ h => h) (hI.land hd hTd hTh g1 g2 (fun _ h => h) g3 (only_within T _) (fun _ _ => rfl) (fun n hn => (no_names hn).elim)
      (fun b hb _ => alloc_old w _ b hb) rfl rfl rfl (by simp) (rg := ⟨false, [.own e (deep e) (List.replicate ln (zeroRow P deep (deep e) e)).flatten]⟩) (R := ⟨none, [.slice (some ⟨w.heap.size, 0, none⟩) ln cn], [.node w.heap.size ln cn (szT P e) (List.replicate ln ss).flatten]⟩) ⟨rfl, ⟨?_, trivial⟩, fun b hb => by cases hb⟩ ?_ ?_ (fun _ h => h) (fun _ h => .inl h) _ _ ?_))
    · refine ⟨madeCells z.cells (cn * i.size), (0, 0), rfl, heap_alloc_new w _, .inl (Nat.le_refl _), by rw [size_madeCells, hsz], p4, rfl, hlc, hcm, ?_, ?_, ?_⟩
      · rw [List.length_flatten]; simp [hlr]
      · have := hs2.replicate ln
        rw [hzc] at this
        rw [← madeCells_take z.cells (szT P e) ln cn hzs p4 hlc, hsz] at this
        rw [hsz]
        unfold zeroRow
        rw [hzc]
        exact this
      · intro hde
        rcases p6 with p6 | p6
        · rw [hde] at p6; cases p6
        · exact cimL_cib _ (cimL_flatten_replicate _ _ p6)
    · simp [RG.fp, fpL, Sk.fp, fpL_replicate hs1]
    · intro b hb
      simp [RG.fp, fpL, Sk.fp, fpL_replicate hs1] at hb
      exact .inr (by omega)
    · simp only [Rv, nameRef, skAt, setG_self, getSk, nthS_zero]
end
end Go.Ab
/- Slices that are written out; assignments; texts and bytes. -/
namespace Go.Ab
open Go
set_option linter.unusedSimpArgs false
set_option linter.unusedVariables false

section
variable {P : Program} {w0 w : World} {F : FG} {N : Nat} {st : St} {a : Act} {G : Nat → Prop} {gm : GM} {deep : TypeId → Bool}

/-- The cells of a slice that is written out, part by part. -/
theorem absParts_ok {T : List Nm} {regs : Nm → Option Rg} {keep : Bool} {gm0 : GM} {G0 : Nat → Prop} : ∀ (xs : List V) (vs : List Value) {rd : Nm → Option Rg} {G : Nat → Prop} {gm : GM} {row : List V} {vals : List Value} {sks : List Sk}
    (_ : Regs P w0 F (withHand (mix T rd regs) row) w G gm) (_ : gm .hand = some ⟨none, vals, sks⟩) (_ : vals.length = row.length) (_ : sks.length = row.length)
    (_ : Within T rd) (_ : Nm.hand.mem T = false)
    (_ : RvL w G0 gm0 vs xs) (_ : ∀ b, G0 b → G b) (_ : Live rd gm0 gm) (_ : (absParts P deep keep xs rd).ok = true),
    Took P w0 w F T regs rd row vals sks G gm ⟨true, (absParts P deep keep xs rd).l.flatten, (absParts P deep keep xs rd).rd, (absParts P deep keep xs rd).k⟩ (vs.flatMap fun v => v.cells.toList) ∧
      (keep = false → cimL (absParts P deep keep xs rd).l.flatten = true)
  | [], [], rd, G, gm, row, vals, sks, h, hh, hl, hls, hT, hTh, _, _, _, _ => ⟨Took.nil h hh hT _, fun _ => rfl⟩
  | x :: xs, v :: vs, rd, G, gm, row, vals, sks, h, hh, hl, hls, hT, hTh, hv, hG0, hlive, hok => by
    simp only [absParts, Bool.and_eq_true] at hok ⊢
    obtain ⟨h1, i1⟩ := absV_ok (deep := deep) (keep := keep) h hh hl hls hT hTh hv.1 hG0 hlive hok.1
    obtain ⟨G1, gm1, ss1, k1, k2, k3, k4, k5⟩ := h1.ex
    have hlen := h1.len
    obtain ⟨hb0, hown⟩ := hand_ok k2 k3
    have hss : (sks ++ ss1).length = (row ++ (absV P deep keep rd x).xs).length := hown.length.2
    obtain ⟨h2, i2⟩ := absParts_ok xs vs k2 k3 (by simp only [List.length_append, hl, hlen]) hss h1.within hTh hv.2 (fun b hb => k1 b (hG0 b hb)) (hlive.trans k5 h1.own) hok.2
    simp only [List.flatten_cons, List.flatMap_cons]
    refine ⟨h1.trans k1 k4 k5 h2 _, fun hk => ?_⟩
    rw [cimL_append, i1 hk, i2 hk]; rfl
  | [], _ :: _, _, _, _, _, _, _, _, _, _, _, _, _, hv, _, _, _ => hv.elim
  | _ :: _, [], _, _, _, _, _, _, _, _, _, _, _, _, hv, _, _, _ => hv.elim

theorem absParts_within {keep : Bool} {T : List Nm} : ∀ (xs : List V) {rd : Nm → Option Rg}, Within T rd → Within T (absParts P deep keep xs rd).rd ∧ ∀ n, n ∈ (absParts P deep keep xs rd).k.names → n.mem T = true
  | [], _, h => ⟨h, fun n hn => (no_names hn).elim⟩
  | x :: xs, rd, h => by
    have h1 := absV_within (P := P) (deep := deep) (keep := keep) h x
    have := absParts_within (keep := keep) xs h1.1
    refine ⟨this.1, fun n hn => ?_⟩
    simp only [absParts, Kl.names_and] at hn
    exact hn.elim (h1.2 n) (this.2 n)

theorem denseL_spec : ∀ (l : List Nat) (k : Nat), denseL k l = true → ∀ i, i < l.length → l[i]? = some (k + i)
  | [], _, _, i, hi => by simp at hi
  | x :: l, k, h, 0, _ => by simp only [denseL, Bool.and_eq_true] at h; simp [nbeq h.1]
  | x :: l, k, h, i + 1, hi => by
    simp only [denseL, Bool.and_eq_true] at h
    have := denseL_spec l (k + 1) h.2 i (by simpa using hi)
    simpa [Nat.add_assoc, Nat.add_comm 1 i] using this

theorem setVals_mid : ∀ (vs : List Value) (k : Nat) (row : List Value), k + vs.length ≤ row.length → setVals k vs row = row.take k ++ vs ++ row.drop (k + vs.length)
  | [], k, row, _ => by simp [setVals]
  | v :: vs, k, row, h => by
    simp only [setVals]
    rw [setVals_mid vs (k + 1) (row.set k v) (by simp at h ⊢; omega)]
    have := list_seg_step row k v vs (by simp at h ⊢; omega)
    simpa [Nat.add_assoc, Nat.add_comm 1] using this

/-- Parts that follow each other fill a row. -/
theorem fill_dense (sz : Nat) : ∀ (us : List Value) (is : List Nat) (k : Nat) (cells : Array Value), denseL k is = true → is.length = us.length → (∀ u ∈ us, u.cells.size = sz) → (k + us.length) * sz ≤ cells.size →
    ∃ cells', Instr.fill (fun i => some (i * sz, sz)) cells (is.zip us) = some cells' ∧ cells'.toList = cells.toList.take (k * sz) ++ (us.flatMap fun u => u.cells.toList) ++ cells.toList.drop ((k + us.length) * sz)
  | [], [], k, cells, _, _, _, _ => ⟨cells, rfl, by simp⟩
  | u :: us, i :: is, k, cells, hd, hl, hs, hle => by
    simp only [denseL, Bool.and_eq_true] at hd
    have hi := nbeq hd.1
    subst hi
    have hu : u.cells.size = sz := hs u (by simp)
    have hle' : i * sz + sz ≤ cells.size := by
      have : (i + 1) * sz ≤ (i + (us.length + 1)) * sz := Nat.mul_le_mul_right _ (by omega)
      rw [Nat.add_mul, Nat.one_mul] at this
      simp only [List.length_cons] at hle
      omega
    have hfold : (u.cells.zipIdx.foldl (fun cs x => cs.setIfInBounds (i * sz + x.2) x.1) cells).toList = cells.toList.take (i * sz) ++ u.cells.toList ++ cells.toList.drop (i * sz + sz) := by
      rw [← Array.foldl_toList, Array.toList_zipIdx, foldl_set]
      simp only [Nat.add_zero]
      have hul : u.cells.toList.length = sz := by simpa using hu
      rw [setVals_mid _ _ _ (by rw [hul]; simpa using hle'), hul]
    have hsize : (u.cells.zipIdx.foldl (fun cs x => cs.setIfInBounds (i * sz + x.2) x.1) cells).size = cells.size := by
      have : (u.cells.zipIdx.foldl (fun cs x => cs.setIfInBounds (i * sz + x.2) x.1) cells).toList.length = cells.toList.length := by
        rw [← Array.foldl_toList, Array.toList_zipIdx, foldl_set, setVals_length]
      simpa using this
    have hle2 : (i + 1 + us.length) * sz ≤ (u.cells.zipIdx.foldl (fun cs x => cs.setIfInBounds (i * sz + x.2) x.1) cells).size := by
      rw [hsize]
      have e : i + 1 + us.length = i + (us.length + 1) := by omega
      rw [e]
      simpa using hle
    obtain ⟨cells', k1, k2⟩ := fill_dense sz us is (i + 1) _ hd.2 (by simpa using hl) (fun u hu => hs u (by simp [hu])) hle2
    refine ⟨cells', ?_, ?_⟩
    · simp only [List.zip_cons_cons, Instr.fill]
      rw [if_neg]
      · exact k1
      · simp only [hu, ne_eq, not_true, Bool.or_eq_true, decide_eq_true_eq, false_or]
        simp; omega
    · rw [k2, hfold]
      have e1 : (i + 1) * sz = i * sz + sz := by rw [Nat.add_mul, Nat.one_mul]
      have hul : u.cells.toList.length = sz := by simpa using hu
      have t1 : (cells.toList.take (i * sz)).length = i * sz := by simp; omega
      have e2 : (i + 1 + us.length) * sz = (i + (us.length + 1)) * sz := by congr 1; omega
      have e3 : i * sz + sz ≤ (i + (us.length + 1)) * sz := by
        rw [← e1]; exact Nat.mul_le_mul_right _ (by omega)
      rw [e1, e2]
      have p1 : (cells.toList.take (i * sz) ++ u.cells.toList ++ cells.toList.drop (i * sz + sz)).take (i * sz + sz) = cells.toList.take (i * sz) ++ u.cells.toList := by
        rw [List.take_left']; rw [List.length_append, t1, hul]
      have p2 : (cells.toList.take (i * sz) ++ u.cells.toList ++ cells.toList.drop (i * sz + sz)).drop ((i + (us.length + 1)) * sz) = cells.toList.drop ((i + (us.length + 1)) * sz) := by
        rw [List.drop_append]
        have hl2 : (cells.toList.take (i * sz) ++ u.cells.toList).length = i * sz + sz := by rw [List.length_append, t1, hul]
        rw [hl2, List.drop_eq_nil_of_le (by omega), List.nil_append, List.drop_drop]
        congr 1; omega
      simp only [List.length_cons]
      rw [p1, p2]
      simp [List.append_assoc]
  | [], _ :: _, _, _, _, h, _, _ => by simp at h
  | _ :: _, [], _, _, _, h, _, _ => by simp at h

theorem cells_eq_part {vs : List Value} {xs : List V} (h : RvL w G gm vs xs) (hp : xs.all V.isPart = true) : ∀ u ∈ vs, ∃ x ∈ xs, Rv w G gm u x ∧ u.cells.size = partLen x := by
  induction vs generalizing xs with
  | nil => intro u hu; simp at hu
  | cons v vs ih =>
    cases xs with
    | nil => exact h.elim
    | cons x xs =>
      simp only [List.all_cons, Bool.and_eq_true] at hp
      intro u hu
      simp only [List.mem_cons] at hu
      rcases hu with rfl | hu
      · exact ⟨x, by simp, h.1, partLen_cells h.1 hp.1⟩
      · obtain ⟨y, h1, h2⟩ := ih h.2 hp.2 u hu
        exact ⟨y, by simp [h1], h2⟩

end
end Go.Ab
/- Slices that are written out; assignments to variables. -/
namespace Go.Ab
open Go
set_option linter.unusedSimpArgs false
set_option linter.unusedVariables false

section
variable {P : Program} {w0 w : World} {F : FG} {N : Nat} {st : St} {a : Act} {G : Nat → Prop} {gm : GM} {deep : TypeId → Bool}

theorem run_buildSlice_nil (w : World) (t e : TypeId) (parts : Array (Nat × Value)) (ie : TypeInfo) (hu : P.underlying t = some (.slice e)) (hie : P.info? e = some ie) (hp : parts.toList = []) :
    (Instr.buildSlice t 0 parts).run P w = .ok (.slice (some ⟨w.heap.size, 0, none⟩) 0 0) (w.alloc (.cells #[] e)) := by
  simp [Instr.buildSlice, run_underlying hu, sizeOf, typeInfo, hie, hp, Instr.fill, newRow, show Array.range 0 = #[] from rfl]

theorem flatten_len (l : List (List V)) (sz : Nat) (h : l.all (fun cs => Nat.beq cs.length sz) = true) : l.flatten.length = l.length * sz := by
  induction l with
  | nil => simp
  | cons x l ih =>
    simp only [List.all_cons, Bool.and_eq_true] at h
    rw [List.flatten_cons, List.length_append, ih h.2, nbeq h.1, List.length_cons, Nat.add_mul, Nat.one_mul, Nat.add_comm]

theorem absParts_length {keep : Bool} : ∀ (xs : List V) (rd : Nm → Option Rg), (absParts P deep keep xs rd).l.length = xs.length
  | [], _ => rfl
  | x :: xs, rd => by simp only [absParts, List.length_cons, absParts_length xs]

theorem buildSlice_ok (hI : Inv P w0 F N st a w G gm) {o : Oper} {d : Nat} (hod : o.dst = some d) (hd : d < N) {t : TypeId} {n : Nat} {ps : Array (Nat × Operand)} (ho : o.op = .buildSlice t n ps) {T : List Nm} (hTd : (Nm.loc d).mem T = true) (hTh : Nm.hand.mem T = false)
    {vs : List V} (hx : RvL w G gm (ps.toList.map fun x => a.eval x.2) vs) (hok : (semBuildSlice P deep d (only T st.regs) t n (ps.toList.map (·.1)) vs).ok = true) :
    OpRes P w0 F N st a w G o (semBuildSlice P deep d (only T st.regs) t n (ps.toList.map (·.1)) vs) := by
  unfold semBuildSlice at hok ⊢
  cases he : elT P t with
  | none => rw [he] at hok; cases hok
  | some e =>
    rw [he] at hok
    simp only at hok ⊢
    obtain ⟨h1, _⟩ := when_ok hok
    simp only [Bool.and_eq_true] at h1
    obtain ⟨⟨⟨⟨⟨⟨⟨⟨⟨⟨p1, p2⟩, p3⟩, p4⟩, p5⟩, p6⟩, p7⟩, p8⟩, p9⟩, p10⟩, p11⟩ := h1
    have p3 := nblt p3
    have p4 := nbeq p4
    have p5 := nble p5
    have p8 := nbeq p8
    have p9 := nbeq p9
    obtain ⟨_, i, hdt, hi, hsz, hby, hcl⟩ := tyOk_spec p2
    obtain ⟨i', z, hi', hz, hzc⟩ := zeroCells_ne (P := P) (t := e) (by intro h; rw [h] at p4; simp at p4; omega)
    rw [hi] at hi'
    obtain rfl := Option.some.inj hi'
    obtain ⟨gm1, g1, g2, g3, g4⟩ := hI.start T
    obtain ⟨htook, hcim⟩ := absParts_ok (deep := deep) (keep := deep e) vs _ g1 g2 rfl rfl (only_within T _) hTh hx (fun _ h => h) (g4 hTh) p1
    obtain ⟨G2, gm2, ss, k1, k2, k3, k4, k5⟩ := htook.ex
    simp only [List.nil_append] at k2 k3
    obtain ⟨hb, hown⟩ := hand_ok k2 k3
    -- the run
    let us := ps.toList.map fun x => a.eval x.2
    have husl : us.length = n := by
      have := hx.length; rw [this, p9]
    have hus : ∀ u ∈ us, u.cells.size = szT P e := by
      intro u hu
      obtain ⟨x, hx1, _, hx2⟩ := cells_eq_part hx p10 u hu
      rw [hx2]
      exact nbeq (List.all_eq_true.1 p11 x hx1)
    have hzip : (ps.map fun (i, x) => (i, a.eval x)).toList = (ps.toList.map (·.1)).zip us := by
      rw [Array.toList_map, List.zip_map']
    let cells0 := (Array.range (n * szT P e)).map (z.cells[· % z.cells.size]!)
    have hc0 : cells0.size = n * szT P e := by simp [cells0]
    obtain ⟨cells, hf1, hf2⟩ := fill_dense (szT P e) us (ps.toList.map (·.1)) 0 cells0 p7 (by rw [husl]; exact p8) hus (by simp [husl, hc0])
    have hcells : cells.toList = us.flatMap fun u => u.cells.toList := by
      rw [hf2, Nat.zero_mul, List.take_zero, List.nil_append, List.drop_eq_nil_of_le, List.append_nil]
      rw [Array.length_toList, hc0, husl, Nat.zero_add]; exact Nat.le_refl _
    have hrun : (execOp a.eval o).run P w = .ok (.value (.slice (some ⟨w.heap.size, 0, none⟩) n n)) (w.alloc (.cells cells e)) := by
      by_cases hn : n = 0
      · have hps : ps.toList = [] := by
          have := p8; rw [hn] at this
          exact List.eq_nil_of_length_eq_zero (by simpa using this)
        have hce : cells = #[] := by
          apply Array.ext'
          rw [hcells]
          simp [us, hps]
        have := run_buildSlice_nil (P := P) w t e (ps.map fun (i, x) => (i, a.eval x)) i (elT_spec he) hi (by rw [Array.toList_map, hps]; rfl)
        simp only [execOp, ho, hn, Sem.run_bind, this, Result.andThen_ok, hce]
        rfl
      · have := run_buildSlice (P := P) w t e n (ps.map fun (i, x) => (i, a.eval x)) cells i z (elT_spec he) hi hz (by rw [← hsz]; simpa using p5) (by
          rw [← hsz]
          intro h
          rcases Nat.mul_eq_zero.1 h with h | h <;> omega) (by rw [hzip, ← hsz]; exact hf1)
        simp only [execOp, ho, Sem.run_bind, this, Result.andThen_ok]
        rfl
    have hnd := k2.nodup _ _ k3
    simp only [RG.fp, Option.toList_none, List.nil_append] at hnd
    have hlt : ∀ b ∈ fpL ss, b < w.heap.size := fun b hb => k2.lt k3 b (by simpa [RG.fp] using hb)
    have hcs : cells.size = n * szT P e := by
      have := (hown.length).1
      rw [show cells.size = cells.toList.length by simp, hcells]
      rw [flatten_len _ _ p6, absParts_length, p9] at this
      exact this
    have hnm : n ≤ maxLen := by
      have : n ≤ n * szT P e := Nat.le_mul_of_pos_right _ p3
      simp only [maxLen]; omega
    refine OpRes.when (OpRes.mk' hod _ _ G2 _ hrun rfl k1 (hI.land hd hTd hTh k2 k3 k1 ((g3.no_trans (Stay.refl _ _)).trans k4 |> fun h => ?_) htook.within (fun n hn => htook.same n hn) (absParts_within _ (only_within T _)).2
      (fun b hb _ => alloc_old w _ b hb) rfl rfl rfl (by simp) (rg := ⟨false, [.own e (deep e) (absParts P deep (deep e) vs (only T st.regs)).l.flatten]⟩) (R := ⟨none, [.slice (some ⟨w.heap.size, 0, none⟩) n n], [.node w.heap.size n n (szT P e) ss]⟩) ⟨rfl, ⟨?_, trivial⟩, fun b hb => by cases hb⟩ ?_ ?_ (fun _ h => h) (fun _ h => .inl h) _ _ ?_))
    · simpa [Kl.and, Kl.no] using h
    · refine ⟨cells, (0, 0), rfl, heap_alloc_new w _, .inl (Nat.le_refl _), hcs, p3, rfl, Nat.le_refl _, hnm, ?_, ?_, ?_⟩
      · rw [flatten_len _ _ p6, absParts_length, p9]
      · rw [List.take_of_length_le (by rw [Array.length_toList, hcs]; exact Nat.le_refl _), hcells]
        exact OwnL.frame (fun k hk => alloc_old w _ k (k2.old k hk)) (fun _ h => h) _ _ _ (fun k hk => alloc_old w _ k (hlt k hk)) hown
      · exact fun h => cimL_cib _ (hcim h)
    · simp only [RG.fp, Option.toList_none, List.nil_append, fpL, Sk.fp, List.append_nil, List.nodup_cons]
      exact ⟨fun h => by have := hlt _ h; omega, hnd⟩
    · intro b hb
      simp only [RG.fp, Option.toList_none, List.nil_append, fpL, Sk.fp, List.append_nil, List.mem_cons] at hb
      rcases hb with rfl | hb
      · exact .inr (Nat.le_refl _)
      · exact .inl hb
    · simp only [Rv, nameRef, skAt, setG_self, getSk, nthS_zero]

/-! ### assignments -/
theorem run_assign (w : World) {o : Oper} {x : Operand} (ho : o.op = .assign x) : (execOp a.eval o).run P w = .ok (.value (a.eval x)) w := by
  simp [execOp, ho]

/-- An own slice takes the slot's name. -/
theorem slide_ok (hI : Inv P w0 F N st a w G gm) {o : Oper} {d : Nat} (hod : o.dst = some d) (hd : d < N) {x : Operand} (ho : o.op = .assign x) {T : List Nm} (hTd : (Nm.loc d).mem T = true) (hTh : Nm.hand.mem T = false)
    {vx : V} (hx : Rv w G gm (a.eval x) vx) (hok : (absC P deep true (only T st.regs) vx).ok = true) {e : TypeId} {dp : Bool} {ys : List V} (hys : (absC P deep true (only T st.regs) vx).xs = [.own e dp ys]) :
    OpRes P w0 F N st a w G o (newReg d (absC P deep true (only T st.regs) vx).rd ⟨false, [.own e dp ys]⟩ (.ref ⟨.loc d, 0, [], e, dp⟩) (absC P deep true (only T st.regs) vx).k) := by
  obtain ⟨gm1, g1, g2, g3, g4⟩ := hI.start T
  obtain ⟨htook, _⟩ := absC_ok (deep := deep) (keep := true) g1 g2 rfl rfl (only_within T _) hTh hx (fun _ h => h) (g4 hTh) hok
  obtain ⟨G2, gm2, ss, k1, k2, k3, k4, k5⟩ := htook.ex
  simp only [List.nil_append, hys] at k2 k3
  obtain ⟨hb, hown⟩ := hand_ok k2 k3
  have hnd := k2.nodup _ _ k3
  simp only [RG.fp, Option.toList_none, List.nil_append] at hnd
  obtain ⟨s, rfl⟩ : ∃ s, ss = [s] := by
    have := hown.length.2
    simp at this
    exact List.length_eq_one_iff.1 this
  refine OpRes.mk' hod _ _ G2 _ (run_assign w ho) rfl k1 (hI.land hd hTd hTh k2 k3 k1 ((g3.no_trans (Stay.refl _ _)).trans k4 |> fun h => ?_) htook.within (fun n hn => htook.same n hn) (fun n hn => absC_names (only_within T _) vx n hn)
    (fun b hb _ => rfl) rfl rfl rfl (Nat.le_refl _) (rg := ⟨false, [.own e dp ys]⟩) (R := ⟨none, [a.eval x], [s]⟩) ⟨rfl, hown, fun b hb => by cases hb⟩ (by simpa [RG.fp] using hnd) ?_ (fun _ h => h) (fun _ h => .inl h) _ _ ?_)
  · simpa [Kl.and, Kl.no] using h
  · intro b hb
    exact .inl (by simpa [RG.fp] using hb)
  · refine OwnC.ref (d := dp) (xs := ys) (e := e) (P := P) (w := w) (G := G2) ?_
    simp only [skAt, setG_self, getSk, nthS_zero]
    exact hown.1

theorem assign_ok (hI : Inv P w0 F N st a w G gm) {o : Oper} {d : Nat} (hod : o.dst = some d) (hd : d < N) {x : Operand} (ho : o.op = .assign x) {T : List Nm} (hTd : (Nm.loc d).mem T = true) (hTh : Nm.hand.mem T = false)
    {vx : V} (hx : Rv w G gm (a.eval x) vx) (hok : (semAssign P deep d (only T st.regs) vx).ok = true) :
    OpRes P w0 F N st a w G o (semAssign P deep d (only T st.regs) vx) := by
  have hput : OpRes P w0 F N st a w G o (Eff.put vx) :=
    OpRes.quiet hI (fun y hy => by rw [hod] at hy; obtain rfl := Option.some.inj hy; exact hd) _ (run_assign w ho) rfl rfl hx
  unfold semAssign at hok ⊢
  split
  · next e => exact slide_ok (deep := deep) (vx := .nl e) hI hod hd ho hTd hTh hx rfl rfl
  · next r pe pd =>
    split
    · next e dp xs hr =>
      cases hrd : Nm.eq r (.loc d) with
      | true => exact hput
      | false =>
        have hq : ownB (only T st.regs) ⟨r, 0, [], e, dp⟩ = (true, xs) := by simp [ownB, hr, getV, nthV, V.isOwnD, V.cellsOf]
        have htk : takeAt (only T st.regs) ⟨r, 0, [], e, dp⟩ = (setR (only T st.regs) r none, ⟨[], [], [r]⟩) := by simp only [takeAt, hr]
        have hx' : Rv w G gm (a.eval x) (.ref ⟨r, 0, [], e, dp⟩) := hx
        have := slide_ok (deep := deep) (vx := .ref ⟨r, 0, [], e, dp⟩) hI hod hd ho hTd hTh hx' (by simp only [absC, hq]) (e := e) (dp := dp) (ys := xs) (by simp [absC, hq])
        simp only [absC, htk] at this
        exact this
    · exact hput
  · next r pe pd hi =>
    split
    · next e dp xs hr =>
      have hq : ownB (only T st.regs) ⟨r, 0, [], e, dp⟩ = (true, xs) := by simp [ownB, hr, getV, nthV, V.isOwnD, V.cellsOf]
      have htk : takeAt (only T st.regs) ⟨r, 0, [], e, dp⟩ = (setR (only T st.regs) r none, ⟨[], [], [r]⟩) := by simp only [takeAt, hr]
      have hx' : Rv w G gm (a.eval x) (.vw ⟨r, 0, [], e, dp⟩ 0 hi) := hx
      have := slide_ok (deep := deep) (vx := .vw ⟨r, 0, [], e, dp⟩ 0 hi) hI hod hd ho hTd hTh hx' (by simp [absC, hq]) (e := e) (dp := dp) (ys := xs.take (hi * szT P e)) (by simp [absC, hq])
      simp only [absC, htk] at this
      exact this
    · exact hput
  · exact hput
end
end Go.Ab
/- Appending. -/
namespace Go.Ab
open Go
set_option linter.unusedSimpArgs false
set_option linter.unusedVariables false

section
variable {P : Program} {w0 w : World} {F : FG} {N : Nat} {st : St} {a : Act} {G : Nat → Prop} {gm : GM} {deep : TypeId → Bool} {T : List Nm} {rd regs : Nm → Option Rg}

theorem RvL.own {vs : List Value} {xs : List V} (h : RvL w G noGM vs xs) (hc : cibL xs = true) (h1 : ∀ u ∈ vs, u.oneCell' = true) : ∃ ss, fpL ss = [] ∧ OwnL w G P vs xs ss := by
  induction vs generalizing xs with
  | nil => cases xs with
    | nil => exact ⟨[], rfl, trivial⟩
    | cons x xs => exact h.elim
  | cons v vs ih => cases xs with
    | nil => exact h.elim
    | cons x xs =>
      simp only [cibL, Bool.and_eq_true] at hc
      obtain ⟨ss, h2, h3⟩ := ih h.2 hc.2 (fun u hu => h1 u (by simp [hu]))
      refine ⟨.leaf :: ss, by simp [fpL, Sk.fp, h2], ?_, h3⟩
      rcases cib_or hc.1 with rfl | hc'
      · exact ⟨rfl, h1 v (by simp)⟩
      · exact OwnC.of_imm h.1 hc'

theorem bytesV_length (s : ByteArray) : (bytesV s).length = s.size := by
  rw [bytesV, List.length_map, Array.length_toList]; rfl

theorem bytesV_cib (s : ByteArray) : cibL (bytesV s) = true := by
  unfold bytesV
  induction s.data.toList with
  | nil => rfl
  | cons b l ih => simpa [cibL, V.cib, V.cim, V.isCell, V.imm] using ih

theorem OwnL.leafs {vs : List Value} {xs : List V} {ss : List Sk} (h : OwnL w G P vs xs ss) (hc : cibL xs = true) : fpL ss = [] := by
  induction vs generalizing xs ss with
  | nil => cases xs with
    | nil => cases ss with
      | nil => rfl
      | cons s ss => simp [OwnL] at h
    | cons x xs => simp [OwnL] at h
  | cons v vs ih => cases xs with
    | nil => simp [OwnL] at h
    | cons x xs => cases ss with
      | nil => simp [OwnL] at h
      | cons s ss =>
        simp only [cibL, Bool.and_eq_true] at hc
        have hs : s = .leaf := by
          have h1 := h.1
          cases x <;> first | (simp [V.cib, V.cim, V.imm] at hc; done) | exact h1.1
        subst hs
        simp [fpL, Sk.fp, ih h.2 hc.2]

theorem bytesV_own (s : ByteArray) : ∃ ss, fpL ss = [] ∧ OwnL w G P (Lib.strCells s) (bytesV s) ss := by
  refine RvL.own ?_ ?_ (Lib.strCells_oneCell s)
  · unfold Lib.strCells bytesV
    induction s.data.toList with
    | nil => exact trivial
    | cons b l ih => exact ⟨⟨rfl, rfl⟩, ih⟩
  · exact bytesV_cib s

/-- What is read of a slice's cells. -/
structure SlRd (P : Program) (w : World) (G : Nat → Prop) (v : Value) (sz : Nat) (d : Bool) (xs : List V) (fp : List Nat) (m : Nat) (news : List Value) (cs : List Sk) : Prop where
  hlen : (Builtin.lenOf v).run P w = .ok m w
  first : ∀ w', w'.heap = w.heap → (Builtin.firstCells sz m v).run P w' = .ok news.toArray w'
  num : news.length = m * sz
  own : OwnL w G P news xs cs
  sub : ∀ b ∈ fpL cs, b ∈ fp
  nd : fp.Nodup → (fpL cs).Nodup
  cib : d = false → cibL xs = true

theorem cell_of_heap {w w' : World} (h : w'.heap = w.heap) (a : Addr) : w'.cell? a = w.cell? a := by
  simp only [World.cell?, h]

theorem SlRd.of_slice {ad : Option Addr} {m c sz : Nat} {news : List Value} {d : Bool} {xs : List V} {fp : List Nat} {cs : List Sk}
    (h1 : ad = none → news = []) (h2 : ∀ a, ad = some a → (news ≠ [] → a.spot = none) ∧ CellsAt w a news) (hn : news.length = m * sz) (ho : OwnL w G P news xs cs) (hs : ∀ b ∈ fpL cs, b ∈ fp) (hd : fp.Nodup → (fpL cs).Nodup) (hc : d = false → cibL xs = true) :
    SlRd P w G (.slice ad m c) sz d xs fp m news cs := by
  refine ⟨rfl, fun w' hw => ?_, hn, ho, hs, hd, hc⟩
  cases ad with
  | none => rw [h1 rfl]; exact run_firstCells_none w' sz m m c
  | some a =>
    obtain ⟨h3, h4⟩ := h2 a rfl
    refine run_firstCells_some (P := P) w' sz m a m c news hn (fun j v hj => ?_)
    have h3 := h3 (by rintro rfl; simp at hj)
    obtain ⟨b, o, sp⟩ := a
    simp only at h3
    subst h3
    rw [add_addr, cell_of_heap hw]
    exact h4 j v hj

theorem node_cells {g n cap sz : Nat} {e : TypeId} {d : Bool} {xs : List V} {cs : List Sk} {v : Value} (h : OwnC w G P v (.own e d xs) (.node g n cap sz cs)) :
    ∃ cur fr, v = .slice (some ⟨g, 0, none⟩) n cap ∧ w.heap[g]? = some (.cells cur e fr) ∧ (cur.toList.take (n * sz)).length = n * sz ∧ OwnL w G P (cur.toList.take (n * sz)) xs cs ∧ CellsAt w ⟨g, 0, none⟩ (cur.toList.take (n * sz)) ∧ szT P e = sz ∧ 0 < sz ∧
      xs.length = n * sz ∧ n ≤ cap ∧ (d = false → cibL xs = true) := by
  obtain ⟨cur, fr, h1, h2, h3, h4, h5, h6, h7, h8, h9, h10, h11⟩ := h
  refine ⟨cur, fr, h1, h2, by rw [h10.length.1, h9], h10, ?_, h6, h5, h9, h7, h11⟩
  intro j u hu
  rw [List.getElem?_take] at hu
  split at hu
  · simp only [World.cell?, h2, Nat.zero_add]
    simpa using hu
  · cases hu

theorem OwnL.drop {vs : List Value} {xs : List V} {ss : List Sk} (h : OwnL w G P vs xs ss) (k : Nat) : OwnL w G P (vs.drop k) (xs.drop k) (ss.drop k) := by
  induction vs generalizing xs ss k with
  | nil => cases xs with
    | nil => cases ss with
      | nil => cases k <;> exact trivial
      | cons s ss => simp [OwnL] at h
    | cons x xs => simp [OwnL] at h
  | cons v vs ih => cases xs with
    | nil => simp [OwnL] at h
    | cons x xs => cases ss with
      | nil => simp [OwnL] at h
      | cons s ss => cases k with
        | zero => exact h
        | succ k => exact ih h.2 k

theorem fpL_drop_sub : ∀ (ss : List Sk) (k : Nat), (fpL (ss.drop k)).Sublist (fpL ss)
  | [], k => by cases k <;> exact List.Sublist.refl _
  | s :: ss, 0 => List.Sublist.refl _
  | s :: ss, k + 1 => (fpL_drop_sub ss k).trans (by simp only [fpL]; exact List.sublist_append_right _ _)

/-- A slice's cells, read as they lie. -/
theorem sliOf_ok {e : TypeId} {v : Value} {x : V} {G0 : Nat → Prop} {gm0 : GM} (hv : Rv w G0 gm0 v x) (hG0 : ∀ b, G0 b → G b) (hlive : Live rd gm0 gm)
    (hown : ∀ q e d xs, ownAt rd q = some (e, d, xs) → skAt gm q ≠ .leaf ∧ ∃ v, OwnC w G P v (.own e d xs) (skAt gm q)) (hsz : 0 < szT P e)
    (hok : (sliOf P rd e x).ok = true) :
    ∃ m news cs, SlRd P w G v (szT P e) (sliOf P rd e x).d (sliOf P rd e x).xs (match x with | .ref q => (skAt gm q).fp | .vw q _ _ => (skAt gm q).fp | _ => []) m news cs := by
  have nil : ∀ (d : Bool) (fp : List Nat), v = .slice none 0 0 → SlRd P w G v (szT P e) d [] fp 0 [] [] := by
    rintro d fp rfl
    exact SlRd.of_slice (fun _ => rfl) (fun a h => by cases h) (by simp) trivial (fun b hb => by simp [fpL] at hb) (fun _ => by simp [fpL]) (fun _ => rfl)
  cases x <;> try (cases hok; done)
  case nl e' => exact ⟨0, [], [], nil _ _ hv⟩
  case sl sz xs =>
    have hsz' := nbeq hok
    subst hsz'
    rcases hv with ⟨rfl, rfl⟩ | ⟨ad, n, c, cs, rfl, k2, k3, k4, k5, k6, k7, k8, k9, k10⟩
    · exact ⟨0, [], [], nil _ _ rfl⟩
    · obtain ⟨ss, h1, h2⟩ := RvL.own (P := P) (G := G) (RvL.frame (fun _ _ => rfl) hG0 noGM noGM xs cs (fun _ _ => rfl) k8) k9 k10
      refine ⟨n, cs, ss, SlRd.of_slice (fun h => by cases h) (fun a h => ?_) (by rw [k8.length, k4]) h2 (fun b hb => by rw [h1] at hb; simp at hb) (fun _ => by rw [h1]; exact List.nodup_nil) (fun _ => k9)⟩
      obtain rfl := Option.some.inj h
      exact ⟨fun hc => k2 (by rintro rfl; exact hc (List.eq_nil_of_length_eq_zero (by have := k8.length; simpa using this))), k6⟩
  case ref q =>
    simp only [sliOf] at hok ⊢
    rw [Bool.and_eq_true] at hok
    obtain ⟨e', d, xs, hqe, hqd, hqx, hq⟩ := ownB_some hok.1
    focus
      have he := nbeq hok.2
      rw [hqe] at he
      subst he
      simp only [hqd, hqx]
      obtain ⟨hl, u, hu⟩ := hown q e' d xs hq
      have hn : nameRef gm q v := nameRef_head (hlive q e' d xs hq) hv
      unfold nameRef at hn
      cases hs : skAt gm q with
      | leaf => exact absurd hs hl
      | nil =>
        rw [hs] at hn hu
        obtain ⟨_, rfl⟩ := hu
        exact ⟨0, [], [], nil _ _ hn⟩
      | node g n cap sz cs =>
        rw [hs] at hn hu
        obtain ⟨cur, fr, h1, h2, h3, h4, h5, h6, h7, h8, h80, h9⟩ := node_cells hu
        simp only at hn
        subst hn
        subst h6
        refine ⟨n, _, cs, SlRd.of_slice (fun h => by cases h) (fun a h => ?_) h3 h4 (fun b hb => by simp [Sk.fp, hb]) (fun h => by simp only [Sk.fp, List.nodup_cons] at h; exact h.2) h9⟩
        obtain rfl := Option.some.inj h
        exact ⟨fun _ => rfl, h5⟩
  case vw q lo hi =>
    simp only [sliOf] at hok ⊢
    rw [Bool.and_eq_true] at hok
    obtain ⟨e', d, xs, hqe, hqd, hqx, hq⟩ := ownB_some hok.1
    focus
      have he := nbeq hok.2
      rw [hqe] at he
      subst he
      simp only [hqd, hqx]
      obtain ⟨hl, u, hu⟩ := hown q e' d xs hq
      have hn : nameVw gm q lo hi v := nameVw_head (hlive q e' d xs hq) hv
      unfold nameVw at hn
      cases hs : skAt gm q with
      | leaf => exact absurd hs hl
      | nil =>
        rw [hs] at hn hu
        obtain ⟨rfl, rfl, hn⟩ := hn
        obtain ⟨_, rfl⟩ := hu
        simp only [List.drop_nil, List.take_nil]
        exact ⟨0, [], [], nil _ _ hn⟩
      | node g n cap sz cs =>
        rw [hs] at hn hu
        obtain ⟨hn1, hn2, oo, rfl, hn3⟩ := hn
        obtain ⟨cur, fr, h1, h2, h3, h4, h5, h6, h7, h8, h80, h9⟩ := node_cells hu
        subst h6
        have hm : (hi - lo) * szT P e' ≤ n * szT P e' - lo * szT P e' := by rw [← Nat.sub_mul]; exact Nat.mul_le_mul_right _ (by omega)
        have hle : (cs.drop (lo * szT P e')).take ((hi - lo) * szT P e') = (cs.drop (lo * szT P e')).take ((hi - lo) * szT P e') := rfl
        refine ⟨hi - lo, _, _, SlRd.of_slice (fun h => by cases h) (fun a h => ?_) (by rw [List.length_take, List.length_drop, h3]; omega) ((h4.drop (lo * szT P e')).take ((hi - lo) * szT P e'))
          (fun b hb => by
            have := ((fpL_take_sub _ _).trans (fpL_drop_sub _ _)).subset hb
            simp [Sk.fp, this]) (fun h => by simp only [Sk.fp, List.nodup_cons] at h; exact ((fpL_take_sub _ _).trans (fpL_drop_sub _ _)).nodup h.2) (fun hd => cibL_take _ _ (cibL_drop _ _ (h9 hd)))⟩
        obtain rfl := Option.some.inj h
        refine ⟨fun _ => rfl, fun j u hu => ?_⟩
        have hj : j < (hi - lo) * szT P e' := by
          rcases Nat.lt_or_ge j ((hi - lo) * szT P e') with h' | h'
          · exact h'
          · rw [List.getElem?_take, if_neg (by omega)] at hu; cases hu
        rw [List.getElem?_take_of_lt hj, List.getElem?_drop] at hu
        have hne : ¬ cap = lo := by
          intro e
          have : hi - lo = 0 := by omega
          rw [this] at hj; simp at hj
        rw [hn3 (.inl hne)]
        have := h5 _ _ hu
        simpa using this

/-- The cells that are appended. -/
theorem srcOf_ok {e : TypeId} {keep : Bool} {v : Value} {x : V} {G0 : Nat → Prop} {gm0 : GM} {row : List V} {vals : List Value} {sks : List Sk}
    (h : Regs P w0 F (withHand (mix T rd regs) row) w G gm) (hh : gm .hand = some ⟨none, vals, sks⟩) (hT : Within T rd) (hTh : Nm.hand.mem T = false)
    (hv : Rv w G0 gm0 v x) (hG0 : ∀ b, G0 b → G b) (hlive : Live rd gm0 gm) (hsz : 0 < szT P e) (hok : (srcOf P rd e keep x).ok = true) :
    ∃ gm' row' vals' so m news cs, Regs P w0 F (withHand (mix T (srcOf P rd e keep x).rd regs) (row ++ row')) w G gm' ∧ gm' .hand = some ⟨none, vals ++ vals', sks ++ so⟩ ∧ vals'.length = row'.length ∧ Stay (srcOf P rd e keep x).k gm gm' ∧
      Live (srcOf P rd e keep x).rd gm gm' ∧ Within T (srcOf P rd e keep x).rd ∧ (∀ n, n ∉ (srcOf P rd e keep x).k.names → (srcOf P rd e keep x).rd n = rd n) ∧ (∀ n, n ∈ (srcOf P rd e keep x).k.names → n.mem T = true) ∧
      (∀ q t, ownAt (srcOf P rd e keep x).rd q = some t → ∃ t', ownAt rd q = some t') ∧ SlRd P w G v (szT P e) keep (srcOf P rd e keep x).xs (fpL so) m news cs := by
  have plain : ∀ {ys : List V} {m : Nat} {news : List Value} {cs : List Sk}, SlRd P w G v (szT P e) keep ys [] m news cs →
    ∃ gm' row' vals' so m news cs, Regs P w0 F (withHand (mix T rd regs) (row ++ row')) w G gm' ∧ gm' .hand = some ⟨none, vals ++ vals', sks ++ so⟩ ∧ vals'.length = row'.length ∧ Stay Kl.no gm gm' ∧
      Live rd gm gm' ∧ Within T rd ∧ (∀ n, n ∉ Kl.no.names → rd n = rd n) ∧ (∀ n, n ∈ Kl.no.names → n.mem T = true) ∧
      (∀ q t, ownAt rd q = some t → ∃ t', ownAt rd q = some t') ∧ SlRd P w G v (szT P e) keep ys (fpL so) m news cs := by
    intro ys m news cs hr
    exact ⟨gm, [], [], [], m, news, cs, by simpa using h, by simpa using hh, rfl, Stay.refl _ _, fun _ _ _ _ _ => rfl, hT, fun _ _ => rfl, fun n hn => (no_names hn).elim, fun q t ht => ⟨t, ht⟩, hr⟩
  by_cases hstr : ∃ s, x = .sc (.string s)
  · obtain ⟨s, rfl⟩ := hstr
    obtain ⟨rfl, _⟩ := hv
    have h1 := nbeq hok
    obtain ⟨ss, h2, h3⟩ := bytesV_own (w := w) (G := G) (P := P) s
    refine plain (m := s.size) (news := Lib.strCells s) (cs := ss) ⟨rfl, fun w' _ => Lib.run_firstCells_string w' _ s, by rw [Lib.strCells_length, h1]; omega, h3, fun b hb => by rw [h2] at hb; exact hb, fun _ => by rw [h2]; exact List.nodup_nil, fun _ => bytesV_cib s⟩
  · have hun : srcOf P rd e keep x = (bif (sliOf P rd e x).d then srcDeep (sliOf P rd e x) keep rd x else ⟨(sliOf P rd e x).ok, (sliOf P rd e x).xs, rd, .no⟩) := by
      unfold srcOf
      split
      · next s => exact absurd ⟨s, rfl⟩ hstr
      · rfl
    rw [hun] at hok ⊢
    cases hd : (sliOf P rd e x).d with
    | false =>
      rw [hd] at hok
      simp only [cond_false] at hok ⊢
      obtain ⟨m, news, cs, hr⟩ := sliOf_ok hv hG0 hlive (fun q e d xs hq => h.own_leaf hT hTh hq) hsz hok
      rw [hd] at hr
      have hf := hr.own.leafs (hr.cib rfl)
      have := plain (m := m) (news := news) (cs := cs) ⟨hr.hlen, hr.first, hr.num, hr.own, fun b hb => by rw [hf] at hb; exact hb, fun _ => by rw [hf]; exact List.nodup_nil, fun _ => hr.cib rfl⟩
      simpa only [implies_true] using this
    | true =>
      rw [hd] at hok
      simp only [cond_true] at hok ⊢
      cases x <;> try (cases hok; done)
      rename_i q
      simp only [srcDeep, Bool.and_eq_true] at hok ⊢
      obtain ⟨m, news, cs, hr⟩ := sliOf_ok hv hG0 hlive (fun q e d xs hq => h.own_leaf hT hTh hq) hsz hok.1
      obtain ⟨e', d', xs', hqe, hqd, hqx, hq⟩ : ∃ e d xs, q.e = e ∧ q.d = d ∧ (ownB rd q).2 = xs ∧ ownAt rd q = some (e, d, xs) := by
        refine ownB_some ?_
        have := hok.1
        simp only [sliOf, Bool.and_eq_true] at this
        exact this.1
      obtain ⟨u, gm1, h1, h2, h3, h4, h5, h6, h7, h8⟩ := take_ok h hh hT hTh hq
      refine ⟨gm1, [.own e' d' xs'], [u], [skAt gm q], m, news, cs, h3, h4, rfl, h5, fun q' e'' d'' xs'' hq' => h6 q' e'' d'' xs'' hq', h7, h8, fun n hn => ?_, fun q' t' ht' => takeAt_own ht', ?_⟩
      · obtain ⟨rfl, rg, hr'⟩ := takeAt_names rd q n hn
        exact hT.mem hr'
      · have hk := hok.2
        subst hk
        rw [hd] at hr
        refine ⟨hr.hlen, hr.first, hr.num, hr.own, fun b hb => by simpa [fpL] using hr.sub b hb, fun hn => hr.nd (by simpa [fpL] using hn), fun h => by cases h⟩
end
end Go.Ab
/- Appending to an own slice. -/
namespace Go.Ab
open Go
set_option linter.unusedSimpArgs false
set_option linter.unusedVariables false

section
variable {P : Program} {w0 w : World} {F : FG} {N : Nat} {st : St} {a : Act} {G : Nat → Prop} {gm : GM} {deep : TypeId → Bool} {T : List Nm} {rd regs : Nm → Option Rg}

theorem OwnL.snoc : ∀ {vs : List Value} {xs : List V} {ss : List Sk} {v : Value} {x : V} {s : Sk}, vs.length = xs.length → ss.length = xs.length → OwnL w G P (vs ++ [v]) (xs ++ [x]) (ss ++ [s]) → OwnL w G P vs xs ss ∧ OwnC w G P v x s
  | [], [], [], _, _, _, _, _, h => ⟨trivial, h.1⟩
  | _ :: vs, _ :: xs, _ :: ss, _, _, _, h1, h2, h => by
    have := OwnL.snoc (vs := vs) (xs := xs) (ss := ss) (by simpa using h1) (by simpa using h2) h.2
    exact ⟨⟨h.1, this.1⟩, this.2⟩
  | [], _ :: _, _, _, _, _, h, _, _ => by simp at h
  | _ :: _, [], _, _, _, _, h, _, _ => by simp at h
  | [], [], _ :: _, _, _, _, _, h, _ => by simp at h
  | _ :: _, _ :: _, [], _, _, _, _, h, _ => by simp at h

theorem run_append_op (w w' : World) {o : Oper} {x y : Operand} {t xt : TypeId} (ho : o.op = .call { callee := .builtin .append, args := #[x, y], argTypes := #[t, xt] }) {v : Value}
    (h : (Builtin.append_ #[t, xt] o.type #[a.eval x, a.eval y]).run P w = .ok v w') : (execOp a.eval o).run P w = .ok (.value v) w' := by
  simp [execOp, ho, resolve, invoke, builtin, h]

theorem append_ok (hI : Inv P w0 F N st a w G gm) {o : Oper} {d : Nat} (hod : o.dst = some d) (hd : d < N) {t xt : TypeId} {x y : Operand} (ho : o.op = .call { callee := .builtin .append, args := #[x, y], argTypes := #[t, xt] }) {T : List Nm} (hTd : (Nm.loc d).mem T = true) (hTh : Nm.hand.mem T = false)
    {vx vy : V} (hx : Rv w G gm (a.eval x) vx) (hy : Rv w G gm (a.eval y) vy) (hok : (semAppend P deep d (only T st.regs) t xt vx vy).ok = true) :
    OpRes P w0 F N st a w G o (semAppend P deep d (only T st.regs) t xt vx vy) := by
  unfold semAppend at hok ⊢
  cases he : elT P t with
  | none => rw [he] at hok; cases hok
  | some e =>
    rw [he] at hok
    simp only at hok ⊢
    generalize hdp : (dstOf P deep (only T st.regs) e vx).d = dp at hok ⊢
    obtain ⟨h1, _⟩ := when_ok hok
    simp only [Bool.and_eq_true, roomy, decide_eq_true_eq] at h1
    obtain ⟨⟨⟨⟨⟨⟨⟨⟨p1, p2⟩, p3⟩, p4⟩, p5⟩, p6⟩, p7⟩, p8⟩, p9⟩ := h1
    replace p6 := nblt p6
    replace p7 := nbeq p7
    replace p4 : dp = (dstOf P deep (srcOf P (only T st.regs) e dp vy).rd e vx).d := by simpa using p4
    obtain ⟨gm1, g1, g2, g3, g4⟩ := hI.start T
    refine Exists.elim (srcOf_ok (e := e) (keep := dp) g1 g2 (only_within T _) hTh hy (fun _ h => h) (g4 hTh) p6 p2) ?_
    rintro gm2 ⟨row', vals', so, m, news, cs, s1, s2, s3, s4, s5, s6, s7, s8, s9, s10⟩
    generalize hA : srcOf P (only T st.regs) e dp vy = A at *
    simp only [List.nil_append] at s1 s2
    obtain ⟨_, hown1⟩ := hand_ok s1 s2
    have hsol : so.length = row'.length := hown1.length.2
    -- the slice that is appended to
    have hdst : ∃ ys, (absC P deep true A.rd vx).ok = true ∧ (absC P deep true A.rd vx).xs = [.own e dp ys] ∧ dstOf P deep A.rd e vx = ⟨true, dp, ys, (absC P deep true A.rd vx).rd, (absC P deep true A.rd vx).k⟩ := by
      unfold dstOf at p1 p4 ⊢
      simp only at p1 p4 ⊢
      split at p1
      · next e' d' ys hxs =>
        simp only [Bool.and_eq_true] at p1
        rw [hxs] at p4 ⊢
        simp only at p4 ⊢
        have he' := nbeq p1.2
        subst he'
        subst p4
        exact ⟨ys, p1.1, rfl, by simp [p1.1]⟩
      · cases p1
    obtain ⟨ys, k1, k2, k3⟩ := hdst
    rw [k3] at p8 p9 ⊢
    simp only at p8 p9 ⊢
    obtain ⟨htook, _⟩ := absC_ok (deep := deep) (keep := true) s1 s2 s3 hsol s6 hTh hx (fun _ h => h) ((g4 hTh).trans s5 s9) k1
    obtain ⟨G3, gm3, ss, q1, q2, q3, q4, q5⟩ := htook.ex
    simp only [k2] at q2 q3
    obtain ⟨hb, hown⟩ := hand_ok q2 q3
    simp only at hown
    obtain ⟨s, rfl⟩ : ∃ s, ss = [s] := by
      have := hown.length.2
      simp [hsol] at this
      exact List.length_eq_one_iff.1 this
    obtain ⟨hownA, hownB⟩ := OwnL.snoc s3 hsol hown
    have hnd := q2.nodup _ _ q3
    simp only [RG.fp, Option.toList_none, List.nil_append, fpL_append] at hnd
    have hnd' : (fpL so ++ s.fp).Nodup := by simpa [fpL] using hnd
    have hap : ∀ b, b ∈ fpL so ∨ b ∈ s.fp → ¬ G3 b := fun b hb => q2.apart _ _ b q3 (by simpa [RG.fp, fpL_append, fpL] using hb)
    have hlt : ∀ b, b ∈ fpL so ∨ b ∈ s.fp → b < w.heap.size := fun b hb => q2.lt q3 b (by simpa [RG.fp, fpL_append, fpL] using hb)
    -- the types
    obtain ⟨_, i, hdt, hi, hsz, hby, hcl⟩ := tyOk_spec p5
    obtain ⟨i', z, hi', hz, hzc⟩ := zeroCells_ne (P := P) (t := e) (by intro h; rw [h] at p7; simp at p7; omega)
    rw [hi] at hi'
    obtain rfl := Option.some.inj hi'
    have hxt : P.underlying xt = some (.slice e) ∨ P.underlying xt = some .string := by
      unfold srcTy at p3
      cases hs : isStrT P xt with
      | true => exact .inr (isStrT_spec hs)
      | false =>
        rw [hs] at p3
        simp only [Bool.false_or] at p3
        cases hx' : elT P xt with
        | none => rw [hx'] at p3; cases p3
        | some e' =>
          rw [hx'] at p3
          have := nbeq p3
          subst this
          exact .inl (elT_spec hx')
    have hzs : z.cells.size = i.size := by rw [hzc] at p7; rw [← hsz, ← p7]; simp
    have hAm : A.xs.length = m * szT P e := by rw [← s10.own.length.1, s10.num]
    have hnew1 := s10.own.one
    -- where it lies
    obtain ⟨n, old, g0, cso, hv0, hyn, hold, hcso, hg0⟩ : ∃ n old g0 cso, ((a.eval x = .slice none 0 0 ∧ n = 0 ∧ old = [] ∧ g0 = none) ∨ ∃ g cap cur fr, a.eval x = .slice (some ⟨g, 0, none⟩) n cap ∧ w.heap[g]? = some (.cells cur e fr) ∧ frOk fr cur.size ∧ cur.size = cap * i.size ∧ n ≤ cap ∧ cap ≤ maxLen ∧ cur.toList.take (n * i.size) = old ∧ g0 = some g) ∧
        ys.length = n * szT P e ∧ OwnL w G3 P old ys cso ∧ s.fp = g0.toList ++ fpL cso ∧ (dp = false → cibL ys = true) := by
      cases s with
      | leaf => exact hownB.elim
      | nil =>
        obtain ⟨h1, rfl⟩ := hownB
        exact ⟨0, [], none, [], .inl ⟨h1, rfl, rfl, rfl⟩, by simp, trivial, rfl, fun _ => rfl⟩
      | node g n cap sz cs' =>
        obtain ⟨cur, fr, h1, h2, h3, h4, h5, h6, h7, h8, h9, h10, h11⟩ := hownB
        have hszi : sz = i.size := by rw [← h6, hsz]
        subst hszi
        exact ⟨n, _, some g, cs', .inr ⟨g, cap, cur, fr, h1, h2, h3, h4, h7, h8, rfl, rfl⟩, by rw [h9, hsz], h10, rfl, h11⟩
    have hln : lenE (szT P e) ys.length = n := by rw [hyn, lenE_mul p6]
    have hlm : lenE (szT P e) A.xs.length = m := by rw [hAm, lenE_mul p6]
    rw [hln, hlm] at p8 p9
    rw [hby] at p8
    obtain ⟨v', w2, hrun, hapd⟩ := run_append_gen (ty := o.type) (elT_spec he) hxt hi hz hzs hv0 s10.hlen (by rw [← hsz]; exact s10.first) (by rw [← hsz]; exact s10.num) hnew1 p8 (Nat.le_trans p9 (by decide))
    have hG3 : ∀ k, G3 k → w2.heap[k]? = w.heap[k]? := by
      intro k hk
      refine hapd.block k (q2.old k hk) (fun h => hap k (.inr ?_) hk)
      rw [hcso, h]; simp
    have hkeep : ∀ b, b ∈ fpL so ∨ b ∈ fpL cso → w2.heap[b]? = w.heap[b]? := by
      intro b hb
      have hbs : b ∈ fpL so ∨ b ∈ s.fp := hb.imp id (fun h => by rw [hcso]; simp [h])
      refine hapd.block b (hlt b hbs) (fun h => ?_)
      rw [hcso, h] at hnd'
      rw [Option.toList_some, List.nodup_append] at hnd'
      rcases hb with hb | hb
      · exact hnd'.2.2 b hb b (by simp) rfl
      · have h2 := hnd'.2.1
        rw [List.cons_append, List.nil_append, List.nodup_cons] at h2
        exact h2.1 hb
    have hownN : OwnL w2 G3 P (old ++ news) (ys ++ A.xs) (cso ++ cs) :=
      (OwnL.frame hG3 (fun _ h => h) _ _ _ (fun k hk => hkeep k (.inr hk)) hold).append (OwnL.frame hG3 (fun _ h => h) _ _ _ (fun k hk => hkeep k (.inl (s10.sub k hk))) (OwnL.frame (fun _ _ => rfl) (fun b hb => q1 b hb) _ _ _ (fun _ _ => rfl) s10.own))
    have hcib : dp = false → cibL (ys ++ A.xs) = true := fun h => by rw [cibL_append, hg0 h, s10.cib h]; rfl
    have hfpnd : (fpL (cso ++ cs)).Nodup := by
      rw [fpL_append, List.nodup_append]
      rw [List.nodup_append] at hnd'
      refine ⟨?_, s10.nd hnd'.1, ?_⟩
      · have := hnd'.2.1
        rw [hcso, List.nodup_append] at this
        exact this.2.1
      · intro b hb c hc
        have := hnd'.2.2 c (s10.sub c hc) b (by rw [hcso]; simp [hb])
        exact fun h => this h.symm
    have hsub : ∀ b ∈ fpL (cso ++ cs), b ∈ fpL so ∨ b ∈ s.fp := by
      intro b hb
      rw [fpL_append, List.mem_append] at hb
      rcases hb with hb | hb
      · right; rw [hcso]; simp [hb]
      · left; exact s10.sub b hb
    obtain ⟨sk', hsk, hsknd, hsksub⟩ : ∃ sk', OwnC w2 G3 P v' (.own e dp (ys ++ A.xs)) sk' ∧ sk'.fp.Nodup ∧ ∀ b ∈ sk'.fp, (b ∈ fpL so ∨ b ∈ s.fp) ∨ w.heap.size ≤ b := by
      rcases hapd.row with ⟨r1, r2, r3, r4⟩ | ⟨g', cap', cur', fr', r1, r2, r3, r4, r5, r6, r7, r8⟩
      · refine ⟨.nil, ⟨r1, ?_⟩, by simp [Sk.fp], by simp [Sk.fp]⟩
        have h1 : n = 0 := by omega
        have h2 : m = 0 := by omega
        rw [h1] at hyn; rw [h2] at hAm
        have e1 : ys = [] := List.eq_nil_of_length_eq_zero (by simpa using hyn)
        have e2 : A.xs = [] := List.eq_nil_of_length_eq_zero (by simpa using hAm)
        rw [e1, e2]; rfl
      · refine ⟨.node g' (n + m) cap' (szT P e) (cso ++ cs), ⟨cur', fr', r1, r2, r3, by rw [r4, hsz], p6, rfl, r5, r6, ?_, ?_, hcib⟩, ?_, ?_⟩
        · rw [List.length_append, hyn, hAm, Nat.add_mul]
        · rw [hsz, r7]; exact hownN
        · simp only [Sk.fp, List.nodup_cons]
          refine ⟨fun hg => ?_, hfpnd⟩
          rcases r8 with r8 | r8
          · rw [fpL_append, List.mem_append] at hg
            have hgs : g' ∈ s.fp := by rw [hcso, r8]; simp
            rw [List.nodup_append] at hnd'
            rcases hg with hg | hg
            · have := hnd'.2.1
              rw [hcso, r8] at this
              simp at this
              exact this.1 hg
            · exact hnd'.2.2 g' (s10.sub g' hg) g' hgs rfl
          · have := hlt _ (hsub _ hg); omega
        · intro b hb
          simp only [Sk.fp, List.mem_cons] at hb
          rcases hb with rfl | hb
          · rcases r8 with r8 | r8
            · left; right; rw [hcso, r8]; simp
            · right; omega
          · exact .inl (hsub b hb)
    refine OpRes.when (OpRes.mk' hod _ _ G3 _ (run_append_op w w2 ho hrun) rfl q1 (hI.land hd hTd hTh q2 q3 q1 ((((g3.no_trans (Stay.refl _ _)).trans s4).trans q4) |> fun h => ?_) htook.within (fun n hn => ?_) (fun n hn => ?_)
      (fun b hb hn => ?_) hapd.os hapd.tape hapd.output hapd.size (rg := ⟨false, [.own e dp (ys ++ A.xs)]⟩) (R := ⟨none, [v'], [sk']⟩) ⟨rfl, ⟨hsk, trivial⟩, fun b hb => by cases hb⟩ ?_ ?_ (fun _ h => h) (fun _ h => .inl h) _ _ ?_))
    · simpa [Kl.and, Kl.no] using h
    · rw [Kl.names_and, not_or] at hn
      rw [htook.same n hn.2, s7 n hn.1]
    · rw [Kl.names_and] at hn
      exact hn.elim (s8 n) (absC_names s6 vx n)
    · refine hapd.block b hb (fun h => hn ?_)
      rw [fpL_append, List.mem_append]
      right
      simp [fpL, hcso, h]
    · simpa [RG.fp, fpL] using hsknd
    · intro b hb
      have := hsksub b (by simpa [RG.fp, fpL] using hb)
      rcases this with h | h
      · left; simpa [fpL_append, fpL] using h
      · exact .inr h
    · refine OwnC.ref (d := dp) (xs := ys ++ A.xs) (e := e) (P := P) (w := w2) (G := G3) ?_
      simp only [skAt, setG_self, getSk, nthS_zero]
      exact hsk
end
end Go.Ab
/- Storing. -/
namespace Go.Ab
open Go
set_option linter.unusedSimpArgs false
set_option linter.unusedVariables false

section
variable {P : Program} {w0 w : World} {F : FG} {N : Nat} {st : St} {a : Act} {G : Nat → Prop} {gm : GM} {deep : TypeId → Bool} {T : List Nm} {rd regs : Nm → Option Rg}

/-- A region is written; what was on its way lies in it. -/
theorem Inv.stored (hI : Inv P w0 F N st a w G gm) {o : Option Nat} (hd : ∀ x, o = some x → x < N) {T : List Nm} (hTh : Nm.hand.mem T = false) {rd1 : Nm → Option Rg} {k1 : Kl} {G1 : Nat → Prop} {gm1 : GM}
    {row : List V} {vals : List Value} {sks : List Sk}
    (h1 : Regs P w0 F (withHand (mix T rd1 st.regs) row) w G1 gm1) (hh : gm1 .hand = some ⟨none, vals, sks⟩) (hG : ∀ b, G b → G1 b) (hs : Stay k1 gm gm1)
    (hsame : ∀ n, n ∉ k1.names → rd1 n = only T st.regs n) (hkT : ∀ n, n ∈ k1.names → n.mem T = true)
    {r : Nm} (hr : r.mem T = true) {R R' : RG} (hR : gm1 r = some R) {rg' : Rg} {w2 : World}
    (hw : ∀ b, b < w.heap.size → b ∉ R.fp → w2.heap[b]? = w.heap[b]?) (hos : w2.os = w.os) (htape : w2.tape = w.tape) (hout : w2.output = w.output) (hsize : w.heap.size ≤ w2.heap.size)
    (hpr : ∀ i, r = .par i → ParOk F i R → ParOk F i R') (hok : RgOk w2 G1 P rg' R') (hnd : R'.fp.Nodup) (hsrc : ∀ b ∈ R'.fp, b ∈ R.fp ∨ b ∈ fpL sks)
    {k2 : Kl} (hst : ∀ q : Pl, q.r = r → k2.hits q = false → skAt gm1 q ≠ .leaf → skHead (getSk q.p R'.sks q.j) = skHead (getSk q.p R.sks q.j)) (hbx : R'.b = R.b) :
    Inv P w0 F N (st.app ⟨true, .bad, setR rd1 r (some rg'), r :: k1.names, k1.and k2⟩ o) (a.put o undef) w2 G1 (setG (setG gm1 .hand none) r (some R')) := by
  have hne : r ≠ .hand := by rintro rfl; rw [hTh] at hr; cases hr
  have hh2 : Nm.hand.mem k1.names = false := by
    cases h : Nm.hand.mem k1.names with
    | false => rfl
    | true => have := hkT .hand ((Nm.mem_iff _ _).1 h); rw [hTh] at this; cases this
  have hreg : Regs P w0 F (st.app ⟨true, .bad, setR rd1 r (some rg'), r :: k1.names, k1.and k2⟩ o).regs w2 G1 (setG (setG gm1 .hand none) r (some R')) := by
    refine h1.change (fun r' => r' = .hand ∨ r' = r) ?_ hos htape hout hsize ?_ ?_ ?_ ?_ ?_ (fun _ h => h) (fun _ h => .inl h) (by
      rintro i R1 (hi | hi) hr1
      · cases hi
      · subst hi
        rw [setG_self] at hr1
        obtain rfl := Option.some.inj hr1
        exact hpr i rfl (h1.par i R hR))
    · intro b hb hn
      exact hw b hb (fun hm => hn ⟨r, R, .inr rfl, hR, hm⟩)
    · intro r' hr'
      simp only [not_or] at hr'
      refine ⟨?_, by rw [setG_ne _ _ hr'.2, setG_ne _ _ hr'.1]⟩
      rw [withHand_ne _ _ hr'.1]
      simp only [St.app, mix, Nm.mem, Nm.eq_ne hr'.2, Bool.false_or]
      by_cases hk : r' ∈ k1.names
      · rw [(Nm.mem_iff r' k1.names).2 hk, hkT r' hk]
        simp only [cond_true, setR_ne _ _ hr'.2]
      · rw [(Nm.mem_false r' k1.names).2 hk]
        simp only [cond_false]
        cases hm : r'.mem T with
        | false => rfl
        | true => simp only [cond_true]; rw [hsame r' hk]; simp [only, hm]
    · rintro r' (rfl | rfl)
      · simp only [St.app, Nm.mem, Nm.eq_ne (Ne.symm hne), hh2, Bool.false_or, cond_false, hI.hand]
        rw [setG_ne _ _ (Ne.symm hne), setG_self]
        trivial
      · simp only [St.app, Nm.mem, Nm.eq_self, Bool.true_or, cond_true, setR_self, setG_self]
        exact hok
    · rintro r' R1 (rfl | rfl) hr
      · rw [setG_ne _ _ (Ne.symm hne), setG_self] at hr; cases hr
      · rw [setG_self] at hr
        obtain rfl := Option.some.inj hr
        exact hnd
    · rintro r1 r2 R1 R2 (rfl | rfl) (rfl | rfl) hne' hr1 hr2
      · exact absurd rfl hne'
      · rw [setG_ne _ _ (Ne.symm hne), setG_self] at hr1; cases hr1
      · rw [setG_ne _ _ (Ne.symm hne), setG_self] at hr2; cases hr2
      · exact absurd rfl hne'
    · rintro r' R1 b (rfl | rfl) hr hb
      · rw [setG_ne _ _ (Ne.symm hne), setG_self] at hr; cases hr
      · rw [setG_self] at hr
        obtain rfl := Option.some.inj hr
        left
        rcases hsrc b hb with h | h
        · exact ⟨_, R, .inr rfl, hR, h⟩
        · exact ⟨.hand, _, .inl rfl, hh, by simpa [RG.fp] using h⟩
  have hgh : gm .hand = none := hI.regs.none hI.hand
  have hstay : Stay (k1.and k2) gm (setG (setG gm1 .hand none) r (some R')) := by
    refine ⟨fun q hq hl => ?_, fun r0 R0 b hr0 hg0 hb0 => ?_⟩
    · obtain ⟨hq1, hq2⟩ := hits_and hq
      have hqh : q.r ≠ .hand := by
        intro e
        simp only [skAt, e, hgh] at hl; exact absurd rfl hl
      have h0 := hs.own q hq1 hl
      have hl1 : skAt gm1 q ≠ .leaf := fun e => by rw [e] at h0; exact hl (skHead_leaf.1 h0.symm)
      by_cases hqr : q.r = r
      · rw [← h0]
        have e1 : skAt (setG (setG gm1 .hand none) r (some R')) q = getSk q.p R'.sks q.j := by simp only [skAt, hqr, setG_self]
        have e2 : skAt gm1 q = getSk q.p R.sks q.j := by simp only [skAt, hqr, hR]
        rw [e1, e2]
        exact hst q hqr hq2 hl1
      · rw [skAt_ne (gm := gm1) (by rw [setG_ne _ _ hqr, setG_ne _ _ hqh])]
        exact h0
    · have hr' := mem_append_false hr0
      have hrh : r0 ≠ .hand := by
        intro e; rw [e, hgh] at hg0; cases hg0
      obtain ⟨R1, h1', h2'⟩ := hs.box r0 R0 b hr'.1 hg0 hb0
      by_cases hrr : r0 = r
      · subst hrr
        rw [hR] at h1'
        obtain rfl := Option.some.inj h1'
        exact ⟨R', setG_self _ _ _, hbx.trans h2'⟩
      · exact ⟨R1, by rw [setG_ne _ _ hrr, setG_ne _ _ hrh]; exact h1', h2'⟩
  refine hI.app _ _ hd undef hreg ?_ hG ?_ hstay (fun _ => trivial)
  · simp only [St.app, Nm.mem, Nm.eq_ne (Ne.symm hne), hh2, Bool.false_or, cond_false, hI.hand]
  · intro k hk
    refine hw k (hI.regs.old k hk) (fun hm => h1.apart _ _ k hR hm (hG k hk))

theorem setMany_eq : ∀ (xs : List V) (k : Nat) (row : List V), k + xs.length ≤ row.length → setMany k xs row = row.take k ++ xs ++ row.drop (k + xs.length)
  | [], k, row, _ => by simp [setMany]
  | x :: xs, k, row, h => by
    simp only [setMany]
    rw [setMany_eq xs (k + 1) (row.set k x) (by simp at h ⊢; omega)]
    rw [List.take_set, List.drop_set_of_lt (by omega), List.length_cons]
    have e1 : (row.take (k + 1)).set k x = row.take k ++ [x] := by
      rw [List.take_succ_eq_append_getElem (by simp at h; omega), List.set_append_right _ _ (by simp; omega)]
      simp
      have : k - min k row.length = 0 := by simp at h; omega
      simp [this]
    rw [e1, List.append_assoc, List.append_assoc, Nat.add_assoc, Nat.add_comm 1]
    simp

/-- A row that is written over. -/
theorem OwnL.over {cur : Array Value} {n k : Nat} {xs ys : List V} {cs ss : List Sk} {us : List Value} {w' : World} {G' : Nat → Prop} (hG : ∀ k, G k → w'.heap[k]? = w.heap[k]?) (hGG : ∀ k, G k → G' k)
    (hf1 : ∀ b ∈ fpL cs, w'.heap[b]? = w.heap[b]?) (hf2 : ∀ b ∈ fpL ss, w'.heap[b]? = w.heap[b]?) (hn : n ≤ cur.size) (hk : k + us.length ≤ n)
    (h : OwnL w G P (cur.toList.take n) xs cs) (h' : OwnL w G P us ys ss) :
    OwnL w' G' P ((Ab.over cur k us).toList.take n) (setMany k ys xs) (cs.take k ++ ss ++ cs.drop (k + ss.length)) := by
  have hl := h.length
  have hl' := h'.length
  have hlt : (cur.toList.take n).length = n := by simp; omega
  rw [setMany_eq _ _ _ (by omega)]
  have e : (Ab.over cur k us).toList.take n = (cur.toList.take n).take k ++ us ++ (cur.toList.take n).drop (k + us.length) := by
    apply List.ext_getElem?
    intro j
    rw [List.getElem?_take]
    split
    · rw [over_get (by omega)]
      split
      · rw [List.append_assoc, List.getElem?_append_left (by simp; omega), List.getElem?_take_of_lt (by assumption), List.getElem?_take_of_lt (by assumption)]
      · rw [List.append_assoc, List.getElem?_append_right (by simp; omega)]
        have hkk : ((cur.toList.take n).take k).length = k := by simp; omega
        rw [hkk]
        split
        · rw [List.getElem?_append_left (by omega)]
        · rw [List.getElem?_append_right (by omega), List.getElem?_drop, List.getElem?_take_of_lt (by omega)]
          congr 1; omega
    · rw [eq_comm, List.getElem?_eq_none_iff]
      simp; omega
  rw [e, show ss.length = us.length by omega, show ys.length = us.length by omega]
  have f1 : ∀ b ∈ fpL (cs.take k), w'.heap[b]? = w.heap[b]? := fun b hb => hf1 b ((fpL_take_sub _ _).subset hb)
  have f3 : ∀ b ∈ fpL (cs.drop (k + us.length)), w'.heap[b]? = w.heap[b]? := fun b hb => hf1 b ((fpL_drop_sub _ _).subset hb)
  exact ((OwnL.frame hG hGG _ _ _ f1 (h.take k)).append (OwnL.frame hG hGG _ _ _ hf2 h')).append (OwnL.frame hG hGG _ _ _ f3 (h.drop _))

theorem fpL_over (cs ss : List Sk) (k m : Nat) : ∀ b ∈ fpL (cs.take k ++ ss ++ cs.drop (k + m)), b ∈ fpL cs ∨ b ∈ fpL ss := by
  intro b hb
  rw [fpL_append, fpL_append, List.mem_append, List.mem_append] at hb
  rcases hb with (hb | hb) | hb
  · exact .inl ((fpL_take_sub _ _).subset hb)
  · exact .inr hb
  · exact .inl ((fpL_drop_sub _ _).subset hb)

theorem fpL_over_nodup {cs ss : List Sk} {k m : Nat} (h1 : (fpL cs).Nodup) (h2 : (fpL ss).Nodup) (hd : ∀ b ∈ fpL cs, b ∉ fpL ss) : (fpL (cs.take k ++ ss ++ cs.drop (k + m))).Nodup := by
  have e : cs = cs.take k ++ cs.drop k := (List.take_append_drop k cs).symm
  rw [fpL_append, fpL_append]
  have hsub : (fpL (cs.drop (k + m))).Sublist (fpL (cs.drop k)) := by
    rw [← List.drop_drop]; exact fpL_drop_sub _ _
  have h1' := h1
  rw [e, fpL_append, List.nodup_append] at h1'
  rw [List.nodup_append, List.nodup_append]
  refine ⟨⟨(fpL_take_sub _ _).nodup h1, h2, ?_⟩, (fpL_drop_sub _ _).nodup h1, ?_⟩
  · intro x hx y hy hxy
    subst hxy
    exact hd x ((fpL_take_sub _ _).subset hx) hy
  · intro x hx y hy hxy
    subst hxy
    rw [List.mem_append] at hx
    rcases hx with hx | hx
    · exact h1'.2.2 x hx x (hsub.subset hy) rfl
    · exact hd x ((fpL_drop_sub _ _).subset hy) hx
end
end Go.Ab
/- Storing: into boxes, into own slices. -/
namespace Go.Ab
open Go
set_option linter.unusedSimpArgs false
set_option linter.unusedVariables false

section
variable {P : Program} {w0 w : World} {F : FG} {N : Nat} {st : St} {a : Act} {G : Nat → Prop} {gm : GM} {deep : TypeId → Bool} {T : List Nm} {rd regs : Nm → Option Rg}

theorem nthS_getD : ∀ (l : List Sk) (j : Nat), nthS l j = (l[j]?).getD .leaf
  | [], j => by simp [nthS]
  | _ :: _, 0 => rfl
  | _ :: l, j + 1 => by simpa [nthS] using nthS_getD l j

theorem nthS_over {cs ss : List Sk} {k j : Nat} (hk : k + ss.length ≤ cs.length) (hj : j < k ∨ k + ss.length ≤ j) : nthS (cs.take k ++ ss ++ cs.drop (k + ss.length)) j = nthS cs j := by
  rw [nthS_getD, nthS_getD]
  congr 1
  have hl : (cs.take k).length = k := by simp; omega
  rcases hj with hj | hj
  · rw [List.append_assoc, List.getElem?_append_left (by omega), List.getElem?_take_of_lt hj]
  · rw [List.getElem?_append_right (by simp; omega), List.getElem?_drop]
    congr 1
    simp; omega

theorem getSk_leaf : ∀ (p : List Nat) (l : List Sk) (i : Nat), nthS l i = .leaf → getSk p l i = .leaf
  | [], _, _, h => h
  | k :: p, l, i, h => by
    simp only [getSk, h, skCells]
    exact getSk_leaf p [] k rfl

theorem nthS_nil (i : Nat) : nthS [] i = .leaf := rfl

/-- Where another own slice of the same head is put, the names stand for what they stood for. -/
theorem set_head : ∀ (p p' : List Nat) (sks : List Sk) (j j' : Nat) (s' : Sk), skHead s' = skHead (getSk p sks j) → getSk p' sks j' ≠ .leaf →
    ((∀ i, nthS (skCells (getSk p sks j)) i = .leaf) ∨ p' = []) → skHead (getSk p' (setSk p sks j s') j') = skHead (getSk p' sks j')
  | p, p', sks, j, j', s', hs, hl, hc => by
    by_cases hj : j = j'
    · subst hj
      have hlt : j < sks.length := by
        rcases Nat.lt_or_ge j sks.length with h | h
        · exact h
        · exact absurd (getSk_leaf p' sks j (by rw [nthS_getD, List.getElem?_eq_none h]; rfl)) hl
      cases p with
      | nil =>
        simp only [setSk, getSk] at hs hc ⊢
        cases p' with
        | nil =>
          simp only [getSk]
          rw [nthS_set_self, if_pos hlt, hs]
        | cons i' p' =>
          rcases hc with hc | hc
          · simp only [getSk] at hl
            exact absurd (getSk_leaf p' _ i' (hc i')) hl
          · cases hc
      | cons i p =>
        cases p' with
        | nil =>
          simp only [getSk, setSk]
          rw [nthS_set_self, if_pos hlt, skHead_skSetCells]
        | cons i' p' =>
          rcases hc with hc | hc
          · simp only [getSk, setSk] at hs hl hc ⊢
            rw [nthS_set_self, if_pos hlt]
            cases hn : nthS sks j with
            | leaf => rw [hn] at hl; exact absurd (getSk_leaf p' _ i' rfl) hl
            | nil => rw [hn] at hl; exact absurd (getSk_leaf p' _ i' rfl) hl
            | node g n cap sz cs =>
              rw [hn] at hs hl hc
              simp only [skCells, skSetCells] at hs hl hc ⊢
              exact set_head p p' cs i i' s' hs hl (.inl hc)
          · cases hc
    · have h1 : nthS (setSk p sks j s') j' = nthS sks j' := by
        cases p with
        | nil => simp only [setSk]; rw [nthS_set_ne _ _ _ _ hj]
        | cons i p => simp only [setSk]; rw [nthS_set_ne _ _ _ _ hj]
      cases p' with
      | nil => simp only [getSk, h1]
      | cons i' p' => simp only [getSk, h1]

theorem OwnL.leaf_at {vs : List Value} {xs : List V} {ss : List Sk} (h : OwnL w G P vs xs ss) (hc : cibL xs = true) (i : Nat) : nthS ss i = .leaf := by
  induction vs generalizing xs ss i with
  | nil => cases xs with
    | nil => cases ss with
      | nil => rfl
      | cons s ss => simp [OwnL] at h
    | cons x xs => simp [OwnL] at h
  | cons v vs ih => cases xs with
    | nil => simp [OwnL] at h
    | cons x xs => cases ss with
      | nil => simp [OwnL] at h
      | cons s ss =>
        simp only [cibL, Bool.and_eq_true] at hc
        cases i with
        | zero =>
          have h1 := h.1
          cases x <;> first | (simp [V.cib, V.cim, V.imm] at hc; done) | exact h1.1
        | succ i => exact ih h.2 hc.2 i

theorem OwnL.leaf_one {vs : List Value} {xs : List V} {ss : List Sk} (h : OwnL w G P vs xs ss) (i : Nat) (hc : (nthV xs i).isOwnB = false) : nthS ss i = .leaf := by
  induction vs generalizing xs ss i with
  | nil => cases xs with
    | nil => cases ss with
      | nil => rfl
      | cons s ss => simp [OwnL] at h
    | cons x xs => simp [OwnL] at h
  | cons v vs ih => cases xs with
    | nil => simp [OwnL] at h
    | cons x xs => cases ss with
      | nil => simp [OwnL] at h
      | cons s ss =>
        cases i with
        | zero =>
          have h1 := h.1
          cases x <;> first | (simp [nthV, V.isOwnB] at hc; done) | exact h1.1
        | succ i => exact ih h.2 i hc

theorem run_store_op (w : World) {o : Oper} {x p : Operand} {t : TypeId} (ho : o.op = .store t p x) {b k : Nat} (hp : a.eval p = .pointer (some ⟨b, k, none⟩)) {w' : World}
    (h : (storeVar t ⟨b, k, none⟩ (a.eval x)).run P w = .ok () w') : (execOp a.eval o).run P w = .ok .skip w' := by
  simp [execOp, ho, hp, Instr.storeAt, Instr.sureAddr, h]

theorem hits_r (r : Nm) (q : Pl) (h : q.r = r) : Kl.hits ⟨[], [r], []⟩ q = true := by simp [Kl.hits, h, Nm.mem, Nm.eq_self]
theorem hits_d (r : Nm) (q : Pl) (h : q.r = r) (hq : Kl.hits ⟨[r], [], []⟩ q = false) : q.p = [] := by
  simp [Kl.hits, h, Nm.mem, Nm.eq_self] at hq
  exact hq

theorem storeB_ok (hI : Inv P w0 F N st a w G gm) {o : Oper} (hd : ∀ x, o.dst = some x → x < N) {t : TypeId} {p x : Operand} (ho : o.op = .store t p x) {T : List Nm} (hTh : Nm.hand.mem T = false)
    {r : Nm} {j : Nat} {vx : V} (hp : Rv w G gm (a.eval p) (.ptrB r j)) (hx : Rv w G gm (a.eval x) vx) (hok : (semStore P deep (only T st.regs) t vx (.ptrB r j)).ok = true) :
    OpRes P w0 F N st a w G o (semStore P deep (only T st.regs) t vx (.ptrB r j)) := by
  unfold semStore at hok ⊢
  simp only at hok ⊢
  split at hok
  · next row0 hr0 =>
    generalize hA : absV P deep true (only T st.regs) vx = A at hok ⊢
    split at hok
    · next row hr1 =>
      obtain ⟨h1, _⟩ := when_ok hok
      simp only [Bool.and_eq_true] at h1
      obtain ⟨⟨⟨⟨⟨p1, p2⟩, p3⟩, p4⟩, p5⟩, p6⟩ := h1
      replace p3 := nbeq p3
      replace p4 := nble p4
      replace p5 : r.mem A.k.a = false := by simpa using p5
      obtain ⟨gm1, g1, g2, g3, g4⟩ := hI.start T
      obtain ⟨htook, _⟩ := absV_ok (deep := deep) (keep := true) g1 g2 rfl rfl (only_within T _) hTh hx (fun _ h => h) (g4 hTh) (by rw [hA]; exact p1)
      rw [hA] at htook
      obtain ⟨G2, gm2, ss, k1, k2, k3, k4, k5⟩ := htook.ex
      simp only [List.nil_append] at k2 k3
      obtain ⟨_, hown⟩ := hand_ok k2 k3
      simp only at hown
      have hmem : r.mem T = true := (only_within T st.regs).mem hr0
      have hne : r ≠ .hand := fun e => by rw [e, hTh] at hmem; cases hmem
      obtain ⟨R, hR, hRok⟩ := k2.ok (show withHand (mix T A.rd st.regs) A.xs r = some ⟨true, row⟩ by rw [withHand_ne _ _ hne, mix_mem hmem, hr1])
      have hstay : Stay A.k gm gm2 := by simpa [Kl.and, Kl.no] using (g3.no_trans (Stay.refl _ _)).trans k4
      obtain ⟨R0, b, b1, b2, b3⟩ := hp
      obtain ⟨R1, b4, b5⟩ := hstay.box r R0 b p5 b1 b2
      rw [hR] at b4
      obtain rfl := Option.some.inj b4
      obtain ⟨⟨t0, hheap, htyp⟩, hself⟩ := hRok.2.2 b b5
      have hrl := hRok.2.1.length
      have hol := hown.length
      let us := (a.eval x).cells.toList
      have husl : us.length = szT P t := by rw [← p3]; exact hol.1
      have hsl : ss.length = us.length := by simp only [us]; omega
      have hcs : (R.vals.toArray).size = R.vals.length := by simp
      have hjl : j + us.length ≤ R.vals.length := by simp only [us] at *; omega
      have hrun := run_storeVar p2 hheap (.inl (Nat.le_refl _)) (v := a.eval x) (o := j) (by simpa [us] using husl) (by simpa [us] using hjl) hown.one
      have hnd := k2.nodup _ _ hR
      have hndH := k2.nodup _ _ k3
      have hdj := k2.disj _ _ _ _ hne hR k3
      simp only [RG.fp, Option.toList_none, List.nil_append] at hndH hdj
      have hbfp : b ∈ R.fp := by simp [RG.fp, b5]
      rw [RG.fp, b5] at hnd
      simp only [Option.toList_some, List.cons_append, List.nil_append, List.nodup_cons] at hnd
      have hG2 : ∀ k, G2 k → (w.setRow b (over R.vals.toArray j us)).heap[k]? = w.heap[k]? := by
        intro k hk
        exact setRow_other w b k _ (fun e => k2.apart _ _ b hR hbfp (e ▸ hk))
      have hfa : ∀ k, k ≠ b → (w.setRow b (over R.vals.toArray j us)).heap[k]? = w.heap[k]? := fun k hk => setRow_other w b k _ hk
      have hnew := OwnL.over (P := P) (cur := R.vals.toArray) (n := R.vals.length) (k := j) hG2 (fun _ h => h) (fun k hk => hfa k (fun e => hnd.1 (e ▸ hk)))
        (fun k hk => hfa k (fun e => hdj b hbfp (e ▸ hk))) (by simp) hjl (by simpa using hRok.2.1) hown
      have htk : (over R.vals.toArray j us).toList.take R.vals.length = (over R.vals.toArray j us).toList := by
        apply List.take_of_length_le
        have := over_size (cur := R.vals.toArray) (o := j) (vs := us) (by simpa using hjl)
        simp [this]
      rw [htk] at hnew
      have hdj2 : ∀ c ∈ fpL R.sks, c ∉ fpL ss := fun c hc hc' => hdj c (by simp [RG.fp, hc]) hc'
      refine OpRes.when ⟨undef, _, .skip, G2, _, run_store_op w ho b3 hrun, .inr ⟨rfl, rfl⟩, k1, hI.stored hd hTh k2 k3 k1 hstay htook.same (by rw [← hA]; exact (absV_within (only_within T _) vx).2) hmem hR
        (R' := ⟨some b, (over R.vals.toArray j us).toList, R.sks.take j ++ ss ++ R.sks.drop (j + ss.length)⟩) (fun c hc hn => hfa c (fun e => hn (e ▸ hbfp))) rfl rfl rfl (by simp) (fun i hi hpo => ⟨b5 ▸ hpo.1, fun s hs => absurd (hpo.2 s hs).1 (by rw [b5]; simp)⟩) ⟨rfl, hnew, fun b' hb' => ?_⟩ ?_ ?_ ?_ b5.symm⟩
      · obtain rfl := Option.some.inj hb'
        have hns := absV_slf (P := P) (deep := deep) (keep := true) (rd := only T st.regs) (x := vx) (by rw [hA]; exact p1)
        rw [hA] at hns
        have hAl : A.xs.length = us.length := by simp only [us]; omega
        have hsub : ∀ k : Nat, (setMany j A.xs row)[k]? = some .slf → row[k]? = some .slf := by
          intro k hk'
          have hjr : j + A.xs.length ≤ row.length := by simp only [us] at *; omega
          rw [setMany_eq _ _ _ hjr, List.append_assoc] at hk'
          have hjl' : (row.take j).length = j := by simp; omega
          by_cases c1 : k < j
          · rw [List.getElem?_append_left (by omega), List.getElem?_take_of_lt c1] at hk'
            exact hk'
          · rw [List.getElem?_append_right (by omega), hjl'] at hk'
            by_cases c2 : k < j + us.length
            · rw [List.getElem?_append_left (by omega)] at hk'
              exact absurd rfl (hns _ (List.mem_of_getElem? hk'))
            · rw [List.getElem?_append_right (by omega), List.getElem?_drop] at hk'
              rw [← hk']
              congr 1
              omega
        refine ⟨⟨t0, by simpa using setRow_heap w b _ (over R.vals.toArray j us) t0 (0, 0) hheap, htyp.of hsub⟩, ?_⟩
        intro k hk
        have hk' : (setMany j A.xs row)[k]? = some .slf := hk
        have hjr : j + A.xs.length ≤ row.length := by simp only [us] at *; omega
        rw [setMany_eq _ _ _ hjr, List.append_assoc] at hk'
        have hov := over_get (cur := R.vals.toArray) (o := j) (vs := us) (by simpa using hjl) k
        show (over R.vals.toArray j us).toList[k]? = _ ∨ (over R.vals.toArray j us).toList[k]? = _
        rw [hov]
        have hjl' : (row.take j).length = j := by simp; omega
        by_cases c1 : k < j
        · rw [List.getElem?_append_left (by omega), List.getElem?_take_of_lt c1] at hk'
          rw [if_pos c1]
          exact hself k hk'
        · rw [List.getElem?_append_right (by omega), hjl'] at hk'
          rw [if_neg c1]
          by_cases c2 : k < j + us.length
          · rw [List.getElem?_append_left (by omega)] at hk'
            exact absurd rfl (hns _ (List.mem_of_getElem? hk'))
          · rw [List.getElem?_append_right (by omega), List.getElem?_drop] at hk'
            rw [if_neg c2]
            refine hself k ?_
            rw [← hk']
            congr 1
            omega
      · simp only [RG.fp, Option.toList_some, List.cons_append, List.nil_append, List.nodup_cons]
        refine ⟨fun h => ?_, fpL_over_nodup hnd.2 hndH hdj2⟩
        rcases fpL_over _ _ _ _ b h with h | h
        · exact hnd.1 h
        · exact hdj b hbfp h
      · intro c hc
        simp only [RG.fp, Option.toList_some, List.cons_append, List.nil_append, List.mem_cons] at hc
        rcases hc with rfl | hc
        · exact .inl hbfp
        · rcases fpL_over _ _ _ _ c hc with h | h
          · left; simp [RG.fp, h]
          · exact .inr h
      · intro q hq hhit hl
        cases hsl' : hasSlice P t with
        | true =>
          rw [hsl', cond_true, hits_r r q hq] at hhit; cases hhit
        | false =>
          rw [hsl'] at p6
          simp only [Bool.false_or] at p6
          have hl' : getSk q.p R.sks q.j ≠ .leaf := by
            have : skAt gm2 q = getSk q.p R.sks q.j := by simp only [skAt, hq, hR]
            rwa [this] at hl
          have hout : q.j < j ∨ j + ss.length ≤ q.j := by
            rcases Nat.lt_or_ge q.j j with h | h
            · exact .inl h
            · rcases Nat.lt_or_ge q.j (j + ss.length) with h' | h'
              · exfalso
                refine hl' (getSk_leaf _ _ _ (hRok.2.1.leaf_one q.j ?_))
                have hin : q.j < row.length := by simp only [us] at *; omega
                have hm : nthV row q.j ∈ (row.drop j).take A.xs.length := by
                  rw [nthV_get _ _ hin]
                  refine List.mem_of_getElem? (i := q.j - j) ?_
                  rw [List.get_drop_take _ _ _ _ (by simp only [us] at *; omega), show j + (q.j - j) = q.j by omega]
                  exact List.getElem?_eq_getElem hin
                simpa using List.all_eq_true.1 p6 _ hm
              · exact .inr h'
          have h2 := nthS_over (cs := R.sks) (ss := ss) (k := j) (j := q.j) (by simp only [us] at *; omega) hout
          cases hqp : q.p with
          | nil => simp only [getSk, h2]
          | cons i' p' => simp only [getSk, h2]
    · cases hok
  · cases hok

theorem storeE_ok (hI : Inv P w0 F N st a w G gm) {o : Oper} (hd : ∀ x, o.dst = some x → x < N) {t : TypeId} {p x : Operand} (ho : o.op = .store t p x) {T : List Nm} (hTh : Nm.hand.mem T = false)
    {q : Pl} {i off : Nat} {vx : V} (hp : Rv w G gm (a.eval p) (.ptrE q i off)) (hx : Rv w G gm (a.eval x) vx) (hok : (semStore P deep (only T st.regs) t vx (.ptrE q i off)).ok = true) :
    OpRes P w0 F N st a w G o (semStore P deep (only T st.regs) t vx (.ptrE q i off)) := by
  unfold semStore at hok ⊢
  simp only at hok ⊢
  focus
    generalize hA : absV P deep q.d (only T st.regs) vx = A at hok ⊢
    split at hok
    · next g0 hg0 =>
      obtain ⟨h1, _⟩ := when_ok hok
      simp only [Bool.and_eq_true] at h1
      obtain ⟨⟨⟨⟨⟨p0, p1⟩, p3⟩, p2⟩, p4⟩, p5⟩ := h1
      obtain ⟨e, d, xs, hqe, hqd, hqx, hq1⟩ := ownB_some p3
      rw [hqd] at hA
      simp only [hqe, hqd] at p5 ⊢
      replace p4 := nbeq p4
      replace p5 := nble p5
      obtain ⟨gm1, g1, g2, g3, g4⟩ := hI.start T
      obtain ⟨htook, hcim⟩ := absV_ok (deep := deep) (keep := d) g1 g2 rfl rfl (only_within T _) hTh hx (fun _ h => h) (g4 hTh) (by rw [hA]; exact p1)
      rw [hA] at htook hcim
      obtain ⟨G2, gm2, ss, k1, k2, k3, k4, k5⟩ := htook.ex
      simp only [List.nil_append] at k2 k3
      obtain ⟨_, hown⟩ := hand_ok k2 k3
      simp only at hown
      have hmem : q.r.mem T = true := htook.within.mem hg0
      have hne : q.r ≠ .hand := fun e => by rw [e, hTh] at hmem; cases hmem
      obtain ⟨R, hR, hRok⟩ := k2.ok (show withHand (mix T A.rd st.regs) A.xs q.r = some g0 by rw [withHand_ne _ _ hne, mix_mem hmem, hg0])
      have hstay : Stay A.k gm gm2 := by simpa [Kl.and, Kl.no] using (g3.no_trans (Stay.refl _ _)).trans k4
      have hhead : skHead (skAt gm2 q) = skHead (skAt gm q) := by
        rw [k5 q e d xs hq1]
        obtain ⟨t', ht'⟩ := htook.own q _ hq1
        exact g4 hTh q t'.1 t'.2.1 t'.2.2 ht'
      replace hp : namePtrE gm2 q i off (a.eval p) := namePtrE_head hhead hp
      have hsk : skAt gm2 q = getSk q.p R.sks q.j := by simp only [skAt, hR]
      have hx1 : getV q.p g0.row q.j = .own e d xs := by
        obtain ⟨rg, h1, h2⟩ := ownAt_some hq1
        rw [hg0] at h1
        obtain rfl := Option.some.inj h1
        exact h2
      obtain ⟨v, hv, _⟩ := OwnL.at q.p g0.row q.j R.vals R.sks hRok.2.1 (by rw [hx1]; simp)
      rw [hx1, ← hsk] at hv
      unfold namePtrE at hp
      cases hs : skAt gm2 q with
      | leaf => rw [hs] at hp; exact hp.elim
      | nil => rw [hs] at hp; exact hp.elim
      | node g n cap sz cs =>
        rw [hs] at hp hv
        obtain ⟨hin, hpv⟩ := hp
        obtain ⟨cur, fr, h1, h2, h3, h4, h5, h6, h7, h8, h9, h10, h11⟩ := hv
        subst h6
        have hol := hown.length
        let us := (a.eval x).cells.toList
        have husl : us.length = szT P t := by rw [← p4]; exact hol.1
        have hsl : ss.length = us.length := by simp only [us]; omega
        have hib : i * szT P e + szT P e ≤ n * szT P e := by
          have : (i + 1) * szT P e ≤ n * szT P e := Nat.mul_le_mul_right _ (by omega)
          rwa [Nat.add_mul, Nat.one_mul] at this
        have hkl : i * szT P e + off + us.length ≤ n * szT P e := by simp only [us] at *; omega
        have hnc : n * szT P e ≤ cur.size := by rw [h4]; exact Nat.mul_le_mul_right _ h7
        have huss : us.length = (a.eval x).cells.size := by simp [us]
        have hrun := run_storeVar p2 h2 h3 (v := a.eval x) (o := i * szT P e + off) (by simpa [us] using husl) (by omega) hown.one
        have hnd := k2.nodup _ _ hR
        have hndH := k2.nodup _ _ k3
        have hdj := k2.disj _ _ _ _ hne hR k3
        simp only [RG.fp, Option.toList_none, List.nil_append] at hndH hdj
        obtain ⟨rest, hp1, hp2⟩ := getSk_perm q.p R.sks q.j (by rw [← hsk, hs]; simp)
        rw [← hsk, hs] at hp1
        have hgfp : g ∈ R.fp := by
          simp only [RG.fp, List.mem_append]
          exact .inr (hp1.mem_iff.2 (by simp [Sk.fp]))
        have hG2 : ∀ k, G2 k → (w.setRow g (over cur (i * szT P e + off) us)).heap[k]? = w.heap[k]? := by
          intro k hk
          exact setRow_other w g k _ (fun e => k2.apart _ _ g hR hgfp (e ▸ hk))
        have hfa : ∀ k, k ≠ g → (w.setRow g (over cur (i * szT P e + off) us)).heap[k]? = w.heap[k]? := fun k hk => setRow_other w g k _ hk
        have hndR : (fpL R.sks).Nodup := by
          simp only [RG.fp] at hnd
          exact (List.nodup_append.1 hnd).2.1
        have hndS : (g :: fpL cs ++ rest).Nodup := by simpa [Sk.fp] using hp1.nodup_iff.1 hndR
        rw [List.cons_append, List.nodup_cons] at hndS
        have hnew := OwnL.over (P := P) (cur := cur) (n := n * szT P e) (k := i * szT P e + off) hG2 (fun _ h => h) (fun k hk => hfa k (fun e => hndS.1 (by rw [← e]; simp [hk])))
          (fun k hk => hfa k (fun e => hdj g hgfp (e ▸ hk))) hnc hkl h10 hown
        let cs' := cs.take (i * szT P e + off) ++ ss ++ cs.drop (i * szT P e + off + ss.length)
        let s' := Sk.node g n cap (szT P e) cs'
        have hput : OwnL (w.setRow g (over cur (i * szT P e + off) us)) G2 P R.vals (setV q.p g0.row q.j (.own e d (setMany (i * szT P e + off) A.xs xs))) (setSk q.p R.sks q.j s') := by
          refine OwnL.put hG2 (fun _ h => h) _ _ e d xs q.p g0.row q.j R.vals R.sks hRok.2.1 hndR hx1 (fun v' hv' => ?_) (fun k hk hk' => hfa k (fun e => hk' (by rw [← hsk, hs, e]; simp [Sk.fp])))
          rw [← hsk, hs] at hv'
          obtain ⟨cur', fr', q1, q2, _⟩ := hv'
          refine ⟨over cur (i * szT P e + off) us, fr, q1, setRow_heap w g cur _ e fr h2, ?_, ?_, h5, rfl, h7, h8, ?_, hnew, ?_⟩
          · rw [over_size (by omega)]; exact h3
          · rw [over_size (by omega)]; exact h4
          · have : A.xs.length = us.length := by simp only [us]; omega
            rw [setMany_eq _ _ _ (by omega)]
            simp only [List.length_append, List.length_take, List.length_drop]
            omega
          · intro hdf
            have : A.xs.length = us.length := by simp only [us]; omega
            rw [setMany_eq _ _ _ (by omega), cibL_append, cibL_append, cibL_take _ _ (h11 hdf), cibL_drop _ _ (h11 hdf), cimL_cib _ (hcim hdf)]
            rfl
        have hdj2 : ∀ c ∈ fpL cs, c ∉ fpL ss := fun c hc hc' => hdj c (by simp only [RG.fp, List.mem_append]; exact .inr (hp1.mem_iff.2 (by simp [Sk.fp, hc]))) hc'
        have hrow : (mapAt (setMany (i * szT P e + off) A.xs) q g0) = ⟨g0.box, setV q.p g0.row q.j (.own e d (setMany (i * szT P e + off) A.xs xs))⟩ := by
          simp only [mapAt, hx1, setOwn]
        have hfp' : ∀ c ∈ s'.fp ++ rest, c ∈ fpL R.sks ∨ c ∈ fpL ss := by
          intro c hc
          simp only [s', Sk.fp, List.mem_append, List.mem_cons] at hc
          rcases hc with (rfl | hc) | hc
          · exact .inl (hp1.mem_iff.2 (by simp [Sk.fp]))
          · rcases fpL_over _ _ _ _ c hc with h | h
            · exact .inl (hp1.mem_iff.2 (by simp [Sk.fp, h]))
            · exact .inr h
          · exact .inl (hp1.mem_iff.2 (by simp [Sk.fp, hc]))
        have hbx : ∀ b', R.b = some b' → (∃ t0, (w.setRow g (over cur (i * szT P e + off) us)).heap[b']? = some (.cells R.vals.toArray t0 (0, 0)) ∧ TypT P t0 (setV q.p g0.row q.j (.own e d (setMany (i * szT P e + off) A.xs xs)))) ∧ SelfOk b' (setV q.p g0.row q.j (.own e d (setMany (i * szT P e + off) A.xs xs))) R.vals := by
          intro b' hb'
          obtain ⟨⟨t0, ht0, htyp⟩, hself⟩ := hRok.2.2 b' hb'
          refine ⟨⟨t0, ?_, htyp.of (fun k hk => setV_slf q.p g0.row q.j _ (by simp) k hk)⟩, hself.of (fun k hk => setV_slf q.p g0.row q.j _ (by simp) k hk)⟩
          rw [hfa b' ?_]
          · exact ht0
          · intro e
            simp only [RG.fp] at hnd
            rw [hb'] at hnd
            simp only [Option.toList_some, List.cons_append, List.nil_append, List.nodup_cons] at hnd
            exact hnd.1 (hp1.mem_iff.2 (by simp [Sk.fp, e]))
        have hroot : ∀ j', skHead (nthS (setSk q.p R.sks q.j s') j') = skHead (nthS R.sks j') := by
          intro j'
          by_cases hl : nthS R.sks j' = .leaf
          · cases hqp : q.p with
            | nil =>
              by_cases hj : q.j = j'
              · subst hj
                have : getSk q.p R.sks q.j = .leaf := by rw [hqp]; exact hl
                rw [← hsk, hs] at this; cases this
              · simp only [setSk]; rw [nthS_set_ne _ _ _ _ hj]
            | cons i p => exact put_head_root p i R.sks q.j j' s'
          · exact set_head q.p [] R.sks q.j j' s' (by rw [← hsk, hs]; rfl) hl (.inr rfl)
        refine OpRes.when ⟨undef, _, .skip, G2, _, run_store_op w ho hpv hrun, .inr ⟨rfl, rfl⟩, k1, hI.stored hd hTh k2 k3 k1 hstay htook.same (by rw [← hA]; exact (absV_within (only_within T _) vx).2) hmem hR
          (R' := ⟨R.b, R.vals, setSk q.p R.sks q.j s'⟩) (fun c hc hn => hfa c (fun e => hn (e ▸ hgfp))) rfl rfl rfl (by simp) (fun i hi hpo => ⟨hpo.1, fun s hs => ⟨(hpo.2 s hs).1, (hpo.2 s hs).2.1, by rw [← (hpo.2 s hs).2.2]; exact hroot 0⟩⟩) (by rw [hrow]; exact ⟨hRok.1, hput, hbx⟩) ?_ ?_ ?_ rfl⟩
        · have hndp : (s'.fp ++ rest).Nodup := by
            rw [List.nodup_append] at hndS ⊢
            simp only [s', Sk.fp, List.nodup_cons]
            refine ⟨⟨fun h => ?_, fpL_over_nodup hndS.2.1 hndH hdj2⟩, hndS.2.2.1, fun c hc c' hc' hcc => ?_⟩
            · rcases fpL_over _ _ _ _ g h with h | h
              · exact hndS.1 (by simp [h])
              · exact hdj g hgfp h
            · subst hcc
              simp only [List.mem_cons] at hc
              rcases hc with rfl | hc
              · exact hndS.1 (by simp [hc'])
              · rcases fpL_over _ _ _ _ c hc with h | h
                · exact hndS.2.2.2 c h c hc' rfl
                · exact hdj c (by simp only [RG.fp, List.mem_append]; exact .inr (hp1.mem_iff.2 (by simp [hc']))) h
          simp only [RG.fp]
          rw [(List.Perm.append_left R.b.toList (hp2 s')).nodup_iff, List.nodup_append]
          refine ⟨?_, hndp, fun c hc c' hc' hcc => ?_⟩
          · cases R.b <;> simp
          · subst hcc
            simp only [RG.fp] at hnd
            rcases hfp' c hc' with h | h
            · exact (List.nodup_append.1 hnd).2.2 c hc c h rfl
            · exact hdj c (by simp only [RG.fp, List.mem_append]; exact .inl hc) h
        · intro c hc
          simp only [RG.fp, List.mem_append] at hc
          rcases hc with hc | hc
          · left; simp only [RG.fp, List.mem_append]; exact .inl hc
          · rcases hfp' c ((hp2 s').mem_iff.1 hc) with h | h
            · left; simp only [RG.fp, List.mem_append]; exact .inr h
            · exact .inr h
        · intro q' hq' hhit hl
          have hl' : getSk q'.p R.sks q'.j ≠ .leaf := by
            have : skAt gm2 q' = getSk q'.p R.sks q'.j := by simp only [skAt, hq', hR]
            rwa [this] at hl
          refine set_head q.p q'.p R.sks q.j q'.j s' (by rw [← hsk, hs]; rfl) hl' ?_
          cases d with
          | true =>
            simp only [cond_true] at hhit
            exact .inr (hits_d q.r q' hq' hhit)
          | false =>
            left
            intro i'
            rw [← hsk, hs]
            exact h10.leaf_at (h11 rfl) i'
    · cases hok
end
end Go.Ab
/- Conversions. -/
namespace Go.Ab
open Go
set_option linter.unusedSimpArgs false
set_option linter.unusedVariables false

section
variable {P : Program} {w0 w : World} {F : FG} {N : Nat} {st : St} {a : Act} {G : Nat → Prop} {gm : GM} {deep : TypeId → Bool} {T : List Nm} {rd regs : Nm → Option Rg}

theorem foldl_push (ns : List Int) : ∀ b : ByteArray, ns.foldl (fun r n => r.push (UInt8.ofNat n.toNat)) b = ⟨b.data ++ (ns.map fun n => UInt8.ofNat n.toNat).toArray⟩ := by
  induction ns with
  | nil => intro b; simp
  | cons n ns ih =>
    intro b
    simp only [List.foldl_cons, List.map_cons]
    rw [ih]
    congr 1
    apply Array.ext'
    simp [ByteArray.push]

theorem allU8_ok {vs : List Value} {xs : List V} {ss : List Sk} (h : OwnL w G P vs xs ss) (hu : allU8 xs = true) : ∃ ns : List Int, vs = ns.map (Value.int .u8) ∧ xs.map byteOfV = ns.map fun n => UInt8.ofNat n.toNat := by
  induction vs generalizing xs ss with
  | nil => cases xs with
    | nil => exact ⟨[], rfl, rfl⟩
    | cons x xs => simp [OwnL] at h
  | cons v vs ih => cases xs with
    | nil => simp [OwnL] at h
    | cons x xs => cases ss with
      | nil => simp [OwnL] at h
      | cons s ss =>
        simp only [allU8, Bool.and_eq_true] at hu
        obtain ⟨ns, h1, h2⟩ := ih h.2 hu.2
        have hx := hu.1
        unfold V.isInt at hx
        split at hx
        · next k n =>
          have hk : k = .u8 := by simpa using hx
          subst hk
          obtain ⟨_, _, hr⟩ := h.1
          obtain ⟨rfl, _⟩ := hr
          refine ⟨n :: ns, by simp [h1], ?_⟩
          simp only [List.map_cons, h2, byteOfV, V.intOf]
        · cases hx

theorem sli_slice {e : TypeId} {v : Value} {x : V} (hx : Rv w G gm v x) (hok : (sliOf P rd e x).ok = true) : ∃ ad n c, v = .slice ad n c := by
  cases x <;> try (cases hok; done)
  case nl => exact ⟨_, _, _, hx⟩
  case sl =>
    rcases hx with ⟨h, _⟩ | ⟨_, _, _, _, h, _⟩
    · exact ⟨_, _, _, h⟩
    · exact ⟨_, _, _, h⟩
  case ref q =>
    simp only [Rv, nameRef] at hx
    split at hx
    · exact ⟨_, _, _, hx⟩
    · exact ⟨_, _, _, hx⟩
    · exact hx.elim
  case vw q lo hi =>
    simp only [Rv, nameVw] at hx
    split at hx
    · obtain ⟨_, _, _, h, _⟩ := hx
      exact ⟨_, _, _, h⟩
    · exact ⟨_, _, _, hx.2.2⟩
    · exact hx.elim

theorem run_conv_op (w w' : World) {o : Oper} {x : Operand} {s t : TypeId} (ho : o.op = .convert s t x) {v : Value} (h : (convert s t (a.eval x)).run P w = .ok v w') : (execOp a.eval o).run P w = .ok (.value v) w' := by
  simp [execOp, ho, h]

theorem convert_ok (hI : Inv P w0 F N st a w G gm) {o : Oper} {d : Nat} (hod : o.dst = some d) (hd : d < N) {s t : TypeId} {x : Operand} (ho : o.op = .convert s t x) {T : List Nm} (hTd : (Nm.loc d).mem T = true) (hTh : Nm.hand.mem T = false)
    {vx : V} (hx : Rv w G gm (a.eval x) vx) (hok : (semConvert P d (only T st.regs) s t vx).ok = true) :
    OpRes P w0 F N st a w G o (semConvert P d (only T st.regs) s t vx) := by
  have hd' : ∀ y, o.dst = some y → y < N := fun y hy => by rw [hod] at hy; obtain rfl := Option.some.inj hy; exact hd
  unfold semConvert at hok ⊢
  split at hok
  · next us k hs ht =>
    split at hok
    · next k' n =>
      obtain ⟨hxe, _⟩ := hx
      refine OpRes.quiet hI hd' (.int k (k.wrap n)) (run_conv_op w w ho ?_) rfl rfl ⟨rfl, rfl⟩
      rw [hxe]
      simp [convert, run_underlying hs, run_underlying ht, Conv.intToInt]
    · cases hok
  · next hs ht =>
    split at hok
    · next str =>
      obtain ⟨hxe, _⟩ := hx
      refine OpRes.quiet hI hd' (.string str) (run_conv_op w w ho ?_) rfl rfl ⟨rfl, rfl⟩
      rw [hxe]
      simp [convert, run_underlying hs, run_underlying ht]
    · cases hok
  · next e hs ht =>
    split at hok
    · next u str he =>
      obtain ⟨hxe, _⟩ := hx
      obtain ⟨h1, _⟩ := when_ok hok
      simp only [Bool.and_eq_true, roomy, decide_eq_true_eq] at h1
      have hsz := nbeq h1.2
      obtain ⟨gm1, g1, g2, g3, g4⟩ := hI.start T
      have hrun := Lib.run_convert_string_bytes (P := P) w s t e str hs ht he
      rw [← hxe] at hrun
      have hcap : grownCap w str.size 0 e ≤ maxLen := grownCap_le_maxLen w _ _ e (Nat.le_trans h1.1 (by decide))
      have hge : str.size ≤ grownCap w str.size 0 e := grownCap_ge w _ _ e
      have hcs : (Lib.bytesCells w e str).size = grownCap w str.size 0 e := by
        simp [Lib.bytesCells]
        have : str.data.size = str.size := rfl
        omega
      obtain ⟨ss, hs1, hs2⟩ := bytesV_own (w := Lib.bytesWorld w e str) (G := G) (P := P) str
      have htk : (Lib.bytesCells w e str).toList.take (str.size * szT P e) = Lib.strCells str := by
        rw [hsz, Nat.mul_one]
        simp only [Lib.bytesCells, Array.toList_append, Array.toList_map]
        rw [List.take_left']
        · rfl
        · rw [List.length_map, Array.length_toList]; rfl
      refine OpRes.when (OpRes.mk' hod _ _ G _ (run_conv_op w _ ho hrun) rfl (fun _ h => h) (hI.land hd hTd hTh g1 g2 (fun _ h => h) g3 (only_within T _) (fun _ _ => rfl) (fun n hn => (no_names hn).elim)
        (fun b hb _ => Lib.bytesWorld_at_old w e str b hb) rfl rfl rfl (by rw [Lib.bytesWorld_size]; omega) (rg := ⟨false, [.own e false (bytesV str)]⟩) (R := ⟨none, [.slice (some ⟨w.heap.size, 0, none⟩) str.size (grownCap w str.size 0 e)], [.node w.heap.size str.size (grownCap w str.size 0 e) (szT P e) ss]⟩) ⟨rfl, ⟨?_, trivial⟩, fun b hb => by cases hb⟩ ?_ ?_ (fun _ h => h) (fun _ h => .inl h) _ _ ?_))
      · refine ⟨_, _, rfl, Lib.bytesWorld_at_new w e str, .inr (Nat.le_refl _), by rw [hcs, hsz, Nat.mul_one], by omega, rfl, hge, hcap, by rw [bytesV_length, hsz, Nat.mul_one], ?_, fun _ => bytesV_cib str⟩
        rw [htk]; exact hs2
      · simp [RG.fp, fpL, Sk.fp, hs1]
      · intro b hb
        simp [RG.fp, fpL, Sk.fp, hs1] at hb
        exact .inr (by omega)
      · simp only [Rv, nameRef, skAt, setG_self, getSk, nthS_zero]
    · cases hok
  · next e hs ht =>
    split at hok
    · next he =>
      obtain ⟨h1, _⟩ := when_ok hok
      simp only [Bool.and_eq_true] at h1
      obtain ⟨⟨⟨p1, p2⟩, p3⟩, p4⟩ := h1
      have hsz := nbeq p2
      obtain ⟨m, news, cs, hr⟩ := sliOf_ok (rd := only T st.regs) hx (fun _ h => h) (fun _ _ _ _ _ => rfl) (fun q e d xs hq => by
        obtain ⟨v, hv⟩ := own_at hI.regs hq
        exact ⟨fun e => by rw [e] at hv; exact hv.elim, v, hv⟩) (by omega) p1
      obtain ⟨ns, k1, k2⟩ := allU8_ok hr.own p4
      refine OpRes.when (OpRes.quiet hI hd' (.string (strOfCells (sliOf P (only T st.regs) e vx).xs)) (run_conv_op w w ho ?_) rfl rfl ⟨rfl, rfl⟩)
      have hf := hr.first w rfl
      have hl := hr.hlen
      have hv := sli_slice hx p1
      obtain ⟨ad, n, c, hv⟩ := hv
      rw [hv] at hl hf ⊢
      have hn : n = m := by
        simp [Builtin.lenOf] at hl
        exact hl
      subst hn
      rw [run_convert_bytes_string w s t e ad n c hs he ht]
      cases ad with
      | none =>
        simp [Builtin.firstCells] at hf
        have hnn : news = [] := hf
        have hxn : (sliOf P (only T st.regs) e vx).xs = [] := by
          have := hr.own.length.1
          rw [hnn] at this
          exact List.eq_nil_of_length_eq_zero this.symm
        rw [hxn]
        rfl
      | some ad =>
        have hld : (loadCells ad n).run P w = .ok (ns.map (Value.int .u8)).toArray w := by
          simp only [Builtin.firstCells, hsz, Nat.mul_one] at hf
          rw [← k1]; exact hf
        rw [run_bytesToString w ad n c ns hld, foldl_push]
        congr 2
        simp only [strOfCells, k2]
        simp
    · cases hok
  · cases hok
end
end Go.Ab
/- Every operation comes to its effect. -/
namespace Go.Ab
open Go
set_option linter.unusedSimpArgs false
set_option linter.unusedVariables false

section
variable {P : Program} {w0 w : World} {F : FG} {N : Nat} {st : St} {a : Act} {G : Nat → Prop} {gm : GM} {deep : TypeId → Bool} {T : List Nm} {rd regs : Nm → Option Rg}

/- What has no region is not named. -/
mutual
theorem Rv.no_name {n : Nm} (hn : gm n = none) : ∀ (x : V) (v : Value), Rv w G gm v x → n ∉ x.names
  | .sc _, _, _ => by simp [V.names]
  | .nl _, _, _ => by simp [V.names]
  | .sl _ _, _, _ => by simp [V.names]
  | .own _ _ _, _, h => h.elim
  | .ag xs, v, h => by obtain ⟨cs, _, h⟩ := h; exact RvL.no_name hn xs _ h
  | .tp xs, v, h => by obtain ⟨cs, _, h⟩ := h; exact RvL.no_name hn xs _ h
  | .fn f x y, v, h => by
    obtain ⟨first, caps, _, h1, h2⟩ := h
    simp only [V.names, List.mem_append, not_or]
    exact ⟨RvL.no_name hn x _ h1, RvL.no_name hn y _ h2⟩
  | .ifc t x, v, h => by obtain ⟨u, _, h⟩ := h; exact Rv.no_name hn x u h
  | .ref q, v, h => by
    simp only [V.names, List.mem_singleton]
    rintro rfl
    simp only [Rv, nameRef, skAt, hn] at h
  | .vw q lo hi, v, h => by
    simp only [V.names, List.mem_singleton]
    rintro rfl
    simp only [Rv, nameVw, skAt, hn] at h
  | .ptrB r j, v, h => by
    simp only [V.names, List.mem_singleton]
    rintro rfl
    obtain ⟨_, _, h, _⟩ := h
    rw [hn] at h; cases h
  | .ptrE q i o, v, h => by
    simp only [V.names, List.mem_singleton]
    rintro rfl
    simp only [Rv, namePtrE, skAt, hn] at h
  | .pim _ _ _, _, _ => by simp [V.names]
  | .bad, _, _ => by simp [V.names]
theorem RvL.no_name {n : Nm} (hn : gm n = none) : ∀ (xs : List V) (vs : List Value), RvL w G gm vs xs → n ∉ namesL xs
  | [], _, _ => by simp [namesL]
  | x :: xs, v :: vs, h => by
    simp only [namesL, List.mem_append, not_or]
    exact ⟨Rv.no_name hn x v h.1, RvL.no_name hn xs vs h.2⟩
  | _ :: _, [], h => h.elim
end

theorem load_ok (hI : Inv P w0 F N st a w G gm) {o : Oper} (hd : ∀ x, o.dst = some x → x < N) {t : TypeId} {p : Operand} (ho : o.op = .load t p) {T : List Nm} {vp : V} (hp : Rv w G gm (a.eval p) vp)
    (hok : (semLoad P deep (only T st.regs) t vp).ok = true) : OpRes P w0 F N st a w G o (semLoad P deep (only T st.regs) t vp) := by
  obtain ⟨b, k, v, h1, h2, h3, h4, h5⟩ := semLoad_ok hI hp hok
  refine OpRes.quiet hI hd v ?_ h4 h5 h3
  simp [execOp, ho, h1, Instr.loadAt, Instr.sureAddr, h2]

theorem touch_hand (hI : Inv P w0 F N st a w G gm) (o : Oper) : Nm.hand.mem (touch o ((argsOf P o).map (opd P st.env))) = false := by
  have hn : Nm.hand.mem (namesL ((argsOf P o).map (opd P st.env))) = false :=
    (Nm.mem_false _ _).2 (RvL.no_name (hI.regs.none hI.hand) _ _ (opds_ok hI (argsOf P o)))
  have h2 : Nm.hand.mem ((match o.dst with | some d => [Nm.loc d] | none => []) ++ namesL ((argsOf P o).map (opd P st.env))) = false := by
    cases o.dst with
    | none => exact hn
    | some d => simp only [List.cons_append, List.nil_append, Nm.mem, Nm.eq, Bool.false_or]; exact hn
  unfold touch
  split <;> first | rfl | exact h2 | exact hn

theorem sem_ok (hI : Inv P w0 F N st a w G gm) (o : Oper) (hd : ∀ x, o.dst = some x → x < N)
    (hok : (sem P deep o ((argsOf P o).map (opd P st.env)) (only (touch o ((argsOf P o).map (opd P st.env))) st.regs)).ok = true) :
    OpRes P w0 F N st a w G o (sem P deep o ((argsOf P o).map (opd P st.env)) (only (touch o ((argsOf P o).map (opd P st.env))) st.regs)) := by
  have hTh := touch_hand hI o
  have hTd : ∀ d, o.dst = some d → (∃ x, touch o ((argsOf P o).map (opd P st.env)) = (match o.dst with | some d => [Nm.loc d] | none => []) ++ x) → (Nm.loc d).mem (touch o ((argsOf P o).map (opd P st.env))) = true := by
    rintro d hod ⟨x, hx⟩
    rw [hx, hod]
    simp [Nm.mem, Nm.eq_self]
  have hdd : ∀ d, o.dst = some d → d < N := fun d h => hd d h
  generalize hT : touch o ((argsOf P o).map (opd P st.env)) = T at *
  have hvs := opds_ok hI (argsOf P o)
  have hop1 : ∀ {v : V} {f : Bool → Eff} {x : Operand} {ty : TypeId}, (onBool v f).ok = true → Rv w G gm (a.eval x) v → ∃ b, a.eval x = .bool b ∧ onBool v f = f b := by
    intro v f x ty h hv
    unfold onBool at h ⊢
    split at h
    · exact ⟨_, hv.1, rfl⟩
    · cases h
  have hint : ∀ {v : V} {f : Int → Eff} {x : Operand}, (onInt v f).ok = true → Rv w G gm (a.eval x) v → ∃ k n, a.eval x = .int k n ∧ onInt v f = f n := by
    intro v f x h hv
    unfold onInt at h ⊢
    split at h
    · exact ⟨_, _, hv.1, rfl⟩
    · cases h
  have hstr : ∀ {v : V} {f : ByteArray → Eff} {x : Operand}, (onStr v f).ok = true → Rv w G gm (a.eval x) v → ∃ s, a.eval x = .string s ∧ onStr v f = f s := by
    intro v f x h hv
    unfold onStr at h ⊢
    split at h
    · exact ⟨_, hv.1, rfl⟩
    · cases h
  have hdst : ∀ {f : Nat → Eff}, (onDst o.dst f).ok = true → ∃ d, o.dst = some d ∧ onDst o.dst f = f d := by
    intro f h
    unfold onDst at h ⊢
    split at h
    · next d hd => exact ⟨d, hd, rfl⟩
    · cases h
  cases hop : o.op <;> try (simp only [sem, hop] at hok; cases hok; done)
  case move x =>
    simp only [sem, hop, argsOf, List.map_cons, List.map_nil, on1] at hok ⊢
    exact move_ok hI hd (.inl hop) (opd_ok hI (o.type, x))
  case assign x =>
    simp only [sem, hop, argsOf, List.map_cons, List.map_nil, on1] at hok ⊢
    obtain ⟨d, hod, e⟩ := hdst hok
    rw [e] at hok ⊢
    exact assign_ok hI hod (hdd d hod) hop (hTd d hod ⟨_, by rw [← hT]; simp only [touch, hop]; rfl⟩) hTh (opd_ok hI (o.type, x)) hok
  case pick c x y =>
    simp only [sem, hop, argsOf, List.map_cons, List.map_nil, on3] at hok ⊢
    obtain ⟨b, h1, e⟩ := hop1 (ty := 0) hok (opd_ok hI (0, c))
    rw [e]
    exact pick_ok hI hd hop h1 (opd_ok hI (o.type, x)) (opd_ok hI (o.type, y))
  case alloc t =>
    simp only [sem, hop, argsOf, List.map_nil] at hok ⊢
    obtain ⟨d, hod, e⟩ := hdst hok
    rw [e] at hok ⊢
    obtain ⟨h1, _⟩ := when_ok hok
    simp only [Bool.and_eq_true] at h1
    obtain ⟨⟨⟨⟨p1, p2⟩, p3⟩, p4⟩, p5⟩ := h1
    exact OpRes.when (alloc_ok hI hod (hdd d hod) hop (hTd d hod ⟨_, by rw [← hT]; simp only [touch, hop]; rfl⟩) hTh p1 p2 (nblt p3) (nbeq p4) p5)
  case box t x =>
    simp only [sem, hop, argsOf, List.map_cons, List.map_nil, on1] at hok ⊢
    obtain ⟨d, hod, e⟩ := hdst hok
    rw [e] at hok ⊢
    obtain ⟨h1, _⟩ := when_ok hok
    simp only [Bool.and_eq_true] at h1
    exact OpRes.when (box_ok hI hod (hdd d hod) hop (hTd d hod ⟨_, by rw [← hT]; simp only [touch, hop]; rfl⟩) hTh (opd_ok hI (t, x)) h1.1.1)
  case build t ps =>
    have he : (argsOf P o).map (fun x => a.eval x.2) = ps.toList.map fun p => a.eval p.2 := by
      simp only [argsOf, hop, List.map_map]; rfl
    rw [he] at hvs
    have hs : ∀ vs rd, sem P deep o vs rd = semBuild P t (ps.toList.map (·.1)) vs := fun vs rd => by simp only [sem, hop]
    rw [hs] at hok ⊢
    exact semBuild_ok hI hd hop hvs hok
  case buildSlice t n ps =>
    have he : (argsOf P o).map (fun x => a.eval x.2) = ps.toList.map fun p => a.eval p.2 := by
      simp only [argsOf, hop, List.map_map]; rfl
    rw [he] at hvs
    have hs : ∀ vs rd, sem P deep o vs rd = onDst o.dst fun d => semBuildSlice P deep d rd t n (ps.toList.map (·.1)) vs := fun vs rd => by simp only [sem, hop]
    rw [hs] at hok ⊢
    obtain ⟨d, hod, e⟩ := hdst hok
    rw [e] at hok ⊢
    exact buildSlice_ok hI hod (hdd d hod) hop (hTd d hod ⟨_, by rw [← hT]; simp only [touch, hop]; rfl⟩) hTh hvs hok
  case load t p =>
    simp only [sem, hop, argsOf, List.map_cons, List.map_nil, on1] at hok ⊢
    exact load_ok hI hd hop (opd_ok hI (0, p)) hok
  case store t p x =>
    have hp := opd_ok hI (0, p)
    simp only [sem, hop, argsOf, List.map_cons, List.map_nil, on2] at hok ⊢
    generalize opd P st.env (0, p) = vp at hok hp ⊢
    cases vp with
    | ptrB r j => exact storeB_ok hI hd hop hTh hp (opd_ok hI (t, x)) hok
    | ptrE q i off => exact storeE_ok hI hd hop hTh hp (opd_ok hI (t, x)) hok
    | _ => cases hok
  case nilCheck x =>
    have hp := opd_ok hI (0, x)
    simp only [sem, hop, argsOf, List.map_cons, List.map_nil, on1] at hok ⊢
    generalize opd P st.env (0, x) = vp at hok hp ⊢
    cases vp with
    | ptrB r j => exact nilCheck_ok hI hd hop hp (by obtain ⟨_, _, _, _, h⟩ := hp; exact ⟨_, h⟩)
    | ptrE q i off =>
      refine nilCheck_ok hI hd hop hp ?_
      simp only [Rv, namePtrE] at hp
      split at hp
      · exact ⟨_, hp.2⟩
      · exact hp.elim
    | pim n xs off => exact nilCheck_ok hI hd hop hp (by obtain ⟨_, _, _, h, _⟩ := hp; exact ⟨_, h⟩)
    | _ => cases hok
  case binOp op t x y yt =>
    simp only [sem, hop, argsOf, List.map_cons, List.map_nil, on2] at hok ⊢
    exact semBin_ok hI hd hop (opd_ok hI (t, x)) (opd_ok hI (t, y)) hok
  case unOp op t x =>
    simp only [sem, hop, argsOf, List.map_cons, List.map_nil, on1] at hok ⊢
    exact semUn_ok hI hd hop (opd_ok hI (t, x)) hok
  case convert s t x =>
    simp only [sem, hop, argsOf, List.map_cons, List.map_nil, on1] at hok ⊢
    obtain ⟨d, hod, e⟩ := hdst hok
    rw [e] at hok ⊢
    exact convert_ok hI hod (hdd d hod) hop (hTd d hod ⟨_, by rw [← hT]; simp only [touch, hop]; rfl⟩) hTh (opd_ok hI (s, x)) hok
  case makeInterface t x =>
    simp only [sem, hop, argsOf, List.map_cons, List.map_nil, on1] at hok ⊢
    have h1 := (when_ok hok).1
    simp only [Bool.and_eq_true] at h1
    exact OpRes.when (makeInterface_ok hI hd hop (opd_ok hI (t, x)) h1.2)
  case makeFunc tgt first caps =>
    have he : (argsOf P o).map (fun x => a.eval x.2) = (first ++ caps).toList.map a.eval := by
      simp only [argsOf, hop, List.map_map]; rfl
    rw [he] at hvs
    cases tgt with
    | func f =>
      have hs : ∀ vs rd, sem P deep o vs rd = Eff.put (.fn f (vs.take first.size) (vs.drop first.size)) := fun vs rd => by simp only [sem, hop]
      rw [hs] at hok ⊢
      exact makeFunc_ok hI hd hop hvs
    | _ => simp only [sem, hop] at hok; cases hok
  case makeSlice t l c =>
    simp only [sem, hop, argsOf, List.map_cons, List.map_nil, on2] at hok ⊢
    obtain ⟨k1, n1, h1, e1⟩ := hint hok (opd_ok hI (0, l))
    rw [e1] at hok ⊢
    obtain ⟨k2, n2, h2, e2⟩ := hint hok (opd_ok hI (0, c))
    rw [e2] at hok ⊢
    obtain ⟨d, hod, e⟩ := hdst hok
    rw [e] at hok ⊢
    exact make_ok hI hod (hdd d hod) hop (hTd d hod ⟨_, by rw [← hT]; simp only [touch, hop]; rfl⟩) hTh h1 h2 hok
  case slice t x lo hi mx =>
    cases mx with
    | some m => simp only [sem, hop] at hok; cases hok
    | none =>
      have hs : ∀ vs rd, sem P deep o vs rd = semSliceOp P rd t lo.isSome hi.isSome vs := fun vs rd => by simp only [sem, hop]
      rw [hs] at hok ⊢
      cases lo with
      | none =>
        cases hi with
        | none =>
          simp only [argsOf, hop, Option.toList_none, List.append_nil, List.map_nil, List.map_cons, semSliceOp, Option.isSome] at hok ⊢
          exact semSlice_ok hI hd hop (opd_ok hI (t, x)) .none .none hok
        | some h =>
          simp only [argsOf, hop, Option.toList_none, Option.toList_some, List.nil_append, List.append_nil, List.map_nil, List.map_cons, semSliceOp, Option.isSome] at hok ⊢
          obtain ⟨k1, n1, h1, e1⟩ := hint hok (opd_ok hI (0, h))
          rw [e1] at hok ⊢
          exact semSlice_ok hI hd hop (opd_ok hI (t, x)) .none (by rw [Option.map_some, h1]; exact .some k1 n1) hok
      | some l =>
        cases hi with
        | none =>
          simp only [argsOf, hop, Option.toList_none, Option.toList_some, List.nil_append, List.append_nil, List.map_nil, List.map_cons, semSliceOp, Option.isSome] at hok ⊢
          obtain ⟨k1, n1, h1, e1⟩ := hint hok (opd_ok hI (0, l))
          rw [e1] at hok ⊢
          exact semSlice_ok hI hd hop (opd_ok hI (t, x)) (by rw [Option.map_some, h1]; exact .some k1 n1) .none hok
        | some h =>
          simp only [argsOf, hop, Option.toList_none, Option.toList_some, List.cons_append, List.nil_append, List.append_nil, List.map_nil, List.map_cons, semSliceOp, Option.isSome] at hok ⊢
          obtain ⟨k1, n1, h1, e1⟩ := hint hok (opd_ok hI (0, l))
          rw [e1] at hok ⊢
          obtain ⟨k2, n2, h2, e2⟩ := hint hok (opd_ok hI (0, h))
          rw [e2] at hok ⊢
          exact semSlice_ok hI hd hop (opd_ok hI (t, x)) (by rw [Option.map_some, h1]; exact .some k1 n1) (by rw [Option.map_some, h2]; exact .some k2 n2) hok
  case fieldAddr t x f =>
    simp only [sem, hop, argsOf, List.map_cons, List.map_nil, on1] at hok ⊢
    exact semField_ok hI hd hop (opd_ok hI (t, x)) hok
  case field t x f =>
    simp only [sem, hop, argsOf, List.map_cons, List.map_nil, on1] at hok ⊢
    exact field_ok hI hd hop (opd_ok hI (t, x)) hok
  case indexAddr t x i =>
    simp only [sem, hop, argsOf, List.map_cons, List.map_nil, on2] at hok ⊢
    obtain ⟨k1, n1, h1, e1⟩ := hint hok (opd_ok hI (0, i))
    rw [e1] at hok ⊢
    exact semIndexAddr_ok hI hd hop (opd_ok hI (t, x)) h1 hok
  case index t x i =>
    simp only [sem, hop, argsOf, List.map_cons, List.map_nil, on2] at hok ⊢
    obtain ⟨str, h1, e1⟩ := hstr hok (opd_ok hI (t, x))
    rw [e1] at hok ⊢
    obtain ⟨k2, n2, h2, e2⟩ := hint hok (opd_ok hI (0, i))
    rw [e2] at hok ⊢
    have h3 := (when_ok hok).1
    simp only [Bool.and_eq_true, decide_eq_true_eq] at h3
    exact OpRes.when (index_ok hI hd hop h1 h2 (isStrT_spec h3.1.1) h3.1.2 h3.2)
  case extract x i =>
    have hx := opd_ok hI (0, x)
    simp only [sem, hop, argsOf, List.map_cons, List.map_nil, on1] at hok ⊢
    generalize opd P st.env (0, x) = vx at hok hx ⊢
    cases vx with
    | tp xs => exact OpRes.when (extract_ok hI hd hop hx (nblt (when_ok hok).1))
    | _ => cases hok
  case call c =>
    have hs : ∀ vs rd, sem P deep o vs rd = semBuiltin P deep o.dst rd c vs := fun vs rd => by simp only [sem, hop]
    rw [hs] at hok ⊢
    obtain ⟨callee, args, tys⟩ := c
    cases callee with
    | builtin b =>
      have he : argsOf P o = tys.toList.zip args.toList := by simp only [argsOf, hop, List.nil_append]
      rw [he] at hok ⊢
      obtain ⟨args⟩ := args
      obtain ⟨tys⟩ := tys
      have hTd' := fun d hod => hTd d hod ⟨_, by rw [← hT]; simp only [touch, hop]; rfl⟩
      cases b <;> try (simp only [semBuiltin] at hok; cases hok; done)
      case len =>
        match tys, args, he, hok, hop with
        | [t], [x], he, hok, hop =>
          exact semLen_ok hI hd hop (opd_ok hI (t, x)) hok
        | [], _, _, hok, _ => simp only [semBuiltin] at hok; cases hok
        | _ :: _ :: _, _, _, hok, _ => simp only [semBuiltin] at hok; cases hok
        | [_], [], _, hok, _ => simp only [semBuiltin] at hok; cases hok
        | [_], _ :: _ :: _, _, hok, _ => simp only [semBuiltin] at hok; cases hok
      case append =>
        match tys, args, he, hok, hop with
        | [t, xt], [x, y], he, hok, hop =>
          have e : ∀ vx vy rd, semBuiltin P deep o.dst rd { callee := .builtin .append, args := ⟨[x, y]⟩, argTypes := ⟨[t, xt]⟩ } [vx, vy] = onDst o.dst fun d => semAppend P deep d rd t xt vx vy := fun _ _ _ => rfl
          simp only [List.zip_cons_cons, List.zip_nil_right, List.map_cons, List.map_nil] at hok ⊢
          rw [e] at hok ⊢
          obtain ⟨d, hod, e⟩ := hdst hok
          rw [e] at hok ⊢
          exact append_ok hI hod (hdd d hod) hop (hTd' d hod) hTh (opd_ok hI (t, x)) (opd_ok hI (xt, y)) hok
        | [], _, _, hok, _ => simp only [semBuiltin] at hok; cases hok
        | [_], _, _, hok, _ => simp only [semBuiltin] at hok; cases hok
        | _ :: _ :: _ :: _, _, _, hok, _ => simp only [semBuiltin] at hok; cases hok
        | [_, _], [], _, hok, _ => simp only [semBuiltin] at hok; cases hok
        | [_, _], [_], _, hok, _ => simp only [semBuiltin] at hok; cases hok
        | [_, _], _ :: _ :: _ :: _, _, hok, _ => simp only [semBuiltin] at hok; cases hok
      case max =>
        match tys, args, he, hok, hop with
        | t1 :: t2 :: ts, [x, y], he, hok, hop =>
          simp only [List.zip_cons_cons, List.zip_nil_right, List.map_cons, List.map_nil, semBuiltin] at hok ⊢
          exact minmax_ok hI hd true hop (opd_ok hI (t1, x)) (opd_ok hI (t2, y)) hok
        | [], _, _, hok, _ => simp [semBuiltin] at hok; cases hok
        | [_], [], _, hok, _ => simp only [semBuiltin] at hok; cases hok
        | [_], [_], _, hok, _ => simp only [semBuiltin] at hok; cases hok
        | [_], [_, _], _, hok, _ => simp [semBuiltin] at hok; cases hok
        | [_], _ :: _ :: _ :: _, _, hok, _ => simp only [semBuiltin] at hok; cases hok
        | _ :: _ :: _, [], _, hok, _ => simp only [semBuiltin] at hok; cases hok
        | _ :: _ :: _, [_], _, hok, _ => simp only [semBuiltin] at hok; cases hok
        | _ :: _ :: _, _ :: _ :: _ :: _, _, hok, _ => simp only [semBuiltin] at hok; cases hok
      case min =>
        match tys, args, he, hok, hop with
        | t1 :: t2 :: ts, [x, y], he, hok, hop =>
          simp only [List.zip_cons_cons, List.zip_nil_right, List.map_cons, List.map_nil, semBuiltin] at hok ⊢
          exact minmax_ok hI hd false hop (opd_ok hI (t1, x)) (opd_ok hI (t2, y)) hok
        | [], _, _, hok, _ => simp [semBuiltin] at hok; cases hok
        | [_], [], _, hok, _ => simp only [semBuiltin] at hok; cases hok
        | [_], [_], _, hok, _ => simp only [semBuiltin] at hok; cases hok
        | [_], [_, _], _, hok, _ => simp [semBuiltin] at hok; cases hok
        | [_], _ :: _ :: _ :: _, _, hok, _ => simp only [semBuiltin] at hok; cases hok
        | _ :: _ :: _, [], _, hok, _ => simp only [semBuiltin] at hok; cases hok
        | _ :: _ :: _, [_], _, hok, _ => simp only [semBuiltin] at hok; cases hok
        | _ :: _ :: _, _ :: _ :: _ :: _, _, hok, _ => simp only [semBuiltin] at hok; cases hok
    | value f => simp only [semBuiltin] at hok; cases hok
    | invoke r n => simp only [semBuiltin] at hok; cases hok
end
end Go.Ab
