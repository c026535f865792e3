/- Regions in the order of the text. -/
import Derived.Test.YtnjgofgogeileaaE28
import Derived.Tactics
namespace Go.Ab
open Go
set_option linter.unusedSimpArgs false
set_option linter.unusedVariables false

section
variable {C : Cfg} {callK : CallK} {fid : FuncId} {w0 w w' : World} {F : FG} {N : Nat} {st : St} {a : Act} {G G' : Nat → Prop} {gm gm' : GM} {R : Type}

/-- One operation, to its state and footprint. -/
def opS (C : Cfg) (callK : CallK) (fid : FuncId) (o : Oper) (st : St) : Option (St × Foot) := opK C callK fid o st fun s f => some (s, f)

theorem cond_bind {α β : Type} (b : Bool) (x : Option α) (f : α → Option β) : (bif b then x.bind f else none) = (bif b then x else none).bind f := by cases b <;> rfl

theorem opK_eq (o : Oper) (st : St) (κ : St → Foot → Option R) : opK C callK fid o st κ = (opS C callK fid o st).bind fun p => κ p.1 p.2 := by
  unfold opS opK
  simp only
  split
  · next op vs f xs ts g first caps ws h1 h2 =>
    generalize prep C g _ _ = p
    cases (p.ok && Nat.beq ws.length xs.size) with
    | false => rfl
    | true =>
      simp only [cond_true]
      split
      · next gs hgs =>
        generalize callK g p.vs gs = r
        generalize semRet _ _ _ _ _ _ _ = e
        cases (r.1 && e.ok) <;> rfl
      · rfl
  · generalize sem _ _ _ _ _ = e
    cases e.ok <;> rfl

theorem wp_of_res {P : Program} {o : Oper} {e : Eff} (h : OpRes P w0 F N st a w G o e) {K : Act → World → Prop} {Q : Exit → Act → World → Prop}
    (hK : ∀ a' w' G' gm', (∀ b, G b → G' b) → Inv P w0 F N (st.app e o.dst) a' w' G' gm' → K a' w') : o.wp P a w K Q := by
  obtain ⟨v, w', nx, G', gm', h1, h2, h3, h4⟩ := h
  unfold Oper.wp
  rw [h1]
  rcases h2 with rfl | ⟨rfl, rfl⟩
  · exact hK _ _ G' gm' h3 h4
  · exact hK _ _ G' gm' h3 h4

theorem opS_ok (hK : CallSound C.P callK) (hI : Inv C.P w0 F N st a w G gm) {o : Oper} (hd : ∀ x, o.dst = some x → x < N) {st' : St} {f : Foot} (h : opS C callK fid o st = some (st', f))
    {K : Act → World → Prop} {Q : Exit → Act → World → Prop} (hKK : ∀ a' w' G' gm', (∀ b, G b → G' b) → Inv C.P w0 F N st' a' w' G' gm' → K a' w') : o.wp C.P a w K Q := by
  unfold opS opK at h
  simp only at h
  split at h
  · next op vs fo xs ts g first caps ws h1 h2 =>
    generalize hT : touch o _ = T at h
    generalize hp : prep C g _ _ = p at h
    generalize hfr : (!((C.sig g).scalar && p.bn.isEmpty) && !p.bv.isEmpty) = fr at h
    cases hok : (p.ok && Nat.beq ws.length xs.size) with
    | false => rw [hok] at h; cases h
    | true =>
      rw [hok] at h
      simp only [Bool.and_eq_true] at hok
      simp only [cond_true] at h
      split at h
      · next gs hgs =>
        cases hre : ((callK g p.vs gs).1 && (semRet o.dst (only T (bif fr then st.fz C.P p.bv else st).regs) p.bn gs (C.sig g) (callK g p.vs gs).2.1 (callK g p.vs gs).2.2).ok) with
        | false => rw [hre] at h; cases h
        | true =>
          rw [hre] at h
          simp only [cond_true, Option.some.injEq, Prod.mk.injEq] at h
          obtain ⟨rfl, _⟩ := h
          rw [Bool.and_eq_true] at hre
          exact call_ok (w := w) hK hI hd h1 h2 (nbeq hok.2) hp hok.1 hfr hgs (v := (callK g p.vs gs).2.1) (gs' := (callK g p.vs gs).2.2) (by rw [← hre.1]) hre.2 hKK
      · cases h
  · cases hok : (sem C.P (C.deep fid) o ((argsOf C.P o).map (opd C.P st.env)) (only (touch o ((argsOf C.P o).map (opd C.P st.env))) st.regs)).ok with
    | false => rw [hok] at h; cases h
    | true =>
      rw [hok] at h
      simp only [cond_true, Option.some.injEq, Prod.mk.injEq] at h
      obtain ⟨rfl, _⟩ := h
      exact wp_of_res (sem_ok hI o hd hok) hKK

/-! ### operations that wait for others -/
theorem set_same {t : Nat} {v : V} (h : st.env t = v) : st.set (some t) v = st := by
  have : (fun i => bif isDst (some t) i then v else st.env i) = st.env := by
    funext i
    cases hi : isDst (some t) i with
    | false => rfl
    | true => rw [(isDst_some t i).1 hi, h]; rfl
  simp only [St.set, this]

theorem Inv.dead {P : Program} (hI : Inv P w0 F N st a w G gm) {d : Option Nat} (hd : ∀ x, d = some x → x < N) : Inv P w0 F N (st.set d (.tp [])) (a.put d undef) w G gm :=
  hI.quiet (Eff.put (.tp [])) d hd undef rfl rfl (fun _ => ⟨#[], rfl, trivial⟩)

theorem yielded_ok {P : Program} (hI : Inv P w0 F N st a w G gm) {ops : Array Oper} {g t : Nat} (ht : guardDst ops g = some t) {c : Bool} (hc : st.env t = .sc (.bool c)) : yielded ops a.tmps g = some c := by
  have h := hI.env t
  rw [hc] at h
  have h1 : a.tmps.getD t undef = .bool c := h.1
  have h2 : a.tmps[t]? = some (.bool c) := by
    rcases Nat.lt_or_ge t a.tmps.size with hl | hl
    · rw [Array.getElem?_eq_getElem hl]
      simp only [Array.getD, hl, dite_true] at h1
      exact congrArg some h1
    · simp [Array.getD, Nat.not_lt.2 hl, undef] at h1
  unfold guardDst at ht
  simp only [yielded, ht, Option.bind_some, h2]

theorem unyielded_ok {P : Program} (hI : Inv P w0 F N st a w G gm) {ops : Array Oper} {g t : Nat} (ht : guardDst ops g = some t) (hc : st.env t = .tp []) : yielded ops a.tmps g = none := by
  have h := hI.env t
  rw [hc] at h
  obtain ⟨cs, h1, h3⟩ := h
  unfold guardDst at ht
  simp only [yielded, ht, Option.bind_some]
  rcases Nat.lt_or_ge t a.tmps.size with hl | hl
  · rw [Array.getElem?_eq_getElem hl]
    simp only [Array.getD, hl, dite_true] at h1
    have h1' : a.tmps[t] = .tuple cs := h1
    rw [h1']
  · rw [Array.getElem?_eq_none hl]

theorem wanted_ok {P : Program} (hI : Inv P w0 F N st a w G gm) {ops : Array Oper} {o : Oper} {g t : Nat} {want : Bool} (hg : o.guard = some (g, want)) (ht : guardDst ops g = some t) {c : Bool} (hc : st.env t = .sc (.bool c)) :
    Region.wanted o (yielded ops a.tmps) = (c == want) := by
  simp only [Region.wanted, hg, yielded_ok hI ht hc]
  cases c <;> cases want <;> rfl
theorem unwanted_ok {P : Program} (hI : Inv P w0 F N st a w G gm) {ops : Array Oper} {o : Oper} {g t : Nat} {want : Bool} (hg : o.guard = some (g, want)) (ht : guardDst ops g = some t) (hc : st.env t = .tp []) :
    Region.wanted o (yielded ops a.tmps) = false := by
  simp only [Region.wanted, hg, unyielded_ok hI ht hc]
  rfl

/-- One operation of a region: it is run, or it is not wanted. -/
def stepS (C : Cfg) (callK : CallK) (fid : FuncId) (ops : Array Oper) (o : Oper) (st : St) (st' : St) (f : Foot) : Prop :=
  match o.guard with
  | none => opS C callK fid o st = some (st', f)
  | some (g, want) => ∃ t, guardDst ops g = some t ∧
      (st.env t = .sc (.bool want) ∧ opS C callK fid o st = some (st', f) ∨ (st.env t = .sc (.bool !want) ∨ st.env t = .tp []) ∧ st' = st.set o.dst (.tp []) ∧ f = Foot.nil)

theorem stepS_ok (hK : CallSound C.P callK) (hI : Inv C.P w0 F N st a w G gm) {ops : Array Oper} {o : Oper} (hd : ∀ x, o.dst = some x → x < N) {st' : St} {f : Foot} (h : stepS C callK fid ops o st st' f)
    {K : Act → World → Prop} {Q : Exit → Act → World → Prop} (hKK : ∀ a' w' G' gm', (∀ b, G b → G' b) → Inv C.P w0 F N st' a' w' G' gm' → K a' w') :
    if Region.wanted o (yielded ops a.tmps) then o.wp C.P a w K Q ∨ (o.asks C.P a w ∧ LetsOut Q) else K (a.put o.dst undef) w := by
  unfold stepS at h
  split at h
  · next hg =>
    simp only [Region.wanted, hg, if_true]
    exact .inl (opS_ok hK hI hd h hKK)
  · next g want hg =>
    obtain ⟨t, h1, h3⟩ := h
    rcases h3 with ⟨h2, h4⟩ | ⟨h2, rfl, _⟩
    · rw [wanted_ok hI hg h1 h2, if_pos (by simp)]
      exact .inl (opS_ok hK hI hd h4 hKK)
    · have : Region.wanted o (yielded ops a.tmps) = false := by
        rcases h2 with h2 | h2
        · rw [wanted_ok hI hg h1 h2]; cases want <;> rfl
        · exact unwanted_ok hI hg h1 h2
      rw [this, if_neg (by simp)]
      exact hKK _ _ G gm (fun _ h => h) (hI.dead hd)

/-- What the machine does with one operation of a region. -/
theorem opsK_step {ops : Array Oper} {bef : Option (Array Nat)} {o : Oper} {rest : List Oper} {i : Nat} {log : List (Nat × Oper × Foot)} {κ : St → Option R} {r : R} (h : opsK C callK fid ops bef (o :: rest) i log st κ = some r) :
    ∃ st' f, stepS C callK fid ops o st st' f ∧
      match (generalizing := false) bef with
      | none => opsK C callK fid ops bef rest (i + 1) log st' κ = some r
      | some b => f.bad = false ∧ apartLog ops (b.getD i 0) o log f = true ∧ opsK C callK fid ops bef rest (i + 1) ((i, o, f) :: log) st' κ = some r := by
  have go : ∀ (s : St), opK C callK fid o s (fun st' f => match (generalizing := false) bef with
        | none => opsK C callK fid ops bef rest (i + 1) log st' κ
        | some b => bif !f.bad && apartLog ops (b.getD i 0) o log f then opsK C callK fid ops bef rest (i + 1) ((i, o, f) :: log) st' κ else none) = some r →
      ∃ st' f, opS C callK fid o s = some (st', f) ∧ match (generalizing := false) bef with
      | none => opsK C callK fid ops bef rest (i + 1) log st' κ = some r
      | some b => f.bad = false ∧ apartLog ops (b.getD i 0) o log f = true ∧ opsK C callK fid ops bef rest (i + 1) ((i, o, f) :: log) st' κ = some r := by
    intro s h
    rw [opK_eq] at h
    cases ho : opS C callK fid o s with
    | none => rw [ho] at h; cases h
    | some p =>
      rw [ho] at h
      simp only [Option.bind_some] at h
      refine ⟨p.1, p.2, rfl, ?_⟩
      cases bef with
      | none => exact h
      | some b =>
        simp only at h ⊢
        cases hc : (!p.2.bad && apartLog ops (b.getD i 0) o log p.2) with
        | false => rw [hc] at h; cases h
        | true =>
          rw [hc] at h
          simp only [Bool.and_eq_true, Bool.not_eq_true'] at hc
          exact ⟨hc.1, hc.2, h⟩
  have no : ∀ (s : St), (match (generalizing := false) bef with
        | none => opsK C callK fid ops bef rest (i + 1) log s κ
        | some b => bif apartLog ops (b.getD i 0) o log Foot.nil then opsK C callK fid ops bef rest (i + 1) ((i, o, Foot.nil) :: log) s κ else none) = some r →
      match (generalizing := false) bef with
      | none => opsK C callK fid ops bef rest (i + 1) log s κ = some r
      | some b => Foot.nil.bad = false ∧ apartLog ops (b.getD i 0) o log Foot.nil = true ∧ opsK C callK fid ops bef rest (i + 1) ((i, o, Foot.nil) :: log) s κ = some r := by
    intro s h
    cases bef with
    | none => exact h
    | some b =>
      simp only at h ⊢
      cases hc : apartLog ops (b.getD i 0) o log Foot.nil with
      | false => rw [hc] at h; cases h
      | true => rw [hc] at h; exact ⟨rfl, rfl, h⟩
  unfold opsK at h
  simp only at h
  unfold stepS
  split at h
  · next hg =>
    rw [hg]
    obtain ⟨st', f, h1, h2⟩ := go st h
    exact ⟨st', f, h1, h2⟩
  · next g want hg =>
    rw [hg]
    simp only
    split at h
    · cases h
    · next t ht =>
      split at h
      · next c hc =>
        have hset : ∀ c', st.env t = .sc (.bool c') → st.set (some t) (.sc (.bool c')) = st := fun c' h => set_same h
        cases c with
        | true =>
          rw [hset true hc] at h
          simp only [cond_true] at h
          cases want with
          | true =>
            simp only [cond_true] at h
            obtain ⟨st', f, h1, h2⟩ := go st h
            exact ⟨st', f, ⟨t, ht, .inl ⟨hc, h1⟩⟩, h2⟩
          | false =>
            simp only [cond_false] at h
            exact ⟨_, Foot.nil, ⟨t, ht, .inr ⟨.inl hc, rfl, rfl⟩⟩, no _ h⟩
        | false =>
          rw [hset false hc] at h
          simp only [cond_false] at h
          cases want with
          | false =>
            simp only [cond_false] at h
            obtain ⟨st', f, h1, h2⟩ := go st h
            exact ⟨st', f, ⟨t, ht, .inl ⟨hc, h1⟩⟩, h2⟩
          | true =>
            simp only [cond_true] at h
            exact ⟨_, Foot.nil, ⟨t, ht, .inr ⟨.inl hc, rfl, rfl⟩⟩, no _ h⟩
      · next hc => exact ⟨_, Foot.nil, ⟨t, ht, .inr ⟨.inr hc, rfl, rfl⟩⟩, no _ h⟩
      · cases h

/-- A region in the order of the text. -/
theorem opsK_ok (hK : CallSound C.P callK) {ops : Array Oper} {κ : St → Option R} {r : R} {Q : Exit → Act → World → Prop} : ∀ (l : List Oper) {i : Nat} {log : List (Nat × Oper × Foot)} {st : St} {a : Act} {w : World} {G : Nat → Prop} {gm : GM},
    Inv C.P w0 F N st a w G gm → (∀ o ∈ l, ∀ x, o.dst = some x → x < N) → opsK C callK fid ops none l i log st κ = some r →
    (∀ st' a' w' G' gm', κ st' = some r → (∀ b, G b → G' b) → Inv C.P w0 F N st' a' w' G' gm' → Q .normal a' w') → wpList C.P ops Q l a w
  | [], i, log, st, a, w, G, gm, hI, _, h, hQ => hQ st a w G gm h (fun _ h => h) hI
  | o :: l, i, log, st, a, w, G, gm, hI, hd, h, hQ => by
    obtain ⟨st', f, h1, h2⟩ := opsK_step h
    simp only at h2
    simp only [wpList]
    exact stepS_ok hK hI (hd o (by simp)) h1 (fun a' w' G' gm' hG hI' => opsK_ok hK l hI' (fun o ho => hd o (by simp [ho])) h2 (fun st'' a'' w'' G'' gm'' hk hg hi => hQ st'' a'' w'' G'' gm'' hk (fun b hb => hg b (hG b hb)) hi))
end
end Go.Ab
