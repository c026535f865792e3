/- Changes of the regions: what is taken, what is frozen, what is new; and what the names then stand for. -/
import Derived.Test.YtnjgofgogeileaaE4
namespace Go.Ab
open Go

section
variable {P : Program} {w0 w w' : World} {F : FG} {regs regs' : Nm → Option Rg} {G G' : Nat → Prop} {gm gm' : GM}

theorem Regs.ok (h : Regs P w0 F regs w G gm) {r : Nm} {rg : Rg} (hr : regs r = some rg) : ∃ R, gm r = some R ∧ RgOk w G P rg R := by
  have := h.reg r
  rw [hr] at this
  cases hg : gm r with
  | none => rw [hg] at this; exact this.elim
  | some R => rw [hg] at this; exact ⟨R, rfl, this⟩

theorem Regs.ok' (h : Regs P w0 F regs w G gm) {r : Nm} {R : RG} (hr : gm r = some R) : ∃ rg, regs r = some rg ∧ RgOk w G P rg R := by
  have := h.reg r
  rw [hr] at this
  cases hg : regs r with
  | none => rw [hg] at this; exact this.elim
  | some rg => rw [hg] at this; exact ⟨rg, rfl, this⟩

theorem Regs.none (h : Regs P w0 F regs w G gm) {r : Nm} (hr : regs r = none) : gm r = none := by
  have := h.reg r
  rw [hr] at this
  cases hg : gm r with
  | none => rfl
  | some R => rw [hg] at this; exact this.elim

theorem Regs.lt (h : Regs P w0 F regs w G gm) {r : Nm} {R : RG} (hr : gm r = some R) : ∀ k ∈ R.fp, k < w.heap.size := by
  obtain ⟨rg, _, hok⟩ := h.ok' hr
  exact hok.lt

/-- A block of the regions in C. -/
def InC (C : Nm → Prop) (gm : GM) (b : Nat) : Prop := ∃ r R, C r ∧ gm r = some R ∧ b ∈ R.fp

/-- The regions in C are changed: they hold, of old blocks, none but their own; all else stands. -/
theorem Regs.change (h : Regs P w0 F regs w G gm) (C : Nm → Prop)
    (hw : ∀ k, k < w.heap.size → ¬ InC C gm k → w'.heap[k]? = w.heap[k]?)
    (hos : w'.os = w.os) (htape : w'.tape = w.tape) (hout : w'.output = w.output) (hsize : w.heap.size ≤ w'.heap.size)
    (hsame : ∀ r, ¬ C r → regs' r = regs r ∧ gm' r = gm r)
    (hnew : ∀ r, C r → match regs' r, gm' r with | some rg, some R => RgOk w' G' P rg R | .none, .none => True | _, _ => False)
    (hnd : ∀ r R, C r → gm' r = some R → R.fp.Nodup)
    (hdj : ∀ r r' R R', C r → C r' → r ≠ r' → gm' r = some R → gm' r' = some R' → ∀ b, b ∈ R.fp → b ∉ R'.fp)
    (hsrc : ∀ r R b, C r → gm' r = some R → b ∈ R.fp → InC C gm b ∨ w.heap.size ≤ b)
    (hG1 : ∀ b, G b → G' b)
    (hG2 : ∀ b, G' b → G b ∨ ((InC C gm b ∨ w.heap.size ≤ b) ∧ b < w'.heap.size ∧ ¬ InC C gm' b))
    (hpar : ∀ i R, C (.par i) → gm' (.par i) = some R → ParOk F i R := by intro i R h; simp at h) :
    Regs P w0 F regs' w' G' gm' := by
  have hGw : ∀ k, G k → w'.heap[k]? = w.heap[k]? := by
    intro k hk
    refine hw k (h.old k hk) ?_
    rintro ⟨r, R, _, hr, hb⟩
    exact h.apart r R k hr hb hk
  have other : ∀ r R, ¬ C r → gm r = some R → ∀ b ∈ R.fp, ¬ InC C gm b ∧ b < w.heap.size := by
    intro r R hc hr b hb
    refine ⟨?_, h.lt hr b hb⟩
    rintro ⟨r', R', hc', hr', hb'⟩
    exact h.disj r r' R R' (fun e => hc (e ▸ hc')) hr hr' b hb hb'
  refine ⟨?_, ?_, ?_, ?_, ?_, ?_, ?_, fun b hb => hG1 b (h.base b hb), ?_, ?_⟩
  · intro r
    by_cases hc : C r
    · exact hnew r hc
    · obtain ⟨e1, e2⟩ := hsame r hc
      rw [e1, e2]
      have := h.reg r
      cases hr : regs r with
      | none => rw [hr] at this; cases hg : gm r <;> rw [hg] at this <;> simp_all
      | some rg =>
        rw [hr] at this
        cases hg : gm r with
        | none => rw [hg] at this; exact this.elim
        | some R =>
          rw [hg] at this
          exact this.frame hGw hG1 (fun k hk => hw k (other r R hc hg k hk).2 (other r R hc hg k hk).1)
  · intro r R hr
    by_cases hc : C r
    · exact hnd r R hc hr
    · exact h.nodup r R ((hsame r hc).2 ▸ hr)
  · intro r r' R R' hne hr hr' b hb hb'
    by_cases hc : C r <;> by_cases hc' : C r'
    · exact hdj r r' R R' hc hc' hne hr hr' b hb hb'
    · rw [(hsame r' hc').2] at hr'
      rcases hsrc r R b hc hr hb with h1 | h1
      · exact (other r' R' hc' hr' b hb').1 h1
      · exact absurd (other r' R' hc' hr' b hb').2 (by omega)
    · rw [(hsame r hc).2] at hr
      rcases hsrc r' R' b hc' hr' hb' with h1 | h1
      · exact (other r R hc hr b hb).1 h1
      · exact absurd (other r R hc hr b hb).2 (by omega)
    · rw [(hsame r hc).2] at hr
      rw [(hsame r' hc').2] at hr'
      exact h.disj r r' R R' hne hr hr' b hb hb'
  · intro r R b hr hb hg
    by_cases hc : C r
    · rcases hG2 b hg with h1 | ⟨_, _, h3⟩
      · rcases hsrc r R b hc hr hb with ⟨r', R', _, h2, h3⟩ | h2
        · exact h.apart r' R' b h2 h3 h1
        · have := h.old b h1; omega
      · exact h3 ⟨r, R, hc, hr, hb⟩
    · rw [(hsame r hc).2] at hr
      rcases hG2 b hg with h1 | ⟨h2, _, _⟩
      · exact h.apart r R b hr hb h1
      · rcases h2 with h2 | h2
        · exact (other r R hc hr b hb).1 h2
        · exact absurd (other r R hc hr b hb).2 (by omega)
  · intro r R b hr hb
    by_cases hc : C r
    · rcases hsrc r R b hc hr hb with ⟨r', R', _, h2, h3⟩ | h2
      · exact h.mine r' R' b h2 h3
      · exact .inl (Nat.le_trans h.keep.size h2)
    · exact h.mine r R b ((hsame r hc).2 ▸ hr) hb
  · intro b hb
    rcases hG2 b hb with h1 | ⟨_, h2, _⟩
    · exact Nat.lt_of_lt_of_le (h.old b h1) hsize
    · exact h2
  · refine ⟨hos.trans h.keep.os, htape.trans h.keep.tape, hout.trans h.keep.output, Nat.le_trans h.keep.size hsize, fun k hk hF => ?_⟩
    rw [hw k (Nat.lt_of_lt_of_le hk h.keep.size) ?_]
    · exact h.keep.block k hk hF
    · rintro ⟨r, R, _, hr, hb⟩
      rcases h.mine r R k hr hb with h1 | h1
      · omega
      · exact hF h1
  · intro b hb
    rcases hG2 b hb with h1 | ⟨h2, _, _⟩
    · exact h.grow b h1
    · rcases h2 with ⟨r, R, _, hr, hb'⟩ | h2
      · exact .inr (h.mine r R b hr hb')
      · exact .inr (.inl (Nat.le_trans h.keep.size h2))
  · intro i R hr
    by_cases hc : C (.par i)
    · exact hpar i R hc hr
    · exact h.par i R ((hsame _ hc).2 ▸ hr)

/-- Draws and other things that leave memory as it is. -/
theorem Regs.world (h : Regs P w0 F regs w G gm) (hh : w'.heap = w.heap) (hos : w'.os = w.os) (htape : w'.tape = w.tape) (hout : w'.output = w.output) :
    Regs P w0 F regs w' G gm := by
  refine h.change (fun _ => False) (fun k _ _ => by rw [hh]) hos htape hout (by rw [hh]; exact Nat.le_refl _) (fun _ _ => ⟨rfl, rfl⟩) (fun _ h => h.elim)
    (fun _ _ h => h.elim) (fun _ _ _ _ h => h.elim) (fun _ _ _ h => h.elim) (fun _ h => h) (fun _ h => .inl h)

/-! ### names -/

theorem nameRef_head {q : Pl} {v : Value} (h : skHead (skAt gm' q) = skHead (skAt gm q)) (hv : nameRef gm q v) : nameRef gm' q v := by
  unfold nameRef at *
  cases e : skAt gm q <;> cases e' : skAt gm' q <;> rw [e, e'] at h <;> simp [skHead] at h <;> simp only [e] at hv
  · exact hv
  · obtain ⟨rfl, rfl, rfl, rfl⟩ := h; exact hv
theorem nameVw_head {q : Pl} {lo hi : Nat} {v : Value} (h : skHead (skAt gm' q) = skHead (skAt gm q)) (hv : nameVw gm q lo hi v) : nameVw gm' q lo hi v := by
  unfold nameVw at *
  cases e : skAt gm q <;> cases e' : skAt gm' q <;> rw [e, e'] at h <;> simp [skHead] at h <;> simp only [e] at hv
  · exact hv
  · obtain ⟨rfl, rfl, rfl, rfl⟩ := h; exact hv
theorem namePtrE_head {q : Pl} {i off : Nat} {v : Value} (h : skHead (skAt gm' q) = skHead (skAt gm q)) (hv : namePtrE gm q i off v) : namePtrE gm' q i off v := by
  unfold namePtrE at *
  cases e : skAt gm q <;> cases e' : skAt gm' q <;> rw [e, e'] at h <;> simp [skHead] at h <;> simp only [e] at hv
  · obtain ⟨rfl, rfl, rfl, rfl⟩ := h; exact hv

/-- All names but those that are killed stand for what they stood for. -/
structure Stay (k : Kl) (gm gm' : GM) : Prop where
  own : ∀ q, k.hits q = false → skAt gm q ≠ .leaf → skHead (skAt gm' q) = skHead (skAt gm q)
  box : ∀ r R b, r.mem k.a = false → gm r = some R → R.b = some b → ∃ R', gm' r = some R' ∧ R'.b = some b

theorem Stay.refl (k : Kl) (gm : GM) : Stay k gm gm := ⟨fun _ _ _ => rfl, fun _ R _ _ h1 h2 => ⟨R, h1, h2⟩⟩

theorem mem_append_false {n : Nm} {a b : List Nm} (h : n.mem (a ++ b) = false) : n.mem a = false ∧ n.mem b = false := by
  rw [Nm.mem_false] at *
  rw [Nm.mem_false]
  simp at h
  exact h

theorem hits_and {x y : Kl} {q : Pl} (h : (x.and y).hits q = false) : x.hits q = false ∧ y.hits q = false := by
  simp only [Kl.hits, Kl.and, Bool.or_eq_false_iff, Bool.and_eq_false_iff] at *
  obtain ⟨⟨h1, h2⟩, h3⟩ := h
  have h1 := mem_append_false h1
  have h2 := mem_append_false h2
  rcases h3 with h3 | h3
  · exact ⟨⟨⟨h1.1, h2.1⟩, .inl h3⟩, ⟨h1.2, h2.2⟩, .inl h3⟩
  · have h3 := mem_append_false h3
    exact ⟨⟨⟨h1.1, h2.1⟩, .inr h3.1⟩, ⟨h1.2, h2.2⟩, .inr h3.2⟩

theorem skHead_leaf {s : Sk} : skHead s = .leaf ↔ s = .leaf := by cases s <;> simp [skHead]

theorem Stay.trans {k k' : Kl} {gm'' : GM} (h : Stay k gm gm') (h' : Stay k' gm' gm'') : Stay (k.and k') gm gm'' := by
  refine ⟨fun q hq hl => ?_, fun r R b hr h1 h2 => ?_⟩
  · obtain ⟨a, b⟩ := hits_and hq
    have e := h.own q a hl
    rw [← e]
    refine h'.own q b (fun e' => hl ?_)
    rw [e'] at e
    exact skHead_leaf.1 e.symm
  · have hr' : r.mem k.a = false ∧ r.mem k'.a = false := mem_append_false hr
    obtain ⟨R', g1, g2⟩ := h.box r R b hr'.1 h1 h2
    exact h'.box r R' b hr'.2 g1 g2

theorem Kl.hits_no (q : Pl) : Kl.no.hits q = false := by simp [Kl.hits, Kl.no, Nm.mem]

/- What is read stays where its names are not killed. -/
mutual
theorem Rv.kill (hG : ∀ k, G k → w'.heap[k]? = w.heap[k]?) (hGG : ∀ k, G k → G' k) (k : Kl) (hs : Stay k gm gm') :
    ∀ (x : V) (v : Value), Rv w G gm v x → Rv w' G' gm' v (x.kill k)
  | .sc u, v, h => h
  | .nl _, v, h => h
  | .sl sz xs, v, h => Rv.frame hG hGG gm gm' (.sl sz xs) v (fun n hn => by simp [V.names] at hn) h
  | .ag xs, v, h => by
    obtain ⟨cs, h1, h2⟩ := h
    exact ⟨cs, h1, RvL.kill hG hGG k hs xs _ h2⟩
  | .tp xs, v, h => by
    obtain ⟨cs, h1, h2⟩ := h
    exact ⟨cs, h1, RvL.kill hG hGG k hs xs _ h2⟩
  | .fn f a b, v, h => by
    obtain ⟨first, caps, h1, h2, h3⟩ := h
    exact ⟨first, caps, h1, RvL.kill hG hGG k hs a _ h2, RvL.kill hG hGG k hs b _ h3⟩
  | .ifc t x, v, h => by
    obtain ⟨u, h1, h2⟩ := h
    exact ⟨u, h1, Rv.kill hG hGG k hs x u h2⟩
  | .ref q, v, h => by
    simp only [V.kill]
    cases hh : k.hits q
    · simp only [cond_false]
      refine nameRef_head (hs.own q hh ?_) h
      intro e; simp only [Rv, nameRef, e] at h
    · simp only [cond_true]; trivial
  | .vw q lo hi, v, h => by
    simp only [V.kill]
    cases hh : k.hits q
    · simp only [cond_false]
      refine nameVw_head (hs.own q hh ?_) h
      intro e; simp only [Rv, nameVw, e] at h
    · simp only [cond_true]; trivial
  | .ptrB r j, v, h => by
    simp only [V.kill]
    cases hh : r.mem k.a
    · simp only [cond_false]
      obtain ⟨R, b, h1, h2, h3⟩ := h
      obtain ⟨R', g1, g2⟩ := hs.box r R b hh h1 h2
      exact ⟨R', b, g1, g2, h3⟩
    · simp only [cond_true]; trivial
  | .ptrE q i off, v, h => by
    simp only [V.kill]
    cases hh : k.hits q
    · simp only [cond_false]
      refine namePtrE_head (hs.own q hh ?_) h
      intro e; simp only [Rv, namePtrE, e] at h
    · simp only [cond_true]; trivial
  | .pim n xs off, v, h => Rv.frame hG hGG gm gm' (.pim n xs off) v (fun n hn => by simp [V.names] at hn) h
  | .own _ _ _, v, h => h
  | .bad, v, h => h
theorem RvL.kill (hG : ∀ k, G k → w'.heap[k]? = w.heap[k]?) (hGG : ∀ k, G k → G' k) (k : Kl) (hs : Stay k gm gm') :
    ∀ (xs : List V) (vs : List Value), RvL w G gm vs xs → RvL w' G' gm' vs (killL k xs)
  | [], [], _ => trivial
  | x :: xs, v :: vs, h => ⟨Rv.kill hG hGG k hs x v h.1, RvL.kill hG hGG k hs xs vs h.2⟩
  | [], _ :: _, h => h.elim
  | _ :: _, [], h => h.elim
end

/-- Where nothing is killed. -/
theorem Rv.stay (hG : ∀ k, G k → w'.heap[k]? = w.heap[k]?) (hGG : ∀ k, G k → G' k) (hs : Stay .no gm gm') (x : V) (v : Value) (h : Rv w G gm v x) : Rv w' G' gm' v x := by
  have key : ∀ x : V, x.kill .no = x := by
    have : ∀ x : V, x.kill .no = x := fun x => by
      refine V.rec (motive_1 := fun x => x.kill .no = x) (motive_2 := fun l => killL .no l = l) ?_ ?_ ?_ ?_ ?_ ?_ ?_ ?_ ?_ ?_ ?_ ?_ ?_ ?_ ?_ ?_ ?_ x
      all_goals intros
      all_goals simp_all [V.kill, killL, Kl.hits, Kl.no, Nm.mem]
    exact this
  have := Rv.kill hG hGG .no hs x v h
  rwa [key] at this
end
end Go.Ab
