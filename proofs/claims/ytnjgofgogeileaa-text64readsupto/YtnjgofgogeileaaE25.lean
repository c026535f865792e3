/- Values instead of names; other names for names; own slices that are given up. -/
import Derived.Test.YtnjgofgogeileaaE24
namespace Go.Ab
open Go
set_option linter.unusedSimpArgs false
set_option linter.unusedVariables false

section
variable {P : Program} {w0 w w' : World} {F : FG} {N : Nat} {st : St} {a : Act} {G G' : Nat → Prop} {gm gm' : GM} {deep : TypeId → Bool} {T : List Nm} {rd regs : Nm → Option Rg}

theorem frzL_drop : ∀ (l : List V) (k : Nat), frzL P (l.drop k) = (frzL P l).drop k
  | [], k => by cases k <;> simp [frzL]
  | a :: l, 0 => rfl
  | a :: l, k + 1 => by simpa [frzL] using frzL_drop l k
theorem frzL_take : ∀ (l : List V) (k : Nat), frzL P (l.take k) = (frzL P l).take k
  | [], k => by cases k <;> simp [frzL]
  | a :: l, 0 => rfl
  | a :: l, k + 1 => by simpa [frzL] using frzL_take l k

theorem RvL.drop : ∀ {xs : List V} {vs : List Value} (k : Nat), RvL w G gm vs xs → RvL w G gm (vs.drop k) (xs.drop k)
  | [], [], k, _ => by cases k <;> exact trivial
  | _ :: _, _ :: _, 0, h => h
  | _ :: _, _ :: _, k + 1, h => RvL.drop k h.2
  | [], _ :: _, _, h => h.elim
  | _ :: _, [], _, h => h.elim
theorem RvL.take : ∀ {xs : List V} {vs : List Value} (k : Nat), RvL w G gm vs xs → RvL w G gm (vs.take k) (xs.take k)
  | [], [], k, _ => by cases k <;> exact trivial
  | _ :: _, _ :: _, 0, _ => trivial
  | _ :: _, _ :: _, k + 1, h => ⟨h.1, RvL.take k h.2⟩
  | [], _ :: _, _, h => h.elim
  | _ :: _, [], _, h => h.elim

/-- A name of an own slice, as a value. -/
theorem ref_frz {q : Pl} {e : TypeId} {d : Bool} {xs : List V} {u v : Value} (hu : OwnC w G P u (.own e d xs) (skAt gm q)) (hn : nameRef gm q v) (hG : ∀ b, G b → G' b) (hf : ∀ k ∈ (skAt gm q).fp, G' k) :
    Rv w G' noGM v (Ab.frz P (.own e d xs)) := by
  have : u = v := by
    unfold nameRef at hn
    cases hs : skAt gm q with
    | leaf => rw [hs] at hn; exact hn.elim
    | nil => rw [hs] at hn hu; exact hu.1.trans hn.symm
    | node g n cap sz cs => rw [hs] at hn hu; obtain ⟨_, _, h1, _⟩ := hu; exact h1.trans hn.symm
  subst this
  exact OwnC.frz hG _ _ _ hu hf

theorem vw_frz {q : Pl} {lo hi : Nat} {e : TypeId} {d : Bool} {xs : List V} {u v : Value} (hu : OwnC w G P u (.own e d xs) (skAt gm q)) (hn : nameVw gm q lo hi v) (hG : ∀ b, G b → G' b) (hf : ∀ k ∈ (skAt gm q).fp, G' k) :
    Rv w G' noGM v (Ab.frz P (.own e d ((xs.drop (lo * szT P e)).take ((hi - lo) * szT P e)))) := by
  unfold nameVw at hn
  cases hs : skAt gm q with
  | leaf => rw [hs] at hu; exact hu.elim
  | nil =>
    rw [hs] at hn hu
    obtain ⟨rfl, rfl, rfl⟩ := hn
    obtain ⟨_, rfl⟩ := hu
    refine .inl ⟨rfl, ?_⟩
    cases d <;> simp [frzL]
  | node g n cap sz cs =>
    rw [hs] at hn hu hf
    obtain ⟨hn1, hn2, oo, rfl, hn3⟩ := hn
    obtain ⟨cur, fr, h1, h2, h3, h4, h5, h6, h7, h8, h9, h10, h11⟩ := hu
    obtain ⟨ys, hys, hyl, hyc⟩ : ∃ ys, Ab.frz P (.own e d ((xs.drop (lo * szT P e)).take ((hi - lo) * szT P e))) = .sl sz ((ys.drop (lo * sz)).take ((hi - lo) * sz)) ∧
        RvL w G' noGM (cur.toList.take (n * sz)) ys ∧ cibL ys = true := by
      cases d with
      | true => exact ⟨frzL P xs, by simp [Ab.frz, h6, frzL_drop, frzL_take], OwnL.frz hG xs _ cs h10 (fun k hk => hf k (by simp [Sk.fp, hk])), h10.cib⟩
      | false => exact ⟨xs, by simp [Ab.frz, h6], OwnL.imm hG xs _ cs h10 (h11 rfl), h11 rfl⟩
    rw [hys]
    have hyn : ys.length = n * sz := by
      have := hyl.length
      rw [← this, h10.length.1, h9]
    have hm : (hi - lo) * sz ≤ (n - lo) * sz := Nat.mul_le_mul_right _ (by omega)
    have hm2 : (n - lo) * sz = n * sz - lo * sz := Nat.sub_mul _ _ _
    refine .inr ⟨⟨g, oo, none⟩, hi - lo, cap - lo, ((cur.toList.take (n * sz)).drop (lo * sz)).take ((hi - lo) * sz), rfl, fun _ => rfl, by omega, ?_, h5, ?_, ?_, (hyl.drop _).take _, cibL_take _ _ (cibL_drop _ _ hyc), fun u hu => h10.one u (List.mem_of_mem_drop (List.mem_of_mem_take hu))⟩
    · simp only [List.length_take, List.length_drop, hyn]; omega
    · intro j u hu
      rw [List.getElem?_take] at hu
      split at hu
      · rename_i hj
        rw [List.getElem?_drop, List.getElem?_take] at hu
        split at hu
        · have hne : ¬ cap = lo := by
            intro e
            have : hi - lo = 0 := by omega
            rw [this] at hj; simp at hj
          rw [hn3 (.inl hne)]
          simp only [World.cell?, h2]
          simpa using hu
        · cases hu
      · cases hu
    · intro _
      exact hf g (by simp [Sk.fp])

/-- The blocks of some regions. -/
def InN (ns : List Nm) (gm : GM) (b : Nat) : Prop := ∃ r R, r ∈ ns ∧ gm r = some R ∧ b ∈ R.fp

theorem sk_fp_in {q : Pl} {R : RG} (hR : gm q.r = some R) : ∀ b ∈ (skAt gm q).fp, b ∈ R.fp := by
  intro b hb
  by_cases hl : getSk q.p R.sks q.j = .leaf
  · simp only [skAt, hR, hl, Sk.fp] at hb; simp at hb
  · obtain ⟨rest, h1, _⟩ := getSk_perm q.p R.sks q.j hl
    simp only [skAt, hR] at hb
    simp only [RG.fp, List.mem_append]
    exact .inr (h1.mem_iff.2 (List.mem_append_left _ hb))

mutual
theorem Rv.byVal (hown : ∀ q e d xs, ownAt rd q = some (e, d, xs) → ∃ v, OwnC w G P v (.own e d xs) (skAt gm q)) (hG : ∀ b, G b → G' b) :
    ∀ (x : V) (v : Value), x.seen rd = true → (∀ r ∈ x.refNames, ∀ R, gm r = some R → ∀ b ∈ R.fp, G' b) → Rv w G gm v x → Rv w G' gm v (x.byVal P rd)
  | .nl e, v, _, _, h => by
    simp only [Rv] at h
    exact .inl ⟨h, rfl⟩
  | .ag xs, v, hsn, hf, h => by
    obtain ⟨cs, h1, h2⟩ := h
    exact ⟨cs, h1, RvL.byVal hown hG xs _ hsn hf h2⟩
  | .ref q, v, hsn, hf, h => by
    simp only [V.byVal]
    obtain ⟨e, d, xs, hqe, hqd, hqx, hq⟩ := ownB_some (show (ownB rd q).1 = true from hsn)
    focus
      simp only [hqe, hqd, hqx]
      obtain ⟨u, hu⟩ := hown q e d xs hq
      have hfp : ∀ k ∈ (skAt gm q).fp, G' k := by
        intro k hk
        cases hR : gm q.r with
        | none => simp only [skAt, hR, Sk.fp] at hk; simp at hk
        | some R => exact hf q.r (by simp [V.refNames]) R hR k (sk_fp_in hR k hk)
      exact (ref_frz hu h hG hfp).imm (cim_imm (frz_imm e d xs))
  | .vw q lo hi, v, hsn, hf, h => by
    simp only [V.byVal]
    obtain ⟨e, d, xs, hqe, hqd, hqx, hq⟩ := ownB_some (show (ownB rd q).1 = true from hsn)
    focus
      simp only [hqe, hqd, hqx]
      obtain ⟨u, hu⟩ := hown q e d xs hq
      have hfp : ∀ k ∈ (skAt gm q).fp, G' k := by
        intro k hk
        cases hR : gm q.r with
        | none => simp only [skAt, hR, Sk.fp] at hk; simp at hk
        | some R => exact hf q.r (by simp [V.refNames]) R hR k (sk_fp_in hR k hk)
      exact (vw_frz hu h hG hfp).imm (cim_imm (frz_imm e d _))
  | .sc u, v, _, _, h => h
  | .sl _ _, v, _, _, h => Rv.frame (fun _ _ => rfl) hG gm gm _ v (fun _ _ => rfl) h
  | .own _ _ _, v, _, _, h => h.elim
  | .tp _, v, _, _, h => Rv.frame (fun _ _ => rfl) hG gm gm _ v (fun _ _ => rfl) h
  | .fn _ _ _, v, _, _, h => Rv.frame (fun _ _ => rfl) hG gm gm _ v (fun _ _ => rfl) h
  | .ifc _ _, v, _, _, h => Rv.frame (fun _ _ => rfl) hG gm gm _ v (fun _ _ => rfl) h
  | .ptrB _ _, v, _, _, h => Rv.frame (fun _ _ => rfl) hG gm gm _ v (fun _ _ => rfl) h
  | .ptrE _ _ _, v, _, _, h => Rv.frame (fun _ _ => rfl) hG gm gm _ v (fun _ _ => rfl) h
  | .pim _ _ _, v, _, _, h => Rv.frame (fun _ _ => rfl) hG gm gm _ v (fun _ _ => rfl) h
  | .slf, v, _, _, h => h.elim
  | .bad, _, _, _, _ => trivial
theorem RvL.byVal (hown : ∀ q e d xs, ownAt rd q = some (e, d, xs) → ∃ v, OwnC w G P v (.own e d xs) (skAt gm q)) (hG : ∀ b, G b → G' b) :
    ∀ (xs : List V) (vs : List Value), seenL rd xs = true → (∀ r ∈ refNamesL xs, ∀ R, gm r = some R → ∀ b ∈ R.fp, G' b) → RvL w G gm vs xs → RvL w G' gm vs (byValL P rd xs)
  | [], [], _, _, _ => trivial
  | x :: xs, v :: vs, hsn, hf, h => by
    simp only [refNamesL, List.mem_append] at hf
    simp only [seenL, Bool.and_eq_true] at hsn
    exact ⟨Rv.byVal hown hG x v hsn.1 (fun r hr => hf r (.inl hr)) h.1, RvL.byVal hown hG xs vs hsn.2 (fun r hr => hf r (.inr hr)) h.2⟩
  | [], _ :: _, _, _, h => h.elim
  | _ :: _, [], _, _, h => h.elim
end

/- Other names. -/
mutual
theorem Rv.ren (f : Nm → Nm) : ∀ (x : V) (v : Value), (∀ n ∈ x.names, gm' (f n) = gm n) → Rv w G gm v x → Rv w G gm' v (x.ren f)
  | .sc _, _, _, h => h
  | .nl _, _, _, h => h
  | .sl _ _, _, _, h => h
  | .own _ _ _, _, _, h => h.elim
  | .ag xs, v, hn, h => by obtain ⟨cs, h1, h2⟩ := h; exact ⟨cs, h1, RvL.ren f xs _ hn h2⟩
  | .tp xs, v, hn, h => by obtain ⟨cs, h1, h2⟩ := h; exact ⟨cs, h1, RvL.ren f xs _ hn h2⟩
  | .fn g a b, v, hn, h => by
    obtain ⟨x, y, h1, h2, h3⟩ := h
    simp only [V.names, List.mem_append] at hn
    exact ⟨x, y, h1, RvL.ren f a _ (fun n h => hn n (.inl h)) h2, RvL.ren f b _ (fun n h => hn n (.inr h)) h3⟩
  | .ifc t x, v, hn, h => by obtain ⟨u, h1, h2⟩ := h; exact ⟨u, h1, Rv.ren f x u hn h2⟩
  | .ref q, v, hn, h => by
    have := hn q.r (by simp [V.names])
    simpa only [V.ren, Rv, nameRef, skAt, this] using h
  | .vw q lo hi, v, hn, h => by
    have := hn q.r (by simp [V.names])
    simpa only [V.ren, Rv, nameVw, skAt, this] using h
  | .ptrB r j, v, hn, h => by
    have := hn r (by simp [V.names])
    simpa only [V.ren, Rv, namePtrB, this] using h
  | .ptrE q i o, v, hn, h => by
    have := hn q.r (by simp [V.names])
    simpa only [V.ren, Rv, namePtrE, skAt, this] using h
  | .pim _ _ _, _, _, h => h
  | .slf, _, _, h => h.elim
  | .bad, _, _, _ => trivial
theorem RvL.ren (f : Nm → Nm) : ∀ (xs : List V) (vs : List Value), (∀ n ∈ namesL xs, gm' (f n) = gm n) → RvL w G gm vs xs → RvL w G gm' vs (renL f xs)
  | [], [], _, _ => trivial
  | x :: xs, v :: vs, hn, h => by
    simp only [namesL, List.mem_append] at hn
    exact ⟨Rv.ren f x v (fun n h => hn n (.inl h)) h.1, RvL.ren f xs vs (fun n h => hn n (.inr h)) h.2⟩
  | [], _ :: _, _, h => h.elim
  | _ :: _, [], _, h => h.elim
end

/- Own slices that are given up. -/
mutual
theorem Rv.fz (ns : List Nm) (hown : ∀ q e d xs, ownAt rd q = some (e, d, xs) → ∃ v, OwnC w G P v (.own e d xs) (skAt gm q)) (hG : ∀ b, G b → G' b)
    (hf : ∀ r R, r.mem ns = true → gm r = some R → ∀ b ∈ R.fp, G' b) (hs : ∀ r, r.mem ns = false → gm' r = gm r) :
    ∀ (x : V) (v : Value), Rv w G gm v x → Rv w G' gm' v (x.fz P rd ns)
  | .sc _, _, h => h
  | .nl _, _, h => h
  | .sl _ _, v, h => Rv.frame (fun _ _ => rfl) hG gm gm' _ v (fun n hn => by cases hn) h
  | .own _ _ _, _, h => h.elim
  | .ag xs, v, h => by obtain ⟨cs, h1, h2⟩ := h; exact ⟨cs, h1, RvL.fz ns hown hG hf hs xs _ h2⟩
  | .tp xs, v, h => by obtain ⟨cs, h1, h2⟩ := h; exact ⟨cs, h1, RvL.fz ns hown hG hf hs xs _ h2⟩
  | .fn g a b, v, h => by
    obtain ⟨x, y, h1, h2, h3⟩ := h
    exact ⟨x, y, h1, RvL.fz ns hown hG hf hs a _ h2, RvL.fz ns hown hG hf hs b _ h3⟩
  | .ifc t x, v, h => by obtain ⟨u, h1, h2⟩ := h; exact ⟨u, h1, Rv.fz ns hown hG hf hs x u h2⟩
  | .ref q, v, h => by
    simp only [V.fz]
    cases hm : q.r.mem ns with
    | false => exact Rv.frame (fun _ _ => rfl) hG gm gm' (.ref q) v (fun n hn => by simp only [V.names, List.mem_singleton] at hn; rw [hn]; exact hs _ hm) h
    | true =>
      simp only [cond_true]
      cases hbb : (q.p.isEmpty && (ownB rd q).1) with
      | false => exact trivial
      | true =>
        rw [Bool.and_eq_true] at hbb
        obtain ⟨e, d, xs, hqe, hqd, hqx, hq⟩ := ownB_some hbb.2
        simp only [cond_true, hqe, hqd, hqx]
        obtain ⟨u, hu⟩ := hown q e d xs hq
        have hfp : ∀ k ∈ (skAt gm q).fp, G' k := by
          intro k hk
          cases hR : gm q.r with
          | none => simp only [skAt, hR, Sk.fp] at hk; simp at hk
          | some R => exact hf q.r R hm hR k (sk_fp_in hR k hk)
        exact (ref_frz hu h hG hfp).imm (cim_imm (frz_imm e d xs))
  | .vw q lo hi, v, h => by
    simp only [V.fz]
    cases hm : q.r.mem ns with
    | false => exact Rv.frame (fun _ _ => rfl) hG gm gm' (.vw q lo hi) v (fun n hn => by simp only [V.names, List.mem_singleton] at hn; rw [hn]; exact hs _ hm) h
    | true =>
      simp only [cond_true]
      cases hbb : (q.p.isEmpty && (ownB rd q).1) with
      | false => exact trivial
      | true =>
        rw [Bool.and_eq_true] at hbb
        obtain ⟨e, d, xs, hqe, hqd, hqx, hq⟩ := ownB_some hbb.2
        simp only [cond_true, hqe, hqd, hqx]
        obtain ⟨u, hu⟩ := hown q e d xs hq
        have hfp : ∀ k ∈ (skAt gm q).fp, G' k := by
          intro k hk
          cases hR : gm q.r with
          | none => simp only [skAt, hR, Sk.fp] at hk; simp at hk
          | some R => exact hf q.r R hm hR k (sk_fp_in hR k hk)
        exact (vw_frz hu h hG hfp).imm (cim_imm (frz_imm e d _))
  | .ptrB r j, v, h => by
    simp only [V.fz]
    cases hm : r.mem ns with
    | false => exact Rv.frame (fun _ _ => rfl) hG gm gm' (.ptrB r j) v (fun n hn => by simp only [V.names, List.mem_singleton] at hn; rw [hn]; exact hs _ hm) h
    | true => exact trivial
  | .ptrE q i o, v, h => by
    simp only [V.fz]
    cases hm : q.r.mem ns with
    | false => exact Rv.frame (fun _ _ => rfl) hG gm gm' (.ptrE q i o) v (fun n hn => by simp only [V.names, List.mem_singleton] at hn; rw [hn]; exact hs _ hm) h
    | true => exact trivial
  | .pim _ _ _, v, h => Rv.frame (fun _ _ => rfl) hG gm gm' _ v (fun n hn => by cases hn) h
  | .slf, _, h => h.elim
  | .bad, _, _ => trivial
theorem RvL.fz (ns : List Nm) (hown : ∀ q e d xs, ownAt rd q = some (e, d, xs) → ∃ v, OwnC w G P v (.own e d xs) (skAt gm q)) (hG : ∀ b, G b → G' b)
    (hf : ∀ r R, r.mem ns = true → gm r = some R → ∀ b ∈ R.fp, G' b) (hs : ∀ r, r.mem ns = false → gm' r = gm r) :
    ∀ (xs : List V) (vs : List Value), RvL w G gm vs xs → RvL w G' gm' vs (fzL P rd ns xs)
  | [], [], _ => trivial
  | x :: xs, v :: vs, h => ⟨Rv.fz ns hown hG hf hs x v h.1, RvL.fz ns hown hG hf hs xs vs h.2⟩
  | [], _ :: _, h => h.elim
  | _ :: _, [], h => h.elim
end

/-- The state behind the giving up. -/
theorem Inv.fz (hI : Inv P w0 F N st a w G gm) (ns : List Nm) :
    ∃ G' gm', Inv P w0 F N (st.fz P ns) a w G' gm' ∧ (∀ b, G' b ↔ G b ∨ InN ns gm b) ∧ (∀ r, r.mem ns = false → gm' r = gm r) ∧ ∀ r, r.mem ns = true → gm' r = none := by
  let G' : Nat → Prop := fun b => G b ∨ InN ns gm b
  let gm' : GM := fun n => bif n.mem ns then none else gm n
  have hs : ∀ r, r.mem ns = false → gm' r = gm r := fun r h => by simp only [gm', h, cond_false]
  have hd : ∀ r, r.mem ns = true → gm' r = none := fun r h => by simp only [gm', h, cond_true]
  have hreg : Regs P w0 F (st.fz P ns).regs w G' gm' := by
    refine hI.regs.change (fun r => r.mem ns = true) (fun _ _ _ => rfl) rfl rfl rfl (Nat.le_refl _) ?_ ?_ ?_ ?_ ?_ (fun _ h => .inl h) ?_ (fun i R h hr => by rw [hd _ h] at hr; cases hr)
    · intro r hr
      have hr' : r.mem ns = false := by simpa using hr
      exact ⟨by simp only [St.fz, hr', cond_false], hs r hr'⟩
    · intro r hr
      simp only [St.fz, hr, cond_true, hd r hr]
    · intro r R hr h; rw [hd r hr] at h; cases h
    · intro r r' R R' hr _ _ h; rw [hd r hr] at h; cases h
    · intro r R b hr h; rw [hd r hr] at h; cases h
    · rintro b (hb | ⟨r, R, hr, hR, hb⟩)
      · exact .inl hb
      · refine .inr ⟨.inl ⟨r, R, (Nm.mem_iff r ns).2 hr, hR, hb⟩, hI.regs.lt hR b hb, ?_⟩
        rintro ⟨r', R', hr', hR', _⟩
        rw [hd r' hr'] at hR'; cases hR'
  refine ⟨G', gm', ⟨hreg, fun i => ?_, hI.size, hI.defers, ?_⟩, fun b => Iff.rfl, hs, hd⟩
  · refine Rv.fz ns (fun q e d xs hq => ?_) (fun _ h => .inl h) (fun r R hr hR b hb => .inr ⟨r, R, (Nm.mem_iff r ns).1 hr, hR, hb⟩) hs _ _ (hI.env i)
    obtain ⟨rg, hr, hx⟩ := ownAt_some hq
    obtain ⟨R, hg, hok⟩ := hI.regs.ok hr
    obtain ⟨v, hv, _⟩ := OwnL.at q.p rg.row q.j R.vals R.sks hok.2.1 (by rw [hx]; simp)
    rw [hx] at hv
    exact ⟨v, by simpa only [skAt, hg] using hv⟩
  · simp only [St.fz, hI.hand]
    cases Nm.hand.mem ns <;> rfl
end
end Go.Ab
