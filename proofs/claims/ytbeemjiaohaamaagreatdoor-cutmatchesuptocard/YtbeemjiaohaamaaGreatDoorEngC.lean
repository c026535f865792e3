/- The engine, part C: an abstract machine for Go code in its Lean form, and that what it computes is what the code does. -/
import Derived.Test.YtbeemjiaohaamaaGreatDoorEngB
import Derived.Tactics
import Derived.Orders
/- Values instead of names; other names for names; own slices that are given up. -/
namespace Go.Ab
open Go
set_option linter.unusedSimpArgs false
set_option linter.unusedVariables false

section
variable {P : Program} {w0 w w' : World} {F : FG} {N : Nat} {st : St} {a : Act} {G G' : Nat → Prop} {gm gm' : GM} {deep : TypeId → Bool} {T : List Nm} {rd regs : Nm → Option Rg}

theorem frzL_drop : ∀ (l : List V) (k : Nat), frzL P (l.drop k) = (frzL P l).drop k
  | [], k => by cases k <;> simp [frzL]
  | a :: l, 0 => rfl
  | a :: l, k + 1 => by simpa [frzL] using frzL_drop l k
theorem frzL_take : ∀ (l : List V) (k : Nat), frzL P (l.take k) = (frzL P l).take k
  | [], k => by cases k <;> simp [frzL]
  | a :: l, 0 => rfl
  | a :: l, k + 1 => by simpa [frzL] using frzL_take l k

theorem RvL.drop : ∀ {xs : List V} {vs : List Value} (k : Nat), RvL w G gm vs xs → RvL w G gm (vs.drop k) (xs.drop k)
  | [], [], k, _ => by cases k <;> exact trivial
  | _ :: _, _ :: _, 0, h => h
  | _ :: _, _ :: _, k + 1, h => RvL.drop k h.2
  | [], _ :: _, _, h => h.elim
  | _ :: _, [], _, h => h.elim
theorem RvL.take : ∀ {xs : List V} {vs : List Value} (k : Nat), RvL w G gm vs xs → RvL w G gm (vs.take k) (xs.take k)
  | [], [], k, _ => by cases k <;> exact trivial
  | _ :: _, _ :: _, 0, _ => trivial
  | _ :: _, _ :: _, k + 1, h => ⟨h.1, RvL.take k h.2⟩
  | [], _ :: _, _, h => h.elim
  | _ :: _, [], _, h => h.elim

/-- A name of an own slice, as a value. -/
theorem ref_frz {q : Pl} {e : TypeId} {d : Bool} {xs : List V} {u v : Value} (hu : OwnC w G P u (.own e d xs) (skAt gm q)) (hn : nameRef gm q v) (hG : ∀ b, G b → G' b) (hf : ∀ k ∈ (skAt gm q).fp, G' k) :
    Rv w G' noGM v (Ab.frz P (.own e d xs)) := by
  have : u = v := by
    unfold nameRef at hn
    cases hs : skAt gm q with
    | leaf => rw [hs] at hn; exact hn.elim
    | nil => rw [hs] at hn hu; exact hu.1.trans hn.symm
    | node g n cap sz cs => rw [hs] at hn hu; obtain ⟨_, _, h1, _⟩ := hu; exact h1.trans hn.symm
  subst this
  exact OwnC.frz hG _ _ _ hu hf

theorem vw_frz {q : Pl} {lo hi : Nat} {e : TypeId} {d : Bool} {xs : List V} {u v : Value} (hu : OwnC w G P u (.own e d xs) (skAt gm q)) (hn : nameVw gm q lo hi v) (hG : ∀ b, G b → G' b) (hf : ∀ k ∈ (skAt gm q).fp, G' k) :
    Rv w G' noGM v (Ab.frz P (.own e d ((xs.drop (lo * szT P e)).take ((hi - lo) * szT P e)))) := by
  unfold nameVw at hn
  cases hs : skAt gm q with
  | leaf => rw [hs] at hu; exact hu.elim
  | nil =>
    rw [hs] at hn hu
    obtain ⟨rfl, rfl, rfl⟩ := hn
    obtain ⟨_, rfl⟩ := hu
    refine .inl ⟨rfl, ?_⟩
    cases d <;> simp [frzL]
  | node g n cap sz cs =>
    rw [hs] at hn hu hf
    obtain ⟨hn1, hn2, oo, rfl, hn3⟩ := hn
    obtain ⟨cur, fr, h1, h2, h3, h4, h5, h6, h7, h8, h9, h10, h11⟩ := hu
    obtain ⟨ys, hys, hyl, hyc⟩ : ∃ ys, Ab.frz P (.own e d ((xs.drop (lo * szT P e)).take ((hi - lo) * szT P e))) = .sl sz ((ys.drop (lo * sz)).take ((hi - lo) * sz)) ∧
        RvL w G' noGM (cur.toList.take (n * sz)) ys ∧ cibL ys = true := by
      cases d with
      | true => exact ⟨frzL P xs, by simp [Ab.frz, h6, frzL_drop, frzL_take], OwnL.frz hG xs _ cs h10 (fun k hk => hf k (by simp [Sk.fp, hk])), h10.cib⟩
      | false => exact ⟨xs, by simp [Ab.frz, h6], OwnL.imm hG xs _ cs h10 (h11 rfl), h11 rfl⟩
    rw [hys]
    have hyn : ys.length = n * sz := by
      have := hyl.length
      rw [← this, h10.length.1, h9]
    have hm : (hi - lo) * sz ≤ (n - lo) * sz := Nat.mul_le_mul_right _ (by omega)
    have hm2 : (n - lo) * sz = n * sz - lo * sz := Nat.sub_mul _ _ _
    refine .inr ⟨⟨g, oo, none⟩, hi - lo, cap - lo, ((cur.toList.take (n * sz)).drop (lo * sz)).take ((hi - lo) * sz), rfl, fun _ => rfl, by omega, ?_, h5, ?_, ?_, (hyl.drop _).take _, cibL_take _ _ (cibL_drop _ _ hyc), fun u hu => h10.one u (List.mem_of_mem_drop (List.mem_of_mem_take hu))⟩
    · simp only [List.length_take, List.length_drop, hyn]; omega
    · intro j u hu
      rw [List.getElem?_take] at hu
      split at hu
      · rename_i hj
        rw [List.getElem?_drop, List.getElem?_take] at hu
        split at hu
        · have hne : ¬ cap = lo := by
            intro e
            have : hi - lo = 0 := by omega
            rw [this] at hj; simp at hj
          rw [hn3 (.inl hne)]
          simp only [World.cell?, h2]
          simpa using hu
        · cases hu
      · cases hu
    · intro _
      exact hf g (by simp [Sk.fp])

/-- The blocks of some regions. -/
def InN (ns : List Nm) (gm : GM) (b : Nat) : Prop := ∃ r R, r ∈ ns ∧ gm r = some R ∧ b ∈ R.fp

theorem sk_fp_in {q : Pl} {R : RG} (hR : gm q.r = some R) : ∀ b ∈ (skAt gm q).fp, b ∈ R.fp := by
  intro b hb
  by_cases hl : getSk q.p R.sks q.j = .leaf
  · simp only [skAt, hR, hl, Sk.fp] at hb; simp at hb
  · obtain ⟨rest, h1, _⟩ := getSk_perm q.p R.sks q.j hl
    simp only [skAt, hR] at hb
    simp only [RG.fp, List.mem_append]
    exact .inr (h1.mem_iff.2 (List.mem_append_left _ hb))

/-- What boxes hold. -/
def BoxesOk (w : World) (G : Nat → Prop) (P : Program) (rd : Nm → Option Rg) (gm : GM) : Prop :=
  ∀ r row, rd r = some ⟨true, row⟩ → ∃ R b t, gm r = some R ∧ R.b = some b ∧ w.heap[b]? = some (.cells R.vals.toArray t (0, 0)) ∧ OwnL w G P R.vals row R.sks

theorem frzL_len : ∀ l : List V, (frzL P l).length = l.length
  | [] => rfl
  | _ :: l => by rw [frzL, List.length_cons, List.length_cons, frzL_len l]

theorem snap_ok (hbox : BoxesOk w G P rd gm) (hG : ∀ b, G b → G' b) {r : Nm} {j : Nat} {v : Value} (hf : ∀ R, gm r = some R → ∀ b ∈ R.fp, G' b) (h : Rv w G gm v (.ptrB r j)) : Rv w G' gm v (snapB P rd r j) := by
  unfold snapB
  split
  · rename_i row hr
    obtain ⟨R, b, t, h1, h2, h3, h4⟩ := hbox r row hr
    obtain ⟨R', b', g1, g2, g3⟩ := h
    rw [h1] at g1
    cases g1
    rw [h2] at g2
    cases g2
    have hfb : G' b := hf R h1 b (by simp [RG.fp, h2])
    refine ⟨b, 0, R.vals, by rw [g3, Nat.zero_add], frzL_len row, ?_, fun _ => hfb, OwnL.frz hG row R.vals R.sks h4 (fun k hk => hf R h1 k (by simp [RG.fp, hk]))⟩
    intro k u hu
    simp only [World.cell?, h3]
    simpa using hu
  · exact trivial

mutual
theorem Rv.byVal (sn : Bool) (hown : ∀ q e d xs, ownAt rd q = some (e, d, xs) → ∃ v, OwnC w G P v (.own e d xs) (skAt gm q)) (hbox : BoxesOk w G P rd gm) (hG : ∀ b, G b → G' b) :
    ∀ (x : V) (v : Value), x.seen rd = true → (∀ r ∈ x.refNames sn, ∀ R, gm r = some R → ∀ b ∈ R.fp, G' b) → Rv w G gm v x → Rv w G' gm v (x.byVal P sn rd)
  | .nl e, v, _, _, h => by
    simp only [Rv] at h
    exact .inl ⟨h, rfl⟩
  | .ag xs, v, hsn, hf, h => by
    obtain ⟨cs, h1, h2⟩ := h
    exact ⟨cs, h1, RvL.byVal sn hown hbox hG xs _ hsn hf h2⟩
  | .ref q, v, hsn, hf, h => by
    simp only [V.byVal]
    obtain ⟨e, d, xs, hqe, hqd, hqx, hq⟩ := ownB_some (show (ownB rd q).1 = true from hsn)
    focus
      simp only [hqe, hqd, hqx]
      obtain ⟨u, hu⟩ := hown q e d xs hq
      have hfp : ∀ k ∈ (skAt gm q).fp, G' k := by
        intro k hk
        cases hR : gm q.r with
        | none => simp only [skAt, hR, Sk.fp] at hk; simp at hk
        | some R => exact hf q.r (by simp [V.refNames]) R hR k (sk_fp_in hR k hk)
      exact (ref_frz hu h hG hfp).imm (cim_imm (frz_imm e d xs))
  | .vw q lo hi, v, hsn, hf, h => by
    simp only [V.byVal]
    obtain ⟨e, d, xs, hqe, hqd, hqx, hq⟩ := ownB_some (show (ownB rd q).1 = true from hsn)
    focus
      simp only [hqe, hqd, hqx]
      obtain ⟨u, hu⟩ := hown q e d xs hq
      have hfp : ∀ k ∈ (skAt gm q).fp, G' k := by
        intro k hk
        cases hR : gm q.r with
        | none => simp only [skAt, hR, Sk.fp] at hk; simp at hk
        | some R => exact hf q.r (by simp [V.refNames]) R hR k (sk_fp_in hR k hk)
      exact (vw_frz hu h hG hfp).imm (cim_imm (frz_imm e d _))
  | .sc u, v, _, _, h => h
  | .sl _ _, v, _, _, h => Rv.frame (fun _ _ => rfl) hG gm gm _ v (fun _ _ => rfl) h
  | .own _ _ _, v, _, _, h => h.elim
  | .tp _, v, _, _, h => Rv.frame (fun _ _ => rfl) hG gm gm _ v (fun _ _ => rfl) h
  | .fn _ _ _, v, _, _, h => Rv.frame (fun _ _ => rfl) hG gm gm _ v (fun _ _ => rfl) h
  | .ifc _ _, v, _, _, h => Rv.frame (fun _ _ => rfl) hG gm gm _ v (fun _ _ => rfl) h
  | .ptrB r j, v, _, hf, h => by
    cases sn with
    | false => exact Rv.frame (fun _ _ => rfl) hG gm gm (.ptrB r j) v (fun _ _ => rfl) h
    | true => exact snap_ok hbox hG (hf r (by simp [V.refNames])) h
  | .ptrE _ _ _, v, _, _, h => Rv.frame (fun _ _ => rfl) hG gm gm _ v (fun _ _ => rfl) h
  | .pim _ _ _, v, _, _, h => Rv.frame (fun _ _ => rfl) hG gm gm _ v (fun _ _ => rfl) h
  | .slf, v, _, _, h => h.elim
  | .bad, _, _, _, _ => trivial
theorem RvL.byVal (sn : Bool) (hown : ∀ q e d xs, ownAt rd q = some (e, d, xs) → ∃ v, OwnC w G P v (.own e d xs) (skAt gm q)) (hbox : BoxesOk w G P rd gm) (hG : ∀ b, G b → G' b) :
    ∀ (xs : List V) (vs : List Value), seenL rd xs = true → (∀ r ∈ refNamesL sn xs, ∀ R, gm r = some R → ∀ b ∈ R.fp, G' b) → RvL w G gm vs xs → RvL w G' gm vs (byValL P sn rd xs)
  | [], [], _, _, _ => trivial
  | x :: xs, v :: vs, hsn, hf, h => by
    simp only [refNamesL, List.mem_append] at hf
    simp only [seenL, Bool.and_eq_true] at hsn
    exact ⟨Rv.byVal sn hown hbox hG x v hsn.1 (fun r hr => hf r (.inl hr)) h.1, RvL.byVal sn hown hbox hG xs vs hsn.2 (fun r hr => hf r (.inr hr)) h.2⟩
  | [], _ :: _, _, _, h => h.elim
  | _ :: _, [], _, _, h => h.elim
end

/- Other names. -/
mutual
theorem Rv.ren (f : Nm → Nm) : ∀ (x : V) (v : Value), (∀ n ∈ x.names, gm' (f n) = gm n) → Rv w G gm v x → Rv w G gm' v (x.ren f)
  | .sc _, _, _, h => h
  | .nl _, _, _, h => h
  | .sl _ _, _, _, h => h
  | .own _ _ _, _, _, h => h.elim
  | .ag xs, v, hn, h => by obtain ⟨cs, h1, h2⟩ := h; exact ⟨cs, h1, RvL.ren f xs _ hn h2⟩
  | .tp xs, v, hn, h => by obtain ⟨cs, h1, h2⟩ := h; exact ⟨cs, h1, RvL.ren f xs _ hn h2⟩
  | .fn g a b, v, hn, h => by
    obtain ⟨x, y, h1, h2, h3⟩ := h
    simp only [V.names, List.mem_append] at hn
    exact ⟨x, y, h1, RvL.ren f a _ (fun n h => hn n (.inl h)) h2, RvL.ren f b _ (fun n h => hn n (.inr h)) h3⟩
  | .ifc t x, v, hn, h => by obtain ⟨u, h1, h2⟩ := h; exact ⟨u, h1, Rv.ren f x u hn h2⟩
  | .ref q, v, hn, h => by
    have := hn q.r (by simp [V.names])
    simpa only [V.ren, Rv, nameRef, skAt, this] using h
  | .vw q lo hi, v, hn, h => by
    have := hn q.r (by simp [V.names])
    simpa only [V.ren, Rv, nameVw, skAt, this] using h
  | .ptrB r j, v, hn, h => by
    have := hn r (by simp [V.names])
    simpa only [V.ren, Rv, namePtrB, this] using h
  | .ptrE q i o, v, hn, h => by
    have := hn q.r (by simp [V.names])
    simpa only [V.ren, Rv, namePtrE, skAt, this] using h
  | .pim _ _ _, _, _, h => h
  | .slf, _, _, h => h.elim
  | .bad, _, _, _ => trivial
theorem RvL.ren (f : Nm → Nm) : ∀ (xs : List V) (vs : List Value), (∀ n ∈ namesL xs, gm' (f n) = gm n) → RvL w G gm vs xs → RvL w G gm' vs (renL f xs)
  | [], [], _, _ => trivial
  | x :: xs, v :: vs, hn, h => by
    simp only [namesL, List.mem_append] at hn
    exact ⟨Rv.ren f x v (fun n h => hn n (.inl h)) h.1, RvL.ren f xs vs (fun n h => hn n (.inr h)) h.2⟩
  | [], _ :: _, _, h => h.elim
  | _ :: _, [], _, h => h.elim
end

/- Own slices that are given up. -/
mutual
theorem Rv.fz (ns : List Nm) (hown : ∀ q e d xs, ownAt rd q = some (e, d, xs) → ∃ v, OwnC w G P v (.own e d xs) (skAt gm q)) (hG : ∀ b, G b → G' b)
    (hf : ∀ r R, r.mem ns = true → gm r = some R → ∀ b ∈ R.fp, G' b) (hs : ∀ r, r.mem ns = false → gm' r = gm r) :
    ∀ (x : V) (v : Value), Rv w G gm v x → Rv w G' gm' v (x.fz P rd ns)
  | .sc _, _, h => h
  | .nl _, _, h => h
  | .sl _ _, v, h => Rv.frame (fun _ _ => rfl) hG gm gm' _ v (fun n hn => by cases hn) h
  | .own _ _ _, _, h => h.elim
  | .ag xs, v, h => by obtain ⟨cs, h1, h2⟩ := h; exact ⟨cs, h1, RvL.fz ns hown hG hf hs xs _ h2⟩
  | .tp xs, v, h => by obtain ⟨cs, h1, h2⟩ := h; exact ⟨cs, h1, RvL.fz ns hown hG hf hs xs _ h2⟩
  | .fn g a b, v, h => by
    obtain ⟨x, y, h1, h2, h3⟩ := h
    exact ⟨x, y, h1, RvL.fz ns hown hG hf hs a _ h2, RvL.fz ns hown hG hf hs b _ h3⟩
  | .ifc t x, v, h => by obtain ⟨u, h1, h2⟩ := h; exact ⟨u, h1, Rv.fz ns hown hG hf hs x u h2⟩
  | .ref q, v, h => by
    simp only [V.fz]
    cases hm : q.r.mem ns with
    | false => exact Rv.frame (fun _ _ => rfl) hG gm gm' (.ref q) v (fun n hn => by simp only [V.names, List.mem_singleton] at hn; rw [hn]; exact hs _ hm) h
    | true =>
      simp only [cond_true]
      cases hbb : (q.p.isEmpty && (ownB rd q).1) with
      | false => exact trivial
      | true =>
        rw [Bool.and_eq_true] at hbb
        obtain ⟨e, d, xs, hqe, hqd, hqx, hq⟩ := ownB_some hbb.2
        simp only [cond_true, hqe, hqd, hqx]
        obtain ⟨u, hu⟩ := hown q e d xs hq
        have hfp : ∀ k ∈ (skAt gm q).fp, G' k := by
          intro k hk
          cases hR : gm q.r with
          | none => simp only [skAt, hR, Sk.fp] at hk; simp at hk
          | some R => exact hf q.r R hm hR k (sk_fp_in hR k hk)
        exact (ref_frz hu h hG hfp).imm (cim_imm (frz_imm e d xs))
  | .vw q lo hi, v, h => by
    simp only [V.fz]
    cases hm : q.r.mem ns with
    | false => exact Rv.frame (fun _ _ => rfl) hG gm gm' (.vw q lo hi) v (fun n hn => by simp only [V.names, List.mem_singleton] at hn; rw [hn]; exact hs _ hm) h
    | true =>
      simp only [cond_true]
      cases hbb : (q.p.isEmpty && (ownB rd q).1) with
      | false => exact trivial
      | true =>
        rw [Bool.and_eq_true] at hbb
        obtain ⟨e, d, xs, hqe, hqd, hqx, hq⟩ := ownB_some hbb.2
        simp only [cond_true, hqe, hqd, hqx]
        obtain ⟨u, hu⟩ := hown q e d xs hq
        have hfp : ∀ k ∈ (skAt gm q).fp, G' k := by
          intro k hk
          cases hR : gm q.r with
          | none => simp only [skAt, hR, Sk.fp] at hk; simp at hk
          | some R => exact hf q.r R hm hR k (sk_fp_in hR k hk)
        exact (vw_frz hu h hG hfp).imm (cim_imm (frz_imm e d _))
  | .ptrB r j, v, h => by
    simp only [V.fz]
    cases hm : r.mem ns with
    | false => exact Rv.frame (fun _ _ => rfl) hG gm gm' (.ptrB r j) v (fun n hn => by simp only [V.names, List.mem_singleton] at hn; rw [hn]; exact hs _ hm) h
    | true => exact trivial
  | .ptrE q i o, v, h => by
    simp only [V.fz]
    cases hm : q.r.mem ns with
    | false => exact Rv.frame (fun _ _ => rfl) hG gm gm' (.ptrE q i o) v (fun n hn => by simp only [V.names, List.mem_singleton] at hn; rw [hn]; exact hs _ hm) h
    | true => exact trivial
  | .pim _ _ _, v, h => Rv.frame (fun _ _ => rfl) hG gm gm' _ v (fun n hn => by cases hn) h
  | .slf, _, h => h.elim
  | .bad, _, _ => trivial
theorem RvL.fz (ns : List Nm) (hown : ∀ q e d xs, ownAt rd q = some (e, d, xs) → ∃ v, OwnC w G P v (.own e d xs) (skAt gm q)) (hG : ∀ b, G b → G' b)
    (hf : ∀ r R, r.mem ns = true → gm r = some R → ∀ b ∈ R.fp, G' b) (hs : ∀ r, r.mem ns = false → gm' r = gm r) :
    ∀ (xs : List V) (vs : List Value), RvL w G gm vs xs → RvL w G' gm' vs (fzL P rd ns xs)
  | [], [], _ => trivial
  | x :: xs, v :: vs, h => ⟨Rv.fz ns hown hG hf hs x v h.1, RvL.fz ns hown hG hf hs xs vs h.2⟩
  | [], _ :: _, h => h.elim
  | _ :: _, [], h => h.elim
end

/-- The state behind the giving up. -/
theorem Inv.fz (hI : Inv P w0 F N st a w G gm) (ns : List Nm) :
    ∃ G' gm', Inv P w0 F N (st.fz P ns) a w G' gm' ∧ (∀ b, G' b ↔ G b ∨ InN ns gm b) ∧ (∀ r, r.mem ns = false → gm' r = gm r) ∧ ∀ r, r.mem ns = true → gm' r = none := by
  let G' : Nat → Prop := fun b => G b ∨ InN ns gm b
  let gm' : GM := fun n => bif n.mem ns then none else gm n
  have hs : ∀ r, r.mem ns = false → gm' r = gm r := fun r h => by simp only [gm', h, cond_false]
  have hd : ∀ r, r.mem ns = true → gm' r = none := fun r h => by simp only [gm', h, cond_true]
  have hreg : Regs P w0 F (st.fz P ns).regs w G' gm' := by
    refine hI.regs.change (fun r => r.mem ns = true) (fun _ _ _ => rfl) rfl rfl rfl (Nat.le_refl _) ?_ ?_ ?_ ?_ ?_ (fun _ h => .inl h) ?_ (fun i R h hr => by rw [hd _ h] at hr; cases hr)
    · intro r hr
      have hr' : r.mem ns = false := by simpa using hr
      exact ⟨by simp only [St.fz, hr', cond_false], hs r hr'⟩
    · intro r hr
      simp only [St.fz, hr, cond_true, hd r hr]
    · intro r R hr h; rw [hd r hr] at h; cases h
    · intro r r' R R' hr _ _ h; rw [hd r hr] at h; cases h
    · intro r R b hr h; rw [hd r hr] at h; cases h
    · rintro b (hb | ⟨r, R, hr, hR, hb⟩)
      · exact .inl hb
      · refine .inr ⟨.inl ⟨r, R, (Nm.mem_iff r ns).2 hr, hR, hb⟩, hI.regs.lt hR b hb, ?_⟩
        rintro ⟨r', R', hr', hR', _⟩
        rw [hd r' hr'] at hR'; cases hR'
  refine ⟨G', gm', ⟨hreg, fun i => ?_, hI.size, hI.defers, ?_⟩, fun b => Iff.rfl, hs, hd⟩
  · refine Rv.fz ns (fun q e d xs hq => ?_) (fun _ h => .inl h) (fun r R hr hR b hb => .inr ⟨r, R, (Nm.mem_iff r ns).1 hr, hR, hb⟩) hs _ _ (hI.env i)
    obtain ⟨rg, hr, hx⟩ := ownAt_some hq
    obtain ⟨R, hg, hok⟩ := hI.regs.ok hr
    obtain ⟨v, hv, _⟩ := OwnL.at q.p rg.row q.j R.vals R.sks hok.2.1 (by rw [hx]; simp)
    rw [hx] at hv
    exact ⟨v, by simpa only [skAt, hg] using hv⟩
  · simp only [St.fz, hI.hand]
    cases Nm.hand.mem ns <;> rfl
end
end Go.Ab
/- What a call is handed, and what it hands back. -/
namespace Go.Ab
open Go
set_option linter.unusedSimpArgs false
set_option linter.unusedVariables false

def parR (gs : List Rg) : Nm → Option Rg := fun n => match n with | .par i => gs[i]? | _ => none
def parG (Rs : List RG) : GM := fun n => match n with | .par i => Rs[i]? | _ => none

/-- A call, however it is run, ends with a value. -/
def Enter (P : Program) (g : FuncId) (args : Array Value) (w : World) (R : Value → World → Prop) : Prop :=
  match (callFunc g args).run P w with
  | .ok (.value v) w' => R v w'
  | .ok (.enter f as) w' => Calls P f as w' fun e w'' => ∃ v, e = .returned v ∧ R v w''
  | .ok (.row row as) w' => Rows P row as w' R
  | _ => False

/-- What a call hands back. -/
def Back (P : Program) (w : World) (F : FG) (v : V) (gs' : List Rg) (res : Value) (w' : World) : Prop :=
  ∃ G' gm', Regs P w F (withHand (parR gs') (v.land .hand 0).2) w' G' gm' ∧ Rv w' G' gm' res (v.land .hand 0).1

/-- The machine's calls tell what calls do. -/
def CallSound (P : Program) (K : CallK) : Prop :=
  ∀ g vs gs v gs', K g vs gs = (true, v, gs') → ∀ (args : Array Value) (w : World) (F : FG) (Rs : List RG),
    Regs P w F (parR gs) w F.g (parG Rs) → RvL w F.g (parG Rs) args.toList vs → Enter P g args w (Back P w F v gs')

section
variable {P : Program} {w0 w w' : World} {F : FG} {N : Nat} {st : St} {a : Act} {G G' G1 : Nat → Prop} {gm gm' : GM} {deep : TypeId → Bool} {T : List Nm} {rd regs : Nm → Option Rg}

/-! ### shapes -/
theorem isInt_eq {k : IntKind} {v : V} (h : v.isInt k = true) : v = .sc (.int k v.intOf) := by
  unfold V.isInt at h
  split at h
  · next k' n => have : k' = k := by simpa using h
                 subst this; rfl
  · cases h
theorem isBool_eq {v : V} (h : v.isBool = true) : v = .sc (.bool v.boolOf) := by
  unfold V.isBool at h
  split at h
  · rfl
  · cases h
theorem isStr_eq {v : V} (h : v.isStr = true) : v = .sc (.string v.strOf) := by
  unfold V.isStr at h
  split at h
  · rfl
  · cases h
theorem isSl_eq {sz : Nat} {v : V} (h : v.isSl sz = true) : v = .sl sz v.cellsOf := by
  unfold V.isSl at h
  split at h
  · next s xs => have := nbeq h; subst this; rfl
  · cases h
theorem isOwnD_eq {e : TypeId} {d : Bool} {v : V} (h : v.isOwnD e d = true) : v = .own e d v.cellsOf := by
  unfold V.isOwnD at h
  split at h
  · next e' d' xs =>
    simp only [Bool.and_eq_true] at h
    have h1 := nbeq h.1
    have h2 : d' = d := by simpa using h.2
    subst h1; subst h2; rfl
  · cases h
theorem isAg_eq {n : Nat} {v : V} (h : v.isAg n = true) : v = .ag v.partsOf ∧ v.partsOf.length = n := by
  unfold V.isAg at h
  split at h
  · next xs => exact ⟨rfl, nbeq h⟩
  · cases h
theorem isTp_eq {n : Nat} {v : V} (h : v.isTp n = true) : v = .tp v.partsOf ∧ v.partsOf.length = n := by
  unfold V.isTp at h
  split at h
  · next xs => exact ⟨rfl, nbeq h⟩
  · cases h

mutual
theorem Sh.re_eq : ∀ (h : Sh) (v : V), (h.re v).1 = true → (h.re v).2 = v
  | .i k, v, h => (isInt_eq h).symm
  | .b, v, h => (isBool_eq h).symm
  | .s, v, h => (isStr_eq h).symm
  | .sl sz, v, h => (isSl_eq h).symm
  | .own e d, v, h => (isOwnD_eq h).symm
  | .ag l, v, h => by
    simp only [Sh.re, Bool.and_eq_true] at h ⊢
    obtain ⟨h1, h2⟩ := isAg_eq h.1
    have := Sh.reL_eq l v.partsOf 0 (by omega) h.2
    rw [this, List.drop_zero]
    exact h1.symm
  | .tp l, v, h => by
    simp only [Sh.re, Bool.and_eq_true] at h ⊢
    obtain ⟨h1, h2⟩ := isTp_eq h.1
    have := Sh.reL_eq l v.partsOf 0 (by omega) h.2
    rw [this, List.drop_zero]
    exact h1.symm
  | .any, v, _ => rfl
theorem Sh.reL_eq : ∀ (l : List Sh) (xs : List V) (k : Nat), k + l.length = xs.length → (Sh.reL l xs k).1 = true → (Sh.reL l xs k).2 = xs.drop k
  | [], xs, k, hk, _ => by
    simp only [Sh.reL]
    rw [List.drop_eq_nil_of_le (by simp at hk; omega)]
  | h :: l, xs, k, hk, hok => by
    simp only [Sh.reL, Bool.and_eq_true] at hok ⊢
    have hlt : k < xs.length := by simp at hk; omega
    rw [Sh.re_eq h _ hok.1, Sh.reL_eq l xs (k + 1) (by simp at hk; omega) hok.2, nthV_get _ _ hlt, List.drop_eq_getElem_cons hlt]
end

/-! ### landing -/
mutual
theorem V.land_rows (n m : Nm) : ∀ (x : V) (j : Nat), (x.land n j).2 = (x.land m j).2
  | .own _ _ _, _ => rfl
  | .ag xs, j => by simp only [V.land]; exact landL_rows n m xs j
  | .tp xs, j => by simp only [V.land]; exact landL_rows n m xs j
  | .sc _, _ => rfl
  | .nl _, _ => rfl
  | .sl _ _, _ => rfl
  | .fn _ _ _, _ => rfl
  | .ifc _ _, _ => rfl
  | .ref _, _ => rfl
  | .vw _ _ _, _ => rfl
  | .ptrB _ _, _ => rfl
  | .ptrE _ _ _, _ => rfl
  | .pim _ _ _, _ => rfl
  | .slf, _ => rfl
  | .bad, _ => rfl
theorem landL_rows (n m : Nm) : ∀ (xs : List V) (j : Nat), (landL n j xs).2 = (landL m j xs).2
  | [], _ => rfl
  | x :: xs, j => by simp only [landL]; rw [V.land_rows n m x j, landL_rows n m xs _]
end

mutual
theorem Rv.land {n m : Nm} : ∀ (x : V) (v : Value) (j : Nat), x.names = [] → ((x.land n j).2 ≠ [] → gm' m = gm n) → Rv w G gm v (x.land n j).1 → Rv w G gm' v (x.land m j).1
  | .own e d xs, v, j, _, hm, h => by
    have := hm (by simp [V.land])
    simpa only [V.land, Rv, nameRef, skAt, this] using h
  | .ag xs, v, j, hn, hm, h => by
    obtain ⟨cs, h1, h2⟩ := h
    exact ⟨cs, h1, RvL.land xs _ j hn hm h2⟩
  | .tp xs, v, j, hn, hm, h => by
    obtain ⟨cs, h1, h2⟩ := h
    exact ⟨cs, h1, RvL.land xs _ j hn hm h2⟩
  | .sc u, v, j, hn, _, h => h
  | .nl _, v, j, hn, _, h => h
  | .sl _ _, v, j, hn, _, h => h
  | .fn f x y, v, j, hn, _, h => Rv.frame (fun _ _ => rfl) (fun _ h => h) gm gm' (.fn f x y) v (fun k hk => by rw [hn] at hk; cases hk) h
  | .ifc t x, v, j, hn, _, h => Rv.frame (fun _ _ => rfl) (fun _ h => h) gm gm' (.ifc t x) v (fun k hk => by rw [hn] at hk; cases hk) h
  | .ref q, v, j, hn, _, _ => by simp [V.names] at hn
  | .vw q _ _, v, j, hn, _, _ => by simp [V.names] at hn
  | .ptrB _ _, v, j, hn, _, _ => by simp [V.names] at hn
  | .ptrE _ _ _, v, j, hn, _, _ => by simp [V.names] at hn
  | .pim _ _ _, v, j, hn, _, h => h
  | .slf, _, _, _, _, h => h.elim
  | .bad, _, _, _, _, _ => trivial
theorem RvL.land {n m : Nm} : ∀ (xs : List V) (vs : List Value) (j : Nat), namesL xs = [] → ((landL n j xs).2 ≠ [] → gm' m = gm n) → RvL w G gm vs (landL n j xs).1 → RvL w G gm' vs (landL m j xs).1
  | [], [], _, _, _, _ => trivial
  | x :: xs, v :: vs, j, hn, hm, h => by
    simp only [namesL, List.append_eq_nil_iff] at hn
    simp only [landL] at hm h ⊢
    refine ⟨Rv.land x v j hn.1 (fun hx => hm (by simp [hx])) h.1, ?_⟩
    rw [V.land_rows m n x j]
    exact RvL.land xs vs _ hn.2 (fun hx => hm (by simp [hx])) h.2
  | [], _ :: _, _, _, _, h => h.elim
  | _ :: _, [], _, _, _, h => h.elim
end

/-! ### lists of regions -/
theorem idxOf_get : ∀ (l : List Nm) (n : Nm), n ∈ l → l[idxOf n l]? = some n
  | [], _, h => by cases h
  | m :: l, n, h => by
    simp only [idxOf]
    by_cases e : n = m
    · subst e; rw [Nm.eq_self]; rfl
    · rw [Nm.eq_ne e]
      have : n ∈ l := by
        simp only [List.mem_cons] at h
        exact h.resolve_left e
      simpa using idxOf_get l n this

theorem idxOf_of_get : ∀ (l : List Nm) (i : Nat) (n : Nm), l.Nodup → l[i]? = some n → idxOf n l = i
  | [], _, _, _, h => by simp at h
  | m :: l, 0, n, _, h => by
    obtain rfl := Option.some.inj (by simpa using h)
    simp [idxOf, Nm.eq_self]
  | m :: l, i + 1, n, hnd, h => by
    rw [List.nodup_cons] at hnd
    have hn : n ∈ l := List.mem_of_getElem? (by simpa using h)
    have e : n ≠ m := fun e => hnd.1 (e ▸ hn)
    simp only [idxOf, Nm.eq_ne e, cond_false]
    rw [idxOf_of_get l i n hnd.2 (by simpa using h)]

theorem dedup_mem : ∀ (l : List Nm) (n : Nm), n ∈ dedup l ↔ n ∈ l
  | [], _ => Iff.rfl
  | m :: l, n => by
    simp only [dedup]
    cases hm : m.mem l with
    | true =>
      simp only [cond_true, List.mem_cons, dedup_mem l n]
      refine ⟨.inr, ?_⟩
      rintro (rfl | h)
      · exact (Nm.mem_iff _ _).1 hm
      · exact h
    | false => simp only [cond_false, List.mem_cons, dedup_mem l n]
theorem dedup_nodup : ∀ (l : List Nm), (dedup l).Nodup
  | [] => List.nodup_nil
  | m :: l => by
    simp only [dedup]
    cases hm : m.mem l with
    | true => exact dedup_nodup l
    | false =>
      simp only [cond_false, List.nodup_cons]
      exact ⟨fun h => (Nm.mem_false _ _).1 hm ((dedup_mem l m).1 h), dedup_nodup l⟩

theorem allSome_spec : ∀ (l : List (Option Rg)) (gs : List Rg), allSome l = some gs → l = gs.map some
  | [], gs, h => by obtain rfl := Option.some.inj h; rfl
  | none :: l, gs, h => by cases h
  | some g :: l, gs, h => by
    simp only [allSome] at h
    split at h
    · next r hr =>
      obtain rfl := Option.some.inj h
      simp [allSome_spec l r hr]
    · cases h

theorem zipSet_out : ∀ (ns : List Nm) (gs : List Rg) (rd : Nm → Option Rg) (n : Nm), n ∉ ns → zipSet ns gs rd n = rd n
  | [], _, _, _, _ => rfl
  | _ :: _, [], _, _, _ => rfl
  | m :: ns, g :: gs, rd, n, h => by
    simp only [List.mem_cons, not_or] at h
    simp only [zipSet]
    rw [zipSet_out ns gs _ n h.2, setR_ne _ _ h.1]

theorem zipSet_at : ∀ (ns : List Nm) (gs : List Rg) (rd : Nm → Option Rg) (i : Nat) (n : Nm), ns.Nodup → ns[i]? = some n → i < gs.length → zipSet ns gs rd n = gs[i]?
  | [], _, _, _, _, _, h, _ => by simp at h
  | _ :: _, [], _, _, _, _, _, h => by simp at h
  | m :: ns, g :: gs, rd, 0, n, hnd, h, _ => by
    obtain rfl := Option.some.inj (by simpa using h)
    rw [List.nodup_cons] at hnd
    simp only [zipSet]
    rw [zipSet_out ns gs _ m hnd.1, setR_self]
    rfl
  | m :: ns, g :: gs, rd, i + 1, n, hnd, h, hl => by
    rw [List.nodup_cons] at hnd
    simp only [zipSet]
    rw [zipSet_at ns gs _ i n hnd.2 (by simpa using h) (by simpa using hl)]
    simp

theorem roots_mem : ∀ (ns : List Nm) (gs : List Rg) (i : Nat) (n : Nm) (g : Rg), ns[i]? = some n → gs[i]? = some g → g.lone = false → n ∈ roots ns gs
  | [], _, _, _, _, h, _, _ => by simp at h
  | _ :: _, [], _, _, _, _, h, _ => by simp at h
  | m :: ns, g :: gs, 0, n, g', h, hg, hl => by
    obtain rfl := Option.some.inj (by simpa using h)
    obtain rfl := Option.some.inj (by simpa using hg)
    simp [roots, hl]
  | m :: ns, g :: gs, i + 1, n, g', h, hg, hl => by
    have := roots_mem ns gs i n g' (by simpa using h) (by simpa using hg) hl
    simp only [roots]
    cases g.lone with
    | true => exact this
    | false => simp [this]

/-! ### handing over -/
/-- What a call may do with what it is handed. -/
def handF (bn : List Nm) (gm : GM) (G1 : Nat → Prop) (gs : List Rg) (Rs : List RG) : FG :=
  ⟨fun b => InN bn gm b, G1, fun i => (Rs[i]?).bind (·.b), fun i => match gs[i]?, Rs[i]? with
    | some g, some R => if g.lone = true then some (skHead (nthS R.sks 0)) else none
    | _, _ => none⟩

theorem lone_spec {g : Rg} {R : RG} (h : RgOk w G P g R) : g.lone = true ↔ R.b = none ∧ R.vals.length = 1 := by
  have hl := h.2.1.length.1
  have hb := h.1
  constructor
  · intro hg
    unfold Rg.lone at hg
    split at hg
    · simp only at hl hb
      refine ⟨?_, by simpa using hl⟩
      cases hR : R.b with
      | none => rfl
      | some b => rw [hR] at hb; cases hb
    · cases hg
  · rintro ⟨h1, h2⟩
    rw [h1] at hb
    obtain ⟨box, row⟩ := g
    simp only at hb hl
    rw [h2] at hl
    obtain ⟨x, rfl⟩ := List.length_eq_one_iff.1 hl.symm
    have : box = false := by simpa using hb
    subst this
    rfl

theorem pass_ok (h : Regs P w0 F regs w G gm) {bn : List Nm} (hnd : bn.Nodup) {gs : List Rg} (hgs : bn.map regs = gs.map some) (hG : ∀ b, G b → G1 b) (hlt : ∀ b, G1 b → b < w.heap.size)
    (hap : ∀ r R b, r ∈ bn → gm r = some R → b ∈ R.fp → ¬ G1 b) :
    ∃ Rs : List RG, Rs.length = bn.length ∧ (∀ (i : Nat) (n : Nm), bn[i]? = some n → gm n = Rs[i]?) ∧ Regs P w (handF bn gm G1 gs Rs) (parR gs) w G1 (parG Rs) := by
  have hlen : gs.length = bn.length := by simpa using (congrArg List.length hgs).symm
  have hat : ∀ (i : Nat) (n : Nm), bn[i]? = some n → ∃ g R, gs[i]? = some g ∧ gm n = some R ∧ RgOk w G P g R := by
    intro i n hn
    have : (bn.map regs)[i]? = some (regs n) := by rw [List.getElem?_map, hn]; rfl
    rw [hgs, List.getElem?_map] at this
    cases hg : gs[i]? with
    | none => rw [hg] at this; cases this
    | some g =>
      rw [hg] at this
      obtain ⟨R, h1, h2⟩ := h.ok (Option.some.inj this).symm
      exact ⟨g, R, rfl, h1, h2⟩
  let Rs : List RG := bn.map fun n => (gm n).getD ⟨none, [], []⟩
  have hRs : ∀ (i : Nat) (n : Nm), bn[i]? = some n → gm n = Rs[i]? := by
    intro i n hn
    obtain ⟨g, R, _, h1, _⟩ := hat i n hn
    simp only [Rs, List.getElem?_map, hn, Option.map_some, h1, Option.getD_some]
  have hback : ∀ (i : Nat) (R : RG), Rs[i]? = some R → ∃ n, bn[i]? = some n ∧ gm n = some R := by
    intro i R hR
    have hi : i < bn.length := by
      have := (List.getElem?_eq_some_iff.1 hR).1
      simpa [Rs] using this
    refine ⟨bn[i], List.getElem?_eq_getElem hi, ?_⟩
    rw [hRs i _ (List.getElem?_eq_getElem hi)]; exact hR
  refine ⟨Rs, by simp [Rs], hRs, ?_⟩
  refine ⟨?_, ?_, ?_, ?_, ?_, hlt, ⟨rfl, rfl, rfl, Nat.le_refl _, fun _ _ _ => rfl⟩, fun _ h => h, fun _ h => .inl h, ?_, h.tabs.frame (fun _ _ => rfl) hG⟩
  · intro r
    cases r with
    | loc i => trivial
    | hand => trivial
    | par i =>
      simp only [parR, parG]
      cases hb : bn[i]? with
      | none =>
        have hi : bn.length ≤ i := by simpa using hb
        rw [List.getElem?_eq_none (by omega), List.getElem?_eq_none (by simp [Rs]; exact hi)]
        trivial
      | some n =>
        obtain ⟨g, R, h1, h2, h3⟩ := hat i n hb
        rw [h1, ← hRs i n hb, h2]
        exact h3.frame (fun _ _ => rfl) hG (fun _ _ => rfl)
  · intro r R hr
    cases r with
    | par i => obtain ⟨n, _, h2⟩ := hback i R hr; exact h.nodup n R h2
    | _ => cases hr
  · intro r r' R R' hne hr hr'
    cases r with
    | par i =>
      cases r' with
      | par j =>
        obtain ⟨n, h1, h2⟩ := hback i R hr
        obtain ⟨m, h3, h4⟩ := hback j R' hr'
        refine h.disj n m R R' (fun e => hne ?_) h2 h4
        subst e
        rw [← idxOf_of_get bn i n hnd h1, ← idxOf_of_get bn j n hnd h3]
      | _ => cases hr'
    | _ => cases hr
  · intro r R b hr hb
    cases r with
    | par i =>
      obtain ⟨n, h1, h2⟩ := hback i R hr
      exact hap n R b (List.mem_of_getElem? h1) h2 hb
    | _ => cases hr
  · intro r R b hr hb
    cases r with
    | par i =>
      obtain ⟨n, h1, h2⟩ := hback i R hr
      exact .inr ⟨n, R, List.mem_of_getElem? h1, h2, hb⟩
    | _ => cases hr
  · intro i R hr
    have hr : Rs[i]? = some R := hr
    refine ⟨by simp [handF, hr], fun s hs => ?_⟩
    obtain ⟨n, h1, h2⟩ := hback i R hr
    obtain ⟨g, R', h3, h4, h5⟩ := hat i n h1
    rw [h2] at h4
    obtain rfl := Option.some.inj h4
    simp only [handF, h3, hr] at hs
    split at hs
    · next hl =>
      obtain rfl := Option.some.inj hs
      exact ⟨((lone_spec h5).1 hl).1, ((lone_spec h5).1 hl).2, rfl⟩
    · cases hs
end
end Go.Ab
/- What a call hands back lies in the state. -/
namespace Go.Ab
open Go
set_option linter.unusedSimpArgs false
set_option linter.unusedVariables false

section
variable {P : Program} {w0 w w' : World} {F : FG} {N : Nat} {st : St} {a : Act} {G G' G1 : Nat → Prop} {gm gm' : GM} {deep : TypeId → Bool} {T : List Nm} {rd regs : Nm → Option Rg}

theorem bn_at {bn : List Nm} {n : Nm} (h : n ∈ bn) : bn[idxOf n bn]? = some n := idxOf_get bn n h

/-- Regions and results, as they come back. -/
theorem back_ok (hI : Inv P w0 F N st a w G gm) {o : Option Nat} (hd : ∀ x, o = some x → x < N) {bn : List Nm} (hnd : bn.Nodup) (hbh : Nm.hand ∉ bn) {T : List Nm} {gs : List Rg} (hgs : bn.map (only T st.regs) = gs.map some)
    {Rs : List RG} (hRl : Rs.length = bn.length) (hRs : ∀ (i : Nat) (n : Nm), bn[i]? = some n → gm n = Rs[i]?)
    {sh : Sh} {v : V} {gs' : List Rg} (hok : (semRet o (only T st.regs) bn gs sh v gs').ok = true) {res : Value} (hb : Back P w (handF bn gm G gs Rs) v gs' res w') :
    ∃ G' gm', (∀ b, G b → G' b) ∧ Inv P w0 F N (st.app (semRet o (only T st.regs) bn gs sh v gs') o) (a.put o res) w' G' gm' := by
  obtain ⟨G', gm1, hR1, hres⟩ := hb
  unfold semRet at hok ⊢
  simp only at hok ⊢
  obtain ⟨h1, _⟩ := when_ok hok
  simp only [Bool.and_eq_true] at h1
  obtain ⟨⟨⟨p1, p2⟩, p3⟩, p4⟩ := h1
  have hre := Sh.re_eq sh v p1
  rw [hre] at p2 p4 ⊢
  replace p3 := nbeq p3
  have hnames : v.names = [] := by simpa using p2
  clear hok
  generalize hdd : ddOf o = dd at p4 ⊢
  generalize hnw : (o.isSome && !(v.land (.loc dd) 0).2.isEmpty) = nw
  have hrows : (v.land (.loc dd) 0).2 = (v.land .hand 0).2 := V.land_rows _ _ v 0
  have hlen : gs.length = bn.length := by simpa using (congrArg List.length hgs).symm
  have hreg : ∀ (i : Nat) (n : Nm), bn[i]? = some n → ∃ g R, gs[i]? = some g ∧ gm n = some R ∧ Rs[i]? = some R ∧ RgOk w G P g R := by
    intro i n hn
    have : (bn.map (only T st.regs))[i]? = some (only T st.regs n) := by rw [List.getElem?_map, hn]; rfl
    rw [hgs, List.getElem?_map] at this
    cases hg : gs[i]? with
    | none => rw [hg] at this; cases this
    | some g =>
      rw [hg] at this
      obtain ⟨R, h1, h2⟩ := hI.regs.ok (only_some (Option.some.inj this).symm)
      exact ⟨g, R, rfl, h1, by rw [← hRs i n hn]; exact h1, h2⟩
  -- the bones behind the call
  let gm2 : GM := fun n => bif nw && Nm.eq n (.loc dd) then gm1 .hand else bif n.mem bn then gm1 (.par (idxOf n bn)) else gm n
  have hgl : nw = true → gm2 (.loc dd) = gm1 .hand := fun h => by simp only [gm2, h, Nm.eq_self, Bool.and_self, cond_true]
  have hgb : ∀ n : Nm, n ∈ bn → (nw = true → n ≠ .loc dd) → gm2 n = gm1 (.par (idxOf n bn)) := by
    intro n hn hne
    have : (nw && Nm.eq n (.loc dd)) = false := by
      cases hw : nw with
      | false => rfl
      | true => rw [Nm.eq_ne (hne hw)]; rfl
    simp only [gm2, this, cond_false, (Nm.mem_iff n bn).2 hn, cond_true]
  have hgo : ∀ n : Nm, n ∉ bn → (nw = true → n ≠ .loc dd) → gm2 n = gm n := by
    intro n hn hne
    have : (nw && Nm.eq n (.loc dd)) = false := by
      cases hw : nw with
      | false => rfl
      | true => rw [Nm.eq_ne (hne hw)]; rfl
    simp only [gm2, this, cond_false, (Nm.mem_false n bn).2 hn]
  let e : Eff := ⟨true, (v.land (.loc dd) 0).1, bif nw then setR (zipSet bn gs' (only T st.regs)) (.loc dd) (some ⟨false, (v.land (.loc dd) 0).2⟩) else zipSet bn gs' (only T st.regs), (bif nw then [.loc dd] else []) ++ bn, ⟨bn, roots bn gs, bif nw then [.loc dd] else []⟩⟩
  show ∃ G' gm', (∀ b, G b → G' b) ∧ Inv P w0 F N (st.app e o) (a.put o res) w' G' gm'
  -- the regions behind the call
  have hrl : nw = true → (st.app e o).regs (.loc dd) = some ⟨false, (v.land .hand 0).2⟩ := by
    intro h
    simp only [St.app, e, h, cond_true, List.cons_append, List.nil_append, Nm.mem, Nm.eq_self, Bool.true_or, setR_self, hrows]
  have hmw : ∀ n : Nm, (nw = true → n ≠ .loc dd) → n.mem ((bif nw then [Nm.loc dd] else []) ++ bn) = n.mem bn := by
    intro n hne
    cases hw : nw with
    | false => rfl
    | true => simp only [cond_true, List.cons_append, List.nil_append, Nm.mem, Nm.eq_ne (hne hw), Bool.false_or]
  have hreg0 : ∀ n : Nm, (nw = true → n ≠ .loc dd) → e.regs n = zipSet bn gs' (only T st.regs) n := by
    intro n hne
    simp only [e]
    cases hw : nw with
    | false => rfl
    | true => simp only [cond_true, setR_ne _ _ (hne hw)]
  have hrb : ∀ n : Nm, n ∈ bn → (nw = true → n ≠ .loc dd) → (st.app e o).regs n = gs'[idxOf n bn]? := by
    intro n hn hne
    have hi := bn_at hn
    have hlt : idxOf n bn < bn.length := (List.getElem?_eq_some_iff.1 hi).1
    simp only [St.app]
    rw [show n.mem e.w = true by rw [show e.w = (bif nw then [Nm.loc dd] else []) ++ bn from rfl, hmw n hne]; exact (Nm.mem_iff n bn).2 hn]
    simp only [cond_true]
    rw [hreg0 n hne]
    exact zipSet_at bn gs' _ _ n hnd hi (by omega)
  have hro : ∀ n : Nm, n ∉ bn → (nw = true → n ≠ .loc dd) → (st.app e o).regs n = st.regs n := by
    intro n hn hne
    simp only [St.app]
    rw [show n.mem e.w = false by rw [show e.w = (bif nw then [Nm.loc dd] else []) ++ bn from rfl, hmw n hne]; exact (Nm.mem_false n bn).2 hn]
    rfl
  -- who is who in the call
  have hwho : ∀ n : Nm, ((nw = true ∧ n = .loc dd) ∨ n ∈ bn) → ∃ m, (withHand (parR gs') (v.land .hand 0).2) m = (st.app e o).regs n ∧ gm2 n = gm1 m ∧ ((nw = true ∧ n = .loc dd ∧ m = .hand) ∨ ((nw = true → n ≠ .loc dd) ∧ n ∈ bn ∧ m = .par (idxOf n bn))) := by
    intro n hn
    by_cases hl : nw = true ∧ n = .loc dd
    · obtain ⟨h1, rfl⟩ := hl
      exact ⟨.hand, by rw [withHand_hand, hrl h1], hgl h1, .inl ⟨h1, rfl, rfl⟩⟩
    · have hn' : n ∈ bn := hn.resolve_left hl
      have hne : nw = true → n ≠ .loc dd := fun h1 h2 => hl ⟨h1, h2⟩
      exact ⟨.par (idxOf n bn), by rw [hrb n hn' hne]; rfl, hgb n hn' hne, .inr ⟨hne, hn', rfl⟩⟩
  have hinj : ∀ n n' m : Nm, ((nw = true ∧ n = .loc dd ∧ m = .hand) ∨ ((nw = true → n ≠ .loc dd) ∧ n ∈ bn ∧ m = .par (idxOf n bn))) →
      ((nw = true ∧ n' = .loc dd ∧ m = .hand) ∨ ((nw = true → n' ≠ .loc dd) ∧ n' ∈ bn ∧ m = .par (idxOf n' bn))) → n = n' := by
    rintro n n' m (⟨_, rfl, rfl⟩ | ⟨_, h2, rfl⟩) (⟨_, rfl, h⟩ | ⟨_, h4, h⟩)
    · rfl
    · cases h
    · cases h
    · have h5 := bn_at h2
      have h6 := bn_at h4
      have : idxOf n bn = idxOf n' bn := by simpa using h
      rw [this, h6] at h5
      exact (Option.some.inj h5).symm
  have hregs : Regs P w0 F (st.app e o).regs w' G' gm2 := by
    refine hI.regs.change (fun n => (nw = true ∧ n = .loc dd) ∨ n ∈ bn) ?_ hR1.keep.os hR1.keep.tape hR1.keep.output hR1.keep.size ?_ ?_ ?_ ?_ ?_ (fun b hb => hR1.base b hb) ?_ ?_
    · intro k hk hn
      refine hR1.keep.block k hk ?_
      rintro ⟨r, R, hr, hR, hb⟩
      exact hn ⟨r, R, .inr hr, hR, hb⟩
    · intro r hr
      simp only [not_or, not_and] at hr
      exact ⟨hro r hr.2 hr.1, hgo r hr.2 hr.1⟩
    · intro r hr
      obtain ⟨m, h1, h2, _⟩ := hwho r hr
      have := hR1.reg m
      rw [h1, ← h2] at this
      exact this
    · intro r R hr hg
      obtain ⟨m, _, h2, _⟩ := hwho r hr
      exact hR1.nodup m R (by rw [← h2]; exact hg)
    · intro r r' R R' hr hr' hne hg hg'
      obtain ⟨m, _, h2, h3⟩ := hwho r hr
      obtain ⟨m', _, h2', h3'⟩ := hwho r' hr'
      exact hR1.disj m m' R R' (fun e => hne (hinj r r' m h3 (e ▸ h3'))) (by rw [← h2]; exact hg) (by rw [← h2']; exact hg')
    · intro r R b hr hg hb
      obtain ⟨m, _, h2, _⟩ := hwho r hr
      rcases hR1.mine m R b (by rw [← h2]; exact hg) hb with h | ⟨r', R', hr', hR', hb'⟩
      · exact .inr h
      · exact .inl ⟨r', R', .inr hr', hR', hb'⟩
    · intro b hb
      rcases hR1.grow b hb with h | h
      · exact .inl h
      · refine .inr ⟨?_, hR1.old b hb, ?_⟩
        · rcases h with h | ⟨r', R', hr', hR', hb'⟩
          · exact .inr h
          · exact .inl ⟨r', R', .inr hr', hR', hb'⟩
        · rintro ⟨r, R, hr, hg, hb'⟩
          obtain ⟨m, _, h2, _⟩ := hwho r hr
          exact hR1.apart m R b (by rw [← h2]; exact hg) hb' hb
    · rintro i R' (⟨_, h⟩ | hi) hg
      · cases h
      · rw [hgb _ hi (fun _ h => by cases h)] at hg
        have hix := bn_at hi
        obtain ⟨g, R, q1, q2, q3, q4⟩ := hreg _ _ hix
        obtain ⟨c1, c2⟩ := hR1.par _ R' hg
        obtain ⟨d1, d2⟩ := hI.regs.par i R q2
        simp only [handF, q1, q3, Option.bind_some] at c1 c2
        refine ⟨c1.trans d1, fun s hs => ?_⟩
        obtain ⟨e1, e2, e3⟩ := d2 s hs
        have hl := (lone_spec q4).2 ⟨e1, e2⟩
        rw [if_pos hl] at c2
        obtain ⟨f1, f2, f3⟩ := c2 _ rfl
        exact ⟨f1, f2, f3.trans e3⟩
  have hge : ∀ n, n ∈ bn → ∃ R', gm1 (.par (idxOf n bn)) = some R' := by
    intro n hn
    have hi := bn_at hn
    have hlt : idxOf n bn < bn.length := (List.getElem?_eq_some_iff.1 hi).1
    have h1 : withHand (parR gs') (v.land .hand 0).2 (.par (idxOf n bn)) = some gs'[idxOf n bn] := by
      rw [withHand_ne _ _ (by simp)]
      exact List.getElem?_eq_getElem (by omega)
    obtain ⟨R', h2, _⟩ := hR1.ok h1
    exact ⟨R', h2⟩
  have hstay : Stay e.k gm gm2 := by
    refine ⟨fun q hq hl => ?_, fun r R b hr hg hb => ?_⟩
    · have hk : e.k = ⟨bn, roots bn gs, bif nw then [.loc dd] else []⟩ := rfl
      rw [hk] at hq
      simp only [Kl.hits, Bool.or_eq_false_iff] at hq
      have hne : nw = true → q.r ≠ .loc dd := by
        intro h e
        have := hq.1.1
        rw [h, e] at this
        simp [Nm.mem, Nm.eq_self] at this
      by_cases hb : q.r ∈ bn
      · have hp : q.p = [] := by
          have := hq.2
          rw [(Nm.mem_iff _ _).2 hb] at this
          simpa using this
        obtain ⟨g, R, q1, q2, q3, q4⟩ := hreg _ _ (bn_at hb)
        have hlone : g.lone = true := by
          cases hl : g.lone with
          | true => rfl
          | false => exact absurd (roots_mem bn gs _ _ g (bn_at hb) q1 hl) ((Nm.mem_false _ _).1 hq.1.2)
        obtain ⟨R', hR'⟩ := hge _ hb
        obtain ⟨c1, c2⟩ := hR1.par _ R' hR'
        simp only [handF, q1, q3, if_pos hlone] at c2
        obtain ⟨f1, f2, f3⟩ := c2 _ rfl
        simp only [skAt, q2, hp, getSk] at hl
        have hj : q.j = 0 := by
          have h1 := ((lone_spec q4).1 hlone).2
          have h2 := q4.2.1.length
          rcases Nat.eq_zero_or_pos q.j with h | h
          · exact h
          · exact absurd (nthS_out R.sks q.j (by omega)) hl
        simp only [skAt, q2, hgb _ hb hne, hR', hp, getSk, hj]
        exact f3
      · rw [skAt_ne (gm := gm) (hgo _ hb hne)]
    · have hne : nw = true → r ≠ .loc dd := by
        intro h e'
        have hk : e.k.a = bif nw then [.loc dd] else [] := rfl
        rw [hk, h, e'] at hr
        simp [Nm.mem, Nm.eq_self] at hr
      by_cases hb' : r ∈ bn
      · obtain ⟨g, R2, q1, q2, q3, q4⟩ := hreg _ _ (bn_at hb')
        rw [hg] at q2
        obtain rfl := Option.some.inj q2
        obtain ⟨R', hR'⟩ := hge _ hb'
        obtain ⟨c1, _⟩ := hR1.par _ R' hR'
        simp only [handF, q3, Option.bind_some] at c1
        exact ⟨R', by rw [hgb _ hb' hne]; exact hR', c1.trans hb⟩
      · exact ⟨R, by rw [hgo _ hb' hne]; exact hg, hb⟩
  refine ⟨G', gm2, fun b hb => hR1.base b hb, hI.app e o hd res hregs ?_ (fun b hb => hR1.base b hb) ?_ hstay (fun ho => ?_)⟩
  · rw [hro _ hbh (fun _ h => by cases h)]; exact hI.hand
  · intro k hk
    refine hR1.keep.block k (hI.regs.old k hk) ?_
    rintro ⟨r, R, _, hR, hb⟩
    exact hI.regs.apart r R k hR hb hk
  · refine Rv.land v res 0 hnames (fun hx => hgl ?_) hres
    rw [← hnw]
    have : o.isSome = true := by
      cases o with
      | none => exact absurd rfl ho
      | some d => rfl
    rw [this, hrows]
    simpa [List.isEmpty_iff] using hx

/-! ### results that hold no slice -/
mutual
theorem scalar_land : ∀ (h : Sh) (v : V), h.scalar = true → (h.re v).1 = true → ∀ n j, ((h.re v).2.land n j).2 = []
  | .i k, v, _, _, _, _ => rfl
  | .b, v, _, _, _, _ => rfl
  | .s, v, _, _, _, _ => rfl
  | .ag l, v, hs, h, n, j => by
    simp only [Sh.re, Bool.and_eq_true] at h
    simp only [Sh.re, V.land]
    exact scalarL_land l v.partsOf 0 hs h.2 n j
  | .tp l, v, hs, h, n, j => by
    simp only [Sh.re, Bool.and_eq_true] at h
    simp only [Sh.re, V.land]
    exact scalarL_land l v.partsOf 0 hs h.2 n j
  | .sl _, _, hs, _, _, _ => by cases hs
  | .own _ _, _, hs, _, _, _ => by cases hs
  | .any, _, hs, _, _, _ => by cases hs
theorem scalarL_land : ∀ (l : List Sh) (xs : List V) (k : Nat), scalarL l = true → (Sh.reL l xs k).1 = true → ∀ n j, (landL n j (Sh.reL l xs k).2).2 = []
  | [], _, _, _, _, _, _ => rfl
  | h :: l, xs, k, hs, hok, n, j => by
    simp only [scalarL, Bool.and_eq_true] at hs
    simp only [Sh.reL, Bool.and_eq_true] at hok
    simp only [Sh.reL, landL]
    rw [scalar_land h _ hs.1 hok.1 n j, scalarL_land l xs (k + 1) hs.2 hok.2 n _]
    rfl
end

mutual
theorem scalar_rv {w1 w2 : World} {G1 G2 : Nat → Prop} {g1 g2 : GM} : ∀ (h : Sh) (v : V) (u : Value), h.scalar = true → (h.re v).1 = true → ∀ n m j, Rv w1 G1 g1 u ((h.re v).2.land n j).1 → Rv w2 G2 g2 u ((h.re v).2.land m j).1
  | .i k, v, u, _, _, _, _, _, h => h
  | .b, v, u, _, _, _, _, _, h => h
  | .s, v, u, _, _, _, _, _, h => h
  | .ag l, v, u, hs, h, n, m, j, hr => by
    simp only [Sh.re, Bool.and_eq_true] at h
    simp only [Sh.re, V.land] at hr ⊢
    obtain ⟨cs, h1, h2⟩ := hr
    exact ⟨cs, h1, scalarL_rv l v.partsOf 0 _ hs h.2 n m j h2⟩
  | .tp l, v, u, hs, h, n, m, j, hr => by
    simp only [Sh.re, Bool.and_eq_true] at h
    simp only [Sh.re, V.land] at hr ⊢
    obtain ⟨cs, h1, h2⟩ := hr
    exact ⟨cs, h1, scalarL_rv l v.partsOf 0 _ hs h.2 n m j h2⟩
  | .sl _, _, _, hs, _, _, _, _, _ => by cases hs
  | .own _ _, _, _, hs, _, _, _, _, _ => by cases hs
  | .any, _, _, hs, _, _, _, _, _ => by cases hs
theorem scalarL_rv {w1 w2 : World} {G1 G2 : Nat → Prop} {g1 g2 : GM} : ∀ (l : List Sh) (xs : List V) (k : Nat) (us : List Value), scalarL l = true → (Sh.reL l xs k).1 = true → ∀ n m j,
    RvL w1 G1 g1 us (landL n j (Sh.reL l xs k).2).1 → RvL w2 G2 g2 us (landL m j (Sh.reL l xs k).2).1
  | [], _, _, us, _, _, _, _, _, hr => by
    simp only [Sh.reL, landL] at hr ⊢
    rw [RvL.nil_of hr]; exact trivial
  | h :: l, xs, k, us, hs, hok, n, m, j, hr => by
    simp only [scalarL, Bool.and_eq_true] at hs
    simp only [Sh.reL, Bool.and_eq_true] at hok
    simp only [Sh.reL, landL] at hr ⊢
    cases us with
    | nil => exact hr.elim
    | cons u us =>
      refine ⟨scalar_rv h _ u hs.1 hok.1 n m j hr.1, ?_⟩
      rw [scalar_land h _ hs.1 hok.1 n j] at hr
      rw [scalar_land h _ hs.1 hok.1 m j]
      exact scalarL_rv l xs (k + 1) us hs.2 hok.2 n m _ hr.2
end

/-- A call that is handed values alone, and hands back what holds no slice, leaves the regions as they are. -/
theorem back_scalar (hI : Inv P w0 F N st a w G gm) {o : Option Nat} (hd : ∀ x, o = some x → x < N) {T : List Nm} {sh : Sh} (hsc : sh.scalar = true) {v : V} {gs' : List Rg} (hok : (semRet o (only T st.regs) [] [] sh v gs').ok = true)
    {Rs : List RG} {res : Value} (hb : Back P w (handF [] gm G1 [] Rs) v gs' res w') :
    Inv P w0 F N (st.app (semRet o (only T st.regs) [] [] sh v gs') o) (a.put o res) w' G gm := by
  obtain ⟨G', gm1, hR1, hres⟩ := hb
  unfold semRet at hok ⊢
  simp only at hok ⊢
  obtain ⟨h1, _⟩ := when_ok hok
  simp only [Bool.and_eq_true] at h1
  obtain ⟨⟨⟨p1, p2⟩, p3⟩, p4⟩ := h1
  have hre := Sh.re_eq sh v p1
  generalize hdd : ddOf o = dd at p4 ⊢
  have hl0 := scalar_land sh v hsc p1 (.loc dd) 0
  have hkeep : ∀ k, k < w.heap.size → w'.heap[k]? = w.heap[k]? := fun k hk => hR1.keep.block k hk (by rintro ⟨r, R, hr, _⟩; cases hr)
  have hregs : Regs P w0 F st.regs w' G gm :=
    hI.regs.change (fun _ => False) (fun k hk _ => hkeep k hk) hR1.keep.os hR1.keep.tape hR1.keep.output hR1.keep.size (fun _ _ => ⟨rfl, rfl⟩) (fun _ h => h.elim) (fun _ _ h => h.elim) (fun _ _ _ _ h => h.elim) (fun _ _ _ h => h.elim) (fun _ h => h) (fun _ h => .inl h) (fun _ _ h => h.elim)
  have hw0 : (o.isSome && !((sh.re v).2.land (.loc dd) 0).2.isEmpty) = false := by rw [hl0]; simp
  simp only [hw0, cond_false, roots, zipSet, List.nil_append]
  refine hI.app _ o hd res ?_ ?_ (fun _ h => h) (fun k hk => hkeep k (hI.regs.old k hk)) (Stay.refl _ _) (fun _ => ?_)
  · simpa [St.app, Nm.mem, when_w, when_regs, Eff.when] using hregs
  · simp only [St.app, Eff.when, Nm.mem, cond_false]; exact hI.hand
  · rw [when_val]
    simp only
    rw [← hre] at hres
    exact scalar_rv sh v res hsc p1 .hand (.loc dd) 0 hres
end
end Go.Ab
/- Calls come to their effects. -/
namespace Go.Ab
open Go
set_option linter.unusedSimpArgs false
set_option linter.unusedVariables false

section
variable {C : Cfg} {callK : CallK} {w0 w w' : World} {F : FG} {N : Nat} {st : St} {a : Act} {G G' G1 : Nat → Prop} {gm gm' : GM} {T : List Nm}

theorem RvL.append : ∀ {vs vs' : List Value} {xs xs' : List V}, RvL w G gm vs xs → RvL w G gm vs' xs' → RvL w G gm (vs ++ vs') (xs ++ xs')
  | [], _, [], _, _, h => h
  | _ :: _, _, _ :: _, _, h, h' => ⟨h.1, RvL.append h.2 h'⟩
  | [], _, _ :: _, _, h, _ => h.elim
  | _ :: _, _, [], _, h, _ => h.elim

theorem run_call_op {P : Program} (w : World) {o : Oper} {f : Operand} {xs : Array Operand} {ts : Array TypeId} (ho : o.op = .call ⟨.value f, xs, ts⟩) {g : FuncId} {first caps : Array Value} (hf : a.eval f = .func (.func g) first caps) :
    (execOp a.eval o).run P w = (callFunc g (first ++ xs.map a.eval ++ caps)).run P w := by
  simp [execOp, ho, resolve, hf, Deferred.ofValue, invoke]

theorem wp_of_enter {P : Program} {o : Oper} {g : FuncId} {args : Array Value} {R : Value → World → Prop} (hr : (execOp a.eval o).run P w = (callFunc g args).run P w) (he : Enter P g args w R)
    {K : Act → World → Prop} {Q : Exit → Act → World → Prop} (hk : ∀ v w', R v w' → K (a.put o.dst v) w') : o.wp P a w K Q := by
  unfold Oper.wp
  rw [hr]
  unfold Enter at he
  split at he
  · next v w' h => rw [h]; exact hk v w' he
  · next f as w' h =>
    rw [h, Oper.upon_enter]
    refine Calls.mono he (fun e w'' hx => ?_)
    obtain ⟨v, rfl, hv⟩ := hx
    exact hk v w'' hv
  · next row as w' h =>
    rw [h, Oper.upon_row]
    exact Rows.mono he (fun v w'' hv => hk v w'' hv)
  · exact he.elim

/-- What a call does, given how the state is read when it begins. -/
theorem callRest (hK : CallSound C.P callK) {o : Oper} {g : FuncId} {args : Array Value} (hrun : (execOp a.eval o).run C.P w = (callFunc g args).run C.P w)
    (hI : Inv C.P w0 F N st a w G gm) (hd : ∀ x, o.dst = some x → x < N) {vs1 : List V} (hv : RvL w G gm args.toList vs1) {T : List Nm} {gs : List Rg} (hgs : (dedup (namesL vs1)).map (only T st.regs) = gs.map some)
    {v : V} {gs' : List Rg} (hk : callK g (renL (fun n => .par (idxOf n (dedup (namesL vs1)))) vs1) gs = (true, v, gs')) {sh : Sh} (hok : (semRet o.dst (only T st.regs) (dedup (namesL vs1)) gs sh v gs').ok = true)
    {K : Act → World → Prop} {Q : Exit → Act → World → Prop}
    (hKK : ∀ a' w' G' gm', (∀ b, G b → G' b) → Inv C.P w0 F N (st.app (semRet o.dst (only T st.regs) (dedup (namesL vs1)) gs sh v gs') o.dst) a' w' G' gm' → K a' w') : o.wp C.P a w K Q := by
  have hnd := dedup_nodup (namesL vs1)
  have hbh : Nm.hand ∉ dedup (namesL vs1) := fun h => RvL.no_name (hI.regs.none hI.hand) _ _ hv ((dedup_mem _ _).1 h)
  have hgs2 : (dedup (namesL vs1)).map st.regs = gs.map some := by
    rw [← hgs]
    apply List.map_congr_left
    intro n hn
    have : only T st.regs n ∈ gs.map some := by rw [← hgs]; exact List.mem_map_of_mem hn
    obtain ⟨g0, _, hg⟩ := List.mem_map.1 this
    rw [← hg, only_some hg.symm]
  obtain ⟨Rs, h1, h2, h3⟩ := pass_ok (G1 := G) hI.regs hnd hgs2 (fun _ h => h) hI.regs.old (fun r R b _ hR hb => hI.regs.apart r R b hR hb)
  have hargs : RvL w G (parG Rs) args.toList (renL (fun n => .par (idxOf n (dedup (namesL vs1)))) vs1) := by
    refine RvL.ren _ vs1 _ (fun n hn => ?_) hv
    exact (h2 _ n (bn_at ((dedup_mem _ _).2 hn))).symm
  refine wp_of_enter hrun (hK g _ gs v gs' hk args w (handF _ gm G gs Rs) Rs h3 hargs) (fun res w' hb => ?_)
  obtain ⟨G2, gm2, k1, k2⟩ := back_ok hI hd hnd hbh hgs h1 h2 hok hb
  exact hKK _ w' G2 gm2 k1 k2

theorem only_fz {ns : List Nm} {P : Program} {n : Nm} (h : n.mem ns = false) (T : List Nm) : only T (st.fz P ns).regs n = only T st.regs n := by
  simp only [only, St.fz, h, cond_false]

/-- A call of a function. -/
theorem call_ok (hK : CallSound C.P callK) (hI : Inv C.P w0 F N st a w G gm) {o : Oper} (hd : ∀ x, o.dst = some x → x < N) {f : Operand} {xs : Array Operand} {ts : Array TypeId} (ho : o.op = .call ⟨.value f, xs, ts⟩)
    {g : FuncId} {first caps ws : List V} (hvs : (argsOf C.P o).map (opd C.P st.env) = .fn g first caps :: ws) (hxs : ws.length = xs.size) {T : List Nm} {p : Prep} (hp : prep C g (only T st.regs) (first ++ ws ++ caps) = p) (hpok : p.ok = true)
    {fr : Bool} (hfr : (!((C.sig g).scalar && p.bn.isEmpty) && !p.bv.isEmpty) = fr) {gs : List Rg} (hgs : allSome (p.bn.map (only T st.regs)) = some gs) {v : V} {gs' : List Rg} (hk : callK g p.vs gs = (true, v, gs'))
    (hok : (semRet o.dst (only T (bif fr then st.fz C.P p.bv else st).regs) p.bn gs (C.sig g) v gs').ok = true) {K : Act → World → Prop} {Q : Exit → Act → World → Prop}
    (hKK : ∀ a' w' G' gm', (∀ b, G b → G' b) → Inv C.P w0 F N ((bif fr then st.fz C.P p.bv else st).app (semRet o.dst (only T (bif fr then st.fz C.P p.bv else st).regs) p.bn gs (C.sig g) v gs') o.dst) a' w' G' gm' → K a' w') :
    o.wp C.P a w K Q := by
  have hall := opds_ok hI (argsOf C.P o)
  rw [hvs] at hall
  have hao : argsOf C.P o = (0, f) :: ts.toList.zip xs.toList := by simp [argsOf, ho]
  rw [hao, List.map_cons] at hall
  obtain ⟨⟨fa, ca, hf, hfa, hca⟩, hws⟩ := hall
  have hzl : (ts.toList.zip xs.toList).length = xs.toList.length := by
    have := hws.length
    simp only [List.length_map] at this
    rw [this, hxs]; simp
  have hws2 : RvL w G gm (xs.toList.map a.eval) ws := by
    have e : (ts.toList.zip xs.toList).map (fun x => a.eval x.2) = xs.toList.map a.eval := by
      have h1 : (ts.toList.zip xs.toList).map Prod.snd = xs.toList := by
        refine List.map_snd_zip ?_
        simp only [List.length_zip] at hzl
        omega
      have h2 : (fun x : TypeId × Operand => a.eval x.2) = a.eval ∘ Prod.snd := rfl
      rw [h2, ← List.map_map, h1]
    rw [← e]; exact hws
  have hargs : RvL w G gm (fa ++ xs.map a.eval ++ ca).toList (first ++ ws ++ caps) := by
    simp only [Array.toList_append, Array.toList_map]
    exact (hfa.append hws2).append hca
  have hrun := run_call_op (P := C.P) w ho hf
  have hgs1 := allSome_spec _ _ hgs
  have hbox : BoxesOk w G C.P (only T st.regs) gm := by
    intro r row hr
    obtain ⟨R, h1, h2⟩ := hI.regs.ok (only_some hr)
    obtain ⟨h3, h4, h5⟩ := h2
    cases hb : R.b with
    | none => rw [hb] at h3; cases h3
    | some b =>
      obtain ⟨⟨t, h6, _⟩, _⟩ := h5 b hb
      exact ⟨R, b, t, h1, hb, h6, h4⟩
  have hown : ∀ q e d xs, ownAt (only T st.regs) q = some (e, d, xs) → ∃ v, OwnC w G C.P v (.own e d xs) (skAt gm q) := fun q e d xs hq => own_at hI.regs hq
  subst hp
  -- no own slice goes by value
  have plain : ∀ vs1 : List V, (prep C g (only T st.regs) (first ++ ws ++ caps)).bn = dedup (namesL vs1) → (prep C g (only T st.regs) (first ++ ws ++ caps)).vs = renL (fun n => .par (idxOf n (dedup (namesL vs1)))) vs1 →
      RvL w G gm (fa ++ xs.map a.eval ++ ca).toList vs1 → fr = false → o.wp C.P a w K Q := by
    intro vs1 e1 e2 hv e3
    subst e3
    rw [e1] at hgs1 hok hKK
    rw [e2] at hk
    exact callRest hK hrun hI hd hv hgs1 hk hok hKK
  cases hbn : C.byName g with
  | true =>
    refine plain (first ++ ws ++ caps) (by simp only [prep, hbn, cond_true]) (by simp only [prep, hbn, cond_true]) hargs ?_
    rw [← hfr]
    simp [prep, hbn]
  | false =>
    have e1 : (prep C g (only T st.regs) (first ++ ws ++ caps)).bn = dedup (namesL (byValL C.P (C.snap g) (only T st.regs) (first ++ ws ++ caps))) := by simp only [prep, hbn, cond_false]
    have e2 : (prep C g (only T st.regs) (first ++ ws ++ caps)).vs = renL (fun n => .par (idxOf n (dedup (namesL (byValL C.P (C.snap g) (only T st.regs) (first ++ ws ++ caps)))))) (byValL C.P (C.snap g) (only T st.regs) (first ++ ws ++ caps)) := by simp only [prep, hbn, cond_false]
    have e3 : (prep C g (only T st.regs) (first ++ ws ++ caps)).bv = dedup (refNamesL (C.snap g) (first ++ ws ++ caps)) := by simp only [prep, hbn, cond_false]
    have hpk : (prep C g (only T st.regs) (first ++ ws ++ caps)).bv.all (fun n => !(n.mem (prep C g (only T st.regs) (first ++ ws ++ caps)).bn)) = true ∧ (C.byName g || seenL (only T st.regs) (first ++ ws ++ caps)) = true := by
      simpa only [prep, Bool.and_eq_true] using hpok
    obtain ⟨e4, hsn⟩ := hpk
    rw [hbn, Bool.false_or] at hsn
    cases hemp : (prep C g (only T st.regs) (first ++ ws ++ caps)).bv.isEmpty with
    | true =>
      have hno : refNamesL (C.snap g) (first ++ ws ++ caps) = [] := by
        rw [e3, List.isEmpty_iff] at hemp
        cases hr : refNamesL (C.snap g) (first ++ ws ++ caps) with
        | nil => rfl
        | cons n l =>
          have : n ∈ dedup (refNamesL (C.snap g) (first ++ ws ++ caps)) := (dedup_mem _ _).2 (by rw [hr]; simp)
          rw [hemp] at this; cases this
      refine plain _ e1 e2 (RvL.byVal (C.snap g) hown hbox (fun _ h => h) _ _ hsn (fun r hr => ?_) hargs) (by rw [← hfr, hemp]; simp)
      rw [hno] at hr; cases hr
    | false =>
      obtain ⟨G2, gm2, hI2, hG2, hs2, hd2⟩ := hI.fz (prep C g (only T st.regs) (first ++ ws ++ caps)).bv
      have hGG : ∀ b, G b → G2 b := fun b hb => (hG2 b).2 (.inl hb)
      have hval : RvL w G2 gm (fa ++ xs.map a.eval ++ ca).toList (byValL C.P (C.snap g) (only T st.regs) (first ++ ws ++ caps)) := by
        refine RvL.byVal (C.snap g) hown hbox hGG _ _ hsn (fun r hr R hR b hb => (hG2 b).2 (.inr ⟨r, R, ?_, hR, hb⟩)) hargs
        rw [e3]; exact (dedup_mem _ _).2 hr
      have hout : ∀ n, n ∈ (prep C g (only T st.regs) (first ++ ws ++ caps)).bn → n.mem (prep C g (only T st.regs) (first ++ ws ++ caps)).bv = false := by
        intro n hn
        rw [Nm.mem_false]
        intro h
        have := List.all_eq_true.1 e4 n h
        rw [(Nm.mem_iff _ _).2 hn] at this
        cases this
      cases fr with
      | true =>
        have hval2 : RvL w G2 gm2 (fa ++ xs.map a.eval ++ ca).toList (byValL C.P (C.snap g) (only T st.regs) (first ++ ws ++ caps)) := by
          refine RvL.frame (fun _ _ => rfl) (fun _ h => h) gm gm2 _ _ (fun n hn => hs2 n (hout n ?_)) hval
          rw [e1]; exact (dedup_mem _ _).2 hn
        have hgs3 : (prep C g (only T st.regs) (first ++ ws ++ caps)).bn.map (only T (st.fz C.P (prep C g (only T st.regs) (first ++ ws ++ caps)).bv).regs) = gs.map some := by
          rw [← hgs1]
          apply List.map_congr_left
          intro n hn
          exact only_fz (hout n hn) T
        simp only [cond_true] at hok hKK
        rw [e1] at hgs3 hok hKK
        rw [e2] at hk
        exact callRest hK hrun hI2 hd hval2 hgs3 hk hok (fun a' w' G' gm' hg hi => hKK a' w' G' gm' (fun b hb => hg b (hGG b hb)) hi)
      | false =>
        rw [hemp] at hfr
        simp only [Bool.not_false, Bool.and_true, Bool.not_eq_false', Bool.and_eq_true] at hfr
        obtain ⟨hsc, hbe⟩ := hfr
        rw [List.isEmpty_iff] at hbe
        simp only [cond_false] at hok hKK
        rw [hbe] at hgs1 hok hKK
        have hgn : gs = [] := by
          cases gs with
          | nil => rfl
          | cons x l => simp at hgs1
        subst hgn
        obtain ⟨Rs, h1, h2, h3⟩ := pass_ok (G1 := G2) (bn := []) (gs := []) hI.regs List.nodup_nil rfl hGG (fun b hb => hI2.regs.old b hb) (fun r R b hr => by cases hr)
        rw [e2] at hk
        have hd0 : dedup (namesL (byValL C.P (C.snap g) (only T st.regs) (first ++ ws ++ caps))) = [] := by rw [← e1]; exact hbe
        have hargs2 : RvL w G2 (parG Rs) (fa ++ xs.map a.eval ++ ca).toList (renL (fun n => .par (idxOf n (dedup (namesL (byValL C.P (C.snap g) (only T st.regs) (first ++ ws ++ caps)))))) (byValL C.P (C.snap g) (only T st.regs) (first ++ ws ++ caps))) := by
          refine RvL.ren _ _ _ (fun n hn => ?_) hval
          have := (dedup_mem _ n).2 hn
          rw [hd0] at this; cases this
        refine wp_of_enter hrun (hK g _ [] v gs' hk _ w (handF [] gm G2 [] Rs) Rs h3 hargs2) (fun res w' hb => ?_)
        exact hKK _ w' G gm (fun _ h => h) (back_scalar hI hd hsc hok hb)
end
end Go.Ab
/- Regions in the order of the text. -/
namespace Go.Ab
open Go
set_option linter.unusedSimpArgs false
set_option linter.unusedVariables false

section
variable {C : Cfg} {callK : CallK} {fid : FuncId} {w0 w w' : World} {F : FG} {N : Nat} {st : St} {a : Act} {G G' : Nat → Prop} {gm gm' : GM} {R : Type}

/-- One operation, to its state and footprint. -/
def opS (C : Cfg) (callK : CallK) (fid : FuncId) (o : Oper) (st : St) : Option (St × Foot) := opK C callK fid o st fun s f => some (s, f)

theorem cond_bind {α β : Type} (b : Bool) (x : Option α) (f : α → Option β) : (bif b then x.bind f else none) = (bif b then x else none).bind f := by cases b <;> rfl

theorem opK_eq (o : Oper) (st : St) (κ : St → Foot → Option R) : opK C callK fid o st κ = (opS C callK fid o st).bind fun p => κ p.1 p.2 := by
  unfold opS opK
  simp only
  split
  · next op vs f xs ts g first caps ws h1 h2 =>
    generalize prep C g _ _ = p
    cases (p.ok && Nat.beq ws.length xs.size) with
    | false => rfl
    | true =>
      simp only [cond_true]
      split
      · next gs hgs =>
        generalize callK g p.vs gs = r
        generalize semRet _ _ _ _ _ _ _ = e
        cases (r.1 && e.ok) <;> rfl
      · rfl
  · generalize sem _ _ _ _ _ = e
    cases e.ok <;> rfl

theorem wp_of_res {P : Program} {o : Oper} {e : Eff} (h : OpRes P w0 F N st a w G o e) {K : Act → World → Prop} {Q : Exit → Act → World → Prop}
    (hK : ∀ a' w' G' gm', (∀ b, G b → G' b) → Inv P w0 F N (st.app e o.dst) a' w' G' gm' → K a' w') : o.wp P a w K Q := by
  obtain ⟨v, w', nx, G', gm', h1, h2, h3, h4⟩ := h
  unfold Oper.wp
  rw [h1]
  rcases h2 with rfl | ⟨rfl, rfl⟩
  · exact hK _ _ G' gm' h3 h4
  · exact hK _ _ G' gm' h3 h4

theorem opS_ok (hK : CallSound C.P callK) (hI : Inv C.P w0 F N st a w G gm) {o : Oper} (hd : ∀ x, o.dst = some x → x < N) {st' : St} {f : Foot} (h : opS C callK fid o st = some (st', f))
    {K : Act → World → Prop} {Q : Exit → Act → World → Prop} (hKK : ∀ a' w' G' gm', (∀ b, G b → G' b) → Inv C.P w0 F N st' a' w' G' gm' → K a' w') : o.wp C.P a w K Q := by
  unfold opS opK at h
  simp only at h
  split at h
  · next op vs fo xs ts g first caps ws h1 h2 =>
    generalize hT : touch o _ = T at h
    generalize hp : prep C g _ _ = p at h
    generalize hfr : (!((C.sig g).scalar && p.bn.isEmpty) && !p.bv.isEmpty) = fr at h
    cases hok : (p.ok && Nat.beq ws.length xs.size) with
    | false => rw [hok] at h; cases h
    | true =>
      rw [hok] at h
      simp only [Bool.and_eq_true] at hok
      simp only [cond_true] at h
      split at h
      · next gs hgs =>
        cases hre : ((callK g p.vs gs).1 && (semRet o.dst (only T (bif fr then st.fz C.P p.bv else st).regs) p.bn gs (C.sig g) (callK g p.vs gs).2.1 (callK g p.vs gs).2.2).ok) with
        | false => rw [hre] at h; cases h
        | true =>
          rw [hre] at h
          simp only [cond_true, Option.some.injEq, Prod.mk.injEq] at h
          obtain ⟨rfl, _⟩ := h
          rw [Bool.and_eq_true] at hre
          exact call_ok (w := w) hK hI hd h1 h2 (nbeq hok.2) hp hok.1 hfr hgs (v := (callK g p.vs gs).2.1) (gs' := (callK g p.vs gs).2.2) (by rw [← hre.1]) hre.2 hKK
      · cases h
  · cases hok : (sem C.P (C.deep fid) o ((argsOf C.P o).map (opd C.P st.env)) (only (touch o ((argsOf C.P o).map (opd C.P st.env))) st.regs)).ok with
    | false => rw [hok] at h; cases h
    | true =>
      rw [hok] at h
      simp only [cond_true, Option.some.injEq, Prod.mk.injEq] at h
      obtain ⟨rfl, _⟩ := h
      exact wp_of_res (sem_ok hI o hd hok) hKK

/-! ### operations that wait for others -/
theorem set_same {t : Nat} {v : V} (h : st.env t = v) : st.set (some t) v = st := by
  have : (fun i => bif isDst (some t) i then v else st.env i) = st.env := by
    funext i
    cases hi : isDst (some t) i with
    | false => rfl
    | true => rw [(isDst_some t i).1 hi, h]; rfl
  simp only [St.set, this]

theorem Inv.dead {P : Program} (hI : Inv P w0 F N st a w G gm) {d : Option Nat} (hd : ∀ x, d = some x → x < N) : Inv P w0 F N (st.set d (.tp [])) (a.put d undef) w G gm :=
  hI.quiet (Eff.put (.tp [])) d hd undef rfl rfl (fun _ => ⟨#[], rfl, trivial⟩)

theorem yielded_ok {P : Program} (hI : Inv P w0 F N st a w G gm) {ops : Array Oper} {g t : Nat} (ht : guardDst ops g = some t) {c : Bool} (hc : st.env t = .sc (.bool c)) : yielded ops a.tmps g = some c := by
  have h := hI.env t
  rw [hc] at h
  have h1 : a.tmps.getD t undef = .bool c := h.1
  have h2 : a.tmps[t]? = some (.bool c) := by
    rcases Nat.lt_or_ge t a.tmps.size with hl | hl
    · rw [Array.getElem?_eq_getElem hl]
      simp only [Array.getD, hl, dite_true] at h1
      exact congrArg some h1
    · simp [Array.getD, Nat.not_lt.2 hl, undef] at h1
  unfold guardDst at ht
  simp only [yielded, ht, Option.bind_some, h2]

theorem unyielded_ok {P : Program} (hI : Inv P w0 F N st a w G gm) {ops : Array Oper} {g t : Nat} (ht : guardDst ops g = some t) (hc : st.env t = .tp []) : yielded ops a.tmps g = none := by
  have h := hI.env t
  rw [hc] at h
  obtain ⟨cs, h1, h3⟩ := h
  unfold guardDst at ht
  simp only [yielded, ht, Option.bind_some]
  rcases Nat.lt_or_ge t a.tmps.size with hl | hl
  · rw [Array.getElem?_eq_getElem hl]
    simp only [Array.getD, hl, dite_true] at h1
    have h1' : a.tmps[t] = .tuple cs := h1
    rw [h1']
  · rw [Array.getElem?_eq_none hl]

theorem wanted_ok {P : Program} (hI : Inv P w0 F N st a w G gm) {ops : Array Oper} {o : Oper} {g t : Nat} {want : Bool} (hg : o.guard = some (g, want)) (ht : guardDst ops g = some t) {c : Bool} (hc : st.env t = .sc (.bool c)) :
    Region.wanted o (yielded ops a.tmps) = (c == want) := by
  simp only [Region.wanted, hg, yielded_ok hI ht hc]
  cases c <;> cases want <;> rfl
theorem unwanted_ok {P : Program} (hI : Inv P w0 F N st a w G gm) {ops : Array Oper} {o : Oper} {g t : Nat} {want : Bool} (hg : o.guard = some (g, want)) (ht : guardDst ops g = some t) (hc : st.env t = .tp []) :
    Region.wanted o (yielded ops a.tmps) = false := by
  simp only [Region.wanted, hg, unyielded_ok hI ht hc]
  rfl

/-- One operation of a region: it is run, or it is not wanted. -/
def stepS (C : Cfg) (callK : CallK) (fid : FuncId) (ops : Array Oper) (o : Oper) (st : St) (st' : St) (f : Foot) : Prop :=
  match o.guard with
  | none => opS C callK fid o st = some (st', f)
  | some (g, want) => ∃ t, guardDst ops g = some t ∧
      (st.env t = .sc (.bool want) ∧ opS C callK fid o st = some (st', f) ∨ (st.env t = .sc (.bool !want) ∨ st.env t = .tp []) ∧ st' = st.set o.dst (.tp []) ∧ f = Foot.nil)

theorem stepS_ok (hK : CallSound C.P callK) (hI : Inv C.P w0 F N st a w G gm) {ops : Array Oper} {o : Oper} (hd : ∀ x, o.dst = some x → x < N) {st' : St} {f : Foot} (h : stepS C callK fid ops o st st' f)
    {K : Act → World → Prop} {Q : Exit → Act → World → Prop} (hKK : ∀ a' w' G' gm', (∀ b, G b → G' b) → Inv C.P w0 F N st' a' w' G' gm' → K a' w') :
    if Region.wanted o (yielded ops a.tmps) then o.wp C.P a w K Q ∨ (o.asks C.P a w ∧ LetsOut Q) else K (a.put o.dst undef) w := by
  unfold stepS at h
  split at h
  · next hg =>
    simp only [Region.wanted, hg, if_true]
    exact .inl (opS_ok hK hI hd h hKK)
  · next g want hg =>
    obtain ⟨t, h1, h3⟩ := h
    rcases h3 with ⟨h2, h4⟩ | ⟨h2, rfl, _⟩
    · rw [wanted_ok hI hg h1 h2, if_pos (by simp)]
      exact .inl (opS_ok hK hI hd h4 hKK)
    · have : Region.wanted o (yielded ops a.tmps) = false := by
        rcases h2 with h2 | h2
        · rw [wanted_ok hI hg h1 h2]; cases want <;> rfl
        · exact unwanted_ok hI hg h1 h2
      rw [this, if_neg (by simp)]
      exact hKK _ _ G gm (fun _ h => h) (hI.dead hd)

/-- What the machine does with one operation of a region. -/
theorem opsK_step {ops : Array Oper} {bef : Option (Array Nat)} {o : Oper} {rest : List Oper} {i : Nat} {log : List (Nat × Oper × Foot)} {κ : St → Option R} {r : R} (h : opsK C callK fid ops bef (o :: rest) i log st κ = some r) :
    ∃ st' f, stepS C callK fid ops o st st' f ∧
      match (generalizing := false) bef with
      | none => opsK C callK fid ops bef rest (i + 1) log st' κ = some r
      | some b => f.bad = false ∧ apartLog ops (b.getD i 0) o log f = true ∧ opsK C callK fid ops bef rest (i + 1) ((i, o, f) :: log) st' κ = some r := by
  have go : ∀ (s : St), opK C callK fid o s (fun st' f => match (generalizing := false) bef with
        | none => opsK C callK fid ops bef rest (i + 1) log st' κ
        | some b => bif !f.bad && apartLog ops (b.getD i 0) o log f then opsK C callK fid ops bef rest (i + 1) ((i, o, f) :: log) st' κ else none) = some r →
      ∃ st' f, opS C callK fid o s = some (st', f) ∧ match (generalizing := false) bef with
      | none => opsK C callK fid ops bef rest (i + 1) log st' κ = some r
      | some b => f.bad = false ∧ apartLog ops (b.getD i 0) o log f = true ∧ opsK C callK fid ops bef rest (i + 1) ((i, o, f) :: log) st' κ = some r := by
    intro s h
    rw [opK_eq] at h
    cases ho : opS C callK fid o s with
    | none => rw [ho] at h; cases h
    | some p =>
      rw [ho] at h
      simp only [Option.bind_some] at h
      refine ⟨p.1, p.2, rfl, ?_⟩
      cases bef with
      | none => exact h
      | some b =>
        simp only at h ⊢
        cases hc : (!p.2.bad && apartLog ops (b.getD i 0) o log p.2) with
        | false => rw [hc] at h; cases h
        | true =>
          rw [hc] at h
          simp only [Bool.and_eq_true, Bool.not_eq_true'] at hc
          exact ⟨hc.1, hc.2, h⟩
  have no : ∀ (s : St), (match (generalizing := false) bef with
        | none => opsK C callK fid ops bef rest (i + 1) log s κ
        | some b => bif apartLog ops (b.getD i 0) o log Foot.nil then opsK C callK fid ops bef rest (i + 1) ((i, o, Foot.nil) :: log) s κ else none) = some r →
      match (generalizing := false) bef with
      | none => opsK C callK fid ops bef rest (i + 1) log s κ = some r
      | some b => Foot.nil.bad = false ∧ apartLog ops (b.getD i 0) o log Foot.nil = true ∧ opsK C callK fid ops bef rest (i + 1) ((i, o, Foot.nil) :: log) s κ = some r := by
    intro s h
    cases bef with
    | none => exact h
    | some b =>
      simp only at h ⊢
      cases hc : apartLog ops (b.getD i 0) o log Foot.nil with
      | false => rw [hc] at h; cases h
      | true => rw [hc] at h; exact ⟨rfl, rfl, h⟩
  unfold opsK at h
  simp only at h
  unfold stepS
  split at h
  · next hg =>
    rw [hg]
    obtain ⟨st', f, h1, h2⟩ := go st h
    exact ⟨st', f, h1, h2⟩
  · next g want hg =>
    rw [hg]
    simp only
    split at h
    · cases h
    · next t ht =>
      split at h
      · next c hc =>
        have hset : ∀ c', st.env t = .sc (.bool c') → st.set (some t) (.sc (.bool c')) = st := fun c' h => set_same h
        cases c with
        | true =>
          rw [hset true hc] at h
          simp only [cond_true] at h
          cases want with
          | true =>
            simp only [cond_true] at h
            obtain ⟨st', f, h1, h2⟩ := go st h
            exact ⟨st', f, ⟨t, ht, .inl ⟨hc, h1⟩⟩, h2⟩
          | false =>
            simp only [cond_false] at h
            exact ⟨_, Foot.nil, ⟨t, ht, .inr ⟨.inl hc, rfl, rfl⟩⟩, no _ h⟩
        | false =>
          rw [hset false hc] at h
          simp only [cond_false] at h
          cases want with
          | false =>
            simp only [cond_false] at h
            obtain ⟨st', f, h1, h2⟩ := go st h
            exact ⟨st', f, ⟨t, ht, .inl ⟨hc, h1⟩⟩, h2⟩
          | true =>
            simp only [cond_true] at h
            exact ⟨_, Foot.nil, ⟨t, ht, .inr ⟨.inl hc, rfl, rfl⟩⟩, no _ h⟩
      · next hc => exact ⟨_, Foot.nil, ⟨t, ht, .inr ⟨.inr hc, rfl, rfl⟩⟩, no _ h⟩
      · cases h

/-- A region in the order of the text. -/
theorem opsK_ok (hK : CallSound C.P callK) {ops : Array Oper} {κ : St → Option R} {r : R} {Q : Exit → Act → World → Prop} : ∀ (l : List Oper) {i : Nat} {log : List (Nat × Oper × Foot)} {st : St} {a : Act} {w : World} {G : Nat → Prop} {gm : GM},
    Inv C.P w0 F N st a w G gm → (∀ o ∈ l, ∀ x, o.dst = some x → x < N) → opsK C callK fid ops none l i log st κ = some r →
    (∀ st' a' w' G' gm', κ st' = some r → (∀ b, G b → G' b) → Inv C.P w0 F N st' a' w' G' gm' → Q .normal a' w') → wpList C.P ops Q l a w
  | [], i, log, st, a, w, G, gm, hI, _, h, hQ => hQ st a w G gm h (fun _ h => h) hI
  | o :: l, i, log, st, a, w, G, gm, hI, hd, h, hQ => by
    obtain ⟨st', f, h1, h2⟩ := opsK_step h
    simp only at h2
    simp only [wpList]
    exact stepS_ok hK hI (hd o (by simp)) h1 (fun a' w' G' gm' hG hI' => opsK_ok hK l hI' (fun o ho => hd o (by simp [ho])) h2 (fun st'' a'' w'' G'' gm'' hk hg hi => hQ st'' a'' w'' G'' gm'' hk (fun b hb => hg b (hG b hb)) hi))
end
end Go.Ab
/- Two operations that are apart may change places. -/
namespace Go.Ab
open Go
set_option linter.unusedSimpArgs false
set_option linter.unusedVariables false

theorem hits_false {k : Kl} {q : Pl} (h : q.r ∉ k.names) : k.hits q = false := by
  simp only [Kl.names, List.mem_append, not_or] at h
  simp only [Kl.hits, (Nm.mem_false _ _).2 h.2, (Nm.mem_false _ _).2 h.1.2, (Nm.mem_false _ _).2 h.1.1, Bool.and_false, Bool.or_false]
theorem mem_a_false {k : Kl} {r : Nm} (h : r ∉ k.names) : r.mem k.a = false := by
  simp only [Kl.names, List.mem_append, not_or] at h
  exact (Nm.mem_false _ _).2 h.2

mutual
theorem kill_id (k : Kl) : ∀ (x : V), (∀ n ∈ x.names, n ∉ k.names) → x.kill k = x
  | .sc _, _ => rfl
  | .nl _, _ => rfl
  | .sl _ _, _ => rfl
  | .own _ _ _, _ => rfl
  | .ag xs, h => by simp only [V.kill]; rw [killL_id k xs h]
  | .tp xs, h => by simp only [V.kill]; rw [killL_id k xs h]
  | .fn f a b, h => by
    simp only [V.names, List.mem_append] at h
    simp only [V.kill]; rw [killL_id k a (fun n hn => h n (.inl hn)), killL_id k b (fun n hn => h n (.inr hn))]
  | .ifc t v, h => by simp only [V.kill]; rw [kill_id k v h]
  | .ref q, h => by simp only [V.kill, hits_false (h q.r (by simp [V.names])), cond_false]
  | .vw q lo hi, h => by simp only [V.kill, hits_false (h q.r (by simp [V.names])), cond_false]
  | .ptrB r j, h => by simp only [V.kill, mem_a_false (h r (by simp [V.names])), cond_false]
  | .ptrE q i o, h => by simp only [V.kill, hits_false (h q.r (by simp [V.names])), cond_false]
  | .pim _ _ _, _ => rfl
  | .slf, _ => rfl
  | .bad, _ => rfl
theorem killL_id (k : Kl) : ∀ (xs : List V), (∀ n ∈ namesL xs, n ∉ k.names) → killL k xs = xs
  | [], _ => rfl
  | x :: xs, h => by
    simp only [namesL, List.mem_append] at h
    simp only [killL]; rw [kill_id k x (fun n hn => h n (.inl hn)), killL_id k xs (fun n hn => h n (.inr hn))]
end

mutual
theorem kill_alive (k : Kl) : ∀ (x : V), (x.kill k).dead = false → x.kill k = x
  | .sc _, _ => rfl
  | .nl _, _ => rfl
  | .sl _ _, _ => rfl
  | .own _ _ _, _ => rfl
  | .ag xs, h => by simp only [V.kill, V.dead] at h ⊢; rw [killL_alive k xs h]
  | .tp xs, h => by simp only [V.kill, V.dead] at h ⊢; rw [killL_alive k xs h]
  | .fn f a b, h => by
    simp only [V.kill, V.dead, Bool.or_eq_false_iff] at h ⊢
    rw [killL_alive k a h.1, killL_alive k b h.2]
  | .ifc t v, h => by simp only [V.kill, V.dead] at h ⊢; rw [kill_alive k v h]
  | .ref q, h => by
    simp only [V.kill] at h ⊢
    cases hh : k.hits q with
    | true => rw [hh] at h; cases h
    | false => rfl
  | .vw q lo hi, h => by
    simp only [V.kill] at h ⊢
    cases hh : k.hits q with
    | true => rw [hh] at h; cases h
    | false => rfl
  | .ptrB r j, h => by
    simp only [V.kill] at h ⊢
    cases hh : r.mem k.a with
    | true => rw [hh] at h; cases h
    | false => rfl
  | .ptrE q i o, h => by
    simp only [V.kill] at h ⊢
    cases hh : k.hits q with
    | true => rw [hh] at h; cases h
    | false => rfl
  | .pim _ _ _, _ => rfl
  | .slf, _ => rfl
  | .bad, _ => rfl
theorem killL_alive (k : Kl) : ∀ (xs : List V), deadL (killL k xs) = false → killL k xs = xs
  | [], _ => rfl
  | x :: xs, h => by
    simp only [killL, deadL, Bool.or_eq_false_iff] at h ⊢
    rw [kill_alive k x h.1, killL_alive k xs h.2]
end

mutual
theorem kill_comm (k l : Kl) : ∀ (x : V), (x.kill k).kill l = (x.kill l).kill k
  | .sc _ => rfl
  | .nl _ => rfl
  | .sl _ _ => rfl
  | .own _ _ _ => rfl
  | .ag xs => by simp only [V.kill]; rw [killL_comm k l xs]
  | .tp xs => by simp only [V.kill]; rw [killL_comm k l xs]
  | .fn f a b => by simp only [V.kill]; rw [killL_comm k l a, killL_comm k l b]
  | .ifc t v => by simp only [V.kill]; rw [kill_comm k l v]
  | .ref q => by
    simp only [V.kill]
    cases h1 : k.hits q <;> cases h2 : l.hits q <;> simp [V.kill, h1, h2]
  | .vw q lo hi => by
    simp only [V.kill]
    cases h1 : k.hits q <;> cases h2 : l.hits q <;> simp [V.kill, h1, h2]
  | .ptrB r j => by
    simp only [V.kill]
    cases h1 : r.mem k.a <;> cases h2 : r.mem l.a <;> simp [V.kill, h1, h2]
  | .ptrE q i o => by
    simp only [V.kill]
    cases h1 : k.hits q <;> cases h2 : l.hits q <;> simp [V.kill, h1, h2]
  | .pim _ _ _ => rfl
  | .slf => rfl
  | .bad => rfl
theorem killL_comm (k l : Kl) : ∀ (xs : List V), killL l (killL k xs) = killL k (killL l xs)
  | [] => rfl
  | x :: xs => by simp only [killL]; rw [kill_comm k l x, killL_comm k l xs]
end

theorem kill_no (x : V) : x.kill .no = x := kill_id .no x (fun n _ h => no_names h)
theorem kill_bif (k : Kl) (x : V) : (bif k.isNo then x else x.kill k) = x.kill k := by
  cases h : k.isNo with
  | false => rfl
  | true => rw [Kl.isNo_eq h, kill_no]; rfl

section
variable {C : Cfg} {callK : CallK} {fid : FuncId} {st : St}

/-- What an operation does, told by its operands and the regions that it looks at. 'true': own slices are given up. -/
def effS (C : Cfg) (callK : CallK) (fid : FuncId) (o : Oper) (vs : List V) (rd : Nm → Option Rg) : Option (Eff × Bool) :=
  match o.op, vs with
  | .call ⟨.value _, xs, _⟩, (.fn g first caps) :: ws =>
    let p := prep C g rd (first ++ ws ++ caps)
    let fr := !((C.sig g).scalar && p.bn.isEmpty) && !p.bv.isEmpty
    bif p.ok && Nat.beq ws.length xs.size then
      match allSome (p.bn.map rd) with
      | some gs =>
        let r := callK g p.vs gs
        let e := semRet o.dst rd p.bn gs (C.sig g) r.2.1 r.2.2
        bif r.1 && (fr || e.ok) then some (e, fr) else none
      | none => none
    else none
  | _, _ =>
    let e := sem C.P (C.deep fid) o vs rd
    bif e.ok then some (e, false) else none

/-- The operands' values. -/
def valsOf (C : Cfg) (o : Oper) (st : St) : List V := (argsOf C.P o).map (opd C.P st.env)
def footE (o : Oper) (vs : List V) (e : Eff) : Foot := ⟨touch o vs, e.w, e.k.names, namesL vs ++ e.val.names, false⟩

theorem opS_eff {o : Oper} {st' : St} {f : Foot} : (opS C callK fid o st = some (st', f) ∧ f.bad = false) ↔
    ∃ e, effS C callK fid o (valsOf C o st) (only (touch o (valsOf C o st)) st.regs) = some (e, false) ∧ st' = st.app e o.dst ∧ f = footE o (valsOf C o st) e ∧ deadL (valsOf C o st) = false := by
  unfold opS opK effS valsOf footE
  simp only
  generalize (argsOf C.P o).map (opd C.P st.env) = vs
  split
  · next op vs' fo xs ts g first caps ws h1 =>
    simp only [h1]
    generalize touch o _ = T
    generalize prep C g _ _ = p
    generalize (!((C.sig g).scalar && p.bn.isEmpty) && !p.bv.isEmpty) = fr
    cases (p.ok && Nat.beq ws.length xs.size) with
    | false => simp
    | true =>
      simp only [cond_true]
      split
      · next gs hgs =>
        simp only [hgs]
        generalize callK g p.vs gs = r
        obtain ⟨r1, r2⟩ := r
        cases r1 with
        | false => simp
        | true =>
          simp only [Bool.true_and]
          cases fr with
          | true =>
            simp only [cond_true, Bool.true_or]
            constructor
            · rintro ⟨h, hb⟩
              cases he : (semRet o.dst (only T (st.fz C.P p.bv).regs) p.bn gs (C.sig g) r2.1 r2.2).ok with
              | false => rw [he] at h; cases h
              | true =>
                rw [he] at h
                simp only [cond_true, Option.some.injEq, Prod.mk.injEq] at h
                obtain ⟨_, rfl⟩ := h
                cases hb
            · rintro ⟨e, h, _⟩
              simp at h
          | false =>
            simp only [cond_false, Bool.false_or]
            cases (semRet o.dst (only T st.regs) p.bn gs (C.sig g) r2.1 r2.2).ok with
            | false => simp
            | true =>
              simp only [cond_true, Option.some.injEq, Prod.mk.injEq, and_true]
              constructor
              · rintro ⟨⟨rfl, rfl⟩, hb⟩
                simp only at hb
                exact ⟨_, rfl, rfl, by rw [hb], hb⟩
              · rintro ⟨e, rfl, rfl, rfl, hb⟩
                exact ⟨⟨rfl, by rw [hb]⟩, rfl⟩
      · next hnone => simp [hnone]
  · rename_i vs x1 x2 hno
    simp only [footOf]
    cases (sem C.P (C.deep fid) o vs (only (touch o vs) st.regs)).ok with
    | false => simp
    | true =>
      simp only [cond_true, Option.some.injEq, Prod.mk.injEq, and_true]
      constructor
      · rintro ⟨⟨rfl, rfl⟩, hb⟩
        simp only at hb
        exact ⟨_, rfl, rfl, by rw [hb], hb⟩
      · rintro ⟨e, rfl, rfl, rfl, hb⟩
        exact ⟨⟨rfl, by rw [hb]⟩, rfl⟩

theorem app_env (st : St) (e : Eff) (d : Option Nat) (i : Nat) : (st.app e d).env i = bif isDst d i then e.val else (st.env i).kill e.k := by
  simp only [St.app, kill_bif]

/-- Effects that are apart may change places. -/
theorem app_comm {x y : Eff} {dx dy : Option Nat} (hd : ∀ d, dx = some d → dy ≠ some d) (hw : ∀ n, n ∈ x.w → n ∉ y.w) (hx : ∀ n ∈ x.val.names, n ∉ y.k.names) (hy : ∀ n ∈ y.val.names, n ∉ x.k.names) :
    (st.app x dx).app y dy = (st.app y dy).app x dx := by
  have h1 : ((st.app x dx).app y dy).env = ((st.app y dy).app x dx).env := by
    funext i
    rw [app_env, app_env, app_env, app_env]
    cases h1 : isDst dx i with
    | true =>
      have h2 : isDst dy i = false := by
        cases dx with
        | none => cases h1
        | some d =>
          have := (isDst_some d i).1 h1
          subst this
          cases dy with
          | none => rfl
          | some d' =>
            cases hh : isDst (some d') i with
            | false => rfl
            | true => exact absurd (by rw [(isDst_some d' i).1 hh]) (hd i rfl)
      simp only [h2, cond_true, cond_false, kill_id _ _ hx]
    | false =>
      cases h2 : isDst dy i with
      | true => simp only [cond_true, cond_false, kill_id _ _ hy]
      | false => simp only [cond_false]; exact kill_comm _ _ _
  have h2 : ((st.app x dx).app y dy).regs = ((st.app y dy).app x dx).regs := by
    funext n
    simp only [St.app]
    by_cases hx' : n ∈ x.w
    · have hy' := hw n hx'
      simp only [(Nm.mem_iff _ _).2 hx', (Nm.mem_false _ _).2 hy', cond_true, cond_false]
    · simp only [(Nm.mem_false _ _).2 hx', cond_false]
  generalize (st.app x dx).app y dy = s1 at *
  generalize (st.app y dy).app x dx = s2 at *
  obtain ⟨e1, r1⟩ := s1
  obtain ⟨e2, r2⟩ := s2
  simp only at h1 h2
  rw [h1, h2]
end
end Go.Ab
/- Operations of a region whose order is open: they change places. -/
namespace Go.Ab
open Go
set_option linter.unusedSimpArgs false
set_option linter.unusedVariables false

section
variable {C : Cfg} {callK : CallK} {fid : FuncId} {st : St}

theorem argsOf_ops {P : Program} {o : Oper} {x : TypeId × Operand} (h : x ∈ argsOf P o) : x.2 ∈ o.op.operands := by
  obtain ⟨ty, y⟩ := x
  simp only
  cases hop : o.op <;> simp [argsOf, hop] at h <;> simp only [Op.operands]
  all_goals first
    | (rcases h with ⟨rfl, rfl⟩ | ⟨rfl, rfl⟩ | ⟨rfl, rfl⟩ <;> simp; done)
    | (rcases h with ⟨rfl, rfl⟩ | ⟨rfl, rfl⟩ <;> simp; done)
    | (obtain ⟨rfl, rfl⟩ := h; simp; done)
    | (obtain ⟨_, h, _⟩ := h; simp [h]; done)
    | skip
  case build =>
    obtain ⟨k, h, _⟩ := h
    simp only [List.mem_toArray, List.mem_map, Array.mem_toList_iff]
    exact ⟨_, h, rfl⟩
  case buildSlice =>
    obtain ⟨⟨k, h⟩, _⟩ := h
    simp only [List.mem_toArray, List.mem_map, Array.mem_toList_iff]
    exact ⟨_, h, rfl⟩
  case makeFunc =>
    simp only [Array.mem_append]
    exact h.imp And.left And.left
  case call c =>
    have hz : (ty, y) ∈ c.argTypes.toList.zip c.args.toList → y ∈ c.operands := by
      intro h
      have := (List.of_mem_zip h).2
      simp [Call.operands, Array.mem_toList_iff.1 this]
    rcases h with h | h
    · cases hc : c.callee <;> rw [hc] at h <;> simp at h <;> simp [Call.operands, hc, h]
    · exact hz h

theorem dead_of {xs : List V} (h : deadL xs = false) : ∀ x ∈ xs, x.dead = false := by
  induction xs with
  | nil => intro x hx; simp at hx
  | cons y ys ih =>
    simp only [deadL, Bool.or_eq_false_iff] at h
    intro x hx
    simp only [List.mem_cons] at hx
    rcases hx with rfl | hx
    · exact h.1
    · exact ih h.2 x hx

theorem names_of {xs : List V} {x : V} (h : x ∈ xs) : ∀ n ∈ x.names, n ∈ namesL xs := by
  induction xs with
  | nil => simp at h
  | cons y ys ih =>
    intro n hn
    simp only [List.mem_cons] at h
    simp only [namesL, List.mem_append]
    rcases h with rfl | h
    · exact .inl hn
    · exact .inr (ih h n hn)

theorem looks_arg {P : Program} {ops : Array Oper} {o : Oper} {ty : TypeId} {t : Nat} (h : (ty, Operand.tmp t) ∈ argsOf P o) : t ∈ o.looksAt ops := by
  have h1 := argsOf_ops h
  unfold Oper.looksAt
  refine List.mem_append_left _ (List.mem_filterMap.2 ⟨.tmp t, by simpa using h1, rfl⟩)

theorem looks_guard {ops : Array Oper} {o : Oper} {g t : Nat} {want : Bool} (hg : o.guard = some (g, want)) (ht : guardDst ops g = some t) : t ∈ o.looksAt ops := by
  unfold Oper.looksAt
  refine List.mem_append_right _ ?_
  unfold guardDst at ht
  simp [hg, ht]

/-- What a step looks at. -/
theorem step_split {ops : Array Oper} {o : Oper} {st' : St} {f : Foot} (h : stepS C callK fid ops o st st' f) (hb : f.bad = false) :
    ∃ (e : Eff) (Rel : Nat → Prop), st' = st.app e o.dst ∧ f.w = e.w ∧ f.k = e.k.names ∧ (∀ n ∈ e.val.names, n ∈ f.n) ∧ (∀ t, Rel t → t ∈ o.looksAt ops) ∧ (∀ t, Rel t → (st.env t).dead = false ∧ ∀ n ∈ (st.env t).names, n ∈ f.n) ∧
      ∀ s : St, (∀ t, Rel t → s.env t = st.env t) → (∀ n, n.mem f.t = true → s.regs n = st.regs n) → stepS C callK fid ops o s (s.app e o.dst) f := by
  -- the operation itself
  have main : opS C callK fid o st = some (st', f) → ∃ e, st' = st.app e o.dst ∧ f.w = e.w ∧ f.k = e.k.names ∧ (∀ n ∈ e.val.names, n ∈ f.n) ∧
      (∀ t, (∃ ty, (ty, Operand.tmp t) ∈ argsOf C.P o) → (st.env t).dead = false ∧ ∀ n ∈ (st.env t).names, n ∈ f.n) ∧
      ∀ s : St, (∀ t, (∃ ty, (ty, Operand.tmp t) ∈ argsOf C.P o) → s.env t = st.env t) → (∀ n, n.mem f.t = true → s.regs n = st.regs n) → opS C callK fid o s = some (s.app e o.dst, f) := by
    intro ho
    obtain ⟨e, h1, h2, h3, h4⟩ := opS_eff.1 ⟨ho, hb⟩
    refine ⟨e, h2, by rw [h3]; rfl, by rw [h3]; rfl, fun n hn => by rw [h3]; exact List.mem_append_right _ hn, ?_, ?_⟩
    · rintro t ⟨ty, ht⟩
      have hm : st.env t ∈ valsOf C o st := List.mem_map.2 ⟨(ty, .tmp t), ht, rfl⟩
      exact ⟨dead_of h4 _ hm, fun n hn => by rw [h3]; exact List.mem_append_left _ (names_of hm n hn)⟩
    · intro s hs hr
      have hv : valsOf C o s = valsOf C o st := by
        apply List.map_congr_left
        rintro ⟨ty, x⟩ hx
        cases x with
        | tmp t => exact hs t ⟨ty, hx⟩
        | _ => rfl
      have ho' : only (touch o (valsOf C o st)) s.regs = only (touch o (valsOf C o st)) st.regs := by
        funext n
        simp only [only]
        cases hm : n.mem (touch o (valsOf C o st)) with
        | false => rfl
        | true => simp only [cond_true]; exact hr n (by rw [h3]; exact hm)
      exact (opS_eff.2 ⟨e, by rw [hv, ho']; exact h1, rfl, by rw [hv]; exact h3, by rw [hv]; exact h4⟩).1
  unfold stepS at h
  split at h
  · next hg =>
    obtain ⟨e, h1, h2, h3, h4, h5, h6⟩ := main h
    refine ⟨e, fun t => ∃ ty, (ty, Operand.tmp t) ∈ argsOf C.P o, h1, h2, h3, h4, fun t ⟨ty, ht⟩ => looks_arg ht, h5, fun s hs hr => ?_⟩
    unfold stepS
    rw [hg]
    exact h6 s hs hr
  · next g want hg =>
    obtain ⟨t, ht, h⟩ := h
    rcases h with ⟨hc, ho⟩ | ⟨hc, rfl, rfl⟩
    · obtain ⟨e, h1, h2, h3, h4, h5, h6⟩ := main ho
      refine ⟨e, fun t' => (∃ ty, (ty, Operand.tmp t') ∈ argsOf C.P o) ∨ t' = t, h1, h2, h3, h4, ?_, ?_, fun s hs hr => ?_⟩
      · rintro t' (⟨ty, h⟩ | rfl)
        · exact looks_arg h
        · exact looks_guard hg ht
      · rintro t' (h | rfl)
        · exact h5 t' h
        · rw [hc]; exact ⟨rfl, fun n hn => by simp [V.names] at hn⟩
      · unfold stepS
        rw [hg]
        exact ⟨t, ht, .inl ⟨by rw [hs t (.inr rfl)]; exact hc, h6 s (fun t' h => hs t' (.inl h)) hr⟩⟩
    · refine ⟨Eff.put (.tp []), fun t' => t' = t, rfl, rfl, rfl, fun n hn => by simp [Eff.put, V.names, namesL] at hn, ?_, ?_, fun s hs hr => ?_⟩
      · rintro t' rfl; exact looks_guard hg ht
      · rintro t' rfl
        rcases hc with hc | hc <;> rw [hc] <;> exact ⟨rfl, fun n hn => by simp [V.names, namesL] at hn⟩
      · unfold stepS
        rw [hg]
        exact ⟨t, ht, .inr ⟨by rw [hs t rfl]; exact hc, rfl, rfl⟩⟩

theorem noMeet_spec {a b : List Nm} (h : noMeet a b = true) : ∀ n ∈ a, n ∉ b := by
  intro n hn
  have := List.all_eq_true.1 h n hn
  simp only [Bool.not_eq_true'] at this
  exact (Nm.mem_false _ _).1 this

/-- Two steps change places. -/
theorem step_swap {ops : Array Oper} {ox oy : Oper} {s1 s2 : St} {fx fy : Foot} (hx : stepS C callK fid ops ox st s1 fx) (hy : stepS C callK fid ops oy s1 s2 fy) (hbx : fx.bad = false) (hby : fy.bad = false)
    (hap : fx.apart fy = true) (hsl : ox.apart ops oy = true) : ∃ s1', stepS C callK fid ops oy st s1' fy ∧ stepS C callK fid ops ox s1' s2 fx := by
  obtain ⟨ex, Rx, x1, x2, x3, x4, x5, x6, x7⟩ := step_split hx hbx
  obtain ⟨ey, Ry, y1, y2, y3, y4, y5, y6, y7⟩ := step_split hy hby
  obtain ⟨l1, l2, l3⟩ := Oper.apart_spec hsl
  simp only [Foot.apart, Bool.and_eq_true] at hap
  obtain ⟨⟨⟨⟨a1, a2⟩, a3⟩, a4⟩, a5⟩ := hap
  have hout : ∀ (d : Option Nat) (t : Nat), (∀ d', d = some d' → d' ≠ t) → isDst d t = false := by
    intro d t h
    cases d with
    | none => rfl
    | some d' =>
      cases hh : isDst (some d') t with
      | false => rfl
      | true => exact absurd ((isDst_some d' t).1 hh).symm (h d' rfl)
  have hreg : ∀ (s : St) (e : Eff) (d : Option Nat) (n : Nm), n ∉ e.w → (s.app e d).regs n = s.regs n := by
    intro s e d n hn
    simp only [St.app, (Nm.mem_false _ _).2 hn, cond_false]
  -- the later one first
  have ey1 : ∀ t, Ry t → st.env t = s1.env t := by
    intro t ht
    have h1 : s1.env t = (st.env t).kill ex.k := by
      rw [x1, app_env, hout ox.dst t (fun d hd e => l1 d hd (e ▸ y5 t ht))]
      rfl
    have h2 := (y6 t ht).1
    rw [h1] at h2 ⊢
    exact (kill_alive _ _ h2).symm
  have hy' := y7 st ey1 (fun n hn => by
    rw [x1, hreg _ _ _ n]
    intro h
    exact noMeet_spec a1 n (by rw [x2]; exact h) ((Nm.mem_iff _ _).1 hn))
  refine ⟨_, hy', ?_⟩
  have hx' := x7 (st.app ey oy.dst) (fun t ht => by
    rw [app_env, hout oy.dst t (fun d hd e => l3 d hd (e ▸ x5 t ht))]
    simp only [cond_false]
    exact kill_id _ _ (fun n hn h => noMeet_spec a5 n (by rw [y3]; exact h) ((x6 t ht).2 n hn)))
    (fun n hn => by
      rw [hreg _ _ _ n]
      intro h
      exact noMeet_spec a2 n (by rw [y2]; exact h) ((Nm.mem_iff _ _).1 hn))
  have he : (st.app ey oy.dst).app ex ox.dst = s2 := by
    rw [y1, x1]
    exact (app_comm l2 (fun n h1 h2 => noMeet_spec a3 n (by rw [x2]; exact h1) (by rw [y2]; exact h2)) (fun n h1 h2 => noMeet_spec a5 n (by rw [y3]; exact h2) (x4 n h1)) (fun n h1 h2 => noMeet_spec a4 n (by rw [x3]; exact h2) (y4 n h1))).symm
  rw [he] at hx'
  exact hx'
end
end Go.Ab
/- Regions whose order is open. -/
namespace Go.Ab
open Go
set_option linter.unusedSimpArgs false
set_option linter.unusedVariables false

section
variable {C : Cfg} {callK : CallK} {fid : FuncId} {st : St} {R : Type}

abbrev Stp := Nat × Oper × Foot

def Chain (C : Cfg) (callK : CallK) (fid : FuncId) (ops : Array Oper) : List Stp → St → St → Prop
  | [], st, st' => st' = st
  | x :: l, st, st' => ∃ s1, stepS C callK fid ops x.2.1 st s1 x.2.2 ∧ Chain C callK fid ops l s1 st'

def Ord (b : Array Nat) (ops : Array Oper) (x y : Stp) : Prop := (b.getD y.1 0).testBit x.1 = true ∨ (x.2.2.apart y.2.2 = true ∧ x.2.1.apart ops y.2.1 = true)

theorem apartLog_spec {ops : Array Oper} {b : Nat} {o : Oper} {g : Foot} : ∀ {log : List Stp}, apartLog ops b o log g = true → ∀ x ∈ log, b.testBit x.1 = true ∨ (x.2.2.apart g = true ∧ x.2.1.apart ops o = true)
  | [], _, x, hx => by simp at hx
  | y :: log, h, x, hx => by
    simp only [apartLog, Bool.and_eq_true, Bool.or_eq_true] at h
    simp only [List.mem_cons] at hx
    rcases hx with rfl | hx
    · exact h.1
    · exact apartLog_spec h.2 x hx

/-- The machine's run of a region is a chain, in which what is not ordered is apart. -/
theorem opsK_chain {ops : Array Oper} {b : Array Nat} {κ : St → Option R} {r : R} : ∀ (l : List Oper) {i : Nat} {log : List Stp} {st : St}, opsK C callK fid ops (some b) l i log st κ = some r →
    ∃ (L : List Stp) (s : St), L.length = l.length ∧ (∀ (k : Nat) (o : Oper), l[k]? = some o → ∃ f, L[k]? = some (i + k, o, f)) ∧ Chain C callK fid ops L st s ∧ κ s = some r ∧ (∀ x ∈ L, x.2.2.bad = false) ∧ L.Pairwise (Ord b ops) ∧ ∀ x ∈ log, ∀ y ∈ L, Ord b ops x y
  | [], i, log, st, h => ⟨[], st, rfl, fun k o h => by simp at h, rfl, h, fun x hx => by simp at hx, List.Pairwise.nil, fun x _ y hy => by simp at hy⟩
  | o :: l, i, log, st, h => by
    obtain ⟨st', f, h1, h2⟩ := opsK_step h
    simp only at h2
    obtain ⟨h2, h3, h4⟩ := h2
    obtain ⟨L, s, k1, k2, k3, k4, k5, k6, k7⟩ := opsK_chain l h4
    refine ⟨(i, o, f) :: L, s, by simp [k1], ?_, ⟨st', h1, k3⟩, k4, ?_, ?_, ?_⟩
    · intro k o' hk
      cases k with
      | zero => obtain rfl := Option.some.inj (by simpa using hk); exact ⟨f, rfl⟩
      | succ k =>
        obtain ⟨f', hf⟩ := k2 k o' (by simpa using hk)
        exact ⟨f', by simpa [Nat.add_assoc, Nat.add_comm 1] using hf⟩
    · intro x hx
      simp only [List.mem_cons] at hx
      rcases hx with rfl | hx
      · exact h2
      · exact k5 x hx
    · exact List.Pairwise.cons (fun y hy => k7 _ (by simp) y hy) k6
    · intro x hx y hy
      simp only [List.mem_cons] at hy
      rcases hy with rfl | hy
      · exact apartLog_spec h3 x hx
      · exact k7 x (by simp [hx]) y hy

/-- One of a chain comes to the front. -/
theorem chain_front {ops : Array Oper} : ∀ (L1 : List Stp) {y : Stp} {L2 : List Stp} {st s : St}, Chain C callK fid ops (L1 ++ y :: L2) st s → (∀ x ∈ L1, x.2.2.bad = false) → y.2.2.bad = false → (∀ x ∈ L1, x.2.2.apart y.2.2 = true ∧ x.2.1.apart ops y.2.1 = true) →
    ∃ s', stepS C callK fid ops y.2.1 st s' y.2.2 ∧ Chain C callK fid ops (L1 ++ L2) s' s
  | [], y, L2, st, s, h, _, _, _ => h
  | x :: L1, y, L2, st, s, h, hb, hby, ha => by
    obtain ⟨s1, h1, h2⟩ := h
    obtain ⟨s', h3, h4⟩ := chain_front L1 h2 (fun x hx => hb x (by simp [hx])) hby (fun x hx => ha x (by simp [hx]))
    obtain ⟨s1', h5, h6⟩ := step_swap h1 h3 (hb x (by simp)) hby (ha x (by simp)).1 (ha x (by simp)).2
    exact ⟨s1', h5, s', h6, h4⟩

/-! ### who must have been run -/
theorem before_fold (es : List Edge) (acc : Array Nat) (s0 j : Nat) (h : (es.foldl (fun s e => if Region.binds .any e then s ||| 2 ^ e.on ||| acc.getD e.on 0 else s) s0).testBit j = true) :
    s0.testBit j = true ∨ ∃ e ∈ es, Region.binds .any e = true ∧ (e.on = j ∨ (acc.getD e.on 0).testBit j = true) := by
  induction es generalizing s0 with
  | nil => exact .inl h
  | cons e es ih =>
    simp only [List.foldl_cons] at h
    rcases ih _ h with h | ⟨e', h1, h2, h3⟩
    · split at h
      · next hb =>
        simp only [Nat.testBit_or, Bool.or_eq_true] at h
        rcases h with (h | h) | h
        · exact .inl h
        · refine .inr ⟨e, by simp, hb, .inl ?_⟩
          rw [Nat.testBit_two_pow] at h
          simpa using h
        · exact .inr ⟨e, by simp, hb, .inr h⟩
      · exact .inl h
    · exact .inr ⟨e', by simp [h1], h2, h3⟩

theorem before_spec_aux : ∀ (l : List Oper) (acc : Array Nat) (pre : List Oper), acc.size = pre.length →
    (∀ (i : Nat) (o : Oper), pre[i]? = some o → ∀ j, (acc.getD i 0).testBit j = true → ∃ e ∈ o.after, Region.binds .any e = true ∧ (e.on = j ∨ (e.on < i ∧ (acc.getD e.on 0).testBit j = true))) →
    ∀ (i : Nat) (o : Oper), (pre ++ l)[i]? = some o → ∀ j, ((l.foldl (fun acc o => acc.push (o.after.foldl (fun s e => if Region.binds .any e then s ||| 2 ^ e.on ||| acc.getD e.on 0 else s) 0)) acc).getD i 0).testBit j = true →
      ∃ e ∈ o.after, Region.binds .any e = true ∧ (e.on = j ∨ (e.on < i ∧ ((l.foldl (fun acc o => acc.push (o.after.foldl (fun s e => if Region.binds .any e then s ||| 2 ^ e.on ||| acc.getD e.on 0 else s) 0)) acc).getD e.on 0).testBit j = true))
  | [], acc, pre, _, hp, i, o, hi, j, hj => hp i o (by simpa using hi) j hj
  | x :: l, acc, pre, hs, hp, i, o, hi, j, hj => by
    simp only [List.foldl_cons] at hj ⊢
    refine before_spec_aux l _ (pre ++ [x]) (by simp [hs]) ?_ i o (by simpa using hi) j hj
    intro i' o' hi' j' hj'
    have hget : ∀ k, k < acc.size → ∀ v, (acc.push v).getD k 0 = acc.getD k 0 := by
      intro k hk v
      simp [Array.getD, hk, Nat.lt_succ_of_lt hk, Array.getElem_push_lt hk]
    by_cases hlt : i' < pre.length
    · rw [hget i' (by omega)] at hj'
      obtain ⟨e, h1, h2, h3⟩ := hp i' o' (by rw [← hi', List.getElem?_append_left hlt]) j' hj'
      refine ⟨e, h1, h2, h3.imp id (fun h => ⟨h.1, ?_⟩)⟩
      rw [hget e.on (by omega)]; exact h.2
    · have hlen : i' < (pre ++ [x]).length := (List.getElem?_eq_some_iff.1 hi').1
      have he : i' = pre.length := by simp at hlen; omega
      subst he
      have ho : o' = x := by simpa using hi'.symm
      subst ho
      have hnew : ∀ v, (acc.push v).getD pre.length 0 = v := by
        intro v
        rw [← hs]
        simp [Array.getD]
      rw [hnew, ← Array.foldl_toList] at hj'
      rcases before_fold _ _ _ _ hj' with h | ⟨e, h1, h2, h3⟩
      · simp at h
      · refine ⟨e, Array.mem_toList_iff.1 h1, h2, h3.imp id (fun h => ?_)⟩
        have hel : e.on < acc.size := by
          rcases Nat.lt_or_ge e.on acc.size with h' | h'
          · exact h'
          · simp [Array.getD, Nat.not_lt.2 h'] at h
        exact ⟨by omega, by rw [hget e.on hel]; exact h⟩

theorem before_spec {ops : Array Oper} {i : Nat} {o : Oper} (hi : ops[i]? = some o) {j : Nat} (h : ((Region.before ops).getD i 0).testBit j = true) :
    ∃ e ∈ o.after, Region.binds .any e = true ∧ (e.on = j ∨ (e.on < i ∧ ((Region.before ops).getD e.on 0).testBit j = true)) := by
  have key := before_spec_aux ops.toList #[] [] rfl (fun i o h => by simp at h) i o (by simpa using hi) j
  unfold Region.before at h ⊢
  rw [← Array.foldl_toList] at h ⊢
  exact key h

/-- The listed ones have all that they wait for listed. -/
def Closed (ops : Array Oper) (listed : Array Bool) : Prop :=
  ∀ (j : Nat) (o : Oper), ops[j]? = some o → listed.getD j true = true → ∀ e ∈ o.after, Region.binds .any e = true → listed.getD e.on false = true

theorem before_listed {ops : Array Oper} {listed : Array Bool} (hsz : listed.size = ops.size) (hc : Closed ops listed) : ∀ (n i : Nat), i < n → ∀ (o : Oper), ops[i]? = some o → (∀ e ∈ o.after, Region.binds .any e = true → listed.getD e.on false = true) →
    ∀ j, ((Region.before ops).getD i 0).testBit j = true → listed.getD j false = true
  | 0, i, h, _, _, _, _, _ => by omega
  | n + 1, i, h, o, hi, ha, j, hj => by
    obtain ⟨e, h1, h2, h3⟩ := before_spec hi hj
    rcases h3 with rfl | ⟨h3, h4⟩
    · exact ha e h1 h2
    · have hl := ha e h1 h2
      have hlt : e.on < ops.size := by
        rcases Nat.lt_or_ge e.on listed.size with h' | h'
        · omega
        · simp [Array.getD, Nat.not_lt.2 h'] at hl
      refine before_listed hsz hc n e.on (by omega) ops[e.on] (Array.getElem?_eq_getElem hlt) (hc e.on _ (Array.getElem?_eq_getElem hlt) ?_) j h4
      have hl2 : e.on < listed.size := by omega
      simpa [Array.getD, hl2] using hl
end
end Go.Ab
/- A region whose order is open comes to one state. -/
namespace Go.Ab
open Go
set_option linter.unusedSimpArgs false
set_option linter.unusedVariables false

section
variable {C : Cfg} {callK : CallK} {fid : FuncId} {w0 : World} {F : FG} {N : Nat} {R : Type}

theorem edges_back {ops : Array Oper} (h : edgesBack ops = true) {i : Nat} {o : Oper} (ho : ops[i]? = some o) : ∀ e ∈ o.after, Region.binds .any e = true → e.on < i := by
  intro e he hbd
  have hm : (o, i) ∈ ops.toList.zipIdx := by
    rw [List.mem_iff_getElem?]
    exact ⟨i, by simp [List.getElem?_zipIdx, ho]⟩
  have h1 := List.all_eq_true.1 h _ hm
  have h2 := List.all_eq_true.1 h1 e (Array.mem_toList_iff.2 he)
  simp only [hbd, Bool.not_true, Bool.false_or] at h2
  exact nblt h2

/-- What is left of a region, and what is listed. -/
structure Left (C : Cfg) (callK : CallK) (fid : FuncId) (ops : Array Oper) (L : List Stp) (listed : Array Bool) : Prop where
  size : listed.size = ops.size
  opsAt : ∀ x ∈ L, ops[x.1]? = some x.2.1
  un : ∀ x ∈ L, listed.getD x.1 true = false
  all : ∀ j, listed.getD j true = false → ∃ x ∈ L, x.1 = j
  inc : L.Pairwise fun x y => x.1 < y.1
  ord : L.Pairwise (Ord (Region.before ops) ops)
  good : ∀ x ∈ L, x.2.2.bad = false
  closed : Closed ops listed

theorem getD_both {a : Array Bool} {i : Nat} : a.getD i false = true ↔ i < a.size ∧ a.getD i true = true := by
  by_cases h : i < a.size <;> simp [Array.getD, h]

theorem getD_set {a : Array Bool} {i j : Nat} (hi : i < a.size) (d : Bool) : (a.setIfInBounds i true).getD j d = if i = j then true else a.getD j d := by
  by_cases h : i = j
  · subst h; simp [Array.getD, hi]
  · rw [if_neg h]
    simp only [Array.getD, Array.size_setIfInBounds]
    split
    · next hj => exact Array.getElem_setIfInBounds_ne hj h
    · rfl

theorem any_ok (hK : CallSound C.P callK) {ops : Array Oper} (hd : ∀ o ∈ ops, ∀ x, o.dst = some x → x < N) (hback : edgesBack ops = true) {s : St} {Q : Exit → Act → World → Prop} :
    ∀ (fuel : Nat) (L : List Stp) (listed : Array Bool) {st : St} {a : Act} {w : World} {G : Nat → Prop} {gm : GM}, L.length ≤ fuel → Inv C.P w0 F N st a w G gm → Chain C callK fid ops L st s → Left C callK fid ops L listed →
      (∀ a' w' G' gm', (∀ b, G b → G' b) → Inv C.P w0 F N s a' w' G' gm' → Q .normal a' w') → wpAny C.P .any ops Q fuel listed a w := by
  intro fuel
  induction fuel with
  | zero =>
    intro L listed st a w G gm hl hI hc hL hQ
    have : L = [] := List.eq_nil_of_length_eq_zero (by omega)
    subst this
    have hc : s = st := hc
    subst hc
    refine ⟨?_, hQ a w G gm (fun _ h => h) hI⟩
    cases hr : Region.ready .any ops listed with
    | nil => rfl
    | cons i l =>
      have : i ∈ Region.ready .any ops listed := by rw [hr]; simp
      obtain ⟨x, hx, _⟩ := hL.all i (mem_ready.1 this).1
      cases hx
  | succ fuel ih =>
    intro L listed st a w G gm hl hI hc hL hQ
    refine ⟨fun hr => ?_, fun i hi => ?_⟩
    · cases L with
      | nil =>
        have hc : s = st := hc
        subst hc
        exact hQ a w G gm (fun _ h => h) hI
      | cons x L =>
        exfalso
        have hox := hL.opsAt x (by simp)
        have hready : x.1 ∈ Region.ready .any ops listed := by
          rw [mem_ready]
          refine ⟨hL.un x (by simp), x.2.1, hox, fun e he hb => ?_⟩
          have hlt := edges_back hback hox e he hb
          have hxs : x.1 < ops.size := (Array.getElem?_eq_some_iff.1 hox).1
          rw [getD_both]
          refine ⟨by rw [hL.size]; omega, ?_⟩
          cases hu : listed.getD e.on true with
          | true => rfl
          | false =>
            obtain ⟨y, hy, he'⟩ := hL.all _ hu
            simp only [List.mem_cons] at hy
            rcases hy with rfl | hy
            · omega
            · have := List.rel_of_pairwise_cons hL.inc hy
              omega
        rw [hr] at hready
        cases hready
    · obtain ⟨hu, o, ho, hpre⟩ := mem_ready.1 hi
      obtain ⟨y, hy, hyi⟩ := hL.all i hu
      subst hyi
      have hoy := hL.opsAt y hy
      rw [ho] at hoy
      obtain rfl := Option.some.inj hoy
      obtain ⟨L1, L2, rfl⟩ := List.append_of_mem hy
      have hmid := List.pairwise_append.1 hL.ord
      have hminc := List.pairwise_append.1 hL.inc
      have hap : ∀ x ∈ L1, x.2.2.apart y.2.2 = true ∧ x.2.1.apart ops y.2.1 = true := by
        intro x hx
        rcases hmid.2.2 x hx y (by simp) with h | h
        · exfalso
          have h1 := before_listed hL.size hL.closed (y.1 + 1) y.1 (by omega) y.2.1 ho hpre x.1 h
          have h2 := hL.un x (by simp [hx])
          rw [(getD_both.1 h1).2] at h2
          cases h2
        · exact h
      obtain ⟨s', h1, h2⟩ := chain_front L1 hc (fun x hx => hL.good x (by simp [hx])) (hL.good y (by simp)) hap
      have hys : y.1 < listed.size := by rw [hL.size]; exact (Array.getElem?_eq_some_iff.1 ho).1
      have hsub : (L1 ++ L2).Sublist (L1 ++ y :: L2) := List.Sublist.append (List.Sublist.refl _) (List.sublist_cons_self _ _)
      have hne : ∀ x ∈ L1 ++ L2, x.1 ≠ y.1 := by
        intro x hx
        simp only [List.mem_append] at hx
        rcases hx with hx | hx
        · have := hminc.2.2 x hx y (by simp); omega
        · have := List.rel_of_pairwise_cons hminc.2.1 hx; omega
      have hL' : Left C callK fid ops (L1 ++ L2) (listed.setIfInBounds y.1 true) := by
        refine ⟨by simpa using hL.size, fun x hx => hL.opsAt x (hsub.subset hx), fun x hx => ?_, fun j hj => ?_, hL.inc.sublist hsub, hL.ord.sublist hsub, fun x hx => hL.good x (hsub.subset hx), ?_⟩
        · rw [getD_set hys, if_neg (fun e => hne x hx e.symm)]
          exact hL.un x (hsub.subset hx)
        · rw [getD_set hys] at hj
          split at hj
          · cases hj
          · next hn =>
            obtain ⟨x, hx, rfl⟩ := hL.all j hj
            refine ⟨x, ?_, rfl⟩
            simp only [List.mem_append, List.mem_cons] at hx ⊢
            rcases hx with hx | rfl | hx
            · exact .inl hx
            · exact absurd rfl hn
            · exact .inr hx
        · intro j o' ho' hj e he hb
          rw [getD_set hys]
          split
          · rfl
          · rw [getD_set hys] at hj
            split at hj
            · next hje =>
              subst hje
              rw [ho] at ho'
              obtain rfl := Option.some.inj ho'
              exact hpre e he hb
            · exact hL.closed j o' ho' hj e he hb
      unfold wpOp
      simp only [ho]
      refine stepS_ok hK hI (hd _ (Array.mem_of_getElem? ho)) h1 (fun a' w' G' gm' hG hI' => ?_)
      refine ih (L1 ++ L2) _ ?_ hI' h2 hL' (fun a'' w'' G'' gm'' hg hi' => hQ a'' w'' G'' gm'' (fun b hb => hg b (hG b hb)) hi')
      simp only [List.length_append, List.length_cons] at hl ⊢
      omega

/-- A region whose order is open. -/
theorem draw_ok (hK : CallSound C.P callK) (hm : C.P.follows .mixedOrders = true) {ops : Array Oper} (hd : ∀ o ∈ ops, ∀ x, o.dst = some x → x < N) (hback : edgesBack ops = true) {id : Nat} {st : St} {a : Act} {w : World} {G : Nat → Prop} {gm : GM} (hI : Inv C.P w0 F N st a w G gm)
    {κ : St → Option R} {r : R} (h : opsK C callK fid ops (some (Region.before ops)) ops.toList 0 [] st κ = some r) {Q : Exit → Act → World → Prop}
    (hQ : ∀ st' a' w' G' gm', κ st' = some r → (∀ b, G b → G' b) → Inv C.P w0 F N st' a' w' G' gm' → Q .normal a' w') : (Code.region id ops true).wp C.P Q a w := by
  obtain ⟨L, s, k1, k2, k3, k4, k5, k6, _⟩ := opsK_chain ops.toList h
  have hlen : L.length = ops.size := by simpa using k1
  have hat : ∀ (k : Nat) (x : Stp), L[k]? = some x → x.1 = k ∧ ops[k]? = some x.2.1 := by
    intro k x hx
    have hk : k < ops.size := by rw [← hlen]; exact (List.getElem?_eq_some_iff.1 hx).1
    obtain ⟨f, hf⟩ := k2 k ops[k] (by simp [hk])
    rw [hx] at hf
    obtain rfl := Option.some.inj hf
    exact ⟨by simp, by simp [hk]⟩
  refine wp_region_any hm (any_ok hK hd hback ops.size L _ (by omega) (hI.world (w' := { w with drawn := w.drawn + 1 }) rfl rfl rfl rfl) k3 ⟨by simp, ?_, ?_, ?_, ?_, k6, k5, ?_⟩ (fun a' w' G' gm' hG hI' => hQ s a' w' G' gm' k4 hG hI'))
  · intro x hx
    obtain ⟨k, hk⟩ := List.mem_iff_getElem?.1 hx
    obtain ⟨h1, h2⟩ := hat k x hk
    rw [h1]; exact h2
  · intro x hx
    obtain ⟨k, hk⟩ := List.mem_iff_getElem?.1 hx
    obtain ⟨h1, h2⟩ := hat k x hk
    have : x.1 < ops.size := by rw [h1]; exact (Array.getElem?_eq_some_iff.1 h2).1
    simp [Array.getD, this]
  · intro j hj
    have hjs : j < ops.size := by
      rcases Nat.lt_or_ge j ops.size with h' | h'
      · exact h'
      · simp [Array.getD, Nat.not_lt.2 h'] at hj
    have hjl : j < L.length := by omega
    exact ⟨L[j], List.getElem_mem hjl, (hat j _ (List.getElem?_eq_getElem hjl)).1⟩
  · rw [List.pairwise_iff_getElem]
    intro i j hi hj hij
    rw [(hat i _ (List.getElem?_eq_getElem hi)).1, (hat j _ (List.getElem?_eq_getElem hj)).1]
    exact hij
  · intro j o ho hj
    have hjs : j < ops.size := (Array.getElem?_eq_some_iff.1 ho).1
    simp [Array.getD, hjs] at hj
end
end Go.Ab
/- Some slots and regions are kept; code. -/
namespace Go.Ab
open Go
set_option linter.unusedSimpArgs false
set_option linter.unusedVariables false

section
variable {C : Cfg} {callK : CallK} {fid : FuncId} {w0 w : World} {F : FG} {N : Nat} {st : St} {a : Act} {G : Nat → Prop} {gm : GM}

theorem lookN_spec : ∀ (l : List (Nat × V)) (i : Nat), St.keepOnly.lookN i l = none ∨ ∃ v, (i, v) ∈ l ∧ St.keepOnly.lookN i l = some v
  | [], _ => .inl rfl
  | (j, v) :: l, i => by
    simp only [St.keepOnly.lookN]
    cases h : Nat.beq i j with
    | true => have := nbeq h; subst this; exact .inr ⟨v, by simp, rfl⟩
    | false =>
      rcases lookN_spec l i with h' | ⟨v', h1, h2⟩
      · exact .inl h'
      · exact .inr ⟨v', by simp [h1], h2⟩

theorem lookR_mem (f : Nm → Option Rg) : ∀ (R : List Nm) (n : Nm), (St.keepOnly.lookR n (R.zip (R.map f))).getD none = bif n.mem R then f n else none
  | [], _ => rfl
  | m :: R, n => by
    simp only [List.map_cons, List.zip_cons_cons, St.keepOnly.lookR, Nm.mem]
    cases h : Nm.eq n m with
    | true =>
      have : n = m := (Nm.eq_iff n m).1 h
      subst this
      rfl
    | false => simpa using lookR_mem f R n

theorem Inv.keep {P : Program} (hI : Inv P w0 F N st a w G gm) (L : List Nat) (R : List Nm) : ∃ gm', Inv P w0 F N (st.keepOnly L R) a w G gm' := by
  let gm' : GM := fun n => bif n.mem R then gm n else none
  have hin : ∀ n, n.mem R = true → gm' n = gm n := fun n h => by simp only [gm', h, cond_true]
  have hout : ∀ n, n.mem R = false → gm' n = none := fun n h => by simp only [gm', h, cond_false]
  have hreg : ∀ n, (st.keepOnly L R).regs n = bif n.mem R then st.regs n else none := fun n => lookR_mem st.regs R n
  refine ⟨gm', ⟨?_, fun i => ?_, hI.size, hI.defers, ?_⟩⟩
  · refine hI.regs.change (fun n => n.mem R = false) (fun _ _ _ => rfl) rfl rfl rfl (Nat.le_refl _) ?_ ?_ ?_ ?_ ?_ (fun _ h => h) (fun _ h => .inl h) (fun i R' h hr => by rw [hout _ h] at hr; cases hr)
    · intro n hn
      have hn' : n.mem R = true := by simpa using hn
      exact ⟨by rw [hreg, hn']; rfl, hin n hn'⟩
    · intro n hn
      rw [hreg, hn, hout n hn]
      trivial
    · intro n R' hn h; rw [hout n hn] at h; cases h
    · intro n n' R1 R2 hn _ _ h; rw [hout n hn] at h; cases h
    · intro n R' b hn h; rw [hout n hn] at h; cases h
  · simp only [St.keepOnly]
    rcases lookN_spec (L.zip (L.map fun j => bif (st.env j).names.all (fun n => n.mem R) then st.env j else .bad)) i with h | ⟨v, h1, h2⟩
    · rw [h]; exact trivial
    · rw [h2]
      simp only [Option.getD_some]
      have hv : v = bif (st.env i).names.all (fun n => n.mem R) then st.env i else .bad := by
        obtain ⟨k, hk⟩ := List.mem_iff_getElem?.1 h1
        rw [List.getElem?_zip_eq_some] at hk
        obtain ⟨hk1, hk2⟩ := hk
        rw [List.getElem?_map, hk1] at hk2
        exact (Option.some.inj hk2).symm
      rw [hv]
      cases hn : (st.env i).names.all (fun n => n.mem R) with
      | false => exact trivial
      | true =>
        simp only [cond_true]
        exact Rv.frame (fun _ _ => rfl) (fun _ h => h) gm gm' _ _ (fun n hn' => hin n (List.all_eq_true.1 hn n hn')) (hI.env i)
  · rw [hreg, hI.hand]
    cases Nm.hand.mem R <;> rfl

theorem forget_ok (hI : Inv C.P w0 F N st a w G gm) (p : List Nat) : ∃ gm', Inv C.P w0 F N (forget C fid p st) a w G gm' := by
  unfold forget
  split
  · next L R _ => exact hI.keep L R
  · exact ⟨gm, hI⟩

/-! ### code -/
def toExit : Ex → Exit
  | .nm => .normal
  | .ex i => .exit i
  | .rt => .ret

theorem codeOk_ops {ops : Array Oper} {id : Nat} {d : Bool} (h : codeOk N (.region id ops d) = true) : ∀ o ∈ ops, ∀ x, o.dst = some x → x < N := by
  intro o ho x hx
  have := List.all_eq_true.1 h o (Array.mem_toList_iff.2 ho)
  rw [hx] at this
  exact nblt this

/-- A piece of code comes to what the machine says. -/
def CodeSound (C : Cfg) (fid : FuncId) (R : Type) (X : Code → List Nat → St → (Ex → St → Option R) → Option R) (c : Code) : Prop :=
  ∀ (p : List Nat) (st : St) (κ : Ex → St → Option R) (r : R), X c p st κ = some r → ∀ (w0 : World) (F : FG) (N : Nat), codeOk N c = true → ∀ (a : Act) (w : World) (G : Nat → Prop) (gm : GM), Inv C.P w0 F N st a w G gm →
    ∀ Q : Exit → Act → World → Prop, (∀ e st' a' w' G' gm', κ e st' = some r → (∀ b, G b → G' b) → Inv C.P w0 F N st' a' w' G' gm' → Q (toExit e) a' w') → c.wp C.P Q a w

variable {R : Type}
theorem execC_ok (hm : C.P.follows .mixedOrders = true) (hK : CallSound C.P callK) (rec : Code → List Nat → St → (Ex → St → Option R) → Option R) (hrec : ∀ c, CodeSound C fid R rec c) :
    ∀ c, CodeSound C fid R (execC C callK fid rec) c := by
  intro c
  induction c with
  | skip =>
    intro p st κ r h w0 F N hN a w G gm hI Q hQ
    exact wp_skip (hQ .nm st a w G gm h (fun _ h => h) hI)
  | region id ops draw =>
    intro p st κ r h w0 F N hN a w G gm hI Q hQ
    simp only [execC] at h
    cases draw with
    | true =>
      simp only [cond_true] at h
      cases hb : edgesBack ops with
      | false => rw [hb] at h; cases h
      | true =>
        rw [hb] at h
        exact draw_ok hK hm (codeOk_ops hN) hb hI h (fun st' a' w' G' gm' hk hG hI' => hQ .nm st' a' w' G' gm' hk hG hI')
    | false =>
      simp only [cond_false] at h
      refine wp_region ?_
      rw [List.range_eq_range', show ops.size = ops.toList.length by simp, wpOps_eq_wpList ops.toList 0 (fun j => by simp)]
      exact opsK_ok hK ops.toList hI (fun o ho => codeOk_ops hN o (Array.mem_toList_iff.1 ho)) h (fun st' a' w' G' gm' hk hG hI' => hQ .nm st' a' w' G' gm' hk hG hI')
  | seq x y ihx ihy =>
    intro p st κ r h w0 F N hN a w G gm hI Q hQ
    simp only [codeOk, Bool.and_eq_true] at hN
    simp only [execC] at h
    refine wp_seq (ihx _ st _ r h w0 F N hN.1 a w G gm hI _ ?_)
    intro e st' a' w' G' gm' hk hG hI'
    cases e with
    | nm =>
      obtain ⟨gm2, hI2⟩ := forget_ok (fid := fid) hI' (1 :: p)
      simp only at hk
      cases hc : C.cut fid (1 :: p) with
      | false =>
        simp only [hc, cond_false] at hk
        exact ihy _ _ κ r hk w0 F N hN.2 a' w' G' gm2 hI2 Q (fun e st'' a'' w'' G'' gm'' hk' hG' hi => hQ e st'' a'' w'' G'' gm'' hk' (fun b hb => hG' b (hG b hb)) hi)
      | true =>
        simp only [hc, cond_true] at hk
        exact hrec y _ _ _ r hk w0 F N hN.2 a' w' G' gm2 hI2 Q (fun e st'' a'' w'' G'' gm'' hk' hG' hi => hQ e st'' a'' w'' G'' gm'' hk' (fun b hb => hG' b (hG b hb)) hi)
    | ex i => exact hQ _ st' a' w' G' gm' hk hG hI'
    | rt => exact hQ _ st' a' w' G' gm' hk hG hI'
  | cond c x y ihx ihy =>
    intro p st κ r h w0 F N hN a w G gm hI Q hQ
    simp only [codeOk, Bool.and_eq_true] at hN
    simp only [execC] at h
    have hc := opd_ok hI (0, c)
    split at h
    · next t ht =>
      rw [ht] at hc
      cases t with
      | true => exact wp_cond_true hc.1 (ihx _ st κ r h w0 F N hN.1 a w G gm hI Q hQ)
      | false => exact wp_cond_false hc.1 (ihy _ st κ r h w0 F N hN.2 a w G gm hI Q hQ)
    · cases h
  | block id x ih =>
    intro p st κ r h w0 F N hN a w G gm hI Q hQ
    simp only [execC] at h
    refine wp_block (ih _ st _ r h w0 F N hN a w G gm hI _ ?_)
    intro e st' a' w' G' gm' hk hG hI'
    cases e with
    | nm => exact hQ .nm st' a' w' G' gm' hk hG hI'
    | ex i =>
      simp only [toExit, Exit.inBlock]
      cases hi : Nat.beq i id with
      | true =>
        simp only [hi, cond_true] at hk
        rw [if_pos (nbeq hi)]
        exact hQ .nm st' a' w' G' gm' hk hG hI'
      | false =>
        simp only [hi, cond_false] at hk
        rw [if_neg (fun e => by subst e; simp at hi)]
        exact hQ (.ex i) st' a' w' G' gm' hk hG hI'
    | rt => exact hQ .rt st' a' w' G' gm' hk hG hI'
  | loop x ih =>
    intro p st κ r h w0 F N hN a w G gm hI Q hQ
    simp only [execC] at h
    obtain ⟨gm2, hI2⟩ := forget_ok (fid := fid) hI p
    exact hrec (.loop x) p _ _ r h w0 F N hN a w G gm2 hI2 Q hQ
  | exit id =>
    intro p st κ r h w0 F N hN a w G gm hI Q hQ
    exact wp_exit (hQ (.ex id) st a w G gm h (fun _ h => h) hI)
  | ret =>
    intro p st κ r h w0 F N hN a w G gm hI Q hQ
    exact wp_ret (hQ .rt st a w G gm h (fun _ h => h) hI)
  | _ =>
    intro p st κ r h
    cases h
end
end Go.Ab
/- Loops and fuel. -/
namespace Go.Ab
open Go
set_option linter.unusedSimpArgs false
set_option linter.unusedVariables false

theorem exists_least {p : Nat → Prop} (h : ∃ n, p n) : ∃ n, p n ∧ ∀ m, p m → n ≤ m := by
  obtain ⟨n, hn⟩ := h
  induction n using Nat.strongRecOn with
  | _ n ih =>
    by_cases hm : ∃ m, m < n ∧ p m
    · obtain ⟨m, h1, h2⟩ := hm
      exact ih m h1 h2
    · refine ⟨n, hn, fun m h => ?_⟩
      rcases Nat.lt_or_ge m n with h' | h'
      · exact absurd ⟨m, h', h⟩ hm
      · exact h'

open Classical in
noncomputable def least (p : Nat → Prop) : Nat := if h : ∃ n, p n then (exists_least h).choose else 0
theorem least_is {p : Nat → Prop} (h : ∃ n, p n) : p (least p) := by
  unfold least; rw [dif_pos h]; exact (exists_least h).choose_spec.1
theorem least_le {p : Nat → Prop} {n : Nat} (h : p n) : least p ≤ n := by
  unfold least; rw [dif_pos ⟨n, h⟩]; exact (exists_least ⟨n, h⟩).choose_spec.2 n h

section
variable {C : Cfg} {prim : FuncId → Option PrimT}

theorem recE_loop (k : Nat) {R : Type} (f : FuncId) (c : Code) (p : List Nat) (st : St) (κ : Ex → St → Option R) :
    recE C prim (k + 1) R f (.loop c) p st κ = execC C (optK (callE C prim k)) f (recE C prim k R f) c (0 :: p) st fun e s => match e with
      | .nm => recE C prim k R f (.loop c) p (forget C f p s) κ
      | e => κ e (forget C f (9 :: p) s) := rfl

theorem recE_code (k : Nat) {R : Type} (f : FuncId) (c : Code) (hc : ∀ x, c ≠ .loop x) (p : List Nat) (st : St) (κ : Ex → St → Option R) :
    recE C prim (k + 1) R f c p st κ = execC C (optK (callE C prim k)) f (recE C prim k R f) c p st fun e s => κ e (forget C f (9 :: p) s) := by
  cases c <;> first | rfl | exact absurd rfl (hc _)

theorem recE_ok (hm : C.P.follows .mixedOrders = true) (hB : ∀ k, (∀ f c, CodeSound C f (V × List Rg) (recE C prim k (V × List Rg) f) c) → CallSound C.P (optK (callE C prim k))) :
    ∀ k, ∀ (R : Type) f c, CodeSound C f R (recE C prim k R f) c := by
  intro k
  induction k using Nat.strongRecOn with
  | _ k ih =>
    intro R f c
    cases k with
    | zero => intro p st κ r h; cases h
    | succ k =>
      by_cases hc : ∃ x, c = .loop x
      · obtain ⟨c, rfl⟩ := hc
        intro p st κ r h w0 F N hN a w G gm hI Q hQ
        let J : Act → World → Nat → Prop := fun a w n => n ≤ k + 1 ∧ ∃ st G' gm', Inv C.P w0 F N st a w G' gm' ∧ (∀ b, G b → G' b) ∧ recE C prim n R f (.loop c) p st κ = some r
        refine wp_loop (fun a w => ∃ n, J a w n) (fun a w => least (J a w)) ⟨k + 1, Nat.le_refl _, st, G, gm, hI, fun _ h => h, h⟩ ?_
        intro a1 w1 hex
        obtain ⟨hnk, st1, G1, gm1, hI1, hG1, hE⟩ := least_is hex
        generalize hn : least (J a1 w1) = n at hnk hE
        cases n with
        | zero => cases hE
        | succ n =>
          rw [recE_loop] at hE
          refine execC_ok hm (hB n (ih n (by omega) _)) _ (fun c => ih n (by omega) R f c) c (0 :: p) st1 _ r hE w0 F N hN a1 w1 G1 gm1 hI1 _ ?_
          intro e st' a' w' G' gm' hk hG hI'
          cases e with
          | nm =>
            obtain ⟨gm2, hI2⟩ := forget_ok (fid := f) hI' p
            have hJ : J a' w' n := ⟨by omega, _, G', gm2, hI2, fun b hb => hG b (hG1 b hb), hk⟩
            refine ⟨⟨n, hJ⟩, ?_⟩
            have := least_le hJ
            show least (J a' w') < n + 1
            omega
          | ex i =>
            obtain ⟨gm2, hI2⟩ := forget_ok (fid := f) hI' (9 :: p)
            exact hQ (.ex i) _ a' w' G' gm2 hk (fun b hb => hG b (hG1 b hb)) hI2
          | rt =>
            obtain ⟨gm2, hI2⟩ := forget_ok (fid := f) hI' (9 :: p)
            exact hQ .rt _ a' w' G' gm2 hk (fun b hb => hG b (hG1 b hb)) hI2
      · intro p st κ r h w0 F N hN a w G gm hI Q hQ
        rw [recE_code k f c (fun x e => hc ⟨x, e⟩)] at h
        refine execC_ok hm (hB k (ih k (by omega) _)) _ (fun c => ih k (by omega) R f c) c p st _ r h w0 F N hN a w G gm hI Q ?_
        intro e st' a' w' G' gm' hk hG hI'
        obtain ⟨gm2, hI2⟩ := forget_ok (fid := f) hI' (9 :: p)
        exact hQ e _ a' w' G' gm2 hk hG hI2
end
end Go.Ab
/- A function's body: what it begins with, what it ends with. -/
namespace Go.Ab
open Go
set_option linter.unusedSimpArgs false
set_option linter.unusedVariables false

section
variable {P : Program} {w0 w : World} {F : FG} {N : Nat} {st : St} {a : Act} {G : Nat → Prop} {gm : GM}

theorem nthV_get' : ∀ (l : List V) (j : Nat), nthV l j = (l[j]?).getD .bad
  | [], j => by simp [nthV]
  | _ :: _, 0 => rfl
  | _ :: l, j + 1 => by simpa [nthV] using nthV_get' l j

/-- A call's first state. -/
theorem start_ok {gs : List Rg} {Rs : List RG} (h : Regs P w F (parR gs) w F.g (parG Rs)) {args : Array Value} {vs : List V} (hv : RvL w F.g (parG Rs) args.toList vs) {n : Nat} (hn : args.size ≤ n) :
    Inv P w F n (stOf vs gs) { tmps := args ++ Array.replicate (n - args.size) undef, defers := [] } w F.g (parG Rs) := by
  have hl := hv.length
  refine ⟨?_, fun i => ?_, by simp; omega, rfl, rfl⟩
  · have : (stOf vs gs).regs = parR gs := by
      funext n
      cases n <;> rfl
    rw [this]; exact h
  · show Rv w F.g (parG Rs) _ (nthV vs i)
    rcases Nat.lt_or_ge i vs.length with hi | hi
    · obtain ⟨v, h1, h2⟩ := hv.get i hi
      have hia : i < args.size := by rw [← Array.length_toList]; omega
      have : (args ++ Array.replicate (n - args.size) undef).getD i undef = v := by
        have h3 : args[i]? = some v := by simpa using h1
        simp [Array.getD, Array.getElem_append, hia]
        have h4 := (Array.getElem?_eq_some_iff.1 h3).2
        have h5 : i < args.size + (n - args.size) := by omega
        simp [h5, h4]
      rw [this]; exact h2
    · rw [nthV_out _ _ hi]; exact trivial

theorem cell_land {x : V} (h : x.cib = true) (n : Nm) (j : Nat) : x.land n j = (x, []) := by
  cases x <;> first | rfl | (simp [V.cib, V.cim, V.imm, V.isCell] at h; done)

/-- Of the cells in the hand the own slices are kept, each in its place. -/
theorem compress : ∀ (xs : List V) (vals : List Value) (sks : List Sk) (j : Nat), OwnL w G P vals xs sks → (∀ x ∈ xs, x ≠ .slf) →
    ∃ (ovals : List Value) (osks : List Sk), OwnL w G P ovals (landL .hand j xs).2 osks ∧ fpL osks = fpL sks ∧
      ∀ gm' : GM, (∀ i, i < osks.length → ∃ R, gm' .hand = some R ∧ nthS R.sks (j + i) = nthS osks i) → RvL w G gm' vals (landL .hand j xs).1
  | [], [], [], j, _, _ => ⟨[], [], trivial, rfl, fun _ _ => trivial⟩
  | x :: xs, v :: vals, s :: sks, j, h, hns => by
    by_cases ho : ∃ e d ys, x = .own e d ys
    · obtain ⟨e, d, ys, rfl⟩ := ho
      obtain ⟨ov, os, h1, h2, h3⟩ := compress xs vals sks (j + 1) h.2 (fun y hy => hns y (by simp [hy]))
      refine ⟨v :: ov, s :: os, ⟨h.1, by simpa [landL, V.land] using h1⟩, by simp [fpL, h2], fun gm' hg => ?_⟩
      simp only [landL, V.land, List.length_cons, List.length_nil, Nat.zero_add]
      refine ⟨?_, h3 gm' (fun i hi => ?_)⟩
      · obtain ⟨R, hR, hs⟩ := hg 0 (by simp)
        refine OwnC.ref (P := P) (w := w) (G := G) (e := e) (d := d) (xs := ys) ?_
        simp only [skAt, hR, getSk]
        rw [show nthS R.sks j = s from hs]
        exact h.1
      · obtain ⟨R, hR, hs⟩ := hg (i + 1) (by simp; omega)
        exact ⟨R, hR, by rw [Nat.add_assoc, Nat.add_comm 1]; exact hs⟩
    · have hx : x.cib = true ∧ s = .leaf ∧ ∀ gm' : GM, Rv w G gm' v x := by
        have h1 := h.1
        cases x with
        | own e d ys => exact absurd ⟨e, d, ys, rfl⟩ ho
        | bad => exact ⟨rfl, h1.1, fun _ => trivial⟩
        | slf => exact absurd rfl (hns _ (by simp))
        | _ => exact ⟨h1.2.1, h1.1, fun gm' => h1.2.2.imm (cim_imm h1.2.1)⟩
      obtain ⟨c1, rfl, c3⟩ := hx
      obtain ⟨ov, os, h1, h2, h3⟩ := compress xs vals sks j h.2 (fun y hy => hns y (by simp [hy]))
      refine ⟨ov, os, by simpa [landL, cell_land c1] using h1, by simp [fpL, Sk.fp, h2], fun gm' hg => ?_⟩
      simp only [landL, cell_land c1, List.length_nil, Nat.add_zero]
      exact ⟨c3 gm', h3 gm' hg⟩
  | [], _ :: _, _, _, h, _ => by simp [OwnL] at h
  | [], [], _ :: _, _, h, _ => by simp [OwnL] at h
  | _ :: _, [], _, _, h, _ => by simp [OwnL] at h
  | _ :: _, _ :: _, [], _, h, _ => by simp [OwnL] at h
end
end Go.Ab
