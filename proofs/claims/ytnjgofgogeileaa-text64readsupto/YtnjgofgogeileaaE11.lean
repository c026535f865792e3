/- Operations that leave memory as it is. -/
import Derived.Test.YtnjgofgogeileaaE10
namespace Go.Ab
open Go
set_option linter.unusedSimpArgs false
set_option linter.unusedVariables false

section
variable {P : Program} {w0 w : World} {F : FG} {N : Nat} {st : St} {a : Act} {G : Nat → Prop} {gm : GM}

/-- An operation's run comes to its effect. -/
def OpRes (P : Program) (w0 : World) (F : FG) (N : Nat) (st : St) (a : Act) (w : World) (G : Nat → Prop) (o : Oper) (e : Eff) : Prop :=
  ∃ v w' nx G' gm', (execOp a.eval o).run P w = .ok nx w' ∧ (nx = .value v ∨ (nx = .skip ∧ v = undef)) ∧ (∀ b, G b → G' b) ∧
    Inv P w0 F N (st.app e o.dst) (a.put o.dst v) w' G' gm'

theorem OpRes.quiet (hI : Inv P w0 F N st a w G gm) {o : Oper} {e : Eff} (hd : ∀ x, o.dst = some x → x < N) (v : Value) (hr : (execOp a.eval o).run P w = .ok (.value v) w)
    (hk : e.k = .no) (hwr : e.w = []) (hv : Rv w G gm v e.val) : OpRes P w0 F N st a w G o e :=
  ⟨v, w, _, G, gm, hr, .inl rfl, fun _ h => h, hI.quiet e o.dst hd v hk hwr (fun _ => hv)⟩

theorem when_ok {b : Bool} {e : Eff} (h : (Eff.when b e).ok = true) : b = true ∧ e.ok = true := by
  simpa [Eff.when] using h
theorem when_val (b : Bool) (e : Eff) : (Eff.when b e).val = e.val := rfl
theorem when_k (b : Bool) (e : Eff) : (Eff.when b e).k = e.k := rfl
theorem when_w (b : Bool) (e : Eff) : (Eff.when b e).w = e.w := rfl
theorem when_regs (b : Bool) (e : Eff) : (Eff.when b e).regs = e.regs := rfl
theorem when_app (st : St) (b : Bool) (e : Eff) (d : Option Nat) : st.app (Eff.when b e) d = st.app e d := rfl
theorem OpRes.when {o : Oper} {b : Bool} {e : Eff} (h : OpRes P w0 F N st a w G o e) : OpRes P w0 F N st a w G o (Eff.when b e) := h

/-! ### operands -/
theorem elT_spec {t : TypeId} {e : TypeId} (h : elT P t = some e) : P.underlying t = some (.slice e) := by
  unfold elT at h
  split at h <;> simp_all

theorem cellEnv_ok (v : Value) (c : TypeId) : Rv w G gm v (cellEnv P v c) := by
  unfold cellEnv
  split
  · cases elT P c with
    | some e => rfl
    | none => trivial
  · cases hf : flat v with
    | true => exact ⟨rfl, hf⟩
    | false => trivial

theorem cellsEnv_ok : ∀ (vs : List Value) (cs : List TypeId), vs.length = cs.length → RvL w G gm vs ((vs.zip cs).map fun x => cellEnv P x.1 x.2)
  | [], [], _ => trivial
  | v :: vs, c :: cs, h => ⟨cellEnv_ok v c, cellsEnv_ok vs cs (by simpa using h)⟩

theorem constV_ok (ty : TypeId) (v : Value) : Rv w G gm v (constV P ty v) := by
  unfold constV
  split
  · cases elT P ty with
    | some e => rfl
    | none => trivial
  · rename_i cs
    cases hl : Nat.beq cs.size (cellsT P ty).length with
    | true => exact ⟨cs, rfl, cellsEnv_ok _ _ (by simpa using nbeq hl)⟩
    | false => trivial
  · cases hf : flat v with
    | true => exact ⟨rfl, hf⟩
    | false => trivial

theorem opd_ok (hI : Inv P w0 F N st a w G gm) (x : TypeId × Operand) : Rv w G gm (a.eval x.2) (opd P st.env x) := by
  obtain ⟨ty, x⟩ := x
  cases x with
  | tmp t => exact hI.env t
  | const v => exact constV_ok ty v
  | func f => exact ⟨#[], #[], rfl, trivial, trivial⟩
  | global g => trivial

theorem opds_ok (hI : Inv P w0 F N st a w G gm) : ∀ (l : List (TypeId × Operand)), RvL w G gm (l.map fun x => a.eval x.2) (l.map (opd P st.env))
  | [] => trivial
  | x :: l => ⟨opd_ok hI x, opds_ok hI l⟩

/-! ### reading regions -/
theorem only_some {T : List Nm} {rd : Nm → Option Rg} {n : Nm} {g : Rg} (h : only T rd n = some g) : rd n = some g := by
  unfold only at h
  cases hm : n.mem T <;> rw [hm] at h
  · cases h
  · exact h

theorem own_at (hR : Regs P w0 F st.regs w G gm) {T : List Nm} {q : Pl} {e : TypeId} {d : Bool} {xs : List V} (h : ownAt (only T st.regs) q = some (e, d, xs)) :
    ∃ v, OwnC w G P v (.own e d xs) (skAt gm q) := by
  obtain ⟨rg, hr, hx⟩ := ownAt_some h
  obtain ⟨R, hg, hok⟩ := hR.ok (only_some hr)
  obtain ⟨v, hv, _⟩ := OwnL.at q.p rg.row q.j R.vals R.sks hok.2.1 (by rw [hx]; simp)
  rw [hx] at hv
  exact ⟨v, by simpa only [skAt, hg] using hv⟩

theorem getSk_snoc : ∀ (p : List Nat) (sks : List Sk) (j k : Nat), getSk (p ++ [k]) sks j = nthS (skCells (getSk p sks j)) k
  | [], _, _, _ => rfl
  | _ :: p, sks, j, k => by simpa only [List.cons_append, getSk] using getSk_snoc p _ _ k

theorem OwnC.ref {v : Value} {e : TypeId} {d : Bool} {xs : List V} {q : Pl} (h : OwnC w G P v (.own e d xs) (skAt gm q)) : nameRef gm q v := by
  unfold nameRef
  cases hs : skAt gm q with
  | leaf => rw [hs] at h; exact h.elim
  | nil => rw [hs] at h; exact h.1
  | node g n cap sz cs => rw [hs] at h; obtain ⟨_, _, h1, _⟩ := h; exact h1

/-- A cell that was read, by its own shape. -/
theorem cell_read {u : Value} {x y : V} {s : Sk} (ho : OwnC w G P u x s) (hb : x ≠ .bad) (q : Pl) (hq : skAt gm q = s)
    (hy : y = x ∧ ((∃ sz xs, x = .sl sz xs) ∨ x.cim = true) ∨ (∃ e d xs, x = .own e d xs) ∧ y = .ref q) : Rv w G gm u y := by
  rcases hy with ⟨rfl, hx⟩ | ⟨⟨e, d, xs, rfl⟩, rfl⟩
  · have hc : y.cim = true := by
      rcases hx with ⟨sz, xs, rfl⟩ | h
      · rfl
      · exact h
    have : Rv w G noGM u y := by
      cases y <;> first | exact ho.2.2 | (simp [V.cim, V.imm] at hc; done)
    exact this.imm (cim_imm hc)
  · exact OwnC.ref (hq ▸ ho)

theorem numbered_map {α : Type} (f : Nat × TypeId → α) : ∀ (cs : List TypeId) (k i : Nat), ((numbered k cs).map f)[i]? = (cs[i]?).map fun c => f (k + i, c)
  | [], _, _ => by simp [numbered]
  | c :: cs, k, 0 => by simp [numbered]
  | c :: cs, k, i + 1 => by
    simp only [numbered, List.map_cons, List.getElem?_cons_succ]
    rw [numbered_map f cs (k + 1) i]
    cases cs[i]? <;> simp [Nat.add_assoc, Nat.add_comm 1 i]

theorem numbered_length : ∀ (cs : List TypeId) (k : Nat), (numbered k cs).length = cs.length
  | [], _ => rfl
  | _ :: cs, k => by simp [numbered, numbered_length cs]

theorem allOk_get : ∀ (l : List (Bool × V)) (i : Nat) (x : Bool × V), allOk l = true → l[i]? = some x → x.1 = true
  | [], _, _, _, h => by simp at h
  | y :: l, 0, x, h, hx => by simp only [allOk, Bool.and_eq_true] at h; simp at hx; subst hx; exact h.1
  | y :: l, i + 1, x, h, hx => by simp only [allOk, Bool.and_eq_true] at h; exact allOk_get l i x h.2 (by simpa using hx)

theorem RvL.of_get : ∀ (vs : List Value) (xs : List V), vs.length = xs.length → (∀ (i : Nat) (v : Value) (x : V), vs[i]? = some v → xs[i]? = some x → Rv w G gm v x) → RvL w G gm vs xs
  | [], [], _, _ => trivial
  | v :: vs, x :: xs, hl, h => ⟨h 0 v x rfl rfl, RvL.of_get vs xs (by simpa using hl) (fun i v x h1 h2 => h (i + 1) v x (by simpa using h1) (by simpa using h2))⟩
  | [], _ :: _, hl, _ => by simp at hl
  | _ :: _, [], hl, _ => by simp at hl

theorem RvL.get : ∀ {vs : List Value} {xs : List V}, RvL w G gm vs xs → ∀ i, i < xs.length → ∃ v, vs[i]? = some v ∧ Rv w G gm v (nthV xs i)
  | v :: _, _ :: _, h, 0, _ => ⟨v, rfl, h.1⟩
  | _ :: _, _ :: _, h, i + 1, hi => by simpa using RvL.get h.2 i (by simpa using hi)
  | [], [], _, i, hi => by simp at hi
  | [], _ :: _, h, _, _ => h.elim
  | _ :: _, [], h, _, _ => h.elim

theorem nthV_some : ∀ (l : List V) (i : Nat), nthV l i ≠ .bad → l[i]? = some (nthV l i)
  | [], _, h => absurd rfl h
  | _ :: _, 0, _ => rfl
  | _ :: l, i + 1, h => by simpa using nthV_some l i (by simpa using h)

theorem List.get_drop_take {α : Type} (l : List α) (o n i : Nat) (h : i < n) : ((l.drop o).take n)[i]? = l[o + i]? := by
  rw [List.getElem?_take, if_pos h, List.getElem?_drop]

theorem viewC_cim {deep : TypeId → Bool} {c : TypeId} {x : V} (h : (viewC P deep none c x).1 = true) : x.cim = true := by
  have hs : ∀ v : V, (v.isInt .i64 = true ∨ True) → ∀ k, v.isInt k = true → v.cim = true := by
    intro v _ k h; cases v <;> simp_all [V.isInt, V.cim, V.imm, V.isCell]
  unfold viewC at h
  split at h
  · exact hs x (.inr trivial) _ h
  · cases x <;> simp_all [V.isBool, V.cim, V.imm, V.isCell]
  · cases x <;> simp_all [V.isStr, V.cim, V.imm, V.isCell]
  · cases x <;> simp_all [V.isSl, V.cim, V.imm, V.isCell]
  · exact h

/-- A load. -/
theorem semLoad_ok (hI : Inv P w0 F N st a w G gm) {deep : TypeId → Bool} {T : List Nm} {t : TypeId} {av : Value} {ax : V} (ha : Rv w G gm av ax) (hok : (semLoad P deep (only T st.regs) t ax).ok = true) :
    ∃ b o v, av = .pointer (some ⟨b, o, none⟩) ∧ (loadVar t ⟨b, o, none⟩).run P w = .ok v w ∧ Rv w G gm v (semLoad P deep (only T st.regs) t ax).val ∧
      (semLoad P deep (only T st.regs) t ax).k = .no ∧ (semLoad P deep (only T st.regs) t ax).w = [] := by
  -- given the cells and their looks
  have key : ∀ (l : List (Bool × V)) (b o : Nat) (cs : List Value), CellsAt w ⟨b, o, none⟩ cs → cs.length = l.length → l.length = (cellsT P t).length → (mkV P t l).ok = true →
      (∀ (i : Nat) (v : Value) (x : Bool × V), cs[i]? = some v → l[i]? = some x → x.1 = true → Rv w G gm v x.2) →
      ∃ v, (loadVar t ⟨b, o, none⟩).run P w = .ok v w ∧ Rv w G gm v (mkV P t l).val ∧ (mkV P t l).k = .no ∧ (mkV P t l).w = [] := by
    intro l b o cs hc hl hl2 hok hall
    have hty : tyOk P t = true := by
      have := (when_ok hok).1
      simp only [Bool.and_eq_true] at this
      exact this.1
    have hao : allOk l = true := by
      have := (when_ok hok).1
      simp only [Bool.and_eq_true] at this
      exact this.2
    obtain ⟨_, _, _, _, _, _, hn⟩ := tyOk_spec hty
    have hr : RvL w G gm cs (l.map (·.2)) := RvL.of_get _ _ (by simpa using hl) (fun i v x h1 h2 => by
      rw [List.getElem?_map] at h2
      cases h3 : l[i]? with
      | none => rw [h3] at h2; cases h2
      | some y => rw [h3] at h2; obtain rfl := Option.some.inj h2; exact hall i v y h1 h3 (allOk_get l i y hao h3))
    have hm := mkV_ok hr (by rw [hl, hl2, hn]) hok
    exact ⟨_, run_loadVar hty hc (by rw [hl, hl2, hn]), hm.2.2.2.2, hm.2.2.1, hm.2.2.2.1⟩
  cases ax with
  | ptrB r j =>
    obtain ⟨R, b, h1, h2, rfl⟩ := ha
    simp only [semLoad] at hok ⊢
    cases hr : only T st.regs r with
    | none => rw [hr] at hok; cases hok
    | some rg =>
      obtain ⟨box, row⟩ := rg
      cases box with
      | false => rw [hr] at hok; cases hok
      | true =>
        rw [hr] at hok
        simp only at hok ⊢
        obtain ⟨hle, hok⟩ := when_ok hok
        have hle := nble hle
        obtain ⟨R', h1', hokR⟩ := hI.regs.ok (only_some hr)
        rw [h1] at h1'
        obtain rfl := Option.some.inj h1'
        obtain ⟨⟨t', ht'⟩, _⟩ := hokR.2.2 b h2
        have hlen := hokR.2.1.length
        refine Exists.elim (key _ b j ((R.vals.drop j).take (cellsT P t).length) ?_ ?_ ?_ hok ?_) (fun v hv => ⟨b, j, v, rfl, hv.1, hv.2.1, hv.2.2.1, hv.2.2.2⟩)
        · intro i u hu
          by_cases hi : i < (cellsT P t).length
          · rw [List.get_drop_take _ _ _ _ hi] at hu
            simp only [World.cell?, ht']
            simpa using hu
          · rw [List.getElem?_take, if_neg hi] at hu; cases hu
        · simp only [List.length_take, List.length_drop, List.length_map, numbered_length, hlen.1]; omega
        · simp [numbered_length]
        · intro i u x hu hx hx1
          rw [numbered_map] at hx
          have hi : i < (cellsT P t).length := by
            rcases Nat.lt_or_ge i (cellsT P t).length with h | h
            · exact h
            · rw [List.getElem?_eq_none (by simpa using h)] at hx; cases hx
          rw [List.get_drop_take _ _ _ _ hi] at hu
          cases hc : (cellsT P t)[i]? with
          | none => rw [hc] at hx; cases hx
          | some c =>
            rw [hc] at hx
            obtain rfl := Option.some.inj hx
            obtain ⟨u', g1, g2⟩ := hokR.2.1.get (j + i) (by simp only at hle ⊢; omega)
            rw [g1] at hu
            obtain rfl := Option.some.inj hu
            obtain ⟨e', d', hvb⟩ := viewB_eq hx1
            refine cell_read g2 ?_ ⟨r, j + i, [], e', d'⟩ (by simp only [skAt, h1, getSk]) hvb
            intro e
            simp only [e, viewB] at hx1
            cases hx1
  | ptrE q i off =>
    simp only [semLoad] at hok ⊢
    obtain ⟨hle, hok⟩ := when_ok hok
    rw [Bool.and_eq_true] at hle
    obtain ⟨hqb, hle⟩ := hle
    obtain ⟨e, d, xs, hqe, hqd, hqx, hq⟩ := ownB_some hqb
    focus
      simp only [hqe, hqd, hqx] at hok hle ⊢
      have hle := nble hle
      obtain ⟨u, hu⟩ := own_at hI.regs hq
      simp only [Rv, namePtrE] at ha
      cases hs : skAt gm q with
      | leaf => rw [hs] at ha; exact ha.elim
      | nil => rw [hs] at ha; exact ha.elim
      | node g n cap sz cs =>
        rw [hs] at ha hu
        obtain ⟨hin, rfl⟩ := ha
        obtain ⟨cur, fr, h1, h2, h3, h4, h5, h6, h7, h8, h9, h10, h11⟩ := hu
        have hbound : i * sz + sz ≤ n * sz := by
          have : (i + 1) * sz ≤ n * sz := Nat.mul_le_mul_right _ hin
          rwa [Nat.add_mul, Nat.one_mul] at this
        refine Exists.elim (key _ g (i * sz + off) (((cur.toList.take (n * sz)).drop (i * sz + off)).take (cellsT P t).length) ?_ ?_ ?_ hok ?_) (fun v hv => ⟨g, i * sz + off, v, rfl, hv.1, hv.2.1, hv.2.2.1, hv.2.2.2⟩)
        · intro k u hu
          by_cases hi : k < (cellsT P t).length
          · rw [List.get_drop_take _ _ _ _ hi, List.getElem?_take] at hu
            split at hu
            · simp only [World.cell?, h2]
              simpa using hu
            · cases hu
          · rw [List.getElem?_take, if_neg hi] at hu; cases hu
        · have hcap : n * sz ≤ cap * sz := Nat.mul_le_mul_right _ h7
          simp only [List.length_take, List.length_drop, List.length_map, numbered_length, Array.length_toList]
          omega
        · simp [numbered_length]
        · intro k u x hu hx hx1
          rw [numbered_map] at hx
          have hi : k < (cellsT P t).length := by
            rcases Nat.lt_or_ge k (cellsT P t).length with h | h
            · exact h
            · rw [List.getElem?_eq_none (by simpa using h)] at hx; cases hx
          rw [List.get_drop_take _ _ _ _ hi] at hu
          cases hc : (cellsT P t)[k]? with
          | none => rw [hc] at hx; cases hx
          | some c =>
            rw [hc] at hx
            obtain rfl := Option.some.inj hx
            rw [h6] at hx1 ⊢
            dsimp only at hx1 ⊢
            obtain ⟨u', g1, g2⟩ := h10.get (i * sz + off + k) (by omega)
            rw [g1] at hu
            obtain rfl := Option.some.inj hu
            have hb : nthV xs (i * sz + off + k) ≠ .bad := by
              intro e
              rw [e] at hx1
              cases d <;> simp only [cond_true, cond_false, viewC] at hx1 <;> split at hx1 <;> cases hx1
            cases d with
            | false =>
              simp only [cond_false] at hx1 ⊢
              have hc := h11 rfl
              refine cell_read g2 hb ⟨q.r, q.j, q.p ++ [i * sz + off + k], e, false⟩ ?_ (.inl ⟨viewC_none hx1, .inr ((cimL_nth xs _ hc).resolve_left hb)⟩)
              have hcim := (cimL_nth xs (i * sz + off + k) hc).resolve_left hb
              have hsk : nthS cs (i * sz + off + k) = .leaf := by
                cases hx' : nthV xs (i * sz + off + k) <;> rw [hx'] at g2 hcim <;> first | exact g2.1 | (simp [V.cim, V.imm] at hcim; done)
              rw [hsk]
              simp only [skAt] at hs ⊢
              split at hs
              · rw [getSk_snoc, hs]; exact hsk
              · cases hs
            | true =>
              simp only [cond_true] at hx1 ⊢
              have hsk : ∀ e' d', skAt gm ⟨q.r, q.j, q.p ++ [i * sz + off + k], e', d'⟩ = nthS cs (i * sz + off + k) := by
                intro e' d'
                simp only [skAt] at hs ⊢
                split at hs
                · rw [getSk_snoc, hs]; rfl
                · cases hs
              obtain ⟨e', d', hvc⟩ := viewC_some hx1
              refine cell_read g2 hb _ (hsk e' d') ?_
              rcases hvc with h | ⟨h, h'⟩
              · left
                refine ⟨h, ?_⟩
                · right
                  cases hx' : nthV xs (i * sz + off + k) with
                  | own e' d' xs' =>
                    exfalso
                    rw [hx'] at h hx1
                    unfold viewC at h hx1
                    split at h <;> simp [V.isInt, V.isBool, V.isStr, V.isOwnD, V.cim, V.imm] at h hx1
                  | bad => exact absurd hx' hb
                  | slf =>
                    exfalso
                    rw [hx'] at h hx1
                    unfold viewC at h hx1
                    split at h <;> simp [V.isInt, V.isBool, V.isStr, V.isOwnD, V.cim, V.imm] at h hx1
                  | _ => rw [hx'] at g2; exact g2.2.1
              · exact .inr ⟨h, h'⟩
  | pim n xs off =>
    obtain ⟨b, o, cs, rfl, h2, h3, h4, h5⟩ := ha
    simp only [semLoad] at hok ⊢
    obtain ⟨hle, hok⟩ := when_ok hok
    have hle := nble hle
    have hlen := h5.length
    refine Exists.elim (key _ b (o + off) ((cs.drop off).take (cellsT P t).length) ?_ ?_ ?_ hok ?_) (fun v hv => ⟨b, o + off, v, rfl, hv.1, hv.2.1, hv.2.2.1, hv.2.2.2⟩)
    · intro k u hu
      by_cases hi : k < (cellsT P t).length
      · rw [List.get_drop_take _ _ _ _ hi] at hu
        have := h3 (off + k) u hu
        simpa [Nat.add_assoc] using this
      · rw [List.getElem?_take, if_neg hi] at hu; cases hu
    · simp only [List.length_take, List.length_drop, List.length_map, numbered_length]; omega
    · simp [numbered_length]
    · intro k u x hu hx hx1
      rw [numbered_map] at hx
      have hi : k < (cellsT P t).length := by
        rcases Nat.lt_or_ge k (cellsT P t).length with h | h
        · exact h
        · rw [List.getElem?_eq_none (by simpa using h)] at hx; cases hx
      rw [List.get_drop_take _ _ _ _ hi] at hu
      cases hc : (cellsT P t)[k]? with
      | none => rw [hc] at hx; cases hx
      | some c =>
        rw [hc] at hx
        obtain rfl := Option.some.inj hx
        obtain ⟨u', g1, g2⟩ := h5.get (off + k) (by omega)
        rw [g1] at hu
        obtain rfl := Option.some.inj hu
        rw [viewC_none hx1]
        exact Rv.imm g2 (cim_imm (viewC_cim hx1))
  | sc v => cases hok
  | nl e => cases hok
  | sl sz xs => cases hok
  | own e d xs => cases hok
  | ag xs => cases hok
  | tp xs => cases hok
  | fn f a b => cases hok
  | ifc t y => cases hok
  | ref q => cases hok
  | vw q lo hi => cases hok
  | slf => cases hok
  | bad => cases hok
end
end Go.Ab
