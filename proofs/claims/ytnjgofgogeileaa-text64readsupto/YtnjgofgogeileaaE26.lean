/- What a call is handed, and what it hands back. -/
import Derived.Test.YtnjgofgogeileaaE25
namespace Go.Ab
open Go
set_option linter.unusedSimpArgs false
set_option linter.unusedVariables false

def parR (gs : List Rg) : Nm → Option Rg := fun n => match n with | .par i => gs[i]? | _ => none
def parG (Rs : List RG) : GM := fun n => match n with | .par i => Rs[i]? | _ => none

/-- A call, however it is run, ends with a value. -/
def Enter (P : Program) (g : FuncId) (args : Array Value) (w : World) (R : Value → World → Prop) : Prop :=
  match (callFunc g args).run P w with
  | .ok (.value v) w' => R v w'
  | .ok (.enter f as) w' => Calls P f as w' fun e w'' => ∃ v, e = .returned v ∧ R v w''
  | .ok (.row row as) w' => Rows P row as w' R
  | _ => False

/-- What a call hands back. -/
def Back (P : Program) (w : World) (F : FG) (v : V) (gs' : List Rg) (res : Value) (w' : World) : Prop :=
  ∃ G' gm', Regs P w F (withHand (parR gs') (v.land .hand 0).2) w' G' gm' ∧ Rv w' G' gm' res (v.land .hand 0).1

/-- The machine's calls tell what calls do. -/
def CallSound (P : Program) (K : CallK) : Prop :=
  ∀ g vs gs v gs', K g vs gs = (true, v, gs') → ∀ (args : Array Value) (w : World) (F : FG) (Rs : List RG),
    Regs P w F (parR gs) w F.g (parG Rs) → RvL w F.g (parG Rs) args.toList vs → Enter P g args w (Back P w F v gs')

section
variable {P : Program} {w0 w w' : World} {F : FG} {N : Nat} {st : St} {a : Act} {G G' G1 : Nat → Prop} {gm gm' : GM} {deep : TypeId → Bool} {T : List Nm} {rd regs : Nm → Option Rg}

/-! ### shapes -/
theorem isInt_eq {k : IntKind} {v : V} (h : v.isInt k = true) : v = .sc (.int k v.intOf) := by
  unfold V.isInt at h
  split at h
  · next k' n => have : k' = k := by simpa using h
                 subst this; rfl
  · cases h
theorem isBool_eq {v : V} (h : v.isBool = true) : v = .sc (.bool v.boolOf) := by
  unfold V.isBool at h
  split at h
  · rfl
  · cases h
theorem isStr_eq {v : V} (h : v.isStr = true) : v = .sc (.string v.strOf) := by
  unfold V.isStr at h
  split at h
  · rfl
  · cases h
theorem isSl_eq {sz : Nat} {v : V} (h : v.isSl sz = true) : v = .sl sz v.cellsOf := by
  unfold V.isSl at h
  split at h
  · next s xs => have := nbeq h; subst this; rfl
  · cases h
theorem isOwnD_eq {e : TypeId} {d : Bool} {v : V} (h : v.isOwnD e d = true) : v = .own e d v.cellsOf := by
  unfold V.isOwnD at h
  split at h
  · next e' d' xs =>
    simp only [Bool.and_eq_true] at h
    have h1 := nbeq h.1
    have h2 : d' = d := by simpa using h.2
    subst h1; subst h2; rfl
  · cases h
theorem isAg_eq {n : Nat} {v : V} (h : v.isAg n = true) : v = .ag v.partsOf ∧ v.partsOf.length = n := by
  unfold V.isAg at h
  split at h
  · next xs => exact ⟨rfl, nbeq h⟩
  · cases h
theorem isTp_eq {n : Nat} {v : V} (h : v.isTp n = true) : v = .tp v.partsOf ∧ v.partsOf.length = n := by
  unfold V.isTp at h
  split at h
  · next xs => exact ⟨rfl, nbeq h⟩
  · cases h

mutual
theorem Sh.re_eq : ∀ (h : Sh) (v : V), (h.re v).1 = true → (h.re v).2 = v
  | .i k, v, h => (isInt_eq h).symm
  | .b, v, h => (isBool_eq h).symm
  | .s, v, h => (isStr_eq h).symm
  | .sl sz, v, h => (isSl_eq h).symm
  | .own e d, v, h => (isOwnD_eq h).symm
  | .ag l, v, h => by
    simp only [Sh.re, Bool.and_eq_true] at h ⊢
    obtain ⟨h1, h2⟩ := isAg_eq h.1
    have := Sh.reL_eq l v.partsOf 0 (by omega) h.2
    rw [this, List.drop_zero]
    exact h1.symm
  | .tp l, v, h => by
    simp only [Sh.re, Bool.and_eq_true] at h ⊢
    obtain ⟨h1, h2⟩ := isTp_eq h.1
    have := Sh.reL_eq l v.partsOf 0 (by omega) h.2
    rw [this, List.drop_zero]
    exact h1.symm
  | .any, v, _ => rfl
theorem Sh.reL_eq : ∀ (l : List Sh) (xs : List V) (k : Nat), k + l.length = xs.length → (Sh.reL l xs k).1 = true → (Sh.reL l xs k).2 = xs.drop k
  | [], xs, k, hk, _ => by
    simp only [Sh.reL]
    rw [List.drop_eq_nil_of_le (by simp at hk; omega)]
  | h :: l, xs, k, hk, hok => by
    simp only [Sh.reL, Bool.and_eq_true] at hok ⊢
    have hlt : k < xs.length := by simp at hk; omega
    rw [Sh.re_eq h _ hok.1, Sh.reL_eq l xs (k + 1) (by simp at hk; omega) hok.2, nthV_get _ _ hlt, List.drop_eq_getElem_cons hlt]
end

/-! ### landing -/
mutual
theorem V.land_rows (n m : Nm) : ∀ (x : V) (j : Nat), (x.land n j).2 = (x.land m j).2
  | .own _ _ _, _ => rfl
  | .ag xs, j => by simp only [V.land]; exact landL_rows n m xs j
  | .tp xs, j => by simp only [V.land]; exact landL_rows n m xs j
  | .sc _, _ => rfl
  | .nl _, _ => rfl
  | .sl _ _, _ => rfl
  | .fn _ _ _, _ => rfl
  | .ifc _ _, _ => rfl
  | .ref _, _ => rfl
  | .vw _ _ _, _ => rfl
  | .ptrB _ _, _ => rfl
  | .ptrE _ _ _, _ => rfl
  | .pim _ _ _, _ => rfl
  | .slf, _ => rfl
  | .bad, _ => rfl
theorem landL_rows (n m : Nm) : ∀ (xs : List V) (j : Nat), (landL n j xs).2 = (landL m j xs).2
  | [], _ => rfl
  | x :: xs, j => by simp only [landL]; rw [V.land_rows n m x j, landL_rows n m xs _]
end

mutual
theorem Rv.land {n m : Nm} : ∀ (x : V) (v : Value) (j : Nat), x.names = [] → ((x.land n j).2 ≠ [] → gm' m = gm n) → Rv w G gm v (x.land n j).1 → Rv w G gm' v (x.land m j).1
  | .own e d xs, v, j, _, hm, h => by
    have := hm (by simp [V.land])
    simpa only [V.land, Rv, nameRef, skAt, this] using h
  | .ag xs, v, j, hn, hm, h => by
    obtain ⟨cs, h1, h2⟩ := h
    exact ⟨cs, h1, RvL.land xs _ j hn hm h2⟩
  | .tp xs, v, j, hn, hm, h => by
    obtain ⟨cs, h1, h2⟩ := h
    exact ⟨cs, h1, RvL.land xs _ j hn hm h2⟩
  | .sc u, v, j, hn, _, h => h
  | .nl _, v, j, hn, _, h => h
  | .sl _ _, v, j, hn, _, h => h
  | .fn f x y, v, j, hn, _, h => Rv.frame (fun _ _ => rfl) (fun _ h => h) gm gm' (.fn f x y) v (fun k hk => by rw [hn] at hk; cases hk) h
  | .ifc t x, v, j, hn, _, h => Rv.frame (fun _ _ => rfl) (fun _ h => h) gm gm' (.ifc t x) v (fun k hk => by rw [hn] at hk; cases hk) h
  | .ref q, v, j, hn, _, _ => by simp [V.names] at hn
  | .vw q _ _, v, j, hn, _, _ => by simp [V.names] at hn
  | .ptrB _ _, v, j, hn, _, _ => by simp [V.names] at hn
  | .ptrE _ _ _, v, j, hn, _, _ => by simp [V.names] at hn
  | .pim _ _ _, v, j, hn, _, h => h
  | .slf, _, _, _, _, h => h.elim
  | .bad, _, _, _, _, _ => trivial
theorem RvL.land {n m : Nm} : ∀ (xs : List V) (vs : List Value) (j : Nat), namesL xs = [] → ((landL n j xs).2 ≠ [] → gm' m = gm n) → RvL w G gm vs (landL n j xs).1 → RvL w G gm' vs (landL m j xs).1
  | [], [], _, _, _, _ => trivial
  | x :: xs, v :: vs, j, hn, hm, h => by
    simp only [namesL, List.append_eq_nil_iff] at hn
    simp only [landL] at hm h ⊢
    refine ⟨Rv.land x v j hn.1 (fun hx => hm (by simp [hx])) h.1, ?_⟩
    rw [V.land_rows m n x j]
    exact RvL.land xs vs _ hn.2 (fun hx => hm (by simp [hx])) h.2
  | [], _ :: _, _, _, _, h => h.elim
  | _ :: _, [], _, _, _, h => h.elim
end

/-! ### lists of regions -/
theorem idxOf_get : ∀ (l : List Nm) (n : Nm), n ∈ l → l[idxOf n l]? = some n
  | [], _, h => by cases h
  | m :: l, n, h => by
    simp only [idxOf]
    by_cases e : n = m
    · subst e; rw [Nm.eq_self]; rfl
    · rw [Nm.eq_ne e]
      have : n ∈ l := by
        simp only [List.mem_cons] at h
        exact h.resolve_left e
      simpa using idxOf_get l n this

theorem idxOf_of_get : ∀ (l : List Nm) (i : Nat) (n : Nm), l.Nodup → l[i]? = some n → idxOf n l = i
  | [], _, _, _, h => by simp at h
  | m :: l, 0, n, _, h => by
    obtain rfl := Option.some.inj (by simpa using h)
    simp [idxOf, Nm.eq_self]
  | m :: l, i + 1, n, hnd, h => by
    rw [List.nodup_cons] at hnd
    have hn : n ∈ l := List.mem_of_getElem? (by simpa using h)
    have e : n ≠ m := fun e => hnd.1 (e ▸ hn)
    simp only [idxOf, Nm.eq_ne e, cond_false]
    rw [idxOf_of_get l i n hnd.2 (by simpa using h)]

theorem dedup_mem : ∀ (l : List Nm) (n : Nm), n ∈ dedup l ↔ n ∈ l
  | [], _ => Iff.rfl
  | m :: l, n => by
    simp only [dedup]
    cases hm : m.mem l with
    | true =>
      simp only [cond_true, List.mem_cons, dedup_mem l n]
      refine ⟨.inr, ?_⟩
      rintro (rfl | h)
      · exact (Nm.mem_iff _ _).1 hm
      · exact h
    | false => simp only [cond_false, List.mem_cons, dedup_mem l n]
theorem dedup_nodup : ∀ (l : List Nm), (dedup l).Nodup
  | [] => List.nodup_nil
  | m :: l => by
    simp only [dedup]
    cases hm : m.mem l with
    | true => exact dedup_nodup l
    | false =>
      simp only [cond_false, List.nodup_cons]
      exact ⟨fun h => (Nm.mem_false _ _).1 hm ((dedup_mem l m).1 h), dedup_nodup l⟩

theorem allSome_spec : ∀ (l : List (Option Rg)) (gs : List Rg), allSome l = some gs → l = gs.map some
  | [], gs, h => by obtain rfl := Option.some.inj h; rfl
  | none :: l, gs, h => by cases h
  | some g :: l, gs, h => by
    simp only [allSome] at h
    split at h
    · next r hr =>
      obtain rfl := Option.some.inj h
      simp [allSome_spec l r hr]
    · cases h

theorem zipSet_out : ∀ (ns : List Nm) (gs : List Rg) (rd : Nm → Option Rg) (n : Nm), n ∉ ns → zipSet ns gs rd n = rd n
  | [], _, _, _, _ => rfl
  | _ :: _, [], _, _, _ => rfl
  | m :: ns, g :: gs, rd, n, h => by
    simp only [List.mem_cons, not_or] at h
    simp only [zipSet]
    rw [zipSet_out ns gs _ n h.2, setR_ne _ _ h.1]

theorem zipSet_at : ∀ (ns : List Nm) (gs : List Rg) (rd : Nm → Option Rg) (i : Nat) (n : Nm), ns.Nodup → ns[i]? = some n → i < gs.length → zipSet ns gs rd n = gs[i]?
  | [], _, _, _, _, _, h, _ => by simp at h
  | _ :: _, [], _, _, _, _, _, h => by simp at h
  | m :: ns, g :: gs, rd, 0, n, hnd, h, _ => by
    obtain rfl := Option.some.inj (by simpa using h)
    rw [List.nodup_cons] at hnd
    simp only [zipSet]
    rw [zipSet_out ns gs _ m hnd.1, setR_self]
    rfl
  | m :: ns, g :: gs, rd, i + 1, n, hnd, h, hl => by
    rw [List.nodup_cons] at hnd
    simp only [zipSet]
    rw [zipSet_at ns gs _ i n hnd.2 (by simpa using h) (by simpa using hl)]
    simp

theorem roots_mem : ∀ (ns : List Nm) (gs : List Rg) (i : Nat) (n : Nm) (g : Rg), ns[i]? = some n → gs[i]? = some g → g.lone = false → n ∈ roots ns gs
  | [], _, _, _, _, h, _, _ => by simp at h
  | _ :: _, [], _, _, _, _, h, _ => by simp at h
  | m :: ns, g :: gs, 0, n, g', h, hg, hl => by
    obtain rfl := Option.some.inj (by simpa using h)
    obtain rfl := Option.some.inj (by simpa using hg)
    simp [roots, hl]
  | m :: ns, g :: gs, i + 1, n, g', h, hg, hl => by
    have := roots_mem ns gs i n g' (by simpa using h) (by simpa using hg) hl
    simp only [roots]
    cases g.lone with
    | true => exact this
    | false => simp [this]

/-! ### handing over -/
/-- What a call may do with what it is handed. -/
def handF (bn : List Nm) (gm : GM) (G1 : Nat → Prop) (gs : List Rg) (Rs : List RG) : FG :=
  ⟨fun b => InN bn gm b, G1, fun i => (Rs[i]?).bind (·.b), fun i => match gs[i]?, Rs[i]? with
    | some g, some R => if g.lone = true then some (skHead (nthS R.sks 0)) else none
    | _, _ => none⟩

theorem lone_spec {g : Rg} {R : RG} (h : RgOk w G P g R) : g.lone = true ↔ R.b = none ∧ R.vals.length = 1 := by
  have hl := h.2.1.length.1
  have hb := h.1
  constructor
  · intro hg
    unfold Rg.lone at hg
    split at hg
    · simp only at hl hb
      refine ⟨?_, by simpa using hl⟩
      cases hR : R.b with
      | none => rfl
      | some b => rw [hR] at hb; cases hb
    · cases hg
  · rintro ⟨h1, h2⟩
    rw [h1] at hb
    obtain ⟨box, row⟩ := g
    simp only at hb hl
    rw [h2] at hl
    obtain ⟨x, rfl⟩ := List.length_eq_one_iff.1 hl.symm
    have : box = false := by simpa using hb
    subst this
    rfl

theorem pass_ok (h : Regs P w0 F regs w G gm) {bn : List Nm} (hnd : bn.Nodup) {gs : List Rg} (hgs : bn.map regs = gs.map some) (hG : ∀ b, G b → G1 b) (hlt : ∀ b, G1 b → b < w.heap.size)
    (hap : ∀ r R b, r ∈ bn → gm r = some R → b ∈ R.fp → ¬ G1 b) :
    ∃ Rs : List RG, Rs.length = bn.length ∧ (∀ (i : Nat) (n : Nm), bn[i]? = some n → gm n = Rs[i]?) ∧ Regs P w (handF bn gm G1 gs Rs) (parR gs) w G1 (parG Rs) := by
  have hlen : gs.length = bn.length := by simpa using (congrArg List.length hgs).symm
  have hat : ∀ (i : Nat) (n : Nm), bn[i]? = some n → ∃ g R, gs[i]? = some g ∧ gm n = some R ∧ RgOk w G P g R := by
    intro i n hn
    have : (bn.map regs)[i]? = some (regs n) := by rw [List.getElem?_map, hn]; rfl
    rw [hgs, List.getElem?_map] at this
    cases hg : gs[i]? with
    | none => rw [hg] at this; cases this
    | some g =>
      rw [hg] at this
      obtain ⟨R, h1, h2⟩ := h.ok (Option.some.inj this).symm
      exact ⟨g, R, rfl, h1, h2⟩
  let Rs : List RG := bn.map fun n => (gm n).getD ⟨none, [], []⟩
  have hRs : ∀ (i : Nat) (n : Nm), bn[i]? = some n → gm n = Rs[i]? := by
    intro i n hn
    obtain ⟨g, R, _, h1, _⟩ := hat i n hn
    simp only [Rs, List.getElem?_map, hn, Option.map_some, h1, Option.getD_some]
  have hback : ∀ (i : Nat) (R : RG), Rs[i]? = some R → ∃ n, bn[i]? = some n ∧ gm n = some R := by
    intro i R hR
    have hi : i < bn.length := by
      have := (List.getElem?_eq_some_iff.1 hR).1
      simpa [Rs] using this
    refine ⟨bn[i], List.getElem?_eq_getElem hi, ?_⟩
    rw [hRs i _ (List.getElem?_eq_getElem hi)]; exact hR
  refine ⟨Rs, by simp [Rs], hRs, ?_⟩
  refine ⟨?_, ?_, ?_, ?_, ?_, hlt, ⟨rfl, rfl, rfl, Nat.le_refl _, fun _ _ _ => rfl⟩, fun _ h => h, fun _ h => .inl h, ?_⟩
  · intro r
    cases r with
    | loc i => trivial
    | hand => trivial
    | par i =>
      simp only [parR, parG]
      cases hb : bn[i]? with
      | none =>
        have hi : bn.length ≤ i := by simpa using hb
        rw [List.getElem?_eq_none (by omega), List.getElem?_eq_none (by simp [Rs]; exact hi)]
        trivial
      | some n =>
        obtain ⟨g, R, h1, h2, h3⟩ := hat i n hb
        rw [h1, ← hRs i n hb, h2]
        exact h3.frame (fun _ _ => rfl) hG (fun _ _ => rfl)
  · intro r R hr
    cases r with
    | par i => obtain ⟨n, _, h2⟩ := hback i R hr; exact h.nodup n R h2
    | _ => cases hr
  · intro r r' R R' hne hr hr'
    cases r with
    | par i =>
      cases r' with
      | par j =>
        obtain ⟨n, h1, h2⟩ := hback i R hr
        obtain ⟨m, h3, h4⟩ := hback j R' hr'
        refine h.disj n m R R' (fun e => hne ?_) h2 h4
        subst e
        rw [← idxOf_of_get bn i n hnd h1, ← idxOf_of_get bn j n hnd h3]
      | _ => cases hr'
    | _ => cases hr
  · intro r R b hr hb
    cases r with
    | par i =>
      obtain ⟨n, h1, h2⟩ := hback i R hr
      exact hap n R b (List.mem_of_getElem? h1) h2 hb
    | _ => cases hr
  · intro r R b hr hb
    cases r with
    | par i =>
      obtain ⟨n, h1, h2⟩ := hback i R hr
      exact .inr ⟨n, R, List.mem_of_getElem? h1, h2, hb⟩
    | _ => cases hr
  · intro i R hr
    have hr : Rs[i]? = some R := hr
    refine ⟨by simp [handF, hr], fun s hs => ?_⟩
    obtain ⟨n, h1, h2⟩ := hback i R hr
    obtain ⟨g, R', h3, h4, h5⟩ := hat i n h1
    rw [h2] at h4
    obtain rfl := Option.some.inj h4
    simp only [handF, h3, hr] at hs
    split at hs
    · next hl =>
      obtain rfl := Option.some.inj hs
      exact ⟨((lone_spec h5).1 hl).1, ((lone_spec h5).1 hl).2, rfl⟩
    · cases hs
end
end Go.Ab
