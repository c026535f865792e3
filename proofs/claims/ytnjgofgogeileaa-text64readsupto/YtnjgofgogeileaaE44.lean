/- A law whose call comes to 'true' in the machine: its contract. -/
import Derived.Test.YtnjgofgogeileaaE43
import Derived.RowKit
import Derived.Carry
import Derived.WalkKit
import Derived.ProofKit
import Derived.OpenShut
namespace Go.Ab
open Go
open Go.RowKit Go.WideShapes Go.ChangeShapes Go.ChangeAt
open Go.Proofs.Ytnjgofgogeileaa.Rows (uptoBulk uptoBulkAll)
set_option linter.unusedSimpArgs false
set_option linter.unusedVariables false

/-- A value of a type. -/
def isV (P : Program) (t : TypeId) (x : V) : Prop := ∃ xs, isT P 8 t xs ∧ ((aggT P t = true ∧ x = .ag xs) ∨ (aggT P t = false ∧ xs = [x]))
def isVs (P : Program) : List TypeId → List V → Prop
  | [], [] => True
  | t :: ts, x :: xs => isV P t x ∧ isVs P ts xs
  | _, _ => False

section
variable {H : Type} {enc : TypeId × Value → H} {P : Program} {w W : World}

theorem isT_one {n : Nat} {t : TypeId} {xs : List V} (h : isT P (n + 1) t xs) (ha : aggT P t = false) : ∃ x, xs = [x] := by
  simp only [isT] at h
  unfold aggT at ha
  split at h
  · obtain ⟨b, rfl⟩ := h; exact ⟨_, rfl⟩
  · obtain ⟨b, rfl, _⟩ := h; exact ⟨_, rfl⟩
  · obtain ⟨b, rfl, _⟩ := h; exact ⟨_, rfl⟩
  · obtain ⟨b, rfl, _⟩ := h; exact ⟨_, rfl⟩
  · next ht => rw [ht] at ha; cases ha
  · exact h.elim

/-- One argument. -/
theorem read_arg {t : TypeId} {v : Value} {d : DataW H} {ps : List MemPlace} {base : Nat} (hp : plainT P 8 t = true) (hok : Value.okWide P W .any base t v) (h : DataW.Trod enc P W 0 (fun _ => true) true t v d ps) :
    ∃ x, Rv W (fun k => k < W.heap.size) noGM v x ∧ isV P t x ∧ x.bulk ≤ uptoBulk d := by
  obtain ⟨m, hm⟩ := h
  obtain ⟨xs, hr⟩ := reads_ok 8 t m _ d ps hp hm
  cases ha : aggT P t with
  | true =>
    have hv : ∃ cs, v = .agg cs := by
      unfold Value.okWide at hok
      unfold aggT at ha
      split at hok
      · obtain ⟨cs, rfl, _⟩ := hok; exact ⟨cs, rfl⟩
      · obtain ⟨cs, rfl, _⟩ := hok; exact ⟨cs, rfl⟩
      · next h1 h2 =>
        split at ha
        · next fs h => exact absurd h (h1 fs)
        · next k e h => exact absurd h (h2 k e)
        · cases ha
    obtain ⟨cs, rfl⟩ := hv
    refine ⟨.ag xs, ⟨cs, rfl, hr.rv⟩, ⟨xs, hr.is, .inl ⟨ha, rfl⟩⟩, ?_⟩
    simp only [V.bulk]
    exact hr.bulk
  | false =>
    obtain ⟨x, rfl⟩ := isT_one hr.is ha
    have hv : v.cells.toList = [v] := by
      have hl := hr.rv.length
      have hone := hr.one
      cases v with
      | agg cs =>
        exfalso
        unfold Value.okWide at hok
        unfold aggT at ha
        split at hok
        · next fs h => rw [h] at ha; cases ha
        · next k e h => rw [h] at ha; cases ha
        · have hT := hr.is
          simp only [isT] at hT
          unfold Cell.okWide at hok
          split at hT <;> (try (next ht => rw [ht] at hok; simp [Cell.ok, ht] at hok; done)) <;> (try (next _ ht => rw [ht] at hok; simp [Cell.ok, ht] at hok; done)) <;> (try exact hT.elim)
      | _ => rfl
    have hrv := hr.rv
    rw [hv] at hrv
    refine ⟨x, hrv.1, ⟨_, hr.is, .inr ⟨ha, rfl⟩⟩, ?_⟩
    have := hr.bulk
    simp only [bulkL] at this
    omega

theorem read_args {base : Nat} : ∀ (ts : List TypeId) (vs : List Value) (ds : List (DataW H)) (ps : List MemPlace), (ts.all fun t => plainT P 8 t) = true → (∀ (j : Nat) t v, ts[j]? = some t → vs[j]? = some v → Value.okWide P W .any base t v) →
    DataW.TrodAll enc P W 0 (fun _ => true) true ts vs ds ps → ∃ xs, RvL W (fun k => k < W.heap.size) noGM vs xs ∧ isVs P ts xs ∧ bulkL xs ≤ uptoBulkAll ds ∧ ds.length = ts.length
  | [], [], [], _, _, _, _ => ⟨[], trivial, trivial, by simp [bulkL], rfl⟩
  | t :: ts, v :: vs, d :: ds, ps, hp, hok, h => by
    simp only [List.all_cons, Bool.and_eq_true] at hp
    obtain ⟨p, q, h1, h2, _⟩ := h
    obtain ⟨x, a1, a2, a3⟩ := read_arg hp.1 (hok 0 t v rfl rfl) h1
    obtain ⟨xs, b1, b2, b3, b4⟩ := read_args ts vs ds q hp.2 (fun j t' v' ht hv => hok (j + 1) t' v' (by simpa using ht) (by simpa using hv)) h2
    exact ⟨x :: xs, ⟨a1, b1⟩, ⟨a2, b2⟩, by simp only [bulkL, uptoBulkAll]; omega, by simp [b4]⟩
  | [], [], _ :: _, _, _, _, h => h.elim
  | [], _ :: _, _, _, _, _, h => by cases ‹List (DataW H)› <;> exact h.elim
  | _ :: _, [], _, _, _, _, h => by cases ‹List (DataW H)› <;> exact h.elim
  | _ :: _, _ :: _, [], _, _, _, h => h.elim

theorem trodAll_stays {W' : World} {sp : Nat → Bool} (hl : laidOutB P = true) : ∀ (ts : List TypeId) (vs : List Value) (ds : List (DataW H)) (ps : List MemPlace), (ts.all fun t => P.readableRec t && decide (t < P.types.size)) = true →
    DataW.TrodAll enc P W 0 (fun _ => true) true ts vs ds ps → (∀ x ∈ ps, W.sameAt W' x) → (∀ x ∈ ps, sp x.block = true) → DataW.TrodAll enc P W' 0 sp true ts vs ds ps
  | [], [], [], _, _, h, _, _ => h
  | t :: ts, v :: vs, d :: ds, ps, hp, h, h1, h2 => by
    simp only [List.all_cons, Bool.and_eq_true, decide_eq_true_eq] at hp
    obtain ⟨p, q, k1, k2, rfl⟩ := h
    refine ⟨p, q, WideElems.Trod_stays hl hp.1.1 hp.1.2 k1 (fun x hx => h1 x (List.mem_append_left _ hx)) (fun x hx => h2 x (List.mem_append_left _ hx)), ?_, rfl⟩
    exact trodAll_stays hl ts vs ds q (by simpa using hp.2) k2 (fun x hx => h1 x (List.mem_append_right _ hx)) (fun x hx => h2 x (List.mem_append_right _ hx))
  | [], [], _ :: _, _, _, h, _, _ => h.elim
  | [], _ :: _, _, _, _, h, _, _ => by cases ‹List (DataW H)› <;> exact h.elim
  | _ :: _, [], _, _, _, h, _, _ => by cases ‹List (DataW H)› <;> exact h.elim
  | _ :: _, _ :: _, [], _, _, h, _, _ => h.elim

/-- The row's last step where only new blocks are known. -/
theorem post_of_below {f : Func} {s : ChangeSpec} {apart fresh handsOn again : Bool} {W W' : World} {args : Array Value} {v : Value} {ds gs : List (DataW H)} {before pa pv : List MemPlace}
    (hW : DataW.Whole enc P f.params.toList s.vars apart W args.toList ds gs before)
    (hres : ∀ (b : Nat) (sp : Nat → Bool) (hd : Bool), DataW.TrodAll enc P W' b sp hd f.resultTypes.toList (v.resultList f.resultTypes.size) (s.fn H (ds ++ gs)).results [])
    (hargs : ∀ sp : Nat → Bool, (∀ p ∈ before, sp p.block = true) → DataW.TrodAll enc P W' 0 sp true f.params.toList args.toList (s.fn H (ds ++ gs)).args pa)
    (hvars : ∀ sp : Nat → Bool, (∀ p ∈ before, sp p.block = true) → DataW.TrodVars enc P W' sp s.vars (s.fn H (ds ++ gs)).vars pv)
    (hps : before = pa ++ pv) (hb : Below W.heap.size W W')
    (hok : ∀ (j : Nat) (t : TypeId) (r : Value), f.resultTypes[j]? = some t → (v.resultList f.resultTypes.size)[j]? = some r → Value.okWide P W' .any 0 t r) :
    s.post enc P f apart fresh handsOn again W args v W' := by
  have hlt : ∀ p ∈ before, p.block < W.heap.size := fun p hp => hW.lt p hp
  have hold : ∀ p ∈ before, (fun b => decide (b < W.heap.size)) p.block = true := fun p hp => by simpa using hlt p hp
  refine ⟨ds, gs, before, [], pa, pv, hW, hres _ _ _, hargs _ hold, hvars _ hold, World.keptBut_mono (fun p hp => ⟨hp, ?_⟩) (hb.frame (· ∈ before)), fun _ => ?_⟩
  · rw [hps, List.mem_append] at hp
    exact Or.inr hp
  · obtain ⟨_, _, _, _, _, hz, hn⟩ := hW
    refine ⟨hok, _, _, ([] ++ pa) ++ pv, ⟨[] ++ pa, pv, trodAll_append (hargs _ (fun _ _ => rfl)) (hres _ _ _), hvars _ (fun _ _ => rfl), rfl, ?_, ?_⟩, ?_⟩
    · intro b off hp
      have hin : MemPlace.cell b off ∈ before := by rw [hps]; simpa using hp
      rw [hb.frozen (hlt _ hin)]
      exact hz b off hin
    · intro ha
      have := hn ha
      rw [hps] at this
      simpa using this
    · intro p hp _
      rw [hps]
      simpa using hp

/-- What the machine says of a law, of the law. -/
theorem law_calls {C : Cfg} {prim : FuncId → Option PrimT} (hm : C.P.follows .mixedOrders = true)
    (hP : ∀ g p, prim g = some p → ∀ vs gs v gs', p vs gs = (true, v, gs') → ∀ (args : Array Value) (w : World) (F : FG) (Rs : List RG), Regs C.P w F (parR gs) w F.g (parG Rs) → RvL w F.g (parG Rs) args.toList vs → Enter C.P g args w (Back C.P w F v gs'))
    {f : FuncId} {fn : Func} (hf : C.P.funcs[f]? = some fn) (hb : fn.body.isSome = true) (hn : (fn.name == "runtime.NumGoroutine") = false) {args : Array Value} {vs : List V}
    (hr : RvL W (fun k => k < W.heap.size) noGM args.toList vs) (h : CallR C prim f vs [] (.sc (.bool true), [])) :
    Calls C.P f args W fun e W' => e = .returned (.bool true) ∧ Below W.heap.size W W' := by
  obtain ⟨k, hk⟩ := h
  have hK := hk k (Nat.le_refl _)
  let F : FG := ⟨fun _ => False, fun b => b < W.heap.size, fun _ => none, fun _ => none⟩
  have hG0 : parG [] = noGM := by
    funext n
    cases n <;> rfl
  have hR : Regs C.P W F (parR []) W F.g (parG []) := by
    rw [hG0]
    refine ⟨fun r => ?_, ?_, ?_, ?_, ?_, fun b h => h, ⟨rfl, rfl, rfl, Nat.le_refl _, fun _ _ _ => rfl⟩, fun b h => h, fun b h => .inl h, ?_⟩
    · cases r <;> simp [parR, noGM]
    · intro r R h; cases h
    · intro r r' R R' _ h; cases h
    · intro r R b h; cases h
    · intro r R b h; cases h
    · intro i R h; cases h
  have hE := callE_ok hm hP k f vs [] _ _ (show optK (callE C prim k) f vs [] = (true, .sc (.bool true), []) by simp only [optK, hK]) args W F [] hR (by rw [hG0]; exact hr)
  have hcf : (callFunc f args).run C.P W = .ok (.enter f args) W := by
    have hn2 : ¬ fn.name = "runtime.NumGoroutine" := by simpa using hn
    have hb2 : ¬ fn.body = none := by
      intro e; rw [e] at hb; cases hb
    simp [callFunc, hf, hn2, hb2, Result.andThen]
  unfold Enter at hE
  rw [hcf] at hE
  refine hE.mono ?_
  rintro e W' ⟨v, rfl, G', gm', h1, h2⟩
  have hv : v = .bool true := h2.1
  subst hv
  refine ⟨rfl, ⟨h1.keep.os, h1.keep.tape, h1.keep.output, h1.keep.size, fun k hk => h1.keep.block k hk (fun h => h)⟩⟩

theorem law_contract {C : Cfg} {prim : FuncId → Option PrimT} (hm : C.P.follows .mixedOrders = true)
    (hP : ∀ g p, prim g = some p → ∀ vs gs v gs', p vs gs = (true, v, gs') → ∀ (args : Array Value) (w : World) (F : FG) (Rs : List RG), Regs C.P w F (parR gs) w F.g (parG Rs) → RvL w F.g (parG Rs) args.toList vs → Enter C.P g args w (Back C.P w F v gs'))
    (hlaid : laidOutB C.P = true) {f : FuncId} {fn : Func} (hf : C.P.funcs[f]? = some fn) (hb : fn.body.isSome = true) (hn : (fn.name == "runtime.NumGoroutine") = false)
    (hpl : (fn.params.toList.all fun t => plainT C.P 8 t && (C.P.readableRec t && decide (t < C.P.types.size))) = true) {tb : TypeId} (hres : fn.resultTypes = #[tb]) (htb : C.P.underlying tb = some .bool)
    {s : ChangeSpec} (hsv : s.vars = []) (hs : ∀ ds : List (DataW H), ds.length = fn.params.toList.length → (s.fn H ds).results = [.lit (.bool true)] ∧ (s.fn H ds).args = ds ∧ (s.fn H ds).vars = [])
    {args : Array Value} {ds gs : List (DataW H)} {before : List MemPlace} {base : Nat} {apart : Bool}
    (hval : ∀ (j : Nat) t v, fn.params[j]? = some t → args[j]? = some v → Value.okWide C.P W .any base t v)
    (hW : DataW.Whole enc C.P fn.params.toList s.vars apart W args.toList ds gs before)
    (hlaw : ∀ vs : List V, isVs C.P fn.params.toList vs → bulkL vs ≤ uptoBulkAll (ds ++ gs) → CallR C prim f vs [] (.sc (.bool true), [])) {fresh handsOn again : Bool} :
    Calls C.P f args W fun e W' => ∃ v, e = .returned v ∧ s.post enc C.P fn apart fresh handsOn again W args v W' := by
  have hW' := hW
  obtain ⟨p, q, hA, hV, rfl, hfz, hnd⟩ := hW
  rw [hsv] at hV
  obtain ⟨rfl, rfl⟩ := trodVars_none hV
  have hp1 : (fn.params.toList.all fun t => plainT C.P 8 t) = true := by
    rw [List.all_eq_true] at hpl ⊢
    intro t ht
    have := hpl t ht
    simp only [Bool.and_eq_true] at this
    exact this.1
  have hp2 : (fn.params.toList.all fun t => C.P.readableRec t && decide (t < C.P.types.size)) = true := by
    rw [List.all_eq_true] at hpl ⊢
    intro t ht
    have := hpl t ht
    rw [Bool.and_eq_true] at this
    exact this.2
  obtain ⟨vs, r1, r2, r3, r4⟩ := read_args (base := base) fn.params.toList args.toList ds p hp1 (fun j t v ht hv => hval j t v (by simpa using ht) (by simpa using hv)) hA
  have hc := hlaw vs r2 (by rw [List.append_nil]; exact r3)
  refine (law_calls hm hP hf hb hn r1 hc).mono ?_
  rintro e W' ⟨rfl, hbel⟩
  obtain ⟨s1, s2, s3⟩ := hs ds r4
  refine ⟨_, rfl, post_of_below (pa := p) (pv := []) hW' (fun b sp hd => ?_) (fun sp hsp => ?_) (fun sp _ => ?_) rfl hbel ?_⟩
  · rw [hres, List.append_nil, s1]
    exact trodAll_cons_mk (shut_bool htb _) trodAll_mk0
  · rw [List.append_nil, s2]
    exact trodAll_stays hlaid _ _ _ _ hp2 hA (fun x hx => hbel.same (by have := hW'.lt x (by simpa using hx); exact this)) (fun x hx => hsp x (by simpa using hx))
  · rw [List.append_nil, s3, hsv]
    rfl
  · exact ok_one hres rfl (okWide_bool_mk htb _)
end
end Go.Ab
