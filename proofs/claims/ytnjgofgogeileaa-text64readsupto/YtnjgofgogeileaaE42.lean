/- The machine without fuel: what calls, loops and pieces of code come to. -/
import Derived.Test.YtnjgofgogeileaaE41
namespace Go.Ab
open Go
set_option linter.unusedSimpArgs false
set_option linter.unusedVariables false

section
variable (C : Cfg) (prim : FuncId → Option PrimT)

/-- A call comes to a result. -/
def CallR (g : FuncId) (vs : List V) (gs : List Rg) (x : V × List Rg) : Prop := ∃ k, ∀ k', k ≤ k' → callE C prim k' g vs gs = some x
/-- A loop, or a piece of code, comes to an end. -/
def Run (f : FuncId) (c : Code) (p : List Nat) (st : St) (e : Ex) (s : St) : Prop :=
  ∃ k, ∀ k', k ≤ k' → ∀ (R : Type) (κ : Ex → St → Option R), recE C prim k' R f c p st κ = κ e s
def RunX (f : FuncId) (c : Code) (p : List Nat) (st : St) (e : Ex) (s : St) : Prop :=
  ∃ k, ∀ k', k ≤ k' → ∀ (R : Type) (κ : Ex → St → Option R), execC C (optK (callE C prim k')) f (recE C prim k' R f) c p st κ = κ e s

def KOK (K : CallK) : Prop := ∀ g vs gs x, K g vs gs = (true, x) → CallR C prim g vs gs x
end

section
variable {C : Cfg} {prim : FuncId → Option PrimT} {K : CallK} {fid : FuncId}

theorem cond_some {R : Type} {b : Bool} {x : Option R} {r : R} (h : (bif b then x else none) = some r) : b = true ∧ x = some r := by
  cases b with
  | true => exact ⟨rfl, h⟩
  | false => cases h

theorem opK_run (hK : KOK C prim K) {R : Type} {r : R} (o : Oper) (st : St) (κ : St → Foot → Option R) (h : opK C K fid o st κ = some r) :
    ∃ s f, κ s f = some r ∧ ∃ k, ∀ k', k ≤ k' → ∀ (R' : Type) (κ' : St → Foot → Option R'), opK C (optK (callE C prim k')) fid o st κ' = κ' s f := by
  unfold opK at h
  simp only at h
  split at h
  · next c1 xs c3 g first caps ws hop hvs =>
    obtain ⟨hb, h⟩ := cond_some h
    split at h
    · next gs hgs =>
      obtain ⟨he, h⟩ := cond_some h
      rw [Bool.and_eq_true] at he
      obtain ⟨hk, he⟩ := he
      obtain ⟨k, hk2⟩ := hK g (prep C g (only (touch o (List.map (opd C.P st.env) (argsOf C.P o))) st.regs) (first ++ ws ++ caps)).vs gs (K g (prep C g (only (touch o (List.map (opd C.P st.env) (argsOf C.P o))) st.regs) (first ++ ws ++ caps)).vs gs).2 (by rw [← hk])
      refine ⟨_, _, h, k, fun k' hk' R' κ' => ?_⟩
      unfold opK
      simp only
      split
      · next d1 d2 d3 d4 d5 d6 d7 hop' hvs' =>
        rw [hop] at hop'
        rw [hvs] at hvs'
        injection hop' with e1
        injection e1 with e1 e2 e3
        injection e1 with e1
        injection hvs' with e4 e5
        injection e4 with e4 e6 e7
        subst e2 e4 e5 e6 e7
        rw [hb]
        simp only [cond_true]
        split
        · next gs' hgs' =>
          rw [hgs] at hgs'
          obtain rfl := Option.some.inj hgs'
          have hoo : optK (callE C prim k') g (prep C g (only (touch o (List.map (opd C.P st.env) (argsOf C.P o))) st.regs) (first ++ ws ++ caps)).vs gs = (true, (K g (prep C g (only (touch o (List.map (opd C.P st.env) (argsOf C.P o))) st.regs) (first ++ ws ++ caps)).vs gs).2) := by
            simp only [optK, hk2 k' hk']
          rw [hoo]
          simp only [Bool.true_and]
          rw [he]
          rfl
        · next hn => rw [hgs] at hn; cases hn
      · next hne => exact (hne _ _ _ _ _ _ _ hop hvs).elim
    · cases h
  · next hne =>
    obtain ⟨he, h⟩ := cond_some h
    refine ⟨_, _, h, 0, fun k' _ R' κ' => ?_⟩
    unfold opK
    simp only
    rw [he]; rfl

theorem opsK_run (hK : KOK C prim K) {R : Type} {r : R} (ops : Array Oper) (bef : Option (Array Nat)) : ∀ (l : List Oper) (i : Nat) (log : List (Nat × Oper × Foot)) (st : St) (κ : St → Option R), opsK C K fid ops bef l i log st κ = some r →
    ∃ s, κ s = some r ∧ ∃ k, ∀ k', k ≤ k' → ∀ (R' : Type) (κ' : St → Option R'), opsK C (optK (callE C prim k')) fid ops bef l i log st κ' = κ' s := by
  intro l
  induction l with
  | nil => intro i log st κ h; exact ⟨st, h, 0, fun _ _ _ _ => rfl⟩
  | cons o rest ih =>
    intro i log st κ h
    -- an operation that is wanted, from a state
    have go : ∀ st1 : St, (opK C K fid o st1 fun st' f => match (generalizing := false) bef with
        | none => opsK C K fid ops bef rest (i + 1) log st' κ
        | some b => bif !f.bad && apartLog ops (b.getD i 0) o log f then opsK C K fid ops bef rest (i + 1) ((i, o, f) :: log) st' κ else none) = some r →
        ∃ s, κ s = some r ∧ ∃ k, ∀ k', k ≤ k' → ∀ (R' : Type) (κ' : St → Option R'), (opK C (optK (callE C prim k')) fid o st1 fun st' f => match (generalizing := false) bef with
        | none => opsK C (optK (callE C prim k')) fid ops bef rest (i + 1) log st' κ'
        | some b => bif !f.bad && apartLog ops (b.getD i 0) o log f then opsK C (optK (callE C prim k')) fid ops bef rest (i + 1) ((i, o, f) :: log) st' κ' else none) = κ' s := by
      intro st1 h
      obtain ⟨s1, f1, h1, k1, h2⟩ := opK_run hK o st1 _ h
      cases bef with
      | none =>
        obtain ⟨s, h3, k2, h4⟩ := ih _ _ _ _ h1
        refine ⟨s, h3, max k1 k2, fun k' hk' R' κ' => ?_⟩
        rw [h2 k' (by omega)]
        exact h4 k' (by omega) R' κ'
      | some b =>
        simp only at h1
        obtain ⟨hb, h1⟩ := cond_some h1
        obtain ⟨s, h3, k2, h4⟩ := ih _ _ _ _ h1
        refine ⟨s, h3, max k1 k2, fun k' hk' R' κ' => ?_⟩
        rw [h2 k' (by omega)]
        simp only [hb, cond_true]
        exact h4 k' (by omega) R' κ'
    have no : ∀ st1 : St, (match (generalizing := false) bef with
        | none => opsK C K fid ops bef rest (i + 1) log st1 κ
        | some b => bif apartLog ops (b.getD i 0) o log Foot.nil then opsK C K fid ops bef rest (i + 1) ((i, o, Foot.nil) :: log) st1 κ else none) = some r →
        ∃ s, κ s = some r ∧ ∃ k, ∀ k', k ≤ k' → ∀ (R' : Type) (κ' : St → Option R'), (match (generalizing := false) bef with
        | none => opsK C (optK (callE C prim k')) fid ops bef rest (i + 1) log st1 κ'
        | some b => bif apartLog ops (b.getD i 0) o log Foot.nil then opsK C (optK (callE C prim k')) fid ops bef rest (i + 1) ((i, o, Foot.nil) :: log) st1 κ' else none) = κ' s := by
      intro st1 h
      cases bef with
      | none => exact ih _ _ _ _ h
      | some b =>
        simp only at h
        obtain ⟨hb, h⟩ := cond_some h
        obtain ⟨s, h3, k2, h4⟩ := ih _ _ _ _ h
        refine ⟨s, h3, k2, fun k' hk' R' κ' => ?_⟩
        simp only [hb, cond_true]
        exact h4 k' hk' R' κ'
    cases hg : o.guard with
    | none =>
      simp only [opsK, hg] at h ⊢
      exact go st h
    | some gw =>
      obtain ⟨g, want⟩ := gw
      simp only [opsK, hg] at h ⊢
      cases ht : guardDst ops g with
      | none => rw [ht] at h; cases h
      | some t =>
        rw [ht] at h
        simp only at h ⊢
        split at h
        · next c hc =>
          cases c with
          | true =>
            simp only [cond_true] at h ⊢
            cases want with
            | true => simp only [cond_true] at h ⊢; exact go _ h
            | false => simp only [cond_false] at h ⊢; exact no _ h
          | false =>
            simp only [cond_false] at h ⊢
            cases want with
            | true => simp only [cond_true] at h ⊢; exact no _ h
            | false => simp only [cond_false] at h ⊢; exact go _ h
        · next hc => exact no _ h
        · cases h

/-! ### paths -/
/-- The code at a path (the last step first). -/
def child : Nat → Code → Option Code
  | 0, .seq a _ => some a
  | 1, .seq _ b => some b
  | 0, .cond _ a _ => some a
  | 1, .cond _ _ b => some b
  | 0, .block _ a => some a
  | 0, .loop a => some a
  | _, _ => none
def codeAt (c : Code) : List Nat → Option Code
  | [] => some c
  | i :: p => match codeAt c p with | some c' => child i c' | none => none
def bodyAt (P : Program) (f : FuncId) (p : List Nat) : Option Code :=
  match P.funcs[f]? with
  | some fn => match fn.body with
    | some c => codeAt c p
    | none => none
  | none => none

/-- The piece of code at a path comes to an end. -/
def RunP (C : Cfg) (prim : FuncId → Option PrimT) (f : FuncId) (p : List Nat) (st : St) (e : Ex) (s : St) : Prop :=
  ∃ c, bodyAt C.P f p = some c ∧ Run C prim f c p st e s

/-- What is known of loops and pieces, told to what follows. -/
abbrev Tab := List Nat → St → (R : Type) → (Ex → St → Option R) → Option R
def TOK (C : Cfg) (prim : FuncId → Option PrimT) (f : FuncId) (T : Tab) : Prop :=
  ∀ p st0 R κ r, T p (forget C f p st0) R κ = some r → ∃ e s, κ e s = some r ∧ RunP C prim f p (forget C f p st0) e s

/-- Code, with what is known of calls, and of loops and pieces. -/
def ex {R : Type} (C : Cfg) (K : CallK) (f : FuncId) (T : Tab) (c : Code) (p : List Nat) (st : St) (κ : Ex → St → Option R) : Option R :=
  execC C K f (fun _ p st κ => T p st R κ) c p st κ

theorem bodyAt_child {P : Program} {f : FuncId} {p : List Nat} {c : Code} (h : bodyAt P f p = some c) (i : Nat) : bodyAt P f (i :: p) = child i c := by
  unfold bodyAt at h ⊢
  cases hf : P.funcs[f]? with
  | none => rw [hf] at h; cases h
  | some fn =>
    simp only [hf] at h ⊢
    cases hb : fn.body with
    | none => rw [hb] at h; cases h
    | some b =>
      simp only [hb] at h ⊢
      simp only [codeAt, h]

theorem execC_run (hK : KOK C prim K) {R : Type} {r : R} {rec : Code → List Nat → St → (Ex → St → Option R) → Option R}
    (hT : ∀ c p st0 κ, bodyAt C.P fid p = some c → rec c p (forget C fid p st0) κ = some r → ∃ e s, κ e s = some r ∧ Run C prim fid c p (forget C fid p st0) e s) :
    ∀ (c : Code) (p : List Nat) (st : St) (κ : Ex → St → Option R), bodyAt C.P fid p = some c → execC C K fid rec c p st κ = some r →
    ∃ e s, κ e s = some r ∧ RunX C prim fid c p st e s := by
  intro c
  induction c with
  | skip => intro p st κ _ h; exact ⟨.nm, st, h, 0, fun _ _ _ _ => rfl⟩
  | region id ops draw =>
    intro p st κ _ h
    simp only [execC] at h
    cases draw with
    | true =>
      simp only [cond_true] at h
      obtain ⟨hb, h⟩ := cond_some h
      obtain ⟨s, h1, k, h2⟩ := opsK_run hK _ _ _ _ _ _ _ h
      refine ⟨.nm, s, h1, k, fun k' hk' R' κ' => ?_⟩
      simp only [execC, cond_true, hb]
      exact h2 k' hk' R' (κ' .nm)
    | false =>
      simp only [cond_false] at h
      obtain ⟨s, h1, k, h2⟩ := opsK_run hK _ _ _ _ _ _ _ h
      refine ⟨.nm, s, h1, k, fun k' hk' R' κ' => ?_⟩
      simp only [execC, cond_false]
      exact h2 k' hk' R' (κ' .nm)
  | seq x y ihx ihy =>
    intro p st κ hp h
    have hpx : bodyAt C.P fid (0 :: p) = some x := by rw [bodyAt_child hp]; rfl
    have hpy : bodyAt C.P fid (1 :: p) = some y := by rw [bodyAt_child hp]; rfl
    simp only [execC] at h
    obtain ⟨e, s, h1, k1, h2⟩ := ihx _ _ _ hpx h
    cases e with
    | nm =>
      simp only at h1
      cases hc : C.cut fid (1 :: p) with
      | false =>
        simp only [hc, cond_false] at h1
        obtain ⟨e, s', h3, k2, h4⟩ := ihy _ _ _ hpy h1
        refine ⟨e, s', h3, max k1 k2, fun k' hk' R' κ' => ?_⟩
        simp only [execC]
        rw [h2 k' (by omega)]
        simp only [hc, cond_false]
        exact h4 k' (by omega) R' κ'
      | true =>
        simp only [hc, cond_true] at h1
        obtain ⟨e, s', h3, k2, h4⟩ := hT _ _ _ _ hpy h1
        refine ⟨e, _, h3, max k1 k2, fun k' hk' R' κ' => ?_⟩
        simp only [execC]
        rw [h2 k' (by omega)]
        simp only [hc, cond_true]
        exact h4 k' (by omega) R' _
    | ex i =>
      refine ⟨.ex i, s, h1, k1, fun k' hk' R' κ' => ?_⟩
      simp only [execC]
      rw [h2 k' hk']
    | rt =>
      refine ⟨.rt, s, h1, k1, fun k' hk' R' κ' => ?_⟩
      simp only [execC]
      rw [h2 k' hk']
  | cond c x y ihx ihy =>
    intro p st κ hp h
    have hpx : bodyAt C.P fid (0 :: p) = some x := by rw [bodyAt_child hp]; rfl
    have hpy : bodyAt C.P fid (1 :: p) = some y := by rw [bodyAt_child hp]; rfl
    simp only [execC] at h
    split at h
    · next t ht =>
      cases t with
      | true =>
        obtain ⟨e, s, h1, k, h2⟩ := ihx _ _ _ hpx h
        refine ⟨e, s, h1, k, fun k' hk' R' κ' => ?_⟩
        simp only [execC, ht, cond_true]
        exact h2 k' hk' R' κ'
      | false =>
        obtain ⟨e, s, h1, k, h2⟩ := ihy _ _ _ hpy h
        refine ⟨e, s, h1, k, fun k' hk' R' κ' => ?_⟩
        simp only [execC, ht, cond_false]
        exact h2 k' hk' R' κ'
    · cases h
  | block id x ih =>
    intro p st κ hp h
    have hpx : bodyAt C.P fid (0 :: p) = some x := by rw [bodyAt_child hp]; rfl
    simp only [execC] at h
    obtain ⟨e, s, h1, k, h2⟩ := ih _ _ _ hpx h
    cases e with
    | nm =>
      refine ⟨.nm, s, h1, k, fun k' hk' R' κ' => ?_⟩
      simp only [execC]
      rw [h2 k' hk']
    | ex i =>
      simp only at h1
      cases hi : Nat.beq i id with
      | true =>
        rw [hi] at h1
        refine ⟨.nm, s, h1, k, fun k' hk' R' κ' => ?_⟩
        simp only [execC]
        rw [h2 k' hk']
        simp only [hi, cond_true]
      | false =>
        rw [hi] at h1
        refine ⟨.ex i, s, h1, k, fun k' hk' R' κ' => ?_⟩
        simp only [execC]
        rw [h2 k' hk']
        simp only [hi, cond_false]
    | rt =>
      refine ⟨.rt, s, h1, k, fun k' hk' R' κ' => ?_⟩
      simp only [execC]
      rw [h2 k' hk']
  | loop x ih =>
    intro p st κ hp h
    simp only [execC] at h
    obtain ⟨e, s', h3, k2, h4⟩ := hT _ _ _ _ hp h
    refine ⟨e, _, h3, k2, fun k' hk' R' κ' => ?_⟩
    simp only [execC]
    exact h4 k' hk' R' _
  | exit id => intro p st κ _ h; exact ⟨.ex id, st, h, 0, fun _ _ _ _ => rfl⟩
  | ret => intro p st κ _ h; exact ⟨.rt, st, h, 0, fun _ _ _ _ => rfl⟩
  | _ => intro p st κ _ h; cases h

theorem ex_run (hK : KOK C prim K) {T : Tab} (hT : TOK C prim fid T) {R : Type} {r : R} (c : Code) (p : List Nat) (st : St) (κ : Ex → St → Option R) (hp : bodyAt C.P fid p = some c) (h : ex C K fid T c p st κ = some r) :
    ∃ e s, κ e s = some r ∧ RunX C prim fid c p st e s := by
  refine execC_run hK (fun c p st0 κ hp h => ?_) c p st κ hp h
  obtain ⟨e, s, h1, c', hc', h2⟩ := hT _ _ _ _ _ h
  rw [hp] at hc'
  obtain rfl := Option.some.inj hc'
  exact ⟨e, s, h1, h2⟩

/-- A piece of code that is no loop. -/
theorem run_cut (hK : KOK C prim K) {T : Tab} (hT : TOK C prim fid T) {c : Code} {p : List Nat} (hp : bodyAt C.P fid p = some c) (hc : ∀ x, c ≠ .loop x) {st : St} {R : Type} {κ : Ex → St → Option R} {r : R}
    (h : ex C K fid T c p st (fun e s => κ e (forget C fid (9 :: p) s)) = some r) : ∃ e s, κ e s = some r ∧ RunP C prim fid p st e s := by
  obtain ⟨e', s', h1, k, h2⟩ := ex_run hK hT c p st _ hp h
  refine ⟨e', _, h1, c, hp, k + 1, fun k' hk' R κ => ?_⟩
  obtain ⟨m, rfl⟩ : ∃ m, k' = m + 1 := ⟨k' - 1, by omega⟩
  rw [recE_code m fid c hc]
  exact h2 m (by omega) R _

/-- A round of a loop; 'L': what is known of the rounds behind it. -/
theorem run_loop (hK : KOK C prim K) {T : Tab} (hT : TOK C prim fid T) {a : Code} {p : List Nat} (hp : bodyAt C.P fid p = some (.loop a)) {st : St} {R : Type} {κ : Ex → St → Option R} {r : R} (L : St → Option R)
    (hL : ∀ st0, L (forget C fid p st0) = some r → ∃ e s, κ e s = some r ∧ RunP C prim fid p (forget C fid p st0) e s)
    (h : ex C K fid T a (0 :: p) st (fun e s => match e with | .nm => L (forget C fid p s) | e => κ e (forget C fid (9 :: p) s)) = some r) : ∃ e s, κ e s = some r ∧ RunP C prim fid p st e s := by
  have hpa : bodyAt C.P fid (0 :: p) = some a := by rw [bodyAt_child hp]; rfl
  obtain ⟨e, s, h1, k, h2⟩ := ex_run hK hT a (0 :: p) st _ hpa h
  cases e with
  | nm =>
    simp only at h1
    obtain ⟨e', s', h3, c', hc', k2, h4⟩ := hL _ h1
    rw [hp] at hc'
    obtain rfl := Option.some.inj hc'
    refine ⟨e', s', h3, _, hp, max k k2 + 1, fun k' hk' R κ => ?_⟩
    obtain ⟨m, rfl⟩ : ∃ m, k' = m + 1 := ⟨k' - 1, by omega⟩
    rw [recE_loop]
    rw [h2 m (by omega)]
    exact h4 m (by omega) R κ
  | ex i =>
    refine ⟨.ex i, _, h1, _, hp, k + 1, fun k' hk' R κ => ?_⟩
    obtain ⟨m, rfl⟩ : ∃ m, k' = m + 1 := ⟨k' - 1, by omega⟩
    rw [recE_loop]
    rw [h2 m (by omega)]
  | rt =>
    refine ⟨.rt, _, h1, _, hp, k + 1, fun k' hk' R κ => ?_⟩
    obtain ⟨m, rfl⟩ : ∃ m, k' = m + 1 := ⟨k' - 1, by omega⟩
    rw [recE_loop]
    rw [h2 m (by omega)]

/-- What stands behind a body. -/
def fin (C : Cfg) (f : FuncId) (rs : List ResultVar) (np : Nat) : Ex → St → Option (V × List Rg) := fun e st => match e with
  | .ex _ => none
  | _ => endOf C f rs np st

/-- A function's call. -/
theorem call_body (hK : KOK C prim K) {T : Tab} (hT : TOK C prim fid T) {fn : Func} {c : Code} (hf : C.P.funcs[fid]? = some fn) (hb : fn.body = some c) (hp : prim fid = none)
    {vs : List V} {gs : List Rg} (hok : (codeOk fn.ntmps c && Nat.ble vs.length fn.ntmps && !(fn.name == "runtime.NumGoroutine")) = true) (hl : ∀ x, c ≠ .loop x) {x : V × List Rg}
    (h : ex C K fid T c [] (stOf vs gs) (fun e s => fin C fid fn.results.toList gs.length e (forget C fid [9] s)) = some x) : CallR C prim fid vs gs x := by
  have hba : bodyAt C.P fid [] = some c := by simp [bodyAt, hf, hb, codeAt]
  obtain ⟨e, s, h1, k, h2⟩ := ex_run hK hT c [] _ _ hba h
  refine ⟨k + 1, fun k' hk' => ?_⟩
  obtain ⟨m, rfl⟩ : ∃ m, k' = m + 1 := ⟨k' - 1, by omega⟩
  unfold callE callBody
  simp only [hp, hf, hb, hok, cond_true]
  rw [recE_code m fid c hl, h2 m (by omega)]
  exact h1

theorem call_prim {g : FuncId} {p : PrimT} (hp : prim g = some p) {vs : List V} {gs : List Rg} {x : V × List Rg} (h : p vs gs = (true, x)) : CallR C prim g vs gs x :=
  ⟨0, fun k' _ => by simp only [callE, callBody, hp, h, cond_true]⟩

/-! ### what runs with some fuel -/
theorem recE_run (k : Nat) (hK : KOK C prim (optK (callE C prim k)))
    (ih : ∀ (R : Type) (f : FuncId) (c : Code) (p : List Nat) (st : St) (κ : Ex → St → Option R) (r : R), bodyAt C.P f p = some c → recE C prim k R f c p st κ = some r → ∃ e s, κ e s = some r ∧ Run C prim f c p st e s)
    (R : Type) (f : FuncId) (c : Code) (p : List Nat) (st : St) (κ : Ex → St → Option R) (r : R) (hp : bodyAt C.P f p = some c) (h : recE C prim (k + 1) R f c p st κ = some r) : ∃ e s, κ e s = some r ∧ Run C prim f c p st e s := by
  by_cases hc : ∃ x, c = .loop x
  · obtain ⟨a, rfl⟩ := hc
    rw [recE_loop] at h
    have hpa : bodyAt C.P f (0 :: p) = some a := by rw [bodyAt_child hp]; rfl
    obtain ⟨e, s, h1, k1, h2⟩ := execC_run hK (rec := recE C prim k R f) (fun c p st0 κ hp h => ih R f c p _ κ r hp h) a (0 :: p) st _ hpa h
    cases e with
    | nm =>
      simp only at h1
      obtain ⟨e', s', h3, k2, h4⟩ := ih R f _ p _ κ r hp h1
      refine ⟨e', s', h3, max k1 k2 + 1, fun k' hk' R κ => ?_⟩
      obtain ⟨m, rfl⟩ : ∃ m, k' = m + 1 := ⟨k' - 1, by omega⟩
      rw [recE_loop]
      rw [h2 m (by omega)]
      exact h4 m (by omega) R κ
    | ex i =>
      refine ⟨.ex i, _, h1, k1 + 1, fun k' hk' R κ => ?_⟩
      obtain ⟨m, rfl⟩ : ∃ m, k' = m + 1 := ⟨k' - 1, by omega⟩
      rw [recE_loop]
      rw [h2 m (by omega)]
    | rt =>
      refine ⟨.rt, _, h1, k1 + 1, fun k' hk' R κ => ?_⟩
      obtain ⟨m, rfl⟩ : ∃ m, k' = m + 1 := ⟨k' - 1, by omega⟩
      rw [recE_loop]
      rw [h2 m (by omega)]
  · have hc' : ∀ x, c ≠ .loop x := fun x e => hc ⟨x, e⟩
    rw [recE_code k f c hc'] at h
    obtain ⟨e, s, h1, k1, h2⟩ := execC_run hK (rec := recE C prim k R f) (fun c p st0 κ hp h => ih R f c p _ κ r hp h) c p st _ hp h
    refine ⟨e, _, h1, k1 + 1, fun k' hk' R κ => ?_⟩
    obtain ⟨m, rfl⟩ : ∃ m, k' = m + 1 := ⟨k' - 1, by omega⟩
    rw [recE_code m f c hc', h2 m (by omega)]

theorem callE_of (k : Nat) (ih : ∀ (R : Type) (f : FuncId) (c : Code) (p : List Nat) (st : St) (κ : Ex → St → Option R) (r : R), bodyAt C.P f p = some c → recE C prim k R f c p st κ = some r → ∃ e s, κ e s = some r ∧ Run C prim f c p st e s)
    {g : FuncId} {vs : List V} {gs : List Rg} {x : V × List Rg} (h : callE C prim k g vs gs = some x) : CallR C prim g vs gs x := by
  unfold callE callBody at h
  cases hp : prim g with
  | some p =>
    rw [hp] at h
    simp only at h
    obtain ⟨h1, h2⟩ := cond_some h
    refine call_prim hp ?_
    rw [← h1, ← Option.some.inj h2]
  | none =>
    rw [hp] at h
    simp only at h
    cases hf : C.P.funcs[g]? with
    | none => rw [hf] at h; cases h
    | some fn =>
      rw [hf] at h
      simp only at h
      cases hb : fn.body with
      | none => rw [hb] at h; cases h
      | some c =>
        rw [hb] at h
        simp only at h
        obtain ⟨h1, h2⟩ := cond_some h
        have hba : bodyAt C.P g [] = some c := by simp [bodyAt, hf, hb, codeAt]
        obtain ⟨e, s, h3, k1, h4⟩ := ih _ g c [] _ _ _ hba h2
        refine ⟨k1, fun k' hk' => ?_⟩
        unfold callE callBody
        simp only [hp, hf, hb, h1, cond_true]
        rw [h4 k' hk']
        exact h3

theorem recE_all : ∀ (k : Nat) (R : Type) (f : FuncId) (c : Code) (p : List Nat) (st : St) (κ : Ex → St → Option R) (r : R), bodyAt C.P f p = some c → recE C prim k R f c p st κ = some r → ∃ e s, κ e s = some r ∧ Run C prim f c p st e s
  | 0, _, _, _, _, _, _, _, _, h => by cases h
  | k + 1, R, f, c, p, st, κ, r, hp, h => by
    refine recE_run k (fun g vs gs x hx => ?_) (recE_all k) R f c p st κ r hp h
    simp only [optK] at hx
    split at hx
    · next y hy =>
      simp only [Prod.mk.injEq, true_and] at hx
      subst hx
      exact callE_of k (recE_all k) hy
    · cases hx

/-- A call that runs with some fuel. -/
theorem call_fuel {k : Nat} {g : FuncId} {vs : List V} {gs : List Rg} {x : V × List Rg} (h : callE C prim k g vs gs = some x) : CallR C prim g vs gs x := callE_of k (recE_all k) h
end
end Go.Ab
