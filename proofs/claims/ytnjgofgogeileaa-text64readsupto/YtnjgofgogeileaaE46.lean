/- How a function's equation becomes a fact of its calls. -/
import Derived.Test.YtnjgofgogeileaaE45
import Derived.KernelRfl
namespace Go.Ab
open Go

def loopIn (o : Option Code) : Code := match o with
  | some (.loop a) => a
  | _ => .skip
def codeIn (o : Option Code) : Code := match o with
  | some c => c
  | _ => .skip
def isLoop : Code → Bool
  | .loop _ => true
  | _ => false
def isLoopO (o : Option Code) : Bool := match o with
  | some c => isLoop c
  | none => false
def bodyC (C : Cfg) (f : FuncId) : Code := codeIn (bodyAt C.P f [])
def resC (C : Cfg) (f : FuncId) : List ResultVar := match C.P.funcs[f]? with
  | some fn => fn.results.toList
  | none => []
def fnOk (C : Cfg) (prim : FuncId → Option PrimT) (f : FuncId) (n : Nat) : Bool := match C.P.funcs[f]? with
  | some fn => (match fn.body with
    | some c => (codeOk fn.ntmps c && Nat.ble n fn.ntmps && !(fn.name == "runtime.NumGoroutine")) && !isLoop c
    | none => false) && (prim f).isNone
  | none => false

section
variable {C : Cfg} {prim : FuncId → Option PrimT} {f : FuncId} {K : CallK} {T : Tab}

theorem call_fn (hK : KOK C prim K) (hT : TOK C prim f T) {vs : List V} {gs : List Rg} (hok : fnOk C prim f vs.length = true) {x : V × List Rg}
    (h : ex C K f T (bodyC C f) [] (stOf vs gs) (fun e s => fin C f (resC C f) gs.length e (forget C f [9] s)) = some x) : CallR C prim f vs gs x := by
  unfold fnOk at hok
  cases hf : C.P.funcs[f]? with
  | none => rw [hf] at hok; cases hok
  | some fn =>
    rw [hf] at hok
    simp only [Bool.and_eq_true] at hok
    obtain ⟨h1, h2⟩ := hok
    cases hb : fn.body with
    | none => rw [hb] at h1; cases h1
    | some c =>
      rw [hb] at h1
      simp only [Bool.and_eq_true] at h1
      have hc : bodyC C f = c := by simp [bodyC, bodyAt, hf, hb, codeAt, codeIn]
      have hr : resC C f = fn.results.toList := by simp [resC, hf]
      rw [hc, hr] at h
      refine call_body hK hT hf hb ?_ (by simp only [Bool.and_eq_true]; exact h1.1) ?_ h
      · cases hp : prim f with
        | none => rfl
        | some p => rw [hp] at h2; cases h2
      · rintro x rfl
        have := h1.2
        simp [isLoop] at this

theorem loop_round (hK : KOK C prim K) (hT : TOK C prim f T) {p : List Nat} (hp : isLoopO (bodyAt C.P f p) = true) {st : St} {R : Type} {κ : Ex → St → Option R} {r : R} (L : St → Option R)
    (hL : ∀ st0, L (forget C f p st0) = some r → ∃ e s, κ e s = some r ∧ RunP C prim f p (forget C f p st0) e s)
    (h : ex C K f T (loopIn (bodyAt C.P f p)) (0 :: p) st (fun e s => match e with | .nm => L (forget C f p s) | e => κ e (forget C f (9 :: p) s)) = some r) : ∃ e s, κ e s = some r ∧ RunP C prim f p st e s := by
  cases hb : bodyAt C.P f p with
  | none => rw [hb] at hp; cases hp
  | some c =>
    rw [hb] at hp h
    cases c <;> simp only [isLoopO, isLoop] at hp <;> try cases hp
    exact run_loop hK hT hb L hL h

theorem piece (hK : KOK C prim K) (hT : TOK C prim f T) {p : List Nat} (hp : (bodyAt C.P f p).isSome = true) (hn : isLoopO (bodyAt C.P f p) = false) {st : St} {R : Type} {κ : Ex → St → Option R} {r : R}
    (h : ex C K f T (codeIn (bodyAt C.P f p)) p st (fun e s => κ e (forget C f (9 :: p) s)) = some r) : ∃ e s, κ e s = some r ∧ RunP C prim f p st e s := by
  cases hb : bodyAt C.P f p with
  | none => rw [hb] at hp; cases hp
  | some c =>
    rw [hb] at hn h
    refine run_cut hK hT hb ?_ h
    rintro x rfl
    simp [isLoopO, isLoop] at hn
end
end Go.Ab
