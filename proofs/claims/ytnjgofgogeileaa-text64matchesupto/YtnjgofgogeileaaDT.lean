/- The machine's tables for this program, and the first functions. -/
import Derived.Test.YtnjgofgogeileaaPC
import Derived.Test.YtnjgofgogeileaaZT
namespace Go.Ab
open Go Go.Proofs Go.RowKit
set_option linter.unusedSimpArgs false
set_option linter.unusedVariables false

def annT : List (FuncId × List Nat × List Nat × List Nm) := [
  (24, [0, 0, 1, 1, 1], [0, 4], [.loc 4]),
  (24, [0, 1, 0, 1, 0, 0, 1, 0, 0, 0, 1, 1, 1], [0, 4, 5, 18], [.loc 4]),
  (24, [9, 0, 1, 0, 1, 0, 0, 1, 0, 0, 0, 1, 1, 1], [0, 2, 3, 4, 5], [.loc 4]),
  (24, [0, 1, 1, 1, 0, 0, 1, 0, 0, 0, 1, 1, 1], [0, 4, 5, 34], [.loc 4]),
  (24, [9, 0, 1, 1, 1, 0, 0, 1, 0, 0, 0, 1, 1, 1], [0, 2, 3, 4], [.loc 4]),
  (24, [9, 0, 0, 1, 1, 1], [2, 3, 4], [.loc 4]),
  (55, [0, 1, 0, 1, 1], [0, 5, 6, 7], []),
  (55, [9, 0, 1, 0, 1, 1], [4, 5], []),
  (25, [0, 1, 0, 1, 1], [0, 3, 10, 11], []),
  (25, [9, 0, 1, 0, 1, 1], [2, 3], []),
  (25, [0, 1, 0, 1, 1, 1, 1], [3, 5, 6], []),
  (25, [0, 1, 0, 1, 0, 0, 1, 0, 0, 1, 0, 1, 1, 1, 1], [3, 5, 6, 7, 28], []),
  (25, [9, 0, 1, 0, 1, 0, 0, 1, 0, 0, 1, 0, 1, 1, 1, 1], [2, 3, 5, 6, 7], []),
  (25, [9, 0, 1, 0, 1, 1, 1, 1], [2, 5], []),
  (25, [0, 0, 1, 1, 1, 1, 1], [5], []),
  (25, [9, 0, 0, 1, 1, 1, 1, 1], [2, 5], []),
  (17, [0, 1, 0, 1, 1, 1, 1], [0, 5, 6, 7, 8, 16, 17, 18], [.loc 5, .loc 16]),
  (17, [9, 0, 1, 0, 1, 1, 1, 1], [0, 2, 3, 4, 5, 6, 7, 8], [.loc 5]),
  (6, [0, 1, 0, 1, 1, 1, 1, 1], [0, 5, 52, 53, 54], []),
  (6, [9, 0, 1, 0, 1, 1, 1, 1, 1], [0, 4, 5], [])
]
def annF : List (FuncId × List Nat × List Nat × List Nm) → FuncId → List Nat → Option (List Nat × List Nm)
  | [], _, _ => none
  | x :: l, f, p => bif Nat.beq f x.1 && beqN p x.2.1 then some x.2.2 else annF l f p
def deepT (f : FuncId) (t : TypeId) : Bool := (Nat.beq t 97) || (Nat.beq f 87 && Nat.beq t 48) || false
def byNameT (f : FuncId) : Bool := Nat.beq f 57 || Nat.beq f 58 || Nat.beq f 59 || Nat.beq f 61 || Nat.beq f 91 || false
def sigL : List (FuncId × Sh) := [(6, .b),
  (11, .tp [.own 57 false, .i .i64]),
  (13, .b),
  (15, .b),
  (17, .tp [.s, .i .i64, .i .i64]),
  (24, .tp [.s, .i .i64]),
  (25, .s),
  (29, .b),
  (46, .own 57 false),
  (50, .b),
  (51, .b),
  (54, .i .i64),
  (55, .s),
  (59, .s),
  (61, .any),
  (65, .sl 1),
  (86, .tp []),
  (87, .own 144 false),
  (90, .i .i64),
  (91, .tp []),
  (110, .i .i64)]
def sigF : List (FuncId × Sh) → FuncId → Sh
  | [], _ => .any
  | x :: l, f => bif Nat.beq f x.1 then x.2 else sigF l f
def cutT (f : FuncId) (p : List Nat) : Bool := false
noncomputable def C : Cfg := { P := Try.prog, deep := deepT, byName := byNameT, sig := sigF sigL, ann := annF annT, cut := cutT }
def prim : FuncId → Option PrimT := pCons 90 p90 <| pCons 65 p65 <| pCons 91 p91 <| pCons 59 p59 <| pNil
set_option maxRecDepth 100000 in
theorem prims_ok : ∀ g p, prim g = some p → PrimOk Try.prog g p := PrimsOk.cons p90_ok <| PrimsOk.cons p65_ok <| PrimsOk.cons p91_ok <| PrimsOk.cons p59_ok <| PrimsOk.nil
def k90 : PrimT := p90
set_option maxRecDepth 100000 in
theorem k90_ok : ∀ vs gs x, k90 vs gs = (true, x) → CallR C prim 90 vs gs x := fun vs gs x h => call_prim (by rfl) h
def k91 : PrimT := p91
set_option maxRecDepth 100000 in
theorem k91_ok : ∀ vs gs x, k91 vs gs = (true, x) → CallR C prim 91 vs gs x := fun vs gs x h => call_prim (by rfl) h
def k59 : PrimT := p59
set_option maxRecDepth 100000 in
theorem k59_ok : ∀ vs gs x, k59 vs gs = (true, x) → CallR C prim 59 vs gs x := fun vs gs x h => call_prim (by rfl) h
set_option maxRecDepth 100000 in
theorem f13_run : CallR C prim 13 [] [] (.sc (.bool true), []) := call_fuel (k := 60) (by kernel_rfl)
def k13 : PrimT := fun vs gs => match vs, gs with
  | [], [] => (true, .sc (.bool true), [])
  | _, _ => (false, .bad, [])
theorem k13_ok : ∀ vs gs x, k13 vs gs = (true, x) → CallR C prim 13 vs gs x := by
  intro vs gs x h
  unfold k13 at h
  split at h
  · simp only [Prod.mk.injEq, true_and] at h
    subst h
    exact f13_run
  · cases h

end Go.Ab
