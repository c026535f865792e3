/- The machine's tables for this program, and the first functions. -/
import Derived.Test.YtnjgofgogeileaaPC
import Derived.Test.YtnjgofgogeileaaZD
namespace Go.Ab
open Go Go.Proofs Go.RowKit
set_option linter.unusedSimpArgs false
set_option linter.unusedVariables false

def annT : List (FuncId × List Nat × List Nat × List Nm) := [
  (88, [0, 1, 0, 1], [0, 1, 7, 8], []),
  (88, [9, 0, 1, 0, 1], [4], []),
  (45, [0, 1, 0, 1], [7, 8, 9], []),
  (45, [9, 0, 1, 0, 1], [2], []),
  (45, [0, 1, 1, 1, 0, 0, 1, 1, 0, 0, 1, 0, 1], [7, 8, 9, 16, 17, 18], []),
  (45, [9, 0, 1, 1, 1, 0, 0, 1, 1, 0, 0, 1, 0, 1], [2, 7, 8, 9], []),
  (47, [0, 1, 0, 1, 1], [8, 9, 10], []),
  (47, [9, 0, 1, 0, 1, 1], [2], []),
  (12, [0, 1, 0, 1], [6, 7, 8], []),
  (12, [9, 0, 1, 0, 1], [2], []),
  (89, [0, 1, 0, 1], [0, 1, 7, 8], []),
  (89, [9, 0, 1, 0, 1], [4], []),
  (29, [0, 1, 0, 1, 1], [0, 1, 12, 13], []),
  (29, [9, 0, 1, 0, 1, 1], [4], []),
  (50, [0, 1, 0, 1, 1], [1, 2, 15, 16, 17], []),
  (50, [9, 0, 1, 0, 1, 1], [6], []),
  (53, [0, 1, 0, 1, 1], [7, 13, 14, 15], [.loc 7]),
  (53, [9, 0, 1, 0, 1, 1], [6, 7], [.loc 7]),
  (52, [0, 1, 0, 1, 1], [0, 1, 5, 14, 15], [.loc 5]),
  (52, [9, 0, 1, 0, 1, 1], [0, 1, 4, 5], [.loc 5]),
  (52, [0, 1, 0, 1, 1, 1], [0, 1, 5, 7], [.loc 5]),
  (52, [0, 1, 0, 0, 1, 0, 0, 1, 0, 1, 1, 1], [0, 1, 5, 7, 8], [.loc 5]),
  (52, [9, 0, 1, 0, 0, 1, 0, 0, 1, 0, 1, 1, 1], [0, 1, 4, 5, 7], [.loc 5]),
  (52, [9, 0, 1, 0, 1, 1, 1], [4, 5], [.loc 5]),
  (16, [0, 1, 1, 1, 1], [0, 1, 5, 6, 7, 8], [.loc 6]),
  (16, [0, 1, 0, 1, 0, 0, 0, 1, 1, 1, 1], [0, 1, 5, 6, 7, 8, 9, 10, 11], [.loc 6]),
  (16, [0, 1, 0, 0, 1, 0, 0, 1, 0, 1, 0, 0, 0, 1, 1, 1, 1], [0, 1, 5, 6, 7, 8, 9, 10, 11, 12], [.loc 6]),
  (16, [9, 0, 1, 0, 0, 1, 0, 0, 1, 0, 1, 0, 0, 0, 1, 1, 1, 1], [0, 1, 4, 5, 6, 7, 8, 9, 10, 11], [.loc 6]),
  (16, [9, 0, 1, 0, 1, 0, 0, 0, 1, 1, 1, 1], [0, 1, 4, 5, 6, 7, 8, 9, 10], [.loc 6]),
  (16, [9, 0, 1, 1, 1, 1], [4], [.loc 4]),
  (109, [0, 1, 0, 1], [0, 1, 7, 8], []),
  (109, [9, 0, 1, 0, 1], [4], []),
  (87, [0, 1, 0, 1, 1], [0, 1, 5, 18, 19], [.loc 5]),
  (87, [9, 0, 1, 0, 1, 1], [0, 1, 4, 5], [.loc 5]),
  (87, [0, 1, 0, 1, 1, 1], [0, 1, 5, 7], [.loc 5]),
  (87, [0, 1, 0, 0, 1, 0, 0, 1, 0, 1, 1, 1], [0, 1, 5, 7, 8], [.loc 5]),
  (87, [9, 0, 1, 0, 0, 1, 0, 0, 1, 0, 1, 1, 1], [0, 1, 4, 5, 7], [.loc 5]),
  (87, [9, 0, 1, 0, 1, 1, 1], [0, 1, 4, 5], [.loc 5]),
  (87, [0, 1, 0, 1, 1, 1, 1, 1], [0, 1, 5, 9, 10, 11], [.loc 5, .loc 9]),
  (87, [9, 0, 1, 0, 1, 1, 1, 1, 1], [4, 9], [.loc 9]),
  (46, [0, 1, 0, 1, 1, 1, 1], [2, 3, 5, 8, 14, 15, 16], [.loc 2, .loc 3, .loc 5, .loc 6, .loc 7, .loc 14]),
  (46, [9, 0, 1, 0, 1, 1, 1, 1], [2, 3, 4, 5, 8], [.loc 2, .loc 3, .loc 5, .loc 6, .loc 7])
]
def annF : List (FuncId × List Nat × List Nat × List Nm) → FuncId → List Nat → Option (List Nat × List Nm)
  | [], _, _ => none
  | x :: l, f, p => bif Nat.beq f x.1 && beqN p x.2.1 then some x.2.2 else annF l f p
def deepT (f : FuncId) (t : TypeId) : Bool := (Nat.beq t 97) || (Nat.beq f 52 && Nat.beq t 48) || (Nat.beq f 87 && Nat.beq t 48) || false
def byNameT (f : FuncId) : Bool := Nat.beq f 57 || Nat.beq f 58 || Nat.beq f 59 || Nat.beq f 61 || Nat.beq f 91 || false
def sigL : List (FuncId × Sh) := [(3, .b),
  (11, .tp [.own 57 false, .i .i64]),
  (12, .i .i64),
  (13, .b),
  (14, .b),
  (15, .b),
  (16, .own 57 false),
  (29, .b),
  (45, .i .i64),
  (46, .own 57 false),
  (47, .i .i64),
  (48, .b),
  (49, .b),
  (50, .b),
  (51, .b),
  (52, .sl 1),
  (53, .own 9 false),
  (59, .s),
  (65, .sl 1),
  (85, .b),
  (86, .tp []),
  (87, .own 144 false),
  (88, .b),
  (89, .i .i64),
  (90, .i .i64),
  (91, .tp []),
  (108, .i .i64),
  (109, .i .i64),
  (110, .i .i64),
  (123, .i .i64)]
def sigF : List (FuncId × Sh) → FuncId → Sh
  | [], _ => .any
  | x :: l, f => bif Nat.beq f x.1 then x.2 else sigF l f
def cutT (f : FuncId) (p : List Nat) : Bool := false
noncomputable def C : Cfg := { P := Try.prog, deep := deepT, byName := byNameT, sig := sigF sigL, ann := annF annT, cut := cutT }
def prim : FuncId → Option PrimT := pCons 90 p90 <| pCons 65 p65 <| pCons 91 p91 <| pCons 59 p59 <| pNil
set_option maxRecDepth 100000 in
theorem prims_ok : ∀ g p, prim g = some p → PrimOk Try.prog g p := PrimsOk.cons p90_ok <| PrimsOk.cons p65_ok <| PrimsOk.cons p91_ok <| PrimsOk.cons p59_ok <| PrimsOk.nil
def k90 : PrimT := p90
set_option maxRecDepth 100000 in
theorem k90_ok : ∀ vs gs x, k90 vs gs = (true, x) → CallR C prim 90 vs gs x := fun vs gs x h => call_prim (by rfl) h
def k91 : PrimT := p91
set_option maxRecDepth 100000 in
theorem k91_ok : ∀ vs gs x, k91 vs gs = (true, x) → CallR C prim 91 vs gs x := fun vs gs x h => call_prim (by rfl) h
def k59 : PrimT := p59
set_option maxRecDepth 100000 in
theorem k59_ok : ∀ vs gs x, k59 vs gs = (true, x) → CallR C prim 59 vs gs x := fun vs gs x h => call_prim (by rfl) h
set_option maxRecDepth 100000 in
theorem f13_run : CallR C prim 13 [] [] (.sc (.bool true), []) := call_fuel (k := 60) (by kernel_rfl)
def k13 : PrimT := fun vs gs => match vs, gs with
  | [], [] => (true, .sc (.bool true), [])
  | _, _ => (false, .bad, [])
theorem k13_ok : ∀ vs gs x, k13 vs gs = (true, x) → CallR C prim 13 vs gs x := by
  intro vs gs x h
  unfold k13 at h
  split at h
  · simp only [Prod.mk.injEq, true_and] at h
    subst h
    exact f13_run
  · cases h
def k65 : PrimT := p65
set_option maxRecDepth 100000 in
theorem k65_ok : ∀ vs gs x, k65 vs gs = (true, x) → CallR C prim 65 vs gs x := fun vs gs x h => call_prim (by rfl) h

end Go.Ab
