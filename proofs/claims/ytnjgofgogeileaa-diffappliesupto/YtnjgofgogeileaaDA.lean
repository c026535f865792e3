/- The machine's tables for this program, and the first functions. -/
import Derived.Test.YtnjgofgogeileaaPC
import Derived.Test.YtnjgofgogeileaaZA
namespace Go.Ab
open Go Go.Proofs Go.RowKit
set_option linter.unusedSimpArgs false
set_option linter.unusedVariables false

def annT : List (FuncId × List Nat × List Nat × List Nm) := [
  (88, [0, 1, 0, 1], [0, 1, 7, 8], []),
  (88, [9, 0, 1, 0, 1], [4], []),
  (45, [0, 1, 0, 1], [7, 8, 9], []),
  (45, [9, 0, 1, 0, 1], [2], []),
  (45, [0, 1, 1, 1, 0, 0, 1, 1, 0, 0, 1, 0, 1], [7, 8, 9, 16, 17, 18], []),
  (45, [9, 0, 1, 1, 1, 0, 0, 1, 1, 0, 0, 1, 0, 1], [2, 7, 8, 9], []),
  (47, [0, 1, 0, 1, 1], [8, 9, 10], []),
  (47, [9, 0, 1, 0, 1, 1], [2], []),
  (12, [0, 1, 0, 1], [6, 7, 8], []),
  (12, [9, 0, 1, 0, 1], [2], []),
  (29, [0, 1, 0, 1, 1], [0, 1, 12, 13], []),
  (29, [9, 0, 1, 0, 1, 1], [4], []),
  (20, [0, 1, 0, 1], [5, 6, 7], []),
  (20, [9, 0, 1, 0, 1], [2], []),
  (62, [0, 1, 0, 1, 1], [0, 5, 11, 12, 13], [.loc 10]),
  (62, [9, 0, 1, 0, 1, 1], [0, 4, 5], [.loc 10]),
  (63, [0, 1, 0, 1, 1, 1], [0, 5, 6, 10, 11, 12], [.loc 5]),
  (63, [9, 0, 1, 0, 1, 1, 1], [0, 4, 5, 6], [.loc 5]),
  (64, [0, 1, 0, 1, 1, 1], [1, 5, 14, 15, 16], [.loc 13]),
  (64, [9, 0, 1, 0, 1, 1, 1], [4], []),
  (28, [0, 1, 0, 1, 1, 1], [5, 13, 14, 15], [.loc 5]),
  (28, [9, 0, 1, 0, 1, 1, 1], [2, 3, 5], [.loc 5]),
  (27, [0, 1, 0, 1, 1, 1], [0, 1, 3, 9, 10, 11, 26, 27, 28], []),
  (27, [9, 0, 1, 0, 1, 1, 1], [1, 8, 10, 11], []),
  (27, [0, 1, 0, 1, 0, 1, 1, 1, 1, 1, 1, 1, 1, 0, 0, 1, 1, 0, 0, 1, 0, 1, 1, 1], [0, 1, 3, 10, 11, 13, 26, 27, 28, 87, 88, 89], [.loc 13]),
  (27, [9, 0, 1, 0, 1, 0, 1, 1, 1, 1, 1, 1, 1, 1, 0, 0, 1, 1, 0, 0, 1, 0, 1, 1, 1], [0, 1, 3, 8, 9, 10, 11, 13, 26, 27, 28], [.loc 13]),
  (30, [0, 1, 0, 1, 1, 1], [0, 5, 6, 9, 10, 11], [.loc 5]),
  (30, [9, 0, 1, 0, 1, 1, 1], [0, 4, 5, 6], [.loc 5]),
  (7, [0, 1, 0, 1, 1, 1, 1, 1, 1], [0, 1, 5, 6, 7, 8, 10, 64, 65, 66], [.loc 5, .loc 8]),
  (7, [9, 0, 1, 0, 1, 1, 1, 1, 1, 1], [0, 1, 4, 5, 6, 7, 8, 10], [.loc 5, .loc 8])
]
def annF : List (FuncId × List Nat × List Nat × List Nm) → FuncId → List Nat → Option (List Nat × List Nm)
  | [], _, _ => none
  | x :: l, f, p => bif Nat.beq f x.1 && beqN p x.2.1 then some x.2.2 else annF l f p
def deepT (f : FuncId) (t : TypeId) : Bool := (Nat.beq t 97) || (Nat.beq f 52 && Nat.beq t 48) || (Nat.beq f 62 && Nat.beq t 100153) || (Nat.beq f 64 && Nat.beq t 100153) || (Nat.beq f 87 && Nat.beq t 48) || false
def byNameT (f : FuncId) : Bool := Nat.beq f 57 || Nat.beq f 58 || Nat.beq f 59 || Nat.beq f 61 || Nat.beq f 91 || Nat.beq f 92 || Nat.beq f 93 || Nat.beq f 94 || Nat.beq f 112 || false
def sigL : List (FuncId × Sh) := [(7, .b),
  (11, .tp [.own 57 false, .i .i64]),
  (12, .i .i64),
  (13, .b),
  (15, .b),
  (20, .i .i64),
  (26, .tp [.own 9 false, .i .i64]),
  (27, .i .i64),
  (28, .tp [.own 57 false, .i .i64]),
  (29, .b),
  (30, .own 9 false),
  (45, .i .i64),
  (46, .own 57 false),
  (47, .i .i64),
  (50, .b),
  (51, .b),
  (59, .s),
  (62, .i .i64),
  (63, .own 9 false),
  (64, .i .i64),
  (65, .sl 1),
  (85, .b),
  (86, .tp []),
  (87, .own 144 false),
  (88, .b),
  (90, .i .i64),
  (91, .tp []),
  (92, .i .i64),
  (93, .b),
  (94, .tp []),
  (108, .i .i64),
  (110, .i .i64),
  (112, .b),
  (123, .i .i64)]
def sigF : List (FuncId × Sh) → FuncId → Sh
  | [], _ => .any
  | x :: l, f => bif Nat.beq f x.1 then x.2 else sigF l f
def cutT (f : FuncId) (p : List Nat) : Bool := false
noncomputable def C : Cfg := { P := Try.prog, deep := deepT, byName := byNameT, sig := sigF sigL, ann := annF annT, cut := cutT }
def prim : FuncId → Option PrimT := pCons 90 p90 <| pCons 65 p65 <| pCons 91 p91 <| pCons 59 p59 <| pNil
set_option maxRecDepth 100000 in
theorem prims_ok : ∀ g p, prim g = some p → PrimOk Try.prog g p := PrimsOk.cons p90_ok <| PrimsOk.cons p65_ok <| PrimsOk.cons p91_ok <| PrimsOk.cons p59_ok <| PrimsOk.nil
def k90 : PrimT := p90
set_option maxRecDepth 100000 in
theorem k90_ok : ∀ vs gs x, k90 vs gs = (true, x) → CallR C prim 90 vs gs x := fun vs gs x h => call_prim (by rfl) h
def k91 : PrimT := p91
set_option maxRecDepth 100000 in
theorem k91_ok : ∀ vs gs x, k91 vs gs = (true, x) → CallR C prim 91 vs gs x := fun vs gs x h => call_prim (by rfl) h
def k59 : PrimT := p59
set_option maxRecDepth 100000 in
theorem k59_ok : ∀ vs gs x, k59 vs gs = (true, x) → CallR C prim 59 vs gs x := fun vs gs x h => call_prim (by rfl) h
set_option maxRecDepth 100000 in
theorem f13_run : CallR C prim 13 [] [] (.sc (.bool true), []) := call_fuel (k := 60) (by kernel_rfl)
def k13 : PrimT := fun vs gs => match vs, gs with
  | [], [] => (true, .sc (.bool true), [])
  | _, _ => (false, .bad, [])
theorem k13_ok : ∀ vs gs x, k13 vs gs = (true, x) → CallR C prim 13 vs gs x := by
  intro vs gs x h
  unfold k13 at h
  split at h
  · simp only [Prod.mk.injEq, true_and] at h
    subst h
    exact f13_run
  · cases h
def k65 : PrimT := p65
set_option maxRecDepth 100000 in
theorem k65_ok : ∀ vs gs x, k65 vs gs = (true, x) → CallR C prim 65 vs gs x := fun vs gs x h => call_prim (by rfl) h

end Go.Ab
