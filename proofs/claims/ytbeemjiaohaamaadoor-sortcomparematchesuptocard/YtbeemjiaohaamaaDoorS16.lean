/- sorts() is true: by the kernel, under a config of its own. -/
import Derived.Test.YtbeemjiaohaamaaDoorPC2
namespace Go.Ab.S16
open Go Go.Proofs Go.RowKit Go.Ab
set_option linter.unusedSimpArgs false
set_option linter.unusedVariables false

def annT : List (FuncId × List Nat × List Nat × List Nm) := [

]
def annF : List (FuncId × List Nat × List Nat × List Nm) → FuncId → List Nat → Option (List Nat × List Nm)
  | [], _, _ => none
  | x :: l, f, p => bif Nat.beq f x.1 && beqN p x.2.1 then some x.2.2 else annF l f p
def deepT (f : FuncId) (t : TypeId) : Bool := (Nat.beq t 103) || false
def byNameT (f : FuncId) : Bool := Nat.beq f 78 || Nat.beq f 79 || Nat.beq f 89 || Nat.beq f 109 || Nat.beq f 110 || Nat.beq f 125 || Nat.beq f 154 || false
def sigL : List (FuncId × Sh) := [(3, .b),
  (4, .b),
  (5, .b),
  (6, .b),
  (7, .b),
  (8, .b),
  (9, .b),
  (10, .b),
  (11, .tp [.i .i64, .i .i64]),
  (12, .i .i64),
  (13, .i .i64),
  (14, .i .i64),
  (15, .b),
  (16, .b),
  (17, .i .i64),
  (18, .tp [.own 9 false, .i .i64]),
  (19, .b),
  (20, .b),
  (21, .own 9 false),
  (22, .tp [.s, .i .i64]),
  (23, .b),
  (24, .i .i64),
  (25, .b),
  (26, .tp [.own 9 false, .b]),
  (27, .s),
  (28, .tp [.i .i64, .i .i64]),
  (29, .tp [.i .i64, .b]),
  (30, .tp [.i .i64, .i .i64, .i .i64, .i .i64]),
  (31, .tp [.i .i64, .i .i64, .i .i64, .b]),
  (32, .tp [.s, .i .i64]),
  (33, .b),
  (34, .own 9 false),
  (35, .tp [.s, .i .i64]),
  (36, .tp [.ag [.i .i64, .i .i64, .i .i64, .i .i64], .i .i64]),
  (37, .ag [.i .i64, .i .i64, .i .i64, .i .i64]),
  (38, .s),
  (39, .tp [.s, .i .i64]),
  (40, .s),
  (41, .own 9 false),
  (42, .tp [.s, .i .i64]),
  (43, .tp [.s, .i .i64]),
  (44, .i .i64),
  (45, .i .i64),
  (46, .i .i64),
  (47, .tp [.s, .i .i64]),
  (48, .s),
  (49, .i .i64),
  (50, .i .i64),
  (51, .s),
  (52, .i .i64),
  (53, .own 9 false),
  (54, .own 9 false),
  (55, .b),
  (56, .b),
  (57, .tp []),
  (58, .s),
  (59, .b),
  (60, .tp []),
  (61, .b),
  (62, .i .i64),
  (63, .i .i64),
  (64, .i .i64),
  (65, .i .i64),
  (66, .i .i64),
  (67, .tp [.i .i64, .i .i64, .i .i64]),
  (68, .b),
  (69, .i .i64),
  (70, .b),
  (71, .tp [.i .i64, .i .i64]),
  (72, .own 9 false),
  (73, .i .i64),
  (74, .b),
  (75, .i .i64),
  (76, .s),
  (77, .tp []),
  (78, .tp [.i .i64, .any]),
  (79, .s),
  (80, .s),
  (81, .tp [.own 5 false, .i .i64]),
  (82, .b),
  (83, .i .i64),
  (84, .tp [.own 3 false, .i .i64]),
  (85, .b),
  (86, .i .i64),
  (87, .i .i64),
  (88, .i .i64),
  (89, .tp []),
  (90, .s),
  (91, .own 124 false),
  (92, .i .i64),
  (93, .tp [.b, .s, .s]),
  (94, .own 9 false),
  (95, .s),
  (96, .b),
  (97, .i .i64),
  (98, .i .i64),
  (99, .i .i64),
  (100, .b),
  (101, .i .i64),
  (102, .b),
  (103, .tp [.ag [.b, .b, .b, .b, .b, .b, .b, .b, .b, .b, .b, .b, .b, .b, .b, .b, .b, .b, .b, .b, .b, .b, .b, .b, .b, .b, .b, .b, .b, .b, .b, .b, .b, .b, .b, .b, .b, .b, .b, .b, .b, .b, .b, .b, .b, .b, .b, .b, .b, .b, .b, .b, .b, .b, .b, .b, .b, .b, .b, .b, .b, .b, .b, .b, .b, .b, .b, .b, .b, .b, .b, .b, .b, .b, .b, .b, .b, .b, .b, .b, .b, .b, .b, .b, .b, .b, .b, .b, .b, .b, .b, .b, .b, .b, .b, .b, .b, .b, .b, .b, .b, .b, .b, .b, .b, .b, .b, .b, .b, .b, .b, .b, .b, .b, .b, .b, .b, .b, .b, .b, .b, .b, .b, .b, .b, .b, .b, .b, .b, .b, .b, .b, .b, .b, .b, .b, .b, .b, .b, .b, .b, .b, .b, .b, .b, .b, .b, .b, .b, .b, .b, .b, .b, .b, .b, .b, .b, .b, .b, .b, .b, .b, .b, .b, .b, .b, .b, .b, .b, .b, .b, .b, .b, .b, .b, .b, .b, .b, .b, .b, .b, .b, .b, .b, .b, .b, .b, .b, .b, .b, .b, .b, .b, .b, .b, .b, .b, .b, .b, .b, .b, .b, .b, .b, .b, .b, .b, .b, .b, .b, .b, .b, .b, .b, .b, .b, .b, .b, .b, .b, .b, .b, .b, .b, .b, .b, .b, .b, .b, .b, .b, .b, .b, .b, .b, .b, .b, .b, .b, .b, .b, .b, .b, .b, .b, .b, .b, .b, .b, .b, .b, .b, .b, .b, .b, .b], .b]),
  (104, .b),
  (105, .tp [.i .i32, .i .i64]),
  (106, .own 9 false),
  (107, .i .i64),
  (109, .any),
  (110, .tp []),
  (111, .tp []),
  (112, .b),
  (113, .b),
  (114, .tp [.b, .b]),
  (115, .tp [.i .i64, .i .i64, .b]),
  (116, .s),
  (117, .i .i64),
  (118, .ag [.b, .s, .s]),
  (119, .s),
  (120, .b),
  (121, .i .i64),
  (123, .i .i64),
  (124, .i .i64),
  (125, .tp []),
  (126, .own 9 false),
  (127, .sl 1),
  (128, .b),
  (129, .b),
  (130, .own 9 false),
  (131, .s),
  (132, .b),
  (133, .i .i64),
  (134, .b),
  (135, .b),
  (136, .tp [.i .i32, .i .i64]),
  (139, .tp [.s, .b]),
  (140, .tp [.own 5 false, .b]),
  (141, .tp [.i .u8, .b]),
  (142, .tp [.s, .b]),
  (143, .b),
  (144, .own 175 false),
  (145, .i .i64),
  (146, .i .i64),
  (147, .i .i64),
  (148, .b),
  (149, .i .i64),
  (150, .s),
  (151, .s),
  (153, .tp [.i .u32, .i .u32]),
  (154, .tp []),
  (155, .tp []),
  (156, .own 9 false),
  (157, .b),
  (158, .tp [.i .i32, .i .i64]),
  (159, .b),
  (160, .any),
  (161, .tp [.s, .b]),
  (162, .b),
  (163, .s),
  (164, .s),
  (165, .s),
  (166, .s),
  (167, .s),
  (168, .s),
  (169, .tp []),
  (170, .b),
  (171, .b),
  (172, .tp [])]
def sigF : List (FuncId × Sh) → FuncId → Sh
  | [], _ => .any
  | x :: l, f => bif Nat.beq f x.1 then x.2 else sigF l f
def cutT (f : FuncId) (p : List Nat) : Bool := false
noncomputable def C : Cfg := { P := Tryd.prog, deep := deepT, byName := byNameT, sig := sigF sigL, ann := annF annT, cut := cutT }
def prim : FuncId → Option PrimT := pCons 121 p121 <| pCons 127 p127 <| pCons 110 p110 <| pCons 79 p79 <| pCons 73 p73 <| pNil
set_option maxRecDepth 100000 in
theorem prims_ok : ∀ g p, prim g = some p → PrimOk Tryd.prog g p := PrimsOk.cons p121_ok <| PrimsOk.cons p127_ok <| PrimsOk.cons p110_ok <| PrimsOk.cons p79_ok <| PrimsOk.cons p73_ok <| PrimsOk.nil
set_option maxRecDepth 1000000 in
theorem f16_run : CallR C prim 16 [] [] (.sc (.bool true), []) := call_fuel (k := 200) (by kernel_rfl)
end Go.Ab.S16
namespace Go.Ab
open Go Go.Proofs Go.RowKit
def p16 : PrimT := fun vs gs => match vs, gs with
  | [], [] => (true, .sc (.bool true), [])
  | _, _ => (false, .bad, [])
set_option maxRecDepth 100000 in
theorem p16_ok : PrimOk Tryd.prog 16 p16 := by
  intro vs gs v gs' h args w F Rs hR hv
  unfold p16 at h
  split at h
  · simp only [Prod.mk.injEq, true_and] at h
    obtain ⟨rfl, rfl⟩ := h
    obtain ⟨k, hk⟩ := S16.f16_run
    refine callE_ok (C := S16.C) (prim := S16.prim) (by kernel_rfl) (fun g p h => S16.prims_ok g p h) k 16 [] [] _ _ ?_ args w F Rs hR hv
    unfold optK
    rw [hk k (Nat.le_refl _)]
  · cases h
end Go.Ab
