/- The machine's tables for this program, and the first functions. -/
import Derived.Test.YtbeemjiaohaamaaGreatDoorPC2
import Derived.Test.YtbeemjiaohaamaaGreatDoorS16z
import Derived.Test.YtbeemjiaohaamaaGreatDoorP57z
import Derived.Test.YtbeemjiaohaamaaGreatDoorP40
namespace Go.Ab
open Go Go.Proofs Go.RowKit
set_option linter.unusedSimpArgs false
set_option linter.unusedVariables false

def annT : List (FuncId × List Nat × List Nat × List Nm) := [
  (62, [0, 0, 1, 1, 1, 1, 1, 1, 1, 1], [0, 1, 2, 3, 9, 10], [.loc 9]),
  (62, [9, 0, 0, 1, 1, 1, 1, 1, 1, 1, 1], [0, 8, 9, 10], [.loc 9]),
  (14, [0, 1, 0, 1, 1, 1], [0, 3, 4, 7, 8], [.loc 3]),
  (14, [9, 0, 1, 0, 1, 1, 1], [0, 2, 3, 4], [.loc 3]),
  (66, [0, 1, 0, 1], [0, 1, 7, 8], []),
  (66, [9, 0, 1, 0, 1], [4], []),
  (8, [0, 1, 0, 1], [5, 6, 7], []),
  (8, [9, 0, 1, 0, 1], [2], []),
  (33, [0, 1, 0, 1, 1], [3, 6, 7, 8], [.loc 3]),
  (33, [9, 0, 1, 0, 1, 1], [2, 3], [.loc 3]),
  (16, [0, 1, 0, 1, 1], [3, 6, 7, 8], []),
  (16, [9, 0, 1, 0, 1, 1], [2, 3], []),
  (72, [0, 1, 0, 1, 1, 1], [0, 1, 5, 6, 9, 10], [.loc 5]),
  (72, [9, 0, 1, 0, 1, 1, 1], [0, 4, 5, 6], [.loc 5]),
  (39, [0, 1, 0, 1, 1, 1], [0, 1, 5, 6, 9, 10], [.loc 5]),
  (39, [9, 0, 1, 0, 1, 1, 1], [0, 4, 5, 6], [.loc 5]),
  (34, [0, 1, 0, 1], [0, 1, 7, 8], []),
  (34, [9, 0, 1, 0, 1], [4], []),
  (96, [0, 1, 0, 1], [0, 1, 7, 8], [.par 0]),
  (96, [9, 0, 1, 0, 1], [4], [.par 0]),
  (26, [0, 1, 0, 1, 1], [1, 16, 17, 18], [.loc 1]),
  (26, [9, 0, 1, 0, 1, 1], [1, 2], [.loc 1]),
  (9, [0, 1, 0, 1, 1, 1], [1, 14, 15, 16], [.loc 1]),
  (9, [9, 0, 1, 0, 1, 1, 1], [1, 2], [.loc 1]),
  (38, [0, 1, 0, 1, 1], [0, 1, 4, 8, 9, 10], [.par 0]),
  (38, [9, 0, 1, 0, 1, 1], [1, 3, 4], [.par 0]),
  (29, [0, 1, 0, 1, 1, 1], [1, 2, 5, 6, 9, 10], [.loc 2, .loc 5]),
  (29, [9, 0, 1, 0, 1, 1, 1], [4, 5], [.loc 5]),
  (15, [0, 1, 0, 1, 0, 1, 0, 1, 1, 1], [1, 2, 6, 7, 8, 28, 29, 30], [.loc 2, .loc 28]),
  (15, [9, 0, 1, 0, 1, 0, 1, 0, 1, 1, 1], [4, 5, 7], []),
  (15, [0, 1, 0, 1, 1, 1, 1], [1, 2, 6, 7, 8, 55, 56], [.loc 2]),
  (15, [9, 0, 1, 0, 1, 1, 1, 1], [4, 5, 7], []),
  (7, [0, 1, 0, 1, 1, 1, 1], [2, 8, 26, 27, 28], [.loc 2, .loc 8]),
  (7, [0, 1, 0, 1, 1, 1, 0, 0, 1, 1, 0, 0, 1, 0, 1, 1, 1, 1], [2, 8, 11, 26, 27, 28, 58, 59, 60], [.loc 2, .loc 8, .loc 11, .loc 58]),
  (7, [9, 0, 1, 0, 1, 1, 1, 0, 0, 1, 1, 0, 0, 1, 0, 1, 1, 1, 1], [2, 4, 5, 8, 11, 26, 27, 28], [.loc 2, .loc 8, .loc 11]),
  (7, [9, 0, 1, 0, 1, 1, 1, 1], [4, 5, 8], [.loc 8]),
  (3, [0, 1, 0, 1, 1, 1, 1, 1], [2, 5, 6, 8, 42, 43, 44], [.loc 2, .loc 8]),
  (3, [9, 0, 1, 0, 1, 1, 1, 1, 1], [4, 5, 6, 8], [.loc 8])
]
def annF : List (FuncId × List Nat × List Nat × List Nm) → FuncId → List Nat → Option (List Nat × List Nm)
  | [], _, _ => none
  | x :: l, f, p => bif Nat.beq f x.1 && beqN p x.2.1 then some x.2.2 else annF l f p
def deepT (f : FuncId) (t : TypeId) : Bool := (Nat.beq t 98) || false
def byNameT (f : FuncId) : Bool := Nat.beq f 59 || Nat.beq f 60 || Nat.beq f 61 || Nat.beq f 68 || Nat.beq f 93 || Nat.beq f 98 || Nat.beq f 128 || false
def sigL : List (FuncId × Sh) := [(3, .b),
  (4, .b),
  (5, .b),
  (6, .b),
  (7, .tp [.s, .i .i64]),
  (8, .i .i64),
  (9, .i .i64),
  (10, .i .i64),
  (11, .b),
  (12, .b),
  (13, .b),
  (14, .sl 1),
  (15, .tp [.s, .b]),
  (16, .s),
  (17, .tp [.s, .i .i64]),
  (18, .b),
  (19, .i .i64),
  (20, .own 9 false),
  (21, .tp [.s, .i .i64]),
  (22, .tp [.own 9 false, .i .i64]),
  (23, .tp [.s, .i .i64]),
  (24, .b),
  (25, .own 9 false),
  (26, .i .i64),
  (27, .i .i64),
  (28, .sl 1),
  (29, .s),
  (30, .own 9 false),
  (31, .b),
  (32, .s),
  (33, .s),
  (34, .b),
  (35, .b),
  (36, .b),
  (37, .tp [.s, .i .i64]),
  (38, .b),
  (39, .own 62 false),
  (40, .b),
  (41, .s),
  (42, .s),
  (43, .s),
  (44, .tp [.ag [.b, .s], .i .i64, .b]),
  (45, .b),
  (46, .i .i64),
  (47, .ag [.b, .s]),
  (48, .s),
  (49, .tp [.ag [.b, .s, .i .i64], .i .i64]),
  (50, .b),
  (51, .ag [.b, .s, .i .i64]),
  (52, .ag [.b, .s, .i .i64]),
  (53, .i .i64),
  (54, .tp [.s, .b]),
  (55, .b),
  (56, .s),
  (57, .i .i64),
  (58, .s),
  (59, .tp [.i .i64, .any]),
  (60, .any),
  (61, .s),
  (62, .own 9 false),
  (63, .b),
  (64, .b),
  (65, .tp []),
  (66, .i .i64),
  (67, .i .i64),
  (68, .tp []),
  (69, .i .i64),
  (70, .s),
  (71, .b),
  (72, .own 121 false),
  (73, .s),
  (74, .s),
  (75, .s),
  (76, .tp [.s, .b]),
  (77, .tp [.s, .s, .b]),
  (78, .b),
  (79, .i .i64),
  (80, .s),
  (81, .s),
  (82, .i .i64),
  (83, .s),
  (84, .b),
  (85, .s),
  (86, .s),
  (87, .i .i64),
  (88, .s),
  (89, .ag [.b, .s, .i .i64]),
  (90, .i .i64),
  (91, .i .i64),
  (92, .s),
  (93, .tp []),
  (94, .own 9 false),
  (95, .i .i64),
  (96, .i .i64),
  (97, .tp []),
  (98, .tp []),
  (99, .i .i64),
  (100, .i .i64),
  (101, .own 9 false),
  (102, .sl 1),
  (103, .b),
  (104, .b),
  (105, .s),
  (106, .tp [.s, .b]),
  (107, .tp [.s, .s, .b]),
  (108, .s),
  (109, .tp [.ag [.b, .b, .b, .b, .b, .b, .b, .b, .b, .b, .b, .b, .b, .b, .b, .b, .b, .b, .b, .b, .b, .b, .b, .b, .b, .b, .b, .b, .b, .b, .b, .b, .b, .b, .b, .b, .b, .b, .b, .b, .b, .b, .b, .b, .b, .b, .b, .b, .b, .b, .b, .b, .b, .b, .b, .b, .b, .b, .b, .b, .b, .b, .b, .b, .b, .b, .b, .b, .b, .b, .b, .b, .b, .b, .b, .b, .b, .b, .b, .b, .b, .b, .b, .b, .b, .b, .b, .b, .b, .b, .b, .b, .b, .b, .b, .b, .b, .b, .b, .b, .b, .b, .b, .b, .b, .b, .b, .b, .b, .b, .b, .b, .b, .b, .b, .b, .b, .b, .b, .b, .b, .b, .b, .b, .b, .b, .b, .b, .b, .b, .b, .b, .b, .b, .b, .b, .b, .b, .b, .b, .b, .b, .b, .b, .b, .b, .b, .b, .b, .b, .b, .b, .b, .b, .b, .b, .b, .b, .b, .b, .b, .b, .b, .b, .b, .b, .b, .b, .b, .b, .b, .b, .b, .b, .b, .b, .b, .b, .b, .b, .b, .b, .b, .b, .b, .b, .b, .b, .b, .b, .b, .b, .b, .b, .b, .b, .b, .b, .b, .b, .b, .b, .b, .b, .b, .b, .b, .b, .b, .b, .b, .b, .b, .b, .b, .b, .b, .b, .b, .b, .b, .b, .b, .b, .b, .b, .b, .b, .b, .b, .b, .b, .b, .b, .b, .b, .b, .b, .b, .b, .b, .b, .b, .b, .b, .b, .b, .b, .b, .b, .b, .b, .b, .b, .b, .b], .b]),
  (110, .s),
  (111, .s),
  (112, .tp [.i .u64, .i .u64]),
  (113, .b),
  (114, .i .i64),
  (115, .i .i64),
  (116, .i .i64),
  (117, .i .i64),
  (118, .i .i64),
  (120, .i .i64),
  (121, .i .i64),
  (122, .b),
  (124, .i .i64),
  (125, .tp [.i .i32, .i .i64]),
  (128, .tp []),
  (129, .tp []),
  (130, .s),
  (131, .i .i64),
  (132, .ag [.b, .s, .s]),
  (133, .b),
  (134, .s),
  (135, .i .i64),
  (136, .tp []),
  (137, .tp [.own 5 false, .s]),
  (138, .b),
  (139, .b),
  (140, .b),
  (141, .tp [.i .u32, .i .u32]),
  (142, .tp [.i .u64, .i .u64]),
  (143, .b),
  (145, .tp [.i .u32, .i .u32]),
  (146, .tp [.i .i32, .i .i64]),
  (147, .tp []),
  (148, .i .i64),
  (149, .s),
  (150, .i .i64),
  (151, .i .i64),
  (152, .i .i64),
  (153, .b),
  (154, .i .i64),
  (155, .i .i64),
  (156, .tp []),
  (157, .s),
  (158, .s),
  (159, .s),
  (160, .i .i64),
  (161, .i .i64),
  (162, .i .i64),
  (163, .b),
  (164, .tp [.i .i32, .i .i64]),
  (165, .b),
  (900018, .tp [.sl 1, .i .i64]),
  (900053, .sl 1)]
def sigF : List (FuncId × Sh) → FuncId → Sh
  | [], _ => .any
  | x :: l, f => bif Nat.beq f x.1 then x.2 else sigF l f
def cutT (f : FuncId) (p : List Nat) : Bool := false
def snapT (f : FuncId) : Bool := Nat.beq f 900092 || false
noncomputable def C : Cfg := { P := Tryz.prog, deep := deepT, byName := byNameT, sig := sigF sigL, ann := annF annT, cut := cutT, snap := snapT }
def prim : FuncId → Option PrimT := pCons 118 p118 <| pCons 102 p102 <| pCons 93 p93 <| pCons 61 p61 <| pCons 95 p95 <| pCons 12 p12 <| pCons 57 p57 <| pCons 94 p94 <| pCons 32 p32 <| pNil
set_option maxRecDepth 100000 in
theorem prims_ok : ∀ g p, prim g = some p → PrimOk Tryz.prog g p := PrimsOk.cons p118_ok <| PrimsOk.cons p102_ok <| PrimsOk.cons p93_ok <| PrimsOk.cons p61_ok <| PrimsOk.cons p95_ok <| PrimsOk.cons p12_ok <| PrimsOk.cons p57_ok <| PrimsOk.cons p94_ok <| PrimsOk.cons p32_ok <| PrimsOk.nil
def k118 : PrimT := p118
set_option maxRecDepth 100000 in
theorem k118_ok : ∀ vs gs x, k118 vs gs = (true, x) → CallR C prim 118 vs gs x := fun vs gs x h => call_prim (by rfl) h
def k102 : PrimT := p102
set_option maxRecDepth 100000 in
theorem k102_ok : ∀ vs gs x, k102 vs gs = (true, x) → CallR C prim 102 vs gs x := fun vs gs x h => call_prim (by rfl) h
def k93 : PrimT := p93
set_option maxRecDepth 100000 in
theorem k93_ok : ∀ vs gs x, k93 vs gs = (true, x) → CallR C prim 93 vs gs x := fun vs gs x h => call_prim (by rfl) h
def k61 : PrimT := p61
set_option maxRecDepth 100000 in
theorem k61_ok : ∀ vs gs x, k61 vs gs = (true, x) → CallR C prim 61 vs gs x := fun vs gs x h => call_prim (by rfl) h
def k95 : PrimT := p95
set_option maxRecDepth 100000 in
theorem k95_ok : ∀ vs gs x, k95 vs gs = (true, x) → CallR C prim 95 vs gs x := fun vs gs x h => call_prim (by rfl) h
def k12 : PrimT := p12
set_option maxRecDepth 100000 in
theorem k12_ok : ∀ vs gs x, k12 vs gs = (true, x) → CallR C prim 12 vs gs x := fun vs gs x h => call_prim (by rfl) h
def k57 : PrimT := p57
set_option maxRecDepth 100000 in
theorem k57_ok : ∀ vs gs x, k57 vs gs = (true, x) → CallR C prim 57 vs gs x := fun vs gs x h => call_prim (by rfl) h
def k94 : PrimT := p94
set_option maxRecDepth 100000 in
theorem k94_ok : ∀ vs gs x, k94 vs gs = (true, x) → CallR C prim 94 vs gs x := fun vs gs x h => call_prim (by rfl) h
def k32 : PrimT := p32
set_option maxRecDepth 100000 in
theorem k32_ok : ∀ vs gs x, k32 vs gs = (true, x) → CallR C prim 32 vs gs x := fun vs gs x h => call_prim (by rfl) h

end Go.Ab
