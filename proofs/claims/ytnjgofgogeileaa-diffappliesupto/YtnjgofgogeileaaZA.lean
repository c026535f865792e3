/- Hunks that are put into a list, and turned, in plain words. -/
import Derived.Test.YtnjgofgogeileaaZE
namespace Go.Ab
open Go Go.Proofs Go.RowKit
set_option linter.unusedSimpArgs false
set_option linter.unusedVariables false

/-- The walker's state: its last hunk, whether there is one, and how much longer the hunks make a list. -/
structure WS where
  (f t : Int)
  (o w : List V)
  any : Bool
  d : Int
def w0 : WS := ⟨0, 0, [], [], false, 0⟩
def ordB (h r : Int) (o : List V) (any : Bool) : Bool := bif decide (h < 0) then false else bif !any then true else bif decide (h ≥ r) then decide (IntKind.wrap .i64 (h - r) ≥ (o.length : Int)) else false
def placB (h t d : Int) : Bool := bif decide (d < 0) then t == IntKind.wrap .i64 (h + d) else bif decide (h ≤ IntKind.wrap .i64 ((9223372036854775807 : Int) - d)) then t == IntKind.wrap .i64 (h + d) else false
def dltI (d : Int) (o w : List V) : Int := IntKind.wrap .i64 (d + IntKind.wrap .i64 ((w.length : Int) - (o.length : Int)))
def formE (h : Int) (o w : List V) (r : Int) (ro : List V) (any : Bool) : Int :=
  bif listsE [.sl 1 o, .sl 1 w] != 0 then listsE [.sl 1 o, .sl 1 w] else bif IntKind.wrap .i64 ((o.length : Int) + (w.length : Int)) == 0 then 23 else bif !ordB h r ro any then 9 else 0
def fitsE (a : List V) (f : Int) (o : List V) : Bool := eqS ((a.drop f.toNat).take ((IntKind.wrap .i64 (f + (o.length : Int))).toNat - f.toNat)) o
def ofRun (a : List V) : WS → List V → Int × WS
  | s, f :: t :: o :: w :: l =>
    bif formE f.intOf o.cellsOf w.cellsOf s.f s.o s.any != 0 then (formE f.intOf o.cellsOf w.cellsOf s.f s.o s.any, s)
    else bif decide (f.intOf > (a.length : Int)) then (3, s)
    else bif decide (IntKind.wrap .i64 (f.intOf + (o.cellsOf.length : Int)) > (a.length : Int)) then (3, s)
    else bif !fitsE a f.intOf o.cellsOf then (19, s)
    else bif !placB f.intOf t.intOf s.d then (19, s)
    else ofRun a ⟨f.intOf, t.intOf, o.cellsOf, w.cellsOf, true, dltI s.d o.cellsOf w.cellsOf⟩ l
  | s, _ => (0, s)
def ofE (a l : List V) : Int := bif (ofRun a w0 l).1 != 0 then (ofRun a w0 l).1 else bif decide (IntKind.wrap .i64 ((a.length : Int) + (ofRun a w0 l).2.d) > 1000) then 2 else 0
def newN : List V → Nat
  | _ :: _ :: _ :: w :: l => w.cellsOf.length + newN l
  | _ => 0
def oldN : List V → Nat
  | _ :: _ :: o :: _ :: l => o.cellsOf.length + oldN l
  | _ => 0
def rtOk (la : Int) : Int → List V → Bool
  | p, f :: _ :: o :: _ :: l => (decide (p ≤ f.intOf) && decide (f.intOf + (o.cellsOf.length : Int) ≤ la)) && rtOk la (f.intOf + (o.cellsOf.length : Int)) l
  | p, _ => decide (p ≤ la)
def repC (a : List V) : Int → List V → List V
  | p, f :: _ :: o :: w :: l => ((a.drop p.toNat).take (f.intOf.toNat - p.toNat) ++ w.cellsOf) ++ repC a (f.intOf + (o.cellsOf.length : Int)) l
  | _, _ => []
def endR : Int → List V → Int
  | _, f :: _ :: o :: _ :: l => endR (f.intOf + (o.cellsOf.length : Int)) l
  | p, _ => p
def repA (a l : List V) : List V := repC a 0 l ++ a.drop (endR 0 l).toNat
def appE (a l : List V) : Int := bif listsE [.sl 1 a] != 0 then listsE [.sl 1 a] else ofE a l
def appL (a l : List V) : List V := bif appE a l != 0 then [] else repA a l
def trRun (to : Bool) : WS → List V → Int
  | s, f :: t :: o :: w :: l =>
    bif formE f.intOf o.cellsOf w.cellsOf s.f s.o s.any != 0 then formE f.intOf o.cellsOf w.cellsOf s.f s.o s.any
    else bif decide (f.intOf > 1000000) then 3
    else bif to && !placB f.intOf t.intOf s.d then 19
    else trRun to ⟨f.intOf, t.intOf, o.cellsOf, w.cellsOf, true, dltI s.d o.cellsOf w.cellsOf⟩ l
  | _, _ => 0
def trE (to : Bool) (l : List V) : Int := bif decide ((lenE 4 l.length : Int) > 1000) then 2 else trRun to w0 l
def heRun (a : List V) (any to : Bool) : Int → Int → List V → Int × Int
  | en, mv, f :: t :: o :: w :: l =>
    bif listErr o.cellsOf != 0 then (listErr o.cellsOf, mv)
    else bif listErr w.cellsOf != 0 then (listErr w.cellsOf, mv)
    else bif IntKind.wrap .i64 ((o.cellsOf.length : Int) + (w.cellsOf.length : Int)) == 0 then (23, mv)
    else bif decide (f.intOf < en) then (9, mv)
    else bif (any && decide (f.intOf > 1000000)) || (!any && (decide (f.intOf > (a.length : Int)) || decide (IntKind.wrap .i64 (f.intOf + (o.cellsOf.length : Int)) > (a.length : Int)))) then (3, mv)
    else bif !any && !eqS ((a.drop f.intOf.toNat).take o.cellsOf.length) o.cellsOf then (19, mv)
    else bif to && (t.intOf != IntKind.wrap .i64 (f.intOf + mv)) then (19, mv)
    else heRun a any to (IntKind.wrap .i64 (f.intOf + (o.cellsOf.length : Int))) (dltI mv o.cellsOf w.cellsOf) l
  | _, mv, _ => (0, mv)
def heE (a : List V) (any : Bool) (l : List V) (to : Bool) : Int :=
  bif any && decide ((lenE 4 l.length : Int) > 1000) then 2
  else bif (heRun a any to 0 0 l).1 != 0 then (heRun a any to 0 0 l).1
  else bif !any && decide (IntKind.wrap .i64 ((a.length : Int) + (heRun a any to 0 0 l).2) > 1000) then 2 else 0
def turnC : List V → List V
  | f :: t :: o :: w :: l => .sc (.int .i64 t.intOf) :: .sc (.int .i64 f.intOf) :: .sl 1 w.cellsOf :: .sl 1 o.cellsOf :: turnC l
  | _ => []
def turnL (l : List V) : List V := bif trE true l != 0 then [] else turnC l
def turnOk : List V → List V → Bool
  | f :: t :: o :: w :: b, f' :: t' :: o' :: w' :: l => bif f.intOf != t'.intOf then false else bif t.intOf != f'.intOf then false else bif !eqS o.cellsOf w'.cellsOf then false else bif !eqS w.cellsOf o'.cellsOf then false else turnOk b l
  | [], _ => true
  | _, _ => false

end Go.Ab
