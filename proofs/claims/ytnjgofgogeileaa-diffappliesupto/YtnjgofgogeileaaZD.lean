/- Differences of lists, in plain words: the longest common list, the pairs that stay, the hunks. -/
import Derived.Test.YtnjgofgogeileaaZM
namespace Go.Ab
open Go Go.Proofs Go.RowKit
set_option linter.unusedSimpArgs false
set_option linter.unusedVariables false

def eqS : List V → List V → Bool
  | [], [] => true
  | x :: a, y :: b => strEq x.strOf y.strOf && eqS a b
  | _, _ => false
def big60 (x : V) : Bool := decide (((x.cellsOf.length : Nat) : Int) > 60)
def ixBy (f : V → Bool) : List V → Int → Int
  | [], _ => -1
  | x :: l, k => bif f x then k else ixBy f l (k + 1)
def ixV (v : ByteArray) : List V → Int → Int
  | [], _ => -1
  | x :: l, k => bif strEq v x.strOf then k else ixV v l (k + 1)
def hEq (f t : Int) (o w : List V) (f' t' : Int) (o' w' : List V) : Bool := bif f == f' then bif t == t' then bif eqS o o' then eqS w w' else false else false else false
def okH (f t o w : V) : Bool := f.isInt .i64 && (t.isInt .i64 && (okStrs o && okStrs w))
def okHs : List V → Bool
  | [] => true
  | f :: t :: o :: w :: l => okH f t o w && okHs l
  | _ => false
def hsEq : List V → List V → Bool
  | [], [] => true
  | f :: t :: o :: w :: l, f' :: t' :: o' :: w' :: l' => hEq f.intOf t.intOf o.cellsOf w.cellsOf f'.intOf t'.intOf o'.cellsOf w'.cellsOf && hsEq l l'
  | _, _ => false
/-! the longest common list -/
def lcsR (f : List V → Nat) (x : V) : List V → Nat
  | [] => 0
  | y :: b => bif strEq x.strOf y.strOf then f b + 1 else max (f (y :: b)) (lcsR f x b)
def lcs : List V → List V → Nat
  | [] => fun _ => 0
  | x :: a => lcsR (lcs a) x
def cellN (n : Nat) : V := .sc (.int .i64 (n : Int))
def zeros (b : List V) : List V := List.replicate (b.length + 1) (.sc (.int .i64 0))
def zrow (b : List V) : V := .own 3 false (zeros b)
def rowV (a : List V) : List V → List V
  | [] => [.sc (.int .i64 0)]
  | y :: b => cellN (lcs a (y :: b)) :: rowV a b
def rowO (a b : List V) : V := .own 3 false (rowV a b)
def rowS (a b : List V) : V := .sl 1 (rowV a b)
def tabO : List V → List V → List V
  | [], b => [rowO [] b]
  | x :: a, b => rowO (x :: a) b :: tabO a b
def tabS : List V → List V → List V
  | [], b => [rowS [] b]
  | x :: a, b => rowS (x :: a) b :: tabS a b
def eqCell : V → V → Bool
  | .sc (.int .i64 m), .sc (.int .i64 n) => m == n
  | _, _ => false
def eqCells : List V → List V → Bool
  | [], [] => true
  | x :: l, y :: r => eqCell x y && eqCells l r
  | _, _ => false
def ownRow (x : V) (ys : List V) : Bool := V.isOwnD 3 false x && eqCells x.cellsOf ys
def eqTabO : List V → List V → Bool
  | [], [] => true
  | x :: l, y :: r => ownRow x y.cellsOf && eqTabO l r
  | _, _ => false
def eqTab : List V → List V → Bool
  | [], [] => true
  | x :: l, y :: r => (V.isSl 1 x && eqCells x.cellsOf y.cellsOf) && eqTab l r
  | _, _ => false
def qOf (x : V) (f : List V → Nat) (N : Nat) : List V → Nat → Int
  | [], _ => -1
  | y :: b, k => bif strEq x.strOf y.strOf && Nat.beq (f b + 1) N then (k : Int) else qOf x f N b (k + 1)
def pOf (x0 y0 : Int) (N : Nat) (bk : List V) (k : Nat) : List V → Nat → Int × Int
  | [], _ => (x0, y0)
  | x :: a, p => bif decide (0 ≤ qOf x (lcs a) N bk k) then ((p : Int), qOf x (lcs a) N bk k) else pOf x0 y0 N bk k a (p + 1)
def stayP : List V → Nat → List V → Nat → List (Nat × Nat)
  | [], _, _, _ => []
  | x :: a, i, b, k =>
    bif Nat.beq (lcs (x :: a) b) 0 then []
    else bif decide (0 ≤ ixV x.strOf b 0) && Nat.beq (lcs a (b.drop ((ixV x.strOf b 0).toNat + 1)) + 1) (lcs (x :: a) b) then
      (i, k + (ixV x.strOf b 0).toNat) :: stayP a (i + 1) (b.drop ((ixV x.strOf b 0).toNat + 1)) (k + (ixV x.strOf b 0).toNat + 1)
    else stayP a (i + 1) b k
def pairsV : List (Nat × Nat) → List V
  | [] => []
  | x :: l => .sc (.int .i64 (x.1 : Int)) :: .sc (.int .i64 (x.2 : Int)) :: pairsV l
def hkI (a b : List V) (f t p q : Int) : List V :=
  bif decide (p > f) || decide (q > t) then [.sc (.int .i64 f), .sc (.int .i64 t), .sl 1 ((a.drop f.toNat).take (p.toNat - f.toNat)), .sl 1 ((b.drop t.toNat).take (q.toNat - t.toNat))] else []
def hunksP (a b : List V) : List (Nat × Nat) → Int → Int → List V
  | [], f, t => hkI a b f t (a.length : Int) (b.length : Int)
  | x :: l, f, t => hkI a b f t (x.1 : Int) (x.2 : Int) ++ hunksP a b l ((x.1 : Int) + 1) ((x.2 : Int) + 1)
def difL (a b : List V) : List V := hunksP a b (stayP a 0 b 0) 0 0
def diffL (a b : List V) : List V := bif listsE [.sl 1 a, .sl 1 b] != 0 then [] else difL a b
def okPr (la lb : Int) : Int → Int → List V → Bool
  | _, _, [] => true
  | f, t, p :: q :: l => (p.isInt .i64 && q.isInt .i64 && decide (f ≤ p.intOf) && decide (p.intOf < la) && decide (t ≤ q.intOf) && decide (q.intOf < lb)) && okPr la lb (p.intOf + 1) (q.intOf + 1) l
  | _, _, _ => false
def hksP (a b : List V) : Int → Int → List V → List V
  | f, t, p :: q :: l => hkI a b f t p.intOf q.intOf ++ hksP a b (p.intOf + 1) (q.intOf + 1) l
  | _, _, _ => []
def endP : Int → Int → List V → Int × Int
  | _, _, p :: q :: l => endP (p.intOf + 1) (q.intOf + 1) l
  | f, t, _ => (f, t)

end Go.Ab
