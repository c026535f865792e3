/- Texts to the base 64, in plain words: the letters of a text, and line feeds among them. -/
import Derived.Test.YtnjgofgogeileaaZ64
import Derived.Test.YtnjgofgogeileaaZM
namespace Go.Ab
open Go Go.Proofs Go.RowKit
set_option linter.unusedSimpArgs false
set_option linter.unusedVariables false

def room1 (r : List V) : Bool := decide (r.length + 1 ≤ 140737488355328)
def bitsM (v k : Int) : ByteArray := ⟨(bitsN v.toNat k.toNat).toArray⟩
def nthB (l : List UInt8) (j : Nat) : Nat := match l[j]? with | some b => b.toNat | none => 0
def grpL : List UInt8 → Nat
  | a :: b :: c :: _ => a.toNat * 65536 + b.toNat * 256 + c.toNat
  | [a, b] => a.toNat * 65536 + b.toNat * 256
  | [a] => a.toNat * 65536
  | [] => 0
/-- The same as an integer that the kernel cannot unfold. -/
def grpI : List UInt8 → Int
  | a :: b :: c :: _ => ((a.toNat * 65536 + b.toNat * 256 + c.toNat : Nat) : Int)
  | [a, b] => ((a.toNat * 65536 + b.toNat * 256 : Nat) : Int)
  | [a] => ((a.toNat * 65536 : Nat) : Int)
  | [] => 0
def grp3 (s : ByteArray) : Int := grpI s.data.toList
def l64 (n : Nat) : UInt8 := match tbl64[n % 64]? with | some b => b | none => 0
/-- Four letters of a number of 24 bits, of which so many bytes are there. -/
def let4 (size n : Nat) : List UInt8 := [l64 (n / 262144), if 1 ≤ size then l64 (n / 4096) else 61, if 2 ≤ size then l64 (n / 64) else 61, if 3 ≤ size then l64 n else 61]
def enc64 : List UInt8 → List UInt8
  | a :: b :: c :: l => let4 3 (a.toNat * 65536 + b.toNat * 256 + c.toNat) ++ enc64 l
  | [a, b] => let4 2 (a.toNat * 65536 + b.toNat * 256)
  | [a] => let4 1 (a.toNat * 65536)
  | [] => []
def t64s (s : ByteArray) : ByteArray := if 262144 < s.size then ⟨#[]⟩ else u8S (enc64 s.data.toList)
def t64e (s : ByteArray) : Int := if 262144 < s.size then 2 else 0
def bstep' (v : Int) (b : UInt8) : Int := IntKind.wrap .i64 (IntKind.wrap .i64 (v * 2) + IntKind.wrap .i64 (IntKind.wrap .u8 ((b.toNat : Int) - 48)))
def six (l : List UInt8) : Int := ((l ++ [48, 48, 48, 48, 48]).take 6).foldl bstep' 0
def let6N : Nat → List UInt8 → List UInt8
  | 0, _ => []
  | k + 1, l => if l = [] then [] else l64 (six l).toNat :: let6N k (l.drop 6)
def let6s (l : List UInt8) : List UInt8 := let6N l.length l
def bin01 (l : List UInt8) : Bool := l.all fun b => b == 48 || b == 49
def pad4 (s : ByteArray) : ByteArray := s ++ ⟨(List.replicate ((4 - s.size % 4) % 4) (61 : UInt8)).toArray⟩
def brkAt (t : ByteArray) (n : Int) : Nat := (Int.tmod (IntKind.wrap .i64 (IntKind.wrap .i64 (Int.tmod n (IntKind.wrap .i64 ((t.size : Int) + 1)) + (t.size : Int)) + 1)) (IntKind.wrap .i64 ((t.size : Int) + 1))).toNat
def brk (t : ByteArray) (x : V) : ByteArray := (t.extract 0 (brkAt t x.intOf) ++ (⟨#[10]⟩ : ByteArray)) ++ t.extract (brkAt t x.intOf) t.size
def brks (t : ByteArray) (l : List V) : ByteArray := l.foldl brk t
end Go.Ab
