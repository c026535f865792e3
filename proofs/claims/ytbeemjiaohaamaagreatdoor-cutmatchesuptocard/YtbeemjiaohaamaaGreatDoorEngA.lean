/- The engine, part A: an abstract machine for Go code in its Lean form, and that what it computes is what the code does. -/
import Derived.Calls
import Derived.Orders
import Derived.Laws.Sem
import GoSem.ClaimData
import Derived.Lib.LaidTab
import Derived.Lib.ItoaNum
import Derived.Below
import Derived.Laws.AppendOwn
import Derived.Laws.Tables
import Derived.Laws.CopyRow
import Derived.Laws.Cells
import Derived.Laws.Append
import Derived.Laws.Entries
import Derived.Laws.StructEq
/- The abstract machine: Go's intermediate code run over values, with own slices and boxes by name. Definitions alone; nothing is assumed. -/
namespace Go.Ab
open Go

/-- A region's name: the slot that made it, or the place among the regions handed in ('hand': what is on its way, in proofs). -/
inductive Nm where
  | loc (i : Nat)
  | par (i : Nat)
  | hand
  deriving DecidableEq, Repr, Inhabited

def Nm.eq : Nm → Nm → Bool
  | .loc i, .loc j => Nat.beq i j
  | .par i, .par j => Nat.beq i j
  | .hand, .hand => true
  | _, _ => false

def Nm.mem (n : Nm) : List Nm → Bool
  | [] => false
  | m :: l => Nm.eq n m || n.mem l

/-- The place of a cell that holds an own slice: a root cell of a region, and from there cells within own slices. -/
structure Pl where
  r : Nm
  j : Nat
  p : List Nat
  e : TypeId
  d : Bool
  deriving DecidableEq, Repr, Inhabited

inductive V where
  | sc (v : Value)
  | nl (e : TypeId)
  | sl (sz : Nat) (xs : List V)
  | own (e : TypeId) (d : Bool) (xs : List V)
  | ag (xs : List V)
  | tp (xs : List V)
  | fn (f : FuncId) (first caps : List V)
  | ifc (t : TypeId) (v : V)
  | ref (q : Pl)
  | vw (q : Pl) (lo hi : Nat)
  | ptrB (r : Nm) (j : Nat)
  | ptrE (q : Pl) (i off : Nat)
  | pim (n : Nat) (xs : List V) (off : Nat)
  | slf
  | bad
  deriving Inhabited

structure Rg where
  box : Bool
  row : List V
  deriving Inhabited

structure St where
  env : Nat → V
  regs : Nm → Option Rg

/-! ### cells at places -/
def nthV : List V → Nat → V
  | [], _ => .bad
  | x :: _, 0 => x
  | _ :: l, j + 1 => nthV l j

def ownXs : V → List V
  | .own _ _ xs => xs
  | _ => []

def getV : List Nat → List V → Nat → V
  | [], row, j => nthV row j
  | i :: p, row, j => getV p (ownXs (nthV row j)) i

def setOwn (f : List V → List V) : V → V
  | .own e d xs => .own e d (f xs)
  | v => v

def setV : List Nat → List V → Nat → V → List V
  | [], row, j, x => row.set j x
  | i :: p, row, j, x => row.set j (setOwn (fun xs => setV p xs i x) (nthV row j))

/-! ### types -/
section types
variable (P : Program)
def szT (t : TypeId) : Nat := match P.info? t with | some i => i.size | none => 0
def bytesT (t : TypeId) : Nat := match P.info? t with | some i => i.bytes | none => 0
def elT (t : TypeId) : Option TypeId := match P.underlying t with | some (.slice e) => some e | _ => none
def aggT (t : TypeId) : Bool := match P.underlying t with | some (.struct _) => true | some (.array _ _) => true | _ => false
def cellTys : Nat → TypeId → List TypeId
  | 0, t => [t]
  | n + 1, t => match P.underlying t with
    | some (.struct fs) => fs.toList.flatMap fun f => cellTys n f.type
    | some (.array k e) => (List.replicate k (cellTys n e)).flatten
    | _ => [t]
def cellsT (t : TypeId) : List TypeId := cellTys P 8 t
def isStrT (t : TypeId) : Bool := match P.underlying t with | some .string => true | _ => false
/-- Is the type known, with its cells? -/
def tyOk (t : TypeId) : Bool := (P.underlying t).isSome && Nat.beq (cellsT P t).length (szT P t)
def hasSlice (t : TypeId) : Bool := (cellsT P t).any fun c => (elT P c).isSome
/-- A struct's field: where its cells begin, and its type. -/
def fieldT (t : TypeId) (f : Nat) : Option Field := match P.underlying t with | some (.struct fs) => fs[f]? | _ => none
end types

def flat : Value → Bool
  | .bool _ | .int _ _ | .string _ | .nilFunc | .nilIface => true
  | .pointer none | .map none | .chan none => true
  | _ => false

/-- A cell of a constant, as a part of a slot's value. -/
def cellEnv (P : Program) : Value → TypeId → V
  | .slice none 0 0, c => match elT P c with | some e => .nl e | none => .bad
  | v, _ => bif flat v then .sc v else .bad
/-- A cell of a zero value, as a region holds it. -/
def cellRow (P : Program) (deep : TypeId → Bool) (keep : Bool) : Value → TypeId → V
  | .slice none 0 0, c => match elT P c with | some e => (bif keep then .own e (deep e) [] else .sl (szT P e) []) | none => .bad
  | .pointer none, c => bif deep c then .slf else .sc (.pointer none)
  | v, _ => bif flat v then .sc v else .bad

/-- A struct of a pointer to itself and of bytes (strings.Builder). -/
def selfT (P : Program) (t : TypeId) : Bool := Nat.blt t P.types.size && match P.underlying t with
  | some (.struct fs) => (match fs.toList with
    | [f, g] => (match P.underlying f.type, P.underlying g.type with
      | some (.pointer u), some (.slice e) => Nat.beq u t && (match P.underlying e with | some (.int .u8) => true | _ => false)
      | _, _ => false)
    | _ => false)
  | _ => false
def V.noSlf : V → Bool
  | .slf => false
  | _ => true

/-- A constant of a type, as a value of a slot. -/
def constV (P : Program) (ty : TypeId) : Value → V
  | .slice none 0 0 => match elT P ty with | some e => .nl e | none => .bad
  | .agg cs => bif Nat.beq cs.size (cellsT P ty).length then .ag ((cs.toList.zip (cellsT P ty)).map fun x => cellEnv P x.1 x.2) else .bad
  | v => bif flat v then .sc v else .bad

def opd (P : Program) (env : Nat → V) (x : TypeId × Operand) : V :=
  match x.2 with
  | .tmp t => env t
  | .const v => constV P x.1 v
  | .func f => .fn f [] []
  | .global _ => .bad

/-! ### names in values -/
mutual
def V.names : V → List Nm
  | .ag xs => namesL xs
  | .tp xs => namesL xs
  | .fn _ a b => namesL a ++ namesL b
  | .ifc _ v => v.names
  | .ref q => [q.r]
  | .vw q _ _ => [q.r]
  | .ptrB r _ => [r]
  | .ptrE q _ _ => [q.r]
  | _ => []
def namesL : List V → List Nm
  | [] => []
  | x :: xs => x.names ++ namesL xs
end

/-- Names that are no longer good: 'd': those of cells within own slices; 'r': those of own slices in root cells, too; 'a': all. -/
structure Kl where
  d : List Nm
  r : List Nm
  a : List Nm
  deriving Inhabited

def Kl.no : Kl := ⟨[], [], []⟩
def Kl.and (x y : Kl) : Kl := ⟨x.d ++ y.d, x.r ++ y.r, x.a ++ y.a⟩
def Kl.isNo (x : Kl) : Bool := x.d.isEmpty && x.r.isEmpty && x.a.isEmpty
def Kl.names (x : Kl) : List Nm := x.d ++ x.r ++ x.a
/-- Is the own slice at a place, or a cell of it, named in vain? -/
def Kl.hits (x : Kl) (q : Pl) : Bool := q.r.mem x.a || q.r.mem x.r || (!q.p.isEmpty && q.r.mem x.d)

mutual
def V.kill (k : Kl) : V → V
  | .ag xs => .ag (killL k xs)
  | .tp xs => .tp (killL k xs)
  | .fn f a b => .fn f (killL k a) (killL k b)
  | .ifc t v => .ifc t (v.kill k)
  | .ref q => bif k.hits q then .bad else .ref q
  | .vw q lo hi => bif k.hits q then .bad else .vw q lo hi
  | .ptrB r j => bif r.mem k.a then .bad else .ptrB r j
  | .ptrE q i o => bif k.hits q then .bad else .ptrE q i o
  | v => v
def killL (k : Kl) : List V → List V
  | [] => []
  | x :: xs => x.kill k :: killL k xs
end

/- Other names for the names. -/
mutual
def V.ren (f : Nm → Nm) : V → V
  | .ag xs => .ag (renL f xs)
  | .tp xs => .tp (renL f xs)
  | .fn g a b => .fn g (renL f a) (renL f b)
  | .ifc t v => .ifc t (v.ren f)
  | .ref q => .ref { q with r := f q.r }
  | .vw q lo hi => .vw { q with r := f q.r } lo hi
  | .ptrB r j => .ptrB (f r) j
  | .ptrE q i o => .ptrE { q with r := f q.r } i o
  | v => v
def renL (f : Nm → Nm) : List V → List V
  | [] => []
  | x :: xs => x.ren f :: renL f xs
end

/-- What an operation does. -/
structure Eff where
  ok : Bool
  val : V
  /-- the regions, of those that the operation looks at and of its own -/
  regs : Nm → Option Rg
  /-- regions that are written, made or dropped -/
  w : List Nm
  k : Kl

def Eff.no : Eff := ⟨false, .bad, fun _ => none, [], .no⟩
def Eff.put (v : V) : Eff := ⟨true, v, fun _ => none, [], .no⟩
def Eff.when (b : Bool) (e : Eff) : Eff := { e with ok := b && e.ok }

def setR (rd : Nm → Option Rg) (n : Nm) (x : Option Rg) : Nm → Option Rg := fun m => bif Nm.eq m n then x else rd m

/-! ### slices -/
/-- How many elements of so many cells each. -/
def lenE (sz n : Nat) : Nat := bif Nat.beq sz 1 then n else n / sz

/- An own slice becomes one that nobody writes. -/
mutual
def frz (P : Program) : V → V
  | .own e d xs => .sl (szT P e) (bif d then frzL P xs else xs)
  | .slf => .bad
  | v => v
def frzL (P : Program) : List V → List V
  | [] => []
  | x :: xs => frz P x :: frzL P xs
end

/-- The own slice at a place: its element type, whether it may hold own slices, its cells. -/
def ownAt (rd : Nm → Option Rg) (q : Pl) : Option (TypeId × Bool × List V) :=
  match rd q.r with
  | some rg => match getV q.p rg.row q.j with
    | .own e d xs => some (e, d, xs)
    | _ => none
  | none => none

def V.isOwnD (e : TypeId) (d : Bool) : V → Bool
  | .own e' d' _ => Nat.beq e' e && (d' == d)
  | _ => false
def V.cellsOf : V → List V
  | .sl _ xs => xs
  | .own _ _ xs => xs
  | _ => []
/-- The same, as it should be by the place's own word: whether it is so, and the cells. -/
def ownB (rd : Nm → Option Rg) (q : Pl) : Bool × List V :=
  match rd q.r with
  | some rg => ((getV q.p rg.row q.j).isOwnD q.e q.d, (getV q.p rg.row q.j).cellsOf)
  | none => (false, [])

/-- The own slice at a place is taken away: what is left of the regions; which names are no longer good. -/
def takeAt (rd : Nm → Option Rg) (q : Pl) : (Nm → Option Rg) × Kl :=
  match rd q.r with
  | none => (rd, .no)
  | some ⟨false, [_]⟩ => match q.p with
    | [] => (setR rd q.r none, ⟨[], [], [q.r]⟩)
    | _ => (setR rd q.r ((rd q.r).map fun g => { g with row := setV q.p g.row q.j .bad }), ⟨[q.r], [], []⟩)
  | _ => (setR rd q.r ((rd q.r).map fun g => { g with row := setV q.p g.row q.j .bad }), match q.p with | [] => ⟨[], [q.r], []⟩ | _ => ⟨[q.r], [], []⟩)

/-- A slot's value, taken for reading: its element type's cells, where it is a slice. -/
structure Sli where
  ok : Bool
  sz : Nat
  d : Bool
  xs : List V

def sliOf (P : Program) (rd : Nm → Option Rg) (e : TypeId) : V → Sli
  | .nl _ => ⟨true, szT P e, false, []⟩
  | .sl sz xs => ⟨Nat.beq sz (szT P e), sz, false, xs⟩
  | .ref q => ⟨(ownB rd q).1 && Nat.beq q.e e, szT P e, q.d, (ownB rd q).2⟩
  | .vw q lo hi => ⟨(ownB rd q).1 && Nat.beq q.e e, szT P e, q.d, ((ownB rd q).2.drop (lo * szT P e)).take ((hi - lo) * szT P e)⟩
  | _ => ⟨false, 0, false, []⟩

/-- A box's cells, as they are now. -/
def snapB (P : Program) (rd : Nm → Option Rg) (r : Nm) (j : Nat) : V := match rd r with
  | some ⟨true, row⟩ => .pim row.length (frzL P row) j
  | _ => .bad

/- Names stand for what they name: a value that is read by value. -/
mutual
def V.byVal (P : Program) (sn : Bool) (rd : Nm → Option Rg) : V → V
  | .nl e => .sl (szT P e) []
  | .ag xs => .ag (byValL P sn rd xs)
  | .ref q => frz P (.own q.e q.d (ownB rd q).2)
  | .vw q lo hi => frz P (.own q.e q.d (((ownB rd q).2.drop (lo * szT P q.e)).take ((hi - lo) * szT P q.e)))
  | .ptrB r j => bif sn then snapB P rd r j else .ptrB r j
  | v => v
def byValL (P : Program) (sn : Bool) (rd : Nm → Option Rg) : List V → List V
  | [] => []
  | x :: xs => x.byVal P sn rd :: byValL P sn rd xs
end

/- Is what is named there? -/
mutual
def V.seen (rd : Nm → Option Rg) : V → Bool
  | .ag xs => seenL rd xs
  | .ref q => (ownB rd q).1
  | .vw q _ _ => (ownB rd q).1
  | _ => true
def seenL (rd : Nm → Option Rg) : List V → Bool
  | [] => true
  | x :: xs => x.seen rd && seenL rd xs
end

/- A value by which nothing is named. -/
mutual
def V.imm : V → Bool
  | .ag xs => immL xs
  | .tp xs => immL xs
  | .fn _ a b => immL a && immL b
  | .ifc _ v => v.imm
  | .sc _ | .sl _ _ | .pim _ _ _ => true
  | _ => false
def immL : List V → Bool
  | [] => true
  | x :: xs => x.imm && immL xs
end

def V.isCell : V → Bool
  | .ag _ | .tp _ => false
  | _ => true
/-- What one cell may hold by which nothing is named. -/
def V.cim (x : V) : Bool := x.isCell && x.imm
def cimL : List V → Bool
  | [] => true
  | x :: xs => x.cim && cimL xs
/-- The same, or a cell of which nothing is known. -/
def V.cib : V → Bool
  | .bad => true
  | x => x.cim
def cibL : List V → Bool
  | [] => true
  | x :: xs => x.cib && cibL xs

/-! ### what is put into a region: own slices move in -/
structure Abs where
  ok : Bool
  xs : List V
  rd : Nm → Option Rg
  k : Kl

section put
variable (P : Program) (deep : TypeId → Bool)
/-- One cell. 'keep': an own slice stays own. -/
def absC (keep : Bool) (rd : Nm → Option Rg) : V → Abs
  | .nl e => ⟨true, [bif keep then .own e (deep e) [] else .sl (szT P e) []], rd, .no⟩
  | .ref q => let (rd', k) := takeAt rd q
    ⟨(ownB rd q).1, [bif keep then .own q.e q.d (ownB rd q).2 else frz P (.own q.e q.d (ownB rd q).2)], rd', k⟩
  | .vw q lo hi => let (rd', k) := takeAt rd q
    let ys := ((ownB rd q).2.drop (lo * szT P q.e)).take ((hi - lo) * szT P q.e)
    ⟨(ownB rd q).1 && (!keep || Nat.beq lo 0), [bif keep then .own q.e q.d ys else frz P (.own q.e q.d ys)], rd', k⟩
  | v => ⟨v.cim, [v], rd, .no⟩
def absL (keep : Bool) : List V → (Nm → Option Rg) → Abs
  | [], rd => ⟨true, [], rd, .no⟩
  | x :: xs, rd => let a := absC P deep keep rd x
    let b := absL keep xs a.rd
    ⟨a.ok && b.ok, a.xs ++ b.xs, b.rd, a.k.and b.k⟩
/-- A value of a slot, as cells. -/
def absV (keep : Bool) (rd : Nm → Option Rg) : V → Abs
  | .ag xs => absL P deep keep xs rd
  | v => absC P deep keep rd v
end put

def zeroCells (P : Program) (t : TypeId) : List Value :=
  match P.info? t with
  | some i => match i.zero with
    | some z => z.cells.toList
    | none => []
  | none => []

/-- A zero's cells are as many as the type's, each of them one. -/
def zeroOne (P : Program) (t : TypeId) : Bool := (zeroCells P t).all Value.oneCell'

/-- Cells of a type's zero, as a region holds them. -/
def zeroRow (P : Program) (deep : TypeId → Bool) (keep : Bool) (t : TypeId) : List V := ((zeroCells P t).zip (cellsT P t)).map fun x => cellRow P deep keep x.1 x.2

/-- Cells of a type's zero, as a slot holds them. -/
def zeroEnv (P : Program) (t : TypeId) : List V := ((zeroCells P t).zip (cellsT P t)).map fun x => cellEnv P x.1 x.2

/-! ### what is read out of a cell, by its type -/
def V.intOf : V → Int
  | .sc (.int _ n) => n
  | _ => 0
def V.isInt (k : IntKind) : V → Bool
  | .sc (.int k' _) => decide (k' = k)
  | _ => false
def V.boolOf : V → Bool
  | .sc (.bool b) => b
  | _ => false
def V.isBool : V → Bool
  | .sc (.bool _) => true
  | _ => false
def V.strOf : V → ByteArray
  | .sc (.string s) => s
  | _ => .empty
def V.isStr : V → Bool
  | .sc (.string _) => true
  | _ => false
def V.isSl (sz : Nat) : V → Bool
  | .sl sz' _ => Nat.beq sz' sz
  | _ => false
def V.isOwnB : V → Bool
  | .own _ _ _ => true
  | _ => false
def V.isOwn (e : TypeId) : V → Bool
  | .own e' _ _ => Nat.beq e' e
  | _ => false
def V.deepOf : V → Bool
  | .own _ d _ => d
  | _ => false
def V.good : V → Bool
  | .bad => false
  | .own _ _ _ => false
  | .nl _ => false
  | .slf => false
  | _ => true

/-- A cell of type 'c', read: 'q': its place, where it may hold an own slice. -/
def viewC (P : Program) (deep : TypeId → Bool) (q : Option Pl) (c : TypeId) (x : V) : Bool × V :=
  match P.underlying c with
  | some (.int k) => (x.isInt k, .sc (.int k x.intOf))
  | some .bool => (x.isBool, .sc (.bool x.boolOf))
  | some .string => (x.isStr, .sc (.string x.strOf))
  | some (.slice e) => match q with
    | some q => (x.isOwnD e (deep e), .ref { q with e := e, d := deep e })
    | none => (x.isSl (szT P e), .sl (szT P e) x.cellsOf)
  | _ => (x.cim, x)

/-- A root cell of a region: what it holds is told by its own shape. -/
def viewB (P : Program) (r : Nm) (j : Nat) (c : TypeId) (x : V) : Bool × V :=
  match x with
  | .own e d _ => ((elT P c).isSome, .ref ⟨r, j, [], e, d⟩)
  | .sl sz xs => (true, .sl sz xs)
  | x => (x.cim, x)

def allOk : List (Bool × V) → Bool
  | [] => true
  | x :: l => x.1 && allOk l

/-- Cells that have been read make a value of the type. -/
def mkV (P : Program) (t : TypeId) (l : List (Bool × V)) : Eff :=
  Eff.when (tyOk P t && allOk l) (bif aggT P t then Eff.put (.ag (l.map (·.2))) else Eff.put (match l with | x :: _ => x.2 | _ => .bad))

/-- Cells k, k + 1, .. numbered with the types. -/
def numbered : Nat → List TypeId → List (Nat × TypeId)
  | _, [] => []
  | k, c :: cs => (k, c) :: numbered (k + 1) cs

def semLoad (P : Program) (deep : TypeId → Bool) (rd : Nm → Option Rg) (t : TypeId) : V → Eff
  | .ptrB r j => match rd r with
    | some ⟨true, row⟩ => Eff.when (Nat.ble (j + (cellsT P t).length) row.length) (mkV P t ((numbered j (cellsT P t)).map fun (k, c) => viewB P r k c (nthV row k)))
    | _ => Eff.no
  | .ptrE q i off => Eff.when ((ownB rd q).1 && Nat.ble (off + (cellsT P t).length) (szT P q.e))
        (mkV P t ((numbered (i * szT P q.e + off) (cellsT P t)).map fun (k, c) => viewC P deep (bif q.d then some { q with p := q.p ++ [k] } else none) c (nthV (ownB rd q).2 k)))
  | .pim n xs off => Eff.when (Nat.ble (off + (cellsT P t).length) n)
      (mkV P t ((numbered off (cellsT P t)).map fun (k, c) => viewC P deep none c (nthV xs k)))
  | _ => Eff.no

def setMany : Nat → List V → List V → List V
  | _, [], row => row
  | k, x :: xs, row => setMany (k + 1) xs (row.set k x)

/-- The row at a place is written anew. -/
def mapAt (f : List V → List V) (q : Pl) (g : Rg) : Rg :=
  { g with row := setV q.p g.row q.j (setOwn f (getV q.p g.row q.j)) }

section sem
variable (P : Program) (deep : TypeId → Bool)

def semStore (rd : Nm → Option Rg) (t : TypeId) (x : V) : V → Eff
  | .ptrB r j => match rd r with
    | some ⟨true, _⟩ =>
      let a := absV P deep true rd x
      match a.rd r with
      | some ⟨true, row⟩ =>
        Eff.when (a.ok && tyOk P t && Nat.beq a.xs.length (szT P t) && Nat.ble (j + a.xs.length) row.length && !(r.mem a.k.a) && (hasSlice P t || ((row.drop j).take a.xs.length).all (fun y => !y.isOwnB)))
          ⟨true, .bad, setR a.rd r (some ⟨true, setMany j a.xs row⟩), r :: a.k.names, a.k.and ⟨[], bif hasSlice P t then [r] else [], []⟩⟩
      | _ => Eff.no
    | _ => Eff.no
  | .ptrE q i off =>
    let a := absV P deep q.d rd x
    match a.rd q.r with
    | some g =>
      Eff.when ((ownB rd q).1 && a.ok && (ownB a.rd q).1 && tyOk P t && Nat.beq a.xs.length (szT P t) && Nat.ble (off + a.xs.length) (szT P q.e))
        ⟨true, .bad, setR a.rd q.r (some (mapAt (setMany (i * szT P q.e + off) a.xs) q g)), q.r :: a.k.names, a.k.and ⟨bif q.d then [q.r] else [], [], []⟩⟩
    | none => Eff.no
  | _ => Eff.no

/-- A new region of the operation's own. -/
def newReg (d : Nat) (rd : Nm → Option Rg) (g : Rg) (v : V) (k : Kl) : Eff :=
  ⟨true, v, setR rd (.loc d) (some g), .loc d :: k.names, k.and ⟨[], [], [.loc d]⟩⟩

def arrT (P : Program) (t : TypeId) : Option (Nat × TypeId) := match P.underlying t with
  | some (.array n e) => some (n, e)
  | _ => none
def semIndexArr (t : TypeId) (x : V) (n : Int) : Eff :=
  match arrT P t with
  | some (len, e) => (match x with
    | .ptrB r j => Eff.when (decide (0 ≤ n) && decide (n < (len : Int)) && (P.info? e).isSome) (Eff.put (.ptrB r (j + n.toNat * szT P e)))
    | .ptrE q k off => Eff.when (decide (0 ≤ n) && decide (n < (len : Int)) && (P.info? e).isSome) (Eff.put (.ptrE q k (off + n.toNat * szT P e)))
    | .pim m xs off => Eff.when (decide (0 ≤ n) && decide (n < (len : Int)) && (P.info? e).isSome) (Eff.put (.pim m xs (off + n.toNat * szT P e)))
    | _ => Eff.no)
  | none => Eff.no
def semIndexAddr (rd : Nm → Option Rg) (t : TypeId) (x : V) (n : Int) : Eff :=
  match elT P t with
  | none => semIndexArr P t x n
  | some e =>
    let sz := szT P e
    match x with
    | .sl sz' xs => Eff.when (Nat.beq sz' sz && decide (0 ≤ n) && decide (n < (lenE sz xs.length : Int)))
        (Eff.put (.pim sz ((List.range sz).map fun k => nthV xs (n.toNat * sz + k)) 0))
    | .ref q => Eff.when ((ownB rd q).1 && Nat.beq q.e e && decide (0 ≤ n) && decide (n < (lenE sz (ownB rd q).2.length : Int))) (Eff.put (.ptrE q n.toNat 0))
    | .vw q lo hi => Eff.when ((ownB rd q).1 && Nat.beq q.e e && decide (0 ≤ n) && decide (n < ((hi - lo : Nat) : Int))) (Eff.put (.ptrE q (lo + n.toNat) 0))
    | _ => Eff.no

def semLen (rd : Nm → Option Rg) (t : TypeId) (x : V) : Eff :=
  match x with
  | .sc (.string s) => Eff.when (isStrT P t) (Eff.put (.sc (.int .i64 s.size)))
  | .vw q lo hi => Eff.when ((elT P t).isSome && (ownB rd q).1) (Eff.put (.sc (.int .i64 ((hi - lo : Nat) : Int))))
  | x => match elT P t with
    | none => Eff.no
    | some e => let s := sliOf P rd e x
      Eff.when s.ok (Eff.put (.sc (.int .i64 (lenE s.sz s.xs.length))))

def bytesV (s : ByteArray) : List V := s.data.toList.map fun b => .sc (.int .u8 b.toNat)
def byteOfV (v : V) : UInt8 := UInt8.ofNat v.intOf.toNat
def strOfCells (xs : List V) : ByteArray := ⟨(xs.map byteOfV).toArray⟩

def srcDeep (s : Sli) (keep : Bool) (rd : Nm → Option Rg) : V → Abs
  | .ref q => let (rd', k) := takeAt rd q
    ⟨s.ok && keep, s.xs, rd', k⟩
  | _ => ⟨false, [], rd, .no⟩

/-- The cells of what is appended or copied from; an own source that holds own slices goes with it. -/
def srcOf (rd : Nm → Option Rg) (e : TypeId) (keep : Bool) (x : V) : Abs :=
  match x with
  | .sc (.string s) => ⟨Nat.beq (szT P e) 1, bytesV s, rd, .no⟩
  | x =>
    let s := sliOf P rd e x
    bif s.d then srcDeep s keep rd x else ⟨s.ok, s.xs, rd, .no⟩

/-- May a value of the type be appended to a slice with such elements? -/
def srcTy (e xt : TypeId) : Bool := isStrT P xt || (match elT P xt with | some e' => Nat.beq e' e | none => false)

def roomy (n : Nat) : Bool := decide (n ≤ 140737488355328)

/-- Own cells that are appended to: of a whole own slice, of its head, or none. -/
structure Dst where
  ok : Bool
  d : Bool
  xs : List V
  rd : Nm → Option Rg
  k : Kl

def dstOf (rd : Nm → Option Rg) (e : TypeId) : V → Dst
  | s =>
    let a := absC P deep true rd s
    match a.xs with
    | [.own e' d xs] => ⟨a.ok && Nat.beq e' e, d, xs, a.rd, a.k⟩
    | _ => ⟨false, false, [], rd, .no⟩

def semAppend (d : Nat) (rd : Nm → Option Rg) (t xt : TypeId) (s x : V) : Eff :=
  match elT P t with
  | none => Eff.no
  | some e =>
    let dp := (dstOf P deep rd e s).d
    let a := srcOf P rd e dp x
    let r := dstOf P deep a.rd e s
    Eff.when (r.ok && a.ok && srcTy P e xt && (dp == r.d) && tyOk P e && Nat.blt 0 (szT P e) && Nat.beq (zeroCells P e).length (szT P e) && roomy ((lenE (szT P e) r.xs.length + lenE (szT P e) a.xs.length) * bytesT P e) && roomy (lenE (szT P e) r.xs.length + lenE (szT P e) a.xs.length))
      (newReg d r.rd ⟨false, [.own e dp (r.xs ++ a.xs)]⟩ (.ref ⟨.loc d, 0, [], e, dp⟩) (a.k.and r.k))

def semMake (d : Nat) (rd : Nm → Option Rg) (t : TypeId) (l c : Int) : Eff :=
  match elT P t with
  | none => Eff.no
  | some e =>
    Eff.when (decide (0 ≤ l) && decide (l ≤ c) && tyOk P e && zeroOne P e && Nat.blt 0 (szT P e) && Nat.beq (zeroCells P e).length (szT P e) && (deep e || cimL (zeroRow P deep (deep e) e)) && roomy (c.toNat * bytesT P e) && roomy c.toNat)
      (newReg d rd ⟨false, [.own e (deep e) (List.replicate l.toNat (zeroRow P deep (deep e) e)).flatten]⟩ (.ref ⟨.loc d, 0, [], e, deep e⟩) .no)

/-- Bounds of a slice expression over n elements. -/
def bnds (n : Nat) (lo hi : Option Int) : Bool × Nat × Nat :=
  let h : Int := match hi with | some h => h | none => n
  let l : Int := match lo with | some l => l | none => 0
  (match hi, lo with
    | some h, some l => decide (0 ≤ l) && decide (l ≤ h) && decide (h ≤ (n : Int))
    | some h, none => decide (0 ≤ h) && decide (h ≤ (n : Int))
    | none, some l => decide (0 ≤ l) && decide (l ≤ (n : Int))
    | none, none => true, l.toNat, h.toNat)

def cut (sz : Nat) (xs : List V) (lo hi : Option Int) (l h : Nat) : List V :=
  match lo, hi with
  | none, none => xs
  | some _, none => xs.drop (l * sz)
  | none, some _ => xs.take (h * sz)
  | some _, some _ => (xs.drop (l * sz)).take ((h - l) * sz)

def semSlice (rd : Nm → Option Rg) (t : TypeId) (x : V) (lo hi : Option Int) : Eff :=
  match x with
  | .sc (.string s) => let r := bnds s.size lo hi
    Eff.when (r.1 && isStrT P t) (Eff.put (.sc (.string (s.extract r.2.1 r.2.2))))
  | x => match elT P t with
    | none => Eff.no
    | some e => match x with
      | .sl sz xs => let r := bnds (lenE sz xs.length) lo hi
        Eff.when (r.1 && Nat.beq sz (szT P e) && (P.info? e).isSome) (Eff.put (.sl sz (cut sz xs lo hi r.2.1 r.2.2)))
      | .ref q => let r := bnds (lenE (szT P e) (ownB rd q).2.length) lo hi
        Eff.when ((ownB rd q).1 && r.1 && Nat.beq q.e e && (P.info? e).isSome) (Eff.put (.vw q r.2.1 r.2.2))
      | .vw q l0 h0 => let r := bnds (h0 - l0) lo hi
        Eff.when ((ownB rd q).1 && r.1 && Nat.beq q.e e && (P.info? e).isSome) (Eff.put (.vw q (l0 + r.2.1) (l0 + r.2.2)))
      | _ => Eff.no

/-! ### numbers, texts -/
def cmpI (op : BinOp) (a b : Int) : Bool :=
  match op with
  | .eql => a == b
  | .neq => a != b
  | .lss => decide (a < b)
  | .leq => decide (a ≤ b)
  | .gtr => decide (a > b)
  | .geq => decide (a ≥ b)
  | _ => false
def isCmp : BinOp → Bool
  | .eql | .neq | .lss | .leq | .gtr | .geq => true
  | _ => false
def strLt (x y : ByteArray) : Bool := Op.bytesLess x.toList y.toList
def strEq (x y : ByteArray) : Bool := x.toList == y.toList
def cmpS (op : BinOp) (x y : ByteArray) : Bool :=
  match op with
  | .eql => strEq x y
  | .neq => !strEq x y
  | .lss => strLt x y
  | .leq => strLt x y || strEq x y
  | .gtr => !(strLt x y || strEq x y)
  | .geq => !strLt x y
  | _ => false
def bitsI (op : BinOp) (k : IntKind) (x y : Int) : Int :=
  let a := BitVec.ofInt k.bits x
  let b := BitVec.ofInt k.bits y
  match op with
  | .and => k.wrap (a &&& b).toNat
  | .or => k.wrap (a ||| b).toNat
  | .xor => k.wrap (a ^^^ b).toNat
  | _ => k.wrap (a &&& ~~~b).toNat

def binE (op : BinOp) : Value → Value → Bool × Value
  | .int k a, .int k' b =>
    match op with
    | .shl => (decide (0 ≤ b), .int k (k.wrap (a * 2 ^ (min b.toNat k.bits))))
    | .shr => (decide (0 ≤ b), .int k (a.fdiv (2 ^ (min b.toNat k.bits))))
    | .add => (decide (k = k'), .int k (k.wrap (a + b)))
    | .sub => (decide (k = k'), .int k (k.wrap (a - b)))
    | .mul => (decide (k = k'), .int k (k.wrap (a * b)))
    | .quo => (decide (k = k') && (b != 0), .int k (k.wrap (a.tdiv b)))
    | .rem => (decide (k = k') && (b != 0), .int k (a.tmod b))
    | .and | .or | .xor | .andNot => (decide (k = k'), .int k (bitsI op k a b))
    | op => (decide (k = k'), .bool (cmpI op a b))
  | .bool a, .bool b =>
    match op with
    | .eql => (true, .bool (a == b))
    | .neq => (true, .bool (!(a == b)))
    | _ => (false, .bool false)
  | .string x, .string y =>
    match op with
    | .add => (decide (x.size + y.size ≤ 9223372036854775807), .string (x ++ y))
    | op => (isCmp op, .bool (cmpS op x y))
  | _, _ => (false, .bool false)

/-- Whether two parts of structs are equal: whether it is known, and the answer. -/
def scEq (d : Option TypeDesc) : V → V → Bool × Bool
  | .sc (.int k a), .sc (.int k' b) => (match d with | some (.int _) => decide (k = k') | _ => false, a == b)
  | .sc (.bool a), .sc (.bool b) => (match d with | some .bool => true | _ => false, a == b)
  | .sc (.string a), .sc (.string b) => (match d with | some .string => true | _ => false, strEq a b)
  | _, _ => (false, false)
def eqFs (xs ys : List V) : List Field → Bool × Bool
  | [] => (true, true)
  | f :: fs =>
    let r := scEq (P.underlying f.type) (nthV xs f.offset) (nthV ys f.offset)
    let q := eqFs xs ys fs
    ((!(f.name == "_") && tyOk P f.type && !aggT P f.type && Nat.blt f.offset xs.length && Nat.blt f.offset ys.length && r.1) && q.1, r.2 && q.2)
def isEqOp : BinOp → Bool
  | .eql | .neq => true
  | _ => false
def eqOut (op : BinOp) (b : Bool) : Value := match op with
  | .eql => .bool b
  | _ => .bool (!b)
def semBin (op : BinOp) (t : TypeId) : V → V → Eff
  | .sc x, .sc y => match x, y with
    | .bool _, .bool _ => match P.underlying t with
      | some .bool => let (ok, v) := binE op x y
        Eff.when ok (Eff.put (.sc v))
      | _ => Eff.no
    | x, y => let (ok, v) := binE op x y
      Eff.when ok (Eff.put (.sc v))
  | .ag xs, .ag ys => match P.underlying t with
    | some (.struct fs) => Eff.when (isEqOp op && !P.stoodInHeld t && !P.eqGuardType P.depth t && (eqFs P xs ys fs.toList).1) (Eff.put (.sc (eqOut op (eqFs P xs ys fs.toList).2)))
    | _ => Eff.no
  | _, _ => Eff.no

def semUn (op : UnOp) : V → Eff
  | .sc (.int k n) => match op with
    | .neg => Eff.put (.sc (.int k (k.wrap (0 - n))))
    | .xor => Eff.put (.sc (.int k (bitsI .xor k (if k.signed then -1 else k.max) n)))
    | _ => Eff.no
  | .sc (.bool b) => match op with
    | .not => Eff.put (.sc (.bool !b))
    | _ => Eff.no
  | _ => Eff.no

def allU8 : List V → Bool
  | [] => true
  | x :: xs => x.isInt .u8 && allU8 xs

def semConvert (d : Nat) (rd : Nm → Option Rg) (src dst : TypeId) (x : V) : Eff :=
  match P.underlying src, P.underlying dst with
  | some _, some (.int k) => match x with
    | .sc (.int _ n) => Eff.put (.sc (.int k (k.wrap n)))
    | _ => Eff.no
  | some .string, some .string => match x with
    | .sc (.string s) => Eff.put (.sc (.string s))
    | _ => Eff.no
  | some .string, some (.slice e) => match P.underlying e, x with
    | some (.int .u8), .sc (.string s) => Eff.when (roomy s.size && Nat.beq (szT P e) 1) (newReg d rd ⟨false, [.own e false (bytesV s)]⟩ (.ref ⟨.loc d, 0, [], e, false⟩) .no)
    | _, _ => Eff.no
  | some (.slice e), some .string => match P.underlying e with
    | some (.int .u8) => let s := sliOf P rd e x
      Eff.when (s.ok && Nat.beq (szT P e) 1 && !s.d && allU8 s.xs) (Eff.put (.sc (.string (strOfCells s.xs))))
    | _ => Eff.no
  | _, _ => Eff.no

def semMinMax (isMax : Bool) : V → V → Eff
  | .sc (.int k x), .sc (.int k' y) => Eff.when (decide (k = k')) (Eff.put (.sc (.int k (bif isMax then (bif decide (y > x) then y else x) else (bif decide (y < x) then y else x)))))
  | _, _ => Eff.no

/-- What an assignment to a variable's slot does: a whole own slice takes the slot's name. -/
def semAssign (d : Nat) (rd : Nm → Option Rg) (x : V) : Eff :=
  match x with
  | .nl e => newReg d rd ⟨false, [.own e (deep e) []]⟩ (.ref ⟨.loc d, 0, [], e, deep e⟩) .no
  | .ref ⟨r, 0, [], _, _⟩ => match rd r with
    | some ⟨false, [.own e dp xs]⟩ => bif Nm.eq r (.loc d) then Eff.put x else
      newReg d (setR rd r none) ⟨false, [.own e dp xs]⟩ (.ref ⟨.loc d, 0, [], e, dp⟩) ⟨[], [], [r]⟩
    | _ => Eff.put x
  | .vw ⟨r, 0, [], _, _⟩ 0 hi => match rd r with
    | some ⟨false, [.own e dp xs]⟩ => newReg d (setR rd r none) ⟨false, [.own e dp (xs.take (hi * szT P e))]⟩ (.ref ⟨.loc d, 0, [], e, dp⟩) ⟨[], [], [r]⟩
    | _ => Eff.put x
  | x => Eff.put x

def intV : V → Option Int
  | .sc (.int _ n) => some n
  | _ => none

def optInt : List V → Option (List Int)
  | [] => some []
  | .sc (.int _ n) :: l => match optInt l with | some r => some (n :: r) | none => none
  | _ :: _ => none

def partCells : V → List V
  | .ag xs => xs
  | x => [x]
/-- The parts of a struct or an array are laid over the zero value. -/
def placeParts : List (Nat × V) → List V → Bool × List V
  | [], row => (true, row)
  | (off, x) :: ps, row =>
    placeParts ps (setMany off (partCells x) row)

end sem
end Go.Ab
/- The abstract machine, second part: operations, code, calls. Definitions alone; nothing is assumed. -/
namespace Go.Ab
open Go

/-! ### what an operation reads -/
def argsOf (P : Program) (o : Oper) : List (TypeId × Operand) :=
  match o.op with
  | .move x | .assign x => [(o.type, x)]
  | .pick c a b => [(0, c), (o.type, a), (o.type, b)]
  | .alloc _ => []
  | .box t x => [(t, x)]
  | .build t ps => ps.toList.map fun (i, x) => ((match P.underlying t with
      | some (.struct fs) => (match fs[i]? with | some f => f.type | none => 0)
      | some (.array _ e) => e
      | _ => 0), x)
  | .buildSlice t _ ps => ps.toList.map fun (_, x) => ((elT P t).getD 0, x)
  | .load _ a => [(0, a)]
  | .store t a x => [(0, a), (t, x)]
  | .nilCheck x => [(0, x)]
  | .binOp _ t x y _ => [(t, x), (t, y)]
  | .unOp _ t x => [(t, x)]
  | .convert s _ x => [(s, x)]
  | .makeInterface t x => [(t, x)]
  | .makeFunc _ first caps => (first ++ caps).toList.map fun x => (0, x)
  | .makeSlice _ l c => [(0, l), (0, c)]
  | .slice t x lo hi _ => (t, x) :: (lo.toList ++ hi.toList).map fun x => (0, x)
  | .fieldAddr t x _ => [(t, x)]
  | .field t x _ => [(t, x)]
  | .indexAddr t x i => [(t, x), (0, i)]
  | .index t x i => [(t, x), (0, i)]
  | .extract x _ => [(0, x)]
  | .call c => (match c.callee with
      | .value f => [(0, f)]
      | .invoke r _ => [(0, r)]
      | .builtin _ => []) ++ c.argTypes.toList.zip c.args.toList
  | _ => []

def offOf (P : Program) (t : TypeId) (i : Nat) : Nat :=
  match P.underlying t with
  | some (.struct fs) => (match fs[i]? with | some f => f.offset | none => 0)
  | some (.array _ e) => i * szT P e
  | _ => 0

section sem
variable (P : Program) (deep : TypeId → Bool)

def V.isPart : V → Bool
  | .bad | .tp _ | .own _ _ _ | .slf => false
  | _ => true
def partLen : V → Nat
  | .ag xs => xs.length
  | _ => 1
def partTy (t : TypeId) (i : Nat) : Option TypeId :=
  match P.underlying t with
  | some (.struct fs) => (fs[i]?).map (·.type)
  | some (.array _ e) => some e
  | _ => none
def partOk (t : TypeId) (p : Nat × V) : Bool :=
  match partTy P t p.1 with
  | some c => p.2.isPart && Nat.beq (partLen p.2) (szT P c) && Nat.ble (offOf P t p.1 + szT P c) (szT P t)
  | none => false
def bldOk (t : TypeId) : Bool :=
  (match P.underlying t with
  | some (.struct fs) => fs.toList.all fun f => (P.info? f.type).isSome
  | some (.array _ e) => (P.info? e).isSome
  | _ => false) && (match P.info? t with | some i => i.zero.isSome | none => false)

def semBuild (t : TypeId) (ps : List Nat) (vs : List V) : Eff :=
  let z := zeroEnv P t
  let l := ps.zip vs
  Eff.when (bldOk P t && Nat.beq z.length (szT P t) && Nat.beq (zeroCells P t).length (cellsT P t).length && l.all (partOk P t))
    (Eff.put (.ag (placeParts (l.map fun p => (offOf P t p.1, p.2)) z).2))

/-- The parts of a slice that is written out: each is taken in, in turn. -/
structure AbsP where
  ok : Bool
  l : List (List V)
  rd : Nm → Option Rg
  k : Kl

def absParts (keep : Bool) : List V → (Nm → Option Rg) → AbsP
  | [], rd => ⟨true, [], rd, .no⟩
  | x :: xs, rd =>
    let a := absV P deep keep rd x
    let r := absParts keep xs a.rd
    ⟨a.ok && r.ok, a.xs :: r.l, r.rd, a.k.and r.k⟩

def denseL : Nat → List Nat → Bool
  | _, [] => true
  | k, i :: l => Nat.beq i k && denseL (k + 1) l

def semBuildSlice (d : Nat) (rd : Nm → Option Rg) (t : TypeId) (n : Nat) (ps : List Nat) (vs : List V) : Eff :=
  match elT P t with
  | none => Eff.no
  | some e =>
    let a := absParts P deep (deep e) vs rd
    Eff.when (a.ok && tyOk P e && Nat.blt 0 (szT P e) && Nat.beq (zeroCells P e).length (szT P e) && Nat.ble (n * szT P e) 16777216 && a.l.all (fun cs => Nat.beq cs.length (szT P e))
        && denseL 0 ps && Nat.beq ps.length n && Nat.beq vs.length n && vs.all V.isPart && vs.all (fun x => Nat.beq (partLen x) (szT P e)))
      (newReg d a.rd ⟨false, [.own e (deep e) a.l.flatten]⟩ (.ref ⟨.loc d, 0, [], e, deep e⟩) a.k)

def semField (t : TypeId) (f : Nat) : V → Eff
  | .ag xs => match fieldT P t f with
    | some fd => bif aggT P fd.type then Eff.when (tyOk P fd.type && Nat.ble (fd.offset + szT P fd.type) xs.length) (Eff.put (.ag ((xs.drop fd.offset).take (szT P fd.type))))
        else Eff.when (tyOk P fd.type && Nat.blt fd.offset xs.length) (Eff.put (nthV xs fd.offset))
    | none => Eff.no
  | _ => Eff.no

def semFieldAddr (t : TypeId) (f : Nat) (x : V) : Eff :=
  match fieldT P t f with
  | some fd => Eff.when (!(Nat.beq (szT P fd.type) 0)) (match x with
    | .ptrB r j => Eff.put (.ptrB r (j + fd.offset))
    | .ptrE q i off => Eff.put (.ptrE q i (off + fd.offset))
    | .pim n xs off => Eff.put (.pim n xs (off + fd.offset))
    | _ => Eff.no)
  | none => Eff.no

def semBuiltin (dst : Option Nat) (rd : Nm → Option Rg) (c : Call) (vs : List V) : Eff :=
  match c.callee, c.argTypes.toList, c.args.toList, vs with
  | .builtin .len, [t], [_], [x] => semLen P rd t x
  | .builtin .append, [t, xt], [_, _], [s, x] => match dst with
    | some d => semAppend P deep d rd t xt s x
    | none => Eff.no
  | .builtin .max, _, [_, _], [x, y] => semMinMax true x y
  | .builtin .min, _, [_, _], [x, y] => semMinMax false x y
  | _, _, _, _ => Eff.no

def on1 (vs : List V) (f : V → Eff) : Eff := match vs with | [x] => f x | _ => Eff.no
def on2 (vs : List V) (f : V → V → Eff) : Eff := match vs with | [x, y] => f x y | _ => Eff.no
def on3 (vs : List V) (f : V → V → V → Eff) : Eff := match vs with | [x, y, z] => f x y z | _ => Eff.no
def onDst (d : Option Nat) (f : Nat → Eff) : Eff := match d with | some d => f d | none => Eff.no
def onBool (v : V) (f : Bool → Eff) : Eff := match v with | .sc (.bool b) => f b | _ => Eff.no
def onInt (v : V) (f : Int → Eff) : Eff := match v with | .sc (.int _ n) => f n | _ => Eff.no
def onStr (v : V) (f : ByteArray → Eff) : Eff := match v with | .sc (.string s) => f s | _ => Eff.no
def onTp (v : V) (f : List V → Eff) : Eff := match v with | .tp xs => f xs | _ => Eff.no
def onPtr (v : V) : Eff := match v with
  | .ptrB _ _ | .ptrE _ _ _ | .pim _ _ _ => Eff.put v
  | _ => Eff.no
def notIface (t : TypeId) : Bool := !(match P.underlying t with | some (.interface _) => true | none => true | _ => false)

def semSliceOp (rd : Nm → Option Rg) (t : TypeId) (lo hi : Bool) (vs : List V) : Eff :=
  match lo, hi, vs with
  | false, false, [x] => semSlice P rd t x none none
  | true, false, [x, l] => onInt l fun l => semSlice P rd t x (some l) none
  | false, true, [x, h] => onInt h fun h => semSlice P rd t x none (some h)
  | true, true, [x, l, h] => onInt l fun l => onInt h fun h => semSlice P rd t x (some l) (some h)
  | _, _, _ => Eff.no

def sem (o : Oper) (vs : List V) (rd : Nm → Option Rg) : Eff :=
  match o.op with
  | .move _ => on1 vs Eff.put
  | .assign _ => on1 vs fun x => onDst o.dst fun d => semAssign P deep d rd x
  | .pick _ _ _ => on3 vs fun c a b => onBool c fun t => Eff.put (bif t then a else b)
  | .alloc t => onDst o.dst fun d =>
      Eff.when (tyOk P t && zeroOne P t && Nat.blt 0 (szT P t) && Nat.beq (zeroCells P t).length (szT P t) && ((zeroRow P deep (!(deep (t + 100000))) t).all V.noSlf || selfT P t)) (newReg d rd ⟨true, zeroRow P deep (!(deep (t + 100000))) t⟩ (.ptrB (.loc d) 0) .no)
  | .box t _ => on1 vs fun x => onDst o.dst fun d => let a := absV P deep (!(deep (t + 100000))) rd x
      Eff.when (a.ok && tyOk P t && Nat.beq a.xs.length (szT P t)) (newReg d a.rd ⟨true, a.xs⟩ (.ptrB (.loc d) 0) a.k)
  | .build t ps => semBuild P t (ps.toList.map (·.1)) vs
  | .buildSlice t n ps => onDst o.dst fun d => semBuildSlice P deep d rd t n (ps.toList.map (·.1)) vs
  | .load t _ => on1 vs (semLoad P deep rd t)
  | .store t _ _ => on2 vs fun p x => semStore P deep rd t x p
  | .nilCheck _ => on1 vs onPtr
  | .binOp op t _ _ _ => on2 vs (semBin P op t)
  | .unOp op _ _ => on1 vs (semUn op)
  | .convert s t _ => on1 vs fun x => onDst o.dst fun d => semConvert P d rd s t x
  | .makeInterface t _ => on1 vs fun x => Eff.when (x.imm && notIface P t) (Eff.put (.ifc t x))
  | .makeFunc (.func f) first _ => Eff.put (.fn f (vs.take first.size) (vs.drop first.size))
  | .makeSlice t _ _ => on2 vs fun l c => onInt l fun l => onInt c fun c => onDst o.dst fun d => semMake P deep d rd t l c
  | .slice t _ lo hi none => semSliceOp P rd t lo.isSome hi.isSome vs
  | .fieldAddr t _ f => on1 vs (semFieldAddr P t f)
  | .field t _ f => on1 vs (semField P t f)
  | .indexAddr t _ _ => on2 vs fun x i => onInt i fun n => semIndexAddr P rd t x n
  | .index t _ _ => on2 vs fun x i => onStr x fun s => onInt i fun n => Eff.when (isStrT P t && decide (0 ≤ n) && decide (n < (s.size : Int))) (Eff.put (.sc (.int .u8 (s.data.getD n.toNat 0).toNat)))
  | .extract _ i => on1 vs fun x => onTp x fun xs => Eff.when (Nat.blt i xs.length) (Eff.put (nthV xs i))
  | .call c => semBuiltin P deep o.dst rd c vs
  | _ => Eff.no

/-- The regions that an operation looks into, or makes. -/
def touch (o : Oper) (vs : List V) : List Nm :=
  match o.op with
  | .move _ | .pick _ _ _ | .build _ _ | .nilCheck _ | .binOp _ _ _ _ _ | .unOp _ _ _ | .makeInterface _ _ | .makeFunc _ _ _ | .fieldAddr _ _ _ | .field _ _ _ | .extract _ _ => []
  | .alloc _ | .box _ _ | .buildSlice _ _ _ | .assign _ | .makeSlice _ _ _ | .convert _ _ _ | .call _ => (match o.dst with | some d => [.loc d] | none => []) ++ namesL vs
  | _ => namesL vs

def only (T : List Nm) (rd : Nm → Option Rg) : Nm → Option Rg := fun n => bif n.mem T then rd n else none

end sem

/-! ### states -/
def isDst (d : Option Nat) (i : Nat) : Bool := match d with | some d => Nat.beq i d | none => false

def St.app (st : St) (e : Eff) (d : Option Nat) : St :=
  { env := fun i => bif isDst d i then e.val else (bif e.k.isNo then st.env i else (st.env i).kill e.k)
    regs := fun n => bif n.mem e.w then e.regs n else st.regs n }

def St.set (st : St) (d : Option Nat) (v : V) : St := { st with env := fun i => bif isDst d i then v else st.env i }

/-- Only some slots and regions are kept. -/
def St.keepOnly (st : St) (L : List Nat) (R : List Nm) : St :=
  { env := fun i => (lookN i (L.zip (L.map fun j => bif (st.env j).names.all (fun n => n.mem R) then st.env j else .bad))).getD V.bad
    regs := fun n => (lookR n (R.zip (R.map st.regs))).getD none }
where
  lookN (i : Nat) : List (Nat × V) → Option V
    | [] => none
    | (j, v) :: l => bif Nat.beq i j then some v else lookN i l
  lookR (n : Nm) : List (Nm × Option Rg) → Option (Option Rg)
    | [] => none
    | (m, v) :: l => bif Nm.eq n m then some v else lookR n l

/-! ### results and arguments of calls -/
inductive Sh where
  | i (k : IntKind) | b | s
  | sl (sz : Nat)
  | own (e : TypeId) (d : Bool)
  | ag (l : List Sh)
  | tp (l : List Sh)
  | any
  deriving Inhabited

def V.isAg (n : Nat) : V → Bool
  | .ag xs => Nat.beq xs.length n
  | _ => false
def V.isTp (n : Nat) : V → Bool
  | .tp xs => Nat.beq xs.length n
  | _ => false
def V.partsOf : V → List V
  | .ag xs => xs
  | .tp xs => xs
  | _ => []

mutual
def Sh.re : Sh → V → Bool × V
  | .i k, v => (v.isInt k, .sc (.int k v.intOf))
  | .b, v => (v.isBool, .sc (.bool v.boolOf))
  | .s, v => (v.isStr, .sc (.string v.strOf))
  | .sl sz, v => (v.isSl sz, .sl sz v.cellsOf)
  | .own e d, v => (v.isOwnD e d, .own e d v.cellsOf)
  | .ag l, v => let r := Sh.reL l v.partsOf 0; (v.isAg l.length && r.1, .ag r.2)
  | .tp l, v => let r := Sh.reL l v.partsOf 0; (v.isTp l.length && r.1, .tp r.2)
  | .any, v => (true, v)
def Sh.reL : List Sh → List V → Nat → Bool × List V
  | [], _, _ => (true, [])
  | h :: l, xs, k => let a := h.re (nthV xs k)
    let r := Sh.reL l xs (k + 1)
    (a.1 && r.1, a.2 :: r.2)
end

/- Own slices become ones that nobody writes, where the shape asks it. -/
mutual
def Sh.coe (P : Program) : Sh → V → V
  | .sl _, .own e d xs => frz P (.own e d xs)
  | .ag l, .ag xs => .ag (Sh.coeL P l xs)
  | _, v => v
def Sh.coeL (P : Program) : List Sh → List V → List V
  | h :: l, x :: xs => h.coe P x :: Sh.coeL P l xs
  | _, xs => xs
end

/- The own slices of what a call hands back get names. -/
mutual
def V.land (n : Nm) (j : Nat) : V → V × List V
  | .own e dp xs => (.ref ⟨n, j, [], e, dp⟩, [.own e dp xs])
  | .ag xs => let r := landL n j xs; (.ag r.1, r.2)
  | .tp xs => let r := landL n j xs; (.tp r.1, r.2)
  | v => (v, [])
def landL (n : Nm) (j : Nat) : List V → List V × List V
  | [] => ([], [])
  | x :: xs => let a := x.land n j
    let r := landL n (j + a.2.length) xs
    (a.1 :: r.1, a.2 ++ r.2)
end

mutual
def V.refNames (sn : Bool) : V → List Nm
  | .ag xs => refNamesL sn xs
  | .ref q => [q.r]
  | .vw q _ _ => [q.r]
  | .ptrB r _ => bif sn then [r] else []
  | _ => []
def refNamesL (sn : Bool) : List V → List Nm
  | [] => []
  | x :: xs => x.refNames sn ++ refNamesL sn xs
end

/- Is a part of a value dead? -/
mutual
def V.dead : V → Bool
  | .bad => true
  | .ag xs => deadL xs
  | .tp xs => deadL xs
  | .fn _ a b => deadL a || deadL b
  | .ifc _ v => v.dead
  | _ => false
def deadL : List V → Bool
  | [] => false
  | x :: xs => x.dead || deadL xs
end

/- Own slices of some regions are nobody's any more: their names become values. -/
mutual
def V.fz (P : Program) (rd : Nm → Option Rg) (ns : List Nm) : V → V
  | .ag xs => .ag (fzL P rd ns xs)
  | .tp xs => .tp (fzL P rd ns xs)
  | .fn f a b => .fn f (fzL P rd ns a) (fzL P rd ns b)
  | .ifc t v => .ifc t (v.fz P rd ns)
  | .ref q => bif q.r.mem ns then (bif q.p.isEmpty && (ownB rd q).1 then frz P (.own q.e q.d (ownB rd q).2) else .bad) else .ref q
  | .vw q lo hi => bif q.r.mem ns then (bif q.p.isEmpty && (ownB rd q).1 then frz P (.own q.e q.d (((ownB rd q).2.drop (lo * szT P q.e)).take ((hi - lo) * szT P q.e))) else .bad) else .vw q lo hi
  | .ptrB r j => bif r.mem ns then .bad else .ptrB r j
  | .ptrE q i o => bif q.r.mem ns then .bad else .ptrE q i o
  | v => v
def fzL (P : Program) (rd : Nm → Option Rg) (ns : List Nm) : List V → List V
  | [] => []
  | x :: xs => x.fz P rd ns :: fzL P rd ns xs
end

def St.fz (P : Program) (st : St) (ns : List Nm) : St :=
  { env := fun i => (st.env i).fz P st.regs ns
    regs := fun n => bif n.mem ns then none else st.regs n }

mutual
def Sh.scalar : Sh → Bool
  | .i _ | .b | .s => true
  | .ag l => scalarL l
  | .tp l => scalarL l
  | _ => false
def scalarL : List Sh → Bool
  | [] => true
  | h :: l => h.scalar && scalarL l
end

def dedup : List Nm → List Nm
  | [] => []
  | n :: l => bif n.mem l then dedup l else n :: dedup l

def idxOf (n : Nm) : List Nm → Nat
  | [] => 0
  | m :: l => bif Nm.eq n m then 0 else idxOf n l + 1

def allSome : List (Option Rg) → Option (List Rg)
  | [] => some []
  | some g :: l => match allSome l with | some r => some (g :: r) | none => none
  | none :: _ => none

def zipSet : List Nm → List Rg → (Nm → Option Rg) → (Nm → Option Rg)
  | n :: ns, g :: gs, rd => zipSet ns gs (setR rd n (some g))
  | _, _, rd => rd

/-- The parameters of the machine: which element types may hold own slices in a function; which functions take slices by name; the shapes of what calls hand back; what is kept at heads of loops and behind branches. -/
structure Cfg where
  P : Program
  deep : FuncId → TypeId → Bool
  byName : FuncId → Bool
  sig : FuncId → Sh
  ann : FuncId → List Nat → Option (List Nat × List Nm)
  cut : FuncId → List Nat → Bool
  /-- which functions take boxes as they are at the call, and change nothing of them -/
  snap : FuncId → Bool := fun _ => false

abbrev PrimT := List V → List Rg → Bool × V × List Rg
abbrev CallK := FuncId → PrimT

section call
variable (C : Cfg)

structure Prep where
  ok : Bool
  vs : List V
  bn : List Nm
  bv : List Nm

def prep (g : FuncId) (rd : Nm → Option Rg) (vs : List V) : Prep :=
  let vs1 := bif C.byName g then vs else byValL C.P (C.snap g) rd vs
  let bn := dedup (namesL vs1)
  let bv := bif C.byName g then [] else dedup (refNamesL (C.snap g) vs)
  ⟨bv.all (fun n => !(n.mem bn)) && (C.byName g || seenL rd vs), renL (fun n => .par (idxOf n bn)) vs1, bn, bv⟩

def Rg.lone (g : Rg) : Bool := match g with
  | ⟨false, [_]⟩ => true
  | _ => false
def roots : List Nm → List Rg → List Nm
  | n :: ns, g :: gs => bif g.lone then roots ns gs else n :: roots ns gs
  | _, _ => []

def ddOf : Option Nat → Nat
  | some d => d
  | none => 0

def semRet (d : Option Nat) (rd : Nm → Option Rg) (bn : List Nm) (gs0 : List Rg) (sh : Sh) (res : V) (gs : List Rg) : Eff :=
  let r := sh.re res
  let dd := ddOf d
  let l := r.2.land (.loc dd) 0
  let rd1 := zipSet bn gs rd
  let nw := d.isSome && !l.2.isEmpty
  Eff.when (r.1 && r.2.names.isEmpty && Nat.beq gs.length bn.length && (d.isSome || l.2.isEmpty))
    ⟨true, l.1, bif nw then setR rd1 (.loc dd) (some ⟨false, l.2⟩) else rd1, (bif nw then [.loc dd] else []) ++ bn, ⟨bn, roots bn gs0, bif nw then [.loc dd] else []⟩⟩

end call

inductive Ex where
  | nm
  | ex (id : Nat)
  | rt
  deriving Inhabited, DecidableEq

/-- What an operation has touched, written, unnamed, named: for regions whose order is open; 'bad': it is not fit for them. -/
structure Foot where
  t : List Nm
  w : List Nm
  k : List Nm
  n : List Nm
  bad : Bool

def Foot.nil : Foot := ⟨[], [], [], [], false⟩
def noMeet (a b : List Nm) : Bool := a.all fun n => !(n.mem b)
def Foot.apart (a b : Foot) : Bool := noMeet a.w b.t && noMeet b.w a.t && noMeet a.w b.w && noMeet a.k b.n && noMeet b.k a.n

section exec
variable (C : Cfg) (callK : CallK) (fid : FuncId)

def footOf (o : Oper) (vs : List V) (e : Eff) : Foot := ⟨touch o vs, e.w, e.k.names, namesL vs ++ e.val.names, deadL vs⟩

/-- Is the operation apart from the ones that were run, but need not have been run ahead of it? -/
def apartLog (ops : Array Oper) (bef : Nat) (o : Oper) : List (Nat × Oper × Foot) → Foot → Bool
  | [], _ => true
  | (i, x, f) :: l, g => (bef.testBit i || (f.apart g && x.apart ops o)) && apartLog ops bef o l g

variable {R : Type}

/-- One operation that is wanted. -/
def opK (o : Oper) (st : St) (κ : St → Foot → Option R) : Option R :=
  let vs := (argsOf C.P o).map (opd C.P st.env)
  let rd := only (touch o vs) st.regs
  match o.op, vs with
  | .call ⟨.value _, xs, _⟩, (.fn g first caps) :: ws =>
    let p := prep C g rd (first ++ ws ++ caps)
    let fr := !((C.sig g).scalar && p.bn.isEmpty) && !p.bv.isEmpty
    bif p.ok && Nat.beq ws.length xs.size then
      match allSome (p.bn.map rd) with
      | some gs =>
        let r := callK g p.vs gs
        let st1 := bif fr then st.fz C.P p.bv else st
        let e := semRet o.dst (only (touch o vs) st1.regs) p.bn gs (C.sig g) r.2.1 r.2.2
        bif r.1 && e.ok then κ (st1.app e o.dst) ⟨touch o vs, e.w, e.k.names, namesL vs ++ e.val.names, fr || deadL vs⟩ else none
      | none => none
    else none
  | _, _ =>
    let e := sem C.P (C.deep fid) o vs rd
    bif e.ok then κ (st.app e o.dst) (footOf o vs e) else none

def guardDst (ops : Array Oper) (g : Nat) : Option Nat := (ops[g]?).bind (·.dst)

/-- The operations of a region, one after the other. 'bef': who must have been run ahead of whom, where the order is open. -/
def opsK (ops : Array Oper) (bef : Option (Array Nat)) : List Oper → Nat → List (Nat × Oper × Foot) → St → (St → Option R) → Option R
  | [], _, _, st, κ => κ st
  | o :: rest, i, log, st, κ =>
    let go (st : St) : Option R := opK C callK fid o st fun st' f =>
      match bef with
      | none => opsK ops bef rest (i + 1) log st' κ
      | some b => bif !f.bad && apartLog ops (b.getD i 0) o log f then opsK ops bef rest (i + 1) ((i, o, f) :: log) st' κ else none
    let no (st : St) : Option R := match bef with
      | none => opsK ops bef rest (i + 1) log st κ
      | some b => bif apartLog ops (b.getD i 0) o log Foot.nil then opsK ops bef rest (i + 1) ((i, o, Foot.nil) :: log) st κ else none
    match o.guard with
    | none => go st
    | some (g, want) => match guardDst ops g with
      | none => none
      | some t => match st.env t with
        | .sc (.bool c) =>
          bif c then
            (bif want then go (st.set (some t) (.sc (.bool true))) else no ((st.set (some t) (.sc (.bool true))).set o.dst (.tp [])))
          else
            (bif want then no ((st.set (some t) (.sc (.bool false))).set o.dst (.tp [])) else go (st.set (some t) (.sc (.bool false))))
        | .tp [] => no (st.set o.dst (.tp []))
        | _ => none

/-- Does every operation wait for earlier ones alone? -/
def edgesBack (ops : Array Oper) : Bool := ops.toList.zipIdx.all fun x => x.1.after.toList.all fun e => !Region.binds .any e || Nat.blt e.on x.2

def forget (p : List Nat) (st : St) : St :=
  match C.ann fid p with
  | some (L, R) => st.keepOnly L R
  | none => st

/-- Code. 'rec': how loops, and pieces that are cut off, run. -/
def execC (rec : Code → List Nat → St → (Ex → St → Option R) → Option R) : Code → List Nat → St → (Ex → St → Option R) → Option R
  | .skip, _, st, κ => κ .nm st
  | .region _ ops draw, _, st, κ => bif draw then (bif edgesBack ops then opsK C callK fid ops (some (Region.before ops)) ops.toList 0 [] st (κ .nm) else none) else opsK C callK fid ops none ops.toList 0 [] st (κ .nm)
  | .seq a b, p, st, κ => execC rec a (0 :: p) st fun e st' => match e with
    | .nm => bif C.cut fid (1 :: p) then rec b (1 :: p) (forget C fid (1 :: p) st') κ else execC rec b (1 :: p) (forget C fid (1 :: p) st') κ
    | e => κ e st'
  | .cond c a b, p, st, κ => match opd C.P st.env (0, c) with
    | .sc (.bool t) => bif t then execC rec a (0 :: p) st κ else execC rec b (1 :: p) st κ
    | _ => none
  | .block id a, p, st, κ => execC rec a (0 :: p) st fun e st' => match e with
    | .ex i => bif Nat.beq i id then κ .nm st' else κ (.ex i) st'
    | e => κ e st'
  | .loop a, p, st, κ => rec (.loop a) p (forget C fid p st) κ
  | .exit id, _, st, κ => κ (.ex id) st
  | .ret, _, st, κ => κ .rt st
  | _, _, _, _ => none

end exec

/-! ### fuel -/
section fuel
variable (C : Cfg) (prim : FuncId → Option PrimT)

/-- A result: its cells are taken, out of the regions that it names. -/
def takeRes (deep : TypeId → Bool) (rd : Nm → Option Rg) (x : V) : Bool × V × (Nm → Option Rg) :=
  let T := x.names
  let a := absV C.P deep true (only T rd) x
  (a.ok, (match x with | .ag _ => .ag a.xs | _ => nthV a.xs 0), fun n => bif n.mem T then a.rd n else rd n)

/-- What a function's results read. -/
def resVal (deep : TypeId → Bool) (st : St) : ResultVar → Bool × V
  | .tmp t => (true, st.env t)
  | .cell a t => let e := semLoad C.P deep (only (st.env a).names st.regs) t (st.env a); (e.ok, e.val)
def resVals (deep : TypeId → Bool) (st : St) : List ResultVar → Bool × List V
  | [] => (true, [])
  | r :: l => let a := resVal C deep st r
    let b := resVals deep st l
    (a.1 && b.1, a.2 :: b.2)

/-- Results, taken one after the other. -/
def takeAll (deep : TypeId → Bool) : List V → (Nm → Option Rg) → Bool × List V × (Nm → Option Rg)
  | [], rd => (true, [], rd)
  | x :: l, rd =>
    let a := takeRes C deep rd x
    let r := takeAll deep l a.2.2
    (a.1 && r.1, a.2.1 :: r.2.1, r.2.2)

def shParts : Sh → List Sh
  | .tp l => l
  | h => [h]

def endOf (fid : FuncId) (rs : List ResultVar) (np : Nat) (st : St) : Option (V × List Rg) :=
  let q := resVals C (C.deep fid) st rs
  let r := takeAll C (C.deep fid) q.2 st.regs
  let vs := Sh.coeL C.P (shParts (C.sig fid)) r.2.1
  bif q.1 && r.1 && Nat.ble rs.length 4 then
    match allSome ((List.range np).map fun i => r.2.2 (.par i)) with
    | some gs => some (match vs with | [v] => v | vs => .tp vs, gs)
    | none => none
  else none

def stOf (args : List V) (gs : List Rg) : St :=
  { env := fun i => nthV args i
    regs := fun n => match n with | .par i => gs[i]? | _ => none }

/-- Does every operation write a slot that is there? -/
def codeOk (N : Nat) : Code → Bool
  | .region _ ops _ => ops.toList.all fun o => match o.dst with | some d => Nat.blt d N | none => true
  | .seq x y => codeOk N x && codeOk N y
  | .cond _ x y => codeOk N x && codeOk N y
  | .block _ x => codeOk N x
  | .loop x => codeOk N x
  | _ => true

/-- A function's call, given how its loops and its calls run. -/
def callBody (E : FuncId → Code → List Nat → St → (Ex → St → Option (V × List Rg)) → Option (V × List Rg)) (f : FuncId) (args : List V) (gs : List Rg) : Option (V × List Rg) :=
  match prim f with
  | some g => let r := g args gs
    bif r.1 then some r.2 else none
  | none => match C.P.funcs[f]? with
    | some fn => match fn.body with
      | some c => bif codeOk fn.ntmps c && Nat.ble args.length fn.ntmps && !(fn.name == "runtime.NumGoroutine") then
          E f c [] (stOf args gs) fun e st => match e with
          | .ex _ => none
          | _ => endOf C f fn.results.toList gs.length st
        else none
      | none => none
    | none => none

def optK (K : FuncId → List V → List Rg → Option (V × List Rg)) : CallK := fun g vs gs => match K g vs gs with
  | some r => (true, r)
  | none => (false, .bad, [])

/-- Loops and pieces of code, with so much fuel. -/
def recE : Nat → (R : Type) → FuncId → Code → List Nat → St → (Ex → St → Option R) → Option R
  | 0, _, _ => fun _ _ _ _ => none
  | k + 1, R, f => fun c p st κ => match c with
    | .loop a => execC C (optK (callBody C prim (recE k (V × List Rg)))) f (recE k R f) a (0 :: p) st fun e s => match e with
      | .nm => recE k R f (.loop a) p (forget C f p s) κ
      | e => κ e (forget C f (9 :: p) s)
    | c => execC C (optK (callBody C prim (recE k (V × List Rg)))) f (recE k R f) c p st fun e s => κ e (forget C f (9 :: p) s)

def callE (k : Nat) : FuncId → List V → List Rg → Option (V × List Rg) := callBody C prim (recE C prim k (V × List Rg))

end fuel
end Go.Ab
/- What it means that memory reads as the machine's values: readings, own slices, the state's invariant. -/
namespace Go.Ab
open Go

/-- The bones of an own slice: its block, its number of elements, its capacity, an element's cells, and the cells' own bones. -/
inductive Sk where
  | leaf
  | nil
  | node (g n cap sz : Nat) (cs : List Sk)
  deriving Inhabited

mutual
def Sk.fp : Sk → List Nat
  | .node g _ _ _ cs => g :: fpL cs
  | _ => []
def fpL : List Sk → List Nat
  | [] => []
  | s :: l => s.fp ++ fpL l
end

def nthS : List Sk → Nat → Sk
  | [], _ => .leaf
  | x :: _, 0 => x
  | _ :: l, j + 1 => nthS l j

def skCells : Sk → List Sk
  | .node _ _ _ _ cs => cs
  | _ => []
def getSk : List Nat → List Sk → Nat → Sk
  | [], row, j => nthS row j
  | i :: p, row, j => getSk p (skCells (nthS row j)) i
def skSetCells (f : List Sk → List Sk) : Sk → Sk
  | .node g n cap sz cs => .node g n cap sz (f cs)
  | s => s
def setSk : List Nat → List Sk → Nat → Sk → List Sk
  | [], row, j, x => row.set j x
  | i :: p, row, j, x => row.set j (skSetCells (fun cs => setSk p cs i x) (nthS row j))

/-- A region's bones: its block, where it is a box; the values of its root cells; their bones. -/
structure RG where
  b : Option Nat
  vals : List Value
  sks : List Sk

def RG.fp (R : RG) : List Nat := R.b.toList ++ fpL R.sks

abbrev GM := Nm → Option RG
def noGM : GM := fun _ => none

def skAt (gm : GM) (q : Pl) : Sk := match gm q.r with | some R => getSk q.p R.sks q.j | none => .leaf

/-- The value of a slice over the elements lo .. hi of an own one (behind the last cell of a block its address may be another). -/
def isHdr (g cap sz lo hi : Nat) (v : Value) : Prop :=
  ∃ o, v = .slice (some ⟨g, o, none⟩) (hi - lo) (cap - lo) ∧ (cap ≠ lo ∨ lo = 0 → o = lo * sz)

def nameRef (gm : GM) (q : Pl) (v : Value) : Prop :=
  match skAt gm q with
  | .node g n cap _ _ => v = .slice (some ⟨g, 0, none⟩) n cap
  | .nil => v = .slice none 0 0
  | .leaf => False
def nameVw (gm : GM) (q : Pl) (lo hi : Nat) (v : Value) : Prop :=
  match skAt gm q with
  | .node g n cap sz _ => lo ≤ hi ∧ hi ≤ n ∧ isHdr g cap sz lo hi v
  | .nil => lo = 0 ∧ hi = 0 ∧ v = .slice none 0 0
  | .leaf => False
def namePtrB (gm : GM) (r : Nm) (j : Nat) (v : Value) : Prop :=
  ∃ R b, gm r = some R ∧ R.b = some b ∧ v = .pointer (some ⟨b, j, none⟩)
def namePtrE (gm : GM) (q : Pl) (i off : Nat) (v : Value) : Prop :=
  match skAt gm q with
  | .node g n _ sz _ => i < n ∧ v = .pointer (some ⟨g, i * sz + off, none⟩)
  | _ => False

section read
variable (w : World) (G : Nat → Prop)

/-- Cells that lie at an address. -/
def CellsAt (a : Addr) (cs : List Value) : Prop := ∀ j v, cs[j]? = some v → w.cell? ⟨a.block, a.off + j, none⟩ = some v

/- A value reads as one of the machine's. -/
mutual
def Rv (gm : GM) : Value → V → Prop
  | v, .sc u => v = u ∧ flat u = true
  | v, .nl _ => v = .slice none 0 0
  | v, .sl sz xs => (v = .slice none 0 0 ∧ xs = []) ∨
      ∃ a n c cs, v = .slice (some a) n c ∧ (xs ≠ [] → a.spot = none) ∧ n ≤ c ∧ xs.length = n * sz ∧ 0 < sz ∧ CellsAt w a cs ∧ (xs ≠ [] → G a.block) ∧ RvL noGM cs xs ∧ cibL xs = true ∧ ∀ u ∈ cs, u.oneCell' = true
  | v, .ag xs => ∃ cs : Array Value, v = .agg cs ∧ RvL gm cs.toList xs
  | v, .tp xs => ∃ cs : Array Value, v = .tuple cs ∧ RvL gm cs.toList xs
  | v, .fn f a b => ∃ first caps : Array Value, v = .func (.func f) first caps ∧ RvL gm first.toList a ∧ RvL gm caps.toList b
  | v, .ifc t x => ∃ u, v = .iface t u ∧ Rv gm u x
  | v, .ref q => nameRef gm q v
  | v, .vw q lo hi => nameVw gm q lo hi v
  | v, .ptrB r j => namePtrB gm r j v
  | v, .ptrE q i off => namePtrE gm q i off v
  | v, .pim n xs off => ∃ b o cs, v = .pointer (some ⟨b, o + off, none⟩) ∧ xs.length = n ∧ CellsAt w ⟨b, o, none⟩ cs ∧ (xs ≠ [] → G b) ∧ RvL noGM cs xs
  | _, .own _ _ _ => False
  | _, .slf => False
  | _, .bad => True
def RvL (gm : GM) : List Value → List V → Prop
  | [], [] => True
  | v :: vs, x :: xs => Rv gm v x ∧ RvL gm vs xs
  | _, _ => False
end

variable (P : Program)
def frOk (fr : Nat × Nat) (n : Nat) : Prop := fr.2 ≤ fr.1 ∨ n ≤ fr.1

/- A cell's value, and what it owns. -/
mutual
def OwnC : Value → V → Sk → Prop
  | v, .own e d cells, s => match s with
    | .nil => v = .slice none 0 0 ∧ cells = []
    | .node g n cap sz sks => ∃ cur fr, v = .slice (some ⟨g, 0, none⟩) n cap ∧ w.heap[g]? = some (.cells cur e fr) ∧ frOk fr cur.size ∧
        cur.size = cap * sz ∧ 0 < sz ∧ szT P e = sz ∧ n ≤ cap ∧ cap ≤ maxLen ∧ cells.length = n * sz ∧
        OwnL (cur.toList.take (n * sz)) cells sks ∧ (d = false → cibL cells = true)
    | .leaf => False
  | v, .bad, s => s = .leaf ∧ v.oneCell' = true
  | v, .slf, s => s = .leaf ∧ v.oneCell' = true
  | v, x, s => s = .leaf ∧ x.cim = true ∧ Rv w G noGM v x
def OwnL : List Value → List V → List Sk → Prop
  | [], [], [] => True
  | v :: vs, x :: xs, s :: ss => OwnC v x s ∧ OwnL vs xs ss
  | _, _, _ => False
end

/-- A cell that names its own place. -/
def SelfOk (b : Nat) (row : List V) (vals : List Value) : Prop :=
  ∀ k : Nat, row[k]? = some V.slf → vals[k]? = some (Value.pointer none) ∨ vals[k]? = some (Value.pointer (some ⟨b, k, none⟩))

/-- Only Builders have such cells. -/
def TypT (P : Program) (t : TypeId) (row : List V) : Prop := ∀ k : Nat, row[k]? = some V.slf → selfT P t = true

def RgOk (rg : Rg) (R : RG) : Prop :=
  rg.box = R.b.isSome ∧ OwnL w G P R.vals rg.row R.sks ∧ ∀ b, R.b = some b → (∃ t, w.heap[b]? = some (.cells R.vals.toArray t (0, 0)) ∧ TypT P t rg.row) ∧ SelfOk b rg.row R.vals
end read

/-- What a call has left as it was: all old blocks but those handed to it. -/
structure Keep (w0 : World) (F : Nat → Prop) (w : World) : Prop where
  os : w.os = w0.os
  tape : w.tape = w0.tape
  output : w.output = w0.output
  size : w0.heap.size ≤ w.heap.size
  block : ∀ k, k < w0.heap.size → ¬ F k → w.heap[k]? = w0.heap[k]?

/-- What a call may write of what was there (f), and what nobody wrote when it began (g). -/
structure FG where
  f : Nat → Prop
  g : Nat → Prop
  /-- the boxes that were handed in, and the heads of the lone own slices -/
  b : Nat → Option Nat
  h : Nat → Option Sk

/-- What a name's bones tell of its value. -/
def skHead : Sk → Sk
  | .node g n cap sz _ => .node g n cap sz []
  | s => s

/-- A region that was handed in is the box, or the lone own slice, that it was. -/
def ParOk (F : FG) (i : Nat) (R : RG) : Prop := R.b = F.b i ∧ ∀ s, F.h i = some s → R.b = none ∧ R.vals.length = 1 ∧ skHead (nthS R.sks 0) = s

/-- The program's tables: what the package-level variables read as that the statement lists. -/
def tabList : List (String × IntKind × List Int) := []
def TabsIn (P : Program) (w : World) (G : Nat → Prop) : Prop := ∀ x ∈ tabList, Lib.TabIs P w x.1 x.2.1 x.2.2 ∧ ∀ g, P.globalNamed x.1 = some g → G g
theorem TabsIn.frame {P : Program} {w w' : World} {G G' : Nat → Prop} (h : TabsIn P w G) (hw : ∀ k, G k → w'.heap[k]? = w.heap[k]?) (hG : ∀ k, G k → G' k) : TabsIn P w' G' := by
  intro x hx
  obtain ⟨h1, h2⟩ := h x hx
  refine ⟨?_, fun g hg => hG g (h2 g hg)⟩
  unfold Lib.TabIs World.var? at *
  cases hg : P.globalNamed x.1 with
  | none => rw [hg] at h1; cases h1
  | some g =>
    rw [hg] at h1
    simp only [Option.bind_some] at h1 ⊢
    rw [hw g (h2 g hg)]
    exact h1
theorem TabsIn.start {P : Program} {w : World} (h : ∀ x ∈ tabList, Lib.TabIs P w x.1 x.2.1 x.2.2) : TabsIn P w (fun b => b < w.heap.size) := by
  intro x hx
  refine ⟨h x hx, fun g hg => ?_⟩
  have h1 := h x hx
  unfold Lib.TabIs World.var? at h1
  rw [hg] at h1
  simp only [Option.bind_some] at h1
  rcases Nat.lt_or_ge g w.heap.size with h' | h'
  · exact h'
  · rw [Array.getElem?_eq_none h'] at h1; cases h1

/-- The regions of a state: each reads as it is named; no block is owned twice; what nobody writes is nobody's own. -/
structure Regs (P : Program) (w0 : World) (F : FG) (regs : Nm → Option Rg) (w : World) (G : Nat → Prop) (gm : GM) : Prop where
  reg : ∀ r, match regs r, gm r with
    | some rg, some R => RgOk w G P rg R
    | none, none => True
    | _, _ => False
  nodup : ∀ r R, gm r = some R → R.fp.Nodup
  disj : ∀ r r' R R', r ≠ r' → gm r = some R → gm r' = some R' → ∀ b, b ∈ R.fp → b ∉ R'.fp
  apart : ∀ r R b, gm r = some R → b ∈ R.fp → ¬ G b
  mine : ∀ r R b, gm r = some R → b ∈ R.fp → w0.heap.size ≤ b ∨ F.f b
  old : ∀ b, G b → b < w.heap.size
  keep : Keep w0 F.f w
  base : ∀ b, F.g b → G b
  grow : ∀ b, G b → F.g b ∨ w0.heap.size ≤ b ∨ F.f b
  par : ∀ i R, gm (.par i) = some R → ParOk F i R
  tabs : TabsIn P w G

structure Inv (P : Program) (w0 : World) (F : FG) (N : Nat) (st : St) (a : Act) (w : World) (G : Nat → Prop) (gm : GM) : Prop where
  regs : Regs P w0 F st.regs w G gm
  env : ∀ i, Rv w G gm (a.tmps.getD i undef) (st.env i)
  size : a.tmps.size = N
  defers : a.defers = []
  hand : st.regs .hand = none

/-! ### readings stand while what they read stands -/
theorem CellsAt.frame {w w' : World} {a : Addr} {cs : List Value} (h : CellsAt w a cs) (hb : w'.heap[a.block]? = w.heap[a.block]?) : CellsAt w' a cs := by
  intro j v hv
  rw [World.cell?_of_block (w := w) (a := ⟨a.block, a.off + j, none⟩) hb]
  exact h j v hv

theorem RvL.length {w : World} {G : Nat → Prop} {gm : GM} : ∀ {vs : List Value} {xs : List V}, RvL w G gm vs xs → vs.length = xs.length
  | [], [], _ => rfl
  | _ :: _, _ :: _, h => by simp only [RvL] at h; simp [RvL.length h.2]
  | [], _ :: _, h => by simp [RvL] at h
  | _ :: _, [], h => by simp [RvL] at h

theorem CellsAt.nil (w : World) (a : Addr) : CellsAt w a [] := by intro j v h; simp at h

section frame
variable {w w' : World} {G G' : Nat → Prop}
/- What is read stays, where its blocks, and what its names stand for, stay. -/
mutual
theorem Rv.frame (hG : ∀ k, G k → w'.heap[k]? = w.heap[k]?) (hGG : ∀ k, G k → G' k) (gm gm' : GM) :
    ∀ (x : V) (v : Value), (∀ n ∈ x.names, gm' n = gm n) → Rv w G gm v x → Rv w' G' gm' v x
  | .sc u, v, _, h => h
  | .nl _, v, _, h => h
  | .sl sz xs, v, _, h => by
    rcases h with h | ⟨a, n, c, cs, h1, h2, h3, h4, h5, h6, h7, h8, h9⟩
    · exact .inl h
    · refine .inr ⟨a, n, c, cs, h1, h2, h3, h4, h5, ?_, fun hx => hGG _ (h7 hx), RvL.frame hG hGG noGM noGM xs cs (fun _ _ => rfl) h8, h9⟩
      by_cases hx : xs = []
      · have := h8.length; rw [hx] at this
        rw [List.eq_nil_of_length_eq_zero this]
        exact CellsAt.nil _ _
      · exact h6.frame (hG _ (h7 hx))
  | .ag xs, v, hn, h => by
    obtain ⟨cs, h1, h2⟩ := h
    exact ⟨cs, h1, RvL.frame hG hGG gm gm' xs _ hn h2⟩
  | .tp xs, v, hn, h => by
    obtain ⟨cs, h1, h2⟩ := h
    exact ⟨cs, h1, RvL.frame hG hGG gm gm' xs _ hn h2⟩
  | .fn f a b, v, hn, h => by
    obtain ⟨first, caps, h1, h2, h3⟩ := h
    simp only [V.names, List.mem_append] at hn
    exact ⟨first, caps, h1, RvL.frame hG hGG gm gm' a _ (fun n h => hn n (.inl h)) h2, RvL.frame hG hGG gm gm' b _ (fun n h => hn n (.inr h)) h3⟩
  | .ifc t x, v, hn, h => by
    obtain ⟨u, h1, h2⟩ := h
    exact ⟨u, h1, Rv.frame hG hGG gm gm' x u hn h2⟩
  | .ref q, v, hn, h => by
    have := hn q.r (by simp [V.names])
    simpa only [Rv, nameRef, skAt, this] using h
  | .vw q lo hi, v, hn, h => by
    have := hn q.r (by simp [V.names])
    simpa only [Rv, nameVw, skAt, this] using h
  | .ptrB r j, v, hn, h => by
    have := hn r (by simp [V.names])
    simpa only [Rv, namePtrB, this] using h
  | .ptrE q i off, v, hn, h => by
    have := hn q.r (by simp [V.names])
    simpa only [Rv, namePtrE, skAt, this] using h
  | .pim n xs off, v, _, h => by
    obtain ⟨b, o, cs, h1, h2, h3, h4, h5⟩ := h
    refine ⟨b, o, cs, h1, h2, ?_, fun hx => hGG _ (h4 hx), RvL.frame hG hGG noGM noGM xs cs (fun _ _ => rfl) h5⟩
    by_cases hx : xs = []
    · have := h5.length; rw [hx] at this
      rw [List.eq_nil_of_length_eq_zero this]
      exact CellsAt.nil _ _
    · exact h3.frame (hG _ (h4 hx))
  | .own _ _ _, v, _, h => h
  | .slf, v, _, h => h
  | .bad, v, _, h => h
theorem RvL.frame (hG : ∀ k, G k → w'.heap[k]? = w.heap[k]?) (hGG : ∀ k, G k → G' k) (gm gm' : GM) :
    ∀ (xs : List V) (vs : List Value), (∀ n ∈ namesL xs, gm' n = gm n) → RvL w G gm vs xs → RvL w' G' gm' vs xs
  | [], [], _, _ => trivial
  | x :: xs, v :: vs, hn, h => by
    simp only [namesL, List.mem_append] at hn
    exact ⟨Rv.frame hG hGG gm gm' x v (fun n h => hn n (.inl h)) h.1, RvL.frame hG hGG gm gm' xs vs (fun n h => hn n (.inr h)) h.2⟩
  | [], _ :: _, _, h => h.elim
  | _ :: _, [], _, h => h.elim
end

variable {P : Program}
/- What is owned stays, where its blocks and those that are only read stay. -/
mutual
theorem OwnC.frame (hG : ∀ k, G k → w'.heap[k]? = w.heap[k]?) (hGG : ∀ k, G k → G' k) :
    ∀ (x : V) (v : Value) (s : Sk), (∀ k ∈ s.fp, w'.heap[k]? = w.heap[k]?) → OwnC w G P v x s → OwnC w' G' P v x s
  | .own e d cells, v, .nil, _, h => h
  | .own e d cells, v, .leaf, _, h => h
  | .own e d cells, v, .node g n cap sz sks, hf, h => by
    obtain ⟨cur, fr, h1, h2, h3, h4, h5, h6, h7, h8, h9, h10, h11⟩ := h
    simp only [Sk.fp, List.mem_cons] at hf
    exact ⟨cur, fr, h1, by rw [hf g (.inl rfl)]; exact h2, h3, h4, h5, h6, h7, h8, h9, OwnL.frame hG hGG cells _ sks (fun k hk => hf k (.inr hk)) h10, h11⟩
  | .bad, _, _, _, h => h
  | .slf, _, _, _, h => h
  | .sc u, v, s, _, h => ⟨h.1, h.2.1, Rv.frame hG hGG noGM noGM _ v (fun _ _ => rfl) h.2.2⟩
  | .nl _, v, s, _, h => ⟨h.1, h.2.1, Rv.frame hG hGG noGM noGM _ v (fun _ _ => rfl) h.2.2⟩
  | .sl _ _, v, s, _, h => ⟨h.1, h.2.1, Rv.frame hG hGG noGM noGM _ v (fun _ _ => rfl) h.2.2⟩
  | .ag _, v, s, _, h => ⟨h.1, h.2.1, Rv.frame hG hGG noGM noGM _ v (fun _ _ => rfl) h.2.2⟩
  | .tp _, v, s, _, h => ⟨h.1, h.2.1, Rv.frame hG hGG noGM noGM _ v (fun _ _ => rfl) h.2.2⟩
  | .fn _ _ _, v, s, _, h => ⟨h.1, h.2.1, Rv.frame hG hGG noGM noGM _ v (fun _ _ => rfl) h.2.2⟩
  | .ifc _ _, v, s, _, h => ⟨h.1, h.2.1, Rv.frame hG hGG noGM noGM _ v (fun _ _ => rfl) h.2.2⟩
  | .ref _, v, s, _, h => ⟨h.1, h.2.1, Rv.frame hG hGG noGM noGM _ v (fun _ _ => rfl) h.2.2⟩
  | .vw _ _ _, v, s, _, h => ⟨h.1, h.2.1, Rv.frame hG hGG noGM noGM _ v (fun _ _ => rfl) h.2.2⟩
  | .ptrB _ _, v, s, _, h => ⟨h.1, h.2.1, Rv.frame hG hGG noGM noGM _ v (fun _ _ => rfl) h.2.2⟩
  | .ptrE _ _ _, v, s, _, h => ⟨h.1, h.2.1, Rv.frame hG hGG noGM noGM _ v (fun _ _ => rfl) h.2.2⟩
  | .pim _ _ _, v, s, _, h => ⟨h.1, h.2.1, Rv.frame hG hGG noGM noGM _ v (fun _ _ => rfl) h.2.2⟩
theorem OwnL.frame (hG : ∀ k, G k → w'.heap[k]? = w.heap[k]?) (hGG : ∀ k, G k → G' k) :
    ∀ (xs : List V) (vs : List Value) (ss : List Sk), (∀ k ∈ fpL ss, w'.heap[k]? = w.heap[k]?) → OwnL w G P vs xs ss → OwnL w' G' P vs xs ss
  | [], [], [], _, _ => trivial
  | x :: xs, v :: vs, s :: ss, hf, h => by
    simp only [fpL, List.mem_append] at hf
    exact ⟨OwnC.frame hG hGG x v s (fun k hk => hf k (.inl hk)) h.1, OwnL.frame hG hGG xs vs ss (fun k hk => hf k (.inr hk)) h.2⟩
  | [], _ :: _, _, _, h => by simp [OwnL] at h
  | [], [], _ :: _, _, h => by simp [OwnL] at h
  | _ :: _, [], _, _, h => by simp [OwnL] at h
  | _ :: _, _ :: _, [], _, h => by simp [OwnL] at h
end
end frame
end Go.Ab
/- Places within own slices: what is there, and what a change there leaves. -/
set_option linter.unusedVariables false
namespace Go.Ab
open Go

theorem Nm.eq_iff (a b : Nm) : Nm.eq a b = true ↔ a = b := by
  cases a <;> cases b <;> simp [Nm.eq]
theorem Nm.eq_self (a : Nm) : Nm.eq a a = true := (Nm.eq_iff a a).2 rfl
theorem Nm.eq_ne {a b : Nm} (h : a ≠ b) : Nm.eq a b = false := by
  cases e : Nm.eq a b
  · rfl
  · exact absurd ((Nm.eq_iff a b).1 e) h
theorem Nm.mem_iff (n : Nm) (l : List Nm) : n.mem l = true ↔ n ∈ l := by
  induction l with
  | nil => simp [Nm.mem]
  | cons m l ih => simp [Nm.mem, ih, Nm.eq_iff]
theorem Nm.mem_false (n : Nm) (l : List Nm) : n.mem l = false ↔ n ∉ l := by
  rw [← Nm.mem_iff]; simp
theorem setR_self (rd : Nm → Option Rg) (n : Nm) (x : Option Rg) : setR rd n x n = x := by simp [setR, Nm.eq_self]
theorem setR_ne (rd : Nm → Option Rg) {n m : Nm} (x : Option Rg) (h : m ≠ n) : setR rd n x m = rd m := by simp [setR, Nm.eq_ne h]

@[simp] theorem nthV_zero (x : V) (l : List V) : nthV (x :: l) 0 = x := rfl
@[simp] theorem nthV_succ (x : V) (l : List V) (j : Nat) : nthV (x :: l) (j + 1) = nthV l j := rfl
@[simp] theorem nthS_zero (x : Sk) (l : List Sk) : nthS (x :: l) 0 = x := rfl
@[simp] theorem nthS_succ (x : Sk) (l : List Sk) (j : Nat) : nthS (x :: l) (j + 1) = nthS l j := rfl
theorem nthV_out : ∀ (l : List V) (j : Nat), l.length ≤ j → nthV l j = .bad
  | [], _, _ => rfl
  | _ :: l, j + 1, h => nthV_out l j (by simpa using h)
  | _ :: _, 0, h => by simp at h
theorem nthS_out : ∀ (l : List Sk) (j : Nat), l.length ≤ j → nthS l j = .leaf
  | [], _, _ => rfl
  | _ :: l, j + 1, h => nthS_out l j (by simpa using h)
  | _ :: _, 0, h => by simp at h
theorem nthV_get : ∀ (l : List V) (j : Nat) (h : j < l.length), nthV l j = l[j]
  | _ :: _, 0, _ => rfl
  | _ :: l, j + 1, h => by simpa only [nthV_succ, List.getElem_cons_succ] using nthV_get l j (by simpa using h)
theorem getV_nil : ∀ (p : List Nat) (i : Nat), getV p [] i = .bad
  | [], _ => rfl
  | a :: p, i => by simpa [getV, nthV, ownXs] using getV_nil p a
theorem getSk_nil : ∀ (p : List Nat) (i : Nat), getSk p [] i = .leaf
  | [], _ => rfl
  | a :: p, i => by simpa [getSk, nthS, skCells] using getSk_nil p a

/-! ### bones -/
theorem fpL_append (a b : List Sk) : fpL (a ++ b) = fpL a ++ fpL b := by
  induction a with
  | nil => rfl
  | cons s l ih => simp [fpL, ih]

theorem fpL_set_perm : ∀ (sks : List Sk) (j : Nat), j < sks.length → ∃ rest, (fpL sks).Perm ((nthS sks j).fp ++ rest) ∧ ∀ s', (fpL (sks.set j s')).Perm (s'.fp ++ rest)
  | s :: l, 0, _ => ⟨fpL l, by simp [fpL], fun s' => by simp [fpL]⟩
  | s :: l, j + 1, h => by
    obtain ⟨rest, h1, h2⟩ := fpL_set_perm l j (by simpa using h)
    refine ⟨s.fp ++ rest, ?_, fun s' => ?_⟩
    · simp only [fpL, nthS_succ]
      refine (List.Perm.append_left _ h1).trans ?_
      rw [← List.append_assoc, ← List.append_assoc]
      exact List.Perm.append_right _ List.perm_append_comm
    · simp only [fpL, List.set_cons_succ]
      refine (List.Perm.append_left _ (h2 s')).trans ?_
      rw [← List.append_assoc, ← List.append_assoc]
      exact List.Perm.append_right _ List.perm_append_comm

/-- The blocks of a place, and all others of the row: the others stay, whatever is put there. -/
theorem getSk_perm : ∀ (p : List Nat) (sks : List Sk) (j : Nat), getSk p sks j ≠ .leaf →
    ∃ rest, (fpL sks).Perm ((getSk p sks j).fp ++ rest) ∧ ∀ s', (fpL (setSk p sks j s')).Perm (s'.fp ++ rest)
  | [], sks, j, h => by
    refine fpL_set_perm sks j ?_
    rcases Nat.lt_or_ge j sks.length with h' | h'
    · exact h'
    · exact absurd (by simp [getSk, nthS_out _ _ h']) h
  | i :: p, sks, j, h => by
    have hj : j < sks.length := by
      rcases Nat.lt_or_ge j sks.length with h' | h'
      · exact h'
      · exact absurd (by simp only [getSk, nthS_out _ _ h', skCells]; exact getSk_nil p i) h
    obtain ⟨rest, h1, h2⟩ := fpL_set_perm sks j hj
    cases hs : nthS sks j with
    | node g n cap sz cs =>
      have hh : getSk p cs i ≠ .leaf := by simpa [getSk, hs, skCells] using h
      obtain ⟨rest', h3, h4⟩ := getSk_perm p cs i hh
      refine ⟨g :: rest' ++ rest, ?_, fun s' => ?_⟩
      · have e : getSk (i :: p) sks j = getSk p cs i := by simp [getSk, hs, skCells]
        rw [e]
        refine h1.trans ?_
        rw [hs]
        simp only [Sk.fp, List.cons_append]
        refine (List.Perm.cons g (List.Perm.append_right _ h3)).trans ?_
        rw [List.append_assoc]
        exact List.perm_middle.symm
      · have e : setSk (i :: p) sks j s' = sks.set j (.node g n cap sz (setSk p cs i s')) := by simp [setSk, hs, skSetCells]
        rw [e]
        refine (h2 _).trans ?_
        simp only [Sk.fp, List.cons_append]
        refine (List.Perm.cons g (List.Perm.append_right _ (h4 s'))).trans ?_
        rw [List.append_assoc]
        exact List.perm_middle.symm
    | leaf =>
      exact absurd (by simp only [getSk, hs, skCells]; exact getSk_nil p i) h
    | nil =>
      exact absurd (by simp only [getSk, hs, skCells]; exact getSk_nil p i) h

section own
variable {w w' : World} {G G' : Nat → Prop} {P : Program}

theorem OwnL.length : ∀ {vs : List Value} {xs : List V} {ss : List Sk}, OwnL w G P vs xs ss → vs.length = xs.length ∧ ss.length = xs.length
  | [], [], [], _ => ⟨rfl, rfl⟩
  | _ :: _, _ :: _, _ :: _, h => by simp only [OwnL] at h; have := OwnL.length h.2; simp [this.1, this.2]
  | [], _ :: _, _, h => by simp [OwnL] at h
  | [], [], _ :: _, h => by simp [OwnL] at h
  | _ :: _, [], _, h => by simp [OwnL] at h
  | _ :: _, _ :: _, [], h => by simp [OwnL] at h

theorem OwnL.append : ∀ {vs : List Value} {xs : List V} {ss : List Sk} {vs' : List Value} {xs' : List V} {ss' : List Sk},
    OwnL w G P vs xs ss → OwnL w G P vs' xs' ss' → OwnL w G P (vs ++ vs') (xs ++ xs') (ss ++ ss')
  | [], [], [], _, _, _, _, h => h
  | _ :: _, _ :: _, _ :: _, _, _, _, h, h' => by simp only [OwnL] at h; exact ⟨h.1, OwnL.append h.2 h'⟩
  | [], _ :: _, _, _, _, _, h, _ => by simp [OwnL] at h
  | [], [], _ :: _, _, _, _, h, _ => by simp [OwnL] at h
  | _ :: _, [], _, _, _, _, h, _ => by simp [OwnL] at h
  | _ :: _, _ :: _, [], _, _, _, h, _ => by simp [OwnL] at h

theorem OwnL.get : ∀ {vs : List Value} {xs : List V} {ss : List Sk}, OwnL w G P vs xs ss → ∀ k, k < xs.length →
    ∃ v, vs[k]? = some v ∧ OwnC w G P v (nthV xs k) (nthS ss k)
  | v :: _, _ :: _, _ :: _, h, 0, _ => by simp only [OwnL] at h; exact ⟨v, rfl, h.1⟩
  | _ :: _, _ :: _, _ :: _, h, k + 1, hk => by
    simp only [OwnL] at h
    simpa using OwnL.get h.2 k (by simpa using hk)
  | [], [], [], _, k, hk => by simp at hk
  | [], _ :: _, _, h, _, _ => by simp [OwnL] at h
  | [], [], _ :: _, h, _, _ => by simp [OwnL] at h
  | _ :: _, [], _, h, _, _ => by simp [OwnL] at h
  | _ :: _, _ :: _, [], h, _, _ => by simp [OwnL] at h

theorem OwnL.set : ∀ {vs : List Value} {xs : List V} {ss : List Sk}, OwnL w G P vs xs ss → ∀ k v x s, OwnC w G P v x s →
    OwnL w G P (vs.set k v) (xs.set k x) (ss.set k s)
  | _ :: _, _ :: _, _ :: _, h, 0, v, x, s, h' => by simp only [OwnL] at h; exact ⟨h', h.2⟩
  | _ :: _, _ :: _, _ :: _, h, k + 1, v, x, s, h' => by
    simp only [OwnL] at h
    exact ⟨h.1, OwnL.set h.2 k v x s h'⟩
  | [], [], [], _, k, _, _, _, _ => by simp [OwnL]
  | [], _ :: _, _, h, _, _, _, _, _ => by simp [OwnL] at h
  | [], [], _ :: _, h, _, _, _, _, _ => by simp [OwnL] at h
  | _ :: _, [], _, h, _, _, _, _, _ => by simp [OwnL] at h
  | _ :: _, _ :: _, [], h, _, _, _, _, _ => by simp [OwnL] at h

theorem OwnL.take : ∀ {vs : List Value} {xs : List V} {ss : List Sk}, OwnL w G P vs xs ss → ∀ k, OwnL w G P (vs.take k) (xs.take k) (ss.take k)
  | [], [], [], _, k => by simp [OwnL]
  | _ :: _, _ :: _, _ :: _, h, 0 => by simp [OwnL]
  | _ :: _, _ :: _, _ :: _, h, k + 1 => by simp only [OwnL] at h; exact ⟨h.1, OwnL.take h.2 k⟩
  | [], _ :: _, _, h, _ => by simp [OwnL] at h
  | [], [], _ :: _, h, _ => by simp [OwnL] at h
  | _ :: _, [], _, h, _ => by simp [OwnL] at h
  | _ :: _, _ :: _, [], h, _ => by simp [OwnL] at h

theorem fpL_take_sub : ∀ (ss : List Sk) (k : Nat), (fpL (ss.take k)).Sublist (fpL ss)
  | [], _ => by simp [fpL]
  | s :: l, 0 => by simp [fpL]
  | s :: l, k + 1 => by simp only [List.take_succ_cons, fpL]; exact List.Sublist.append (List.Sublist.refl _) (fpL_take_sub l k)

/- All blocks that are owned are there. -/
mutual
theorem OwnC.lt : ∀ (x : V) (v : Value) (s : Sk), OwnC w G P v x s → ∀ k ∈ s.fp, k < w.heap.size
  | .own e d cells, v, .nil, _, k, hk => by simp [Sk.fp] at hk
  | .own e d cells, v, .leaf, _, k, hk => by simp [Sk.fp] at hk
  | .own e d cells, v, .node g n cap sz sks, h, k, hk => by
    obtain ⟨cur, fr, h1, h2, h3, h4, h5, h6, h7, h8, h9, h10, h11⟩ := h
    simp only [Sk.fp, List.mem_cons] at hk
    rcases hk with rfl | hk
    · exact (Array.getElem?_eq_some_iff.1 h2).1
    · exact OwnL.lt cells _ sks h10 k hk
  | .bad, _, s, h, k, hk => by obtain rfl := h.1; simp [Sk.fp] at hk
  | .sc u, v, s, h, k, hk => by obtain ⟨rfl, _⟩ := h; simp [Sk.fp] at hk
  | .nl _, v, s, h, k, hk => by obtain ⟨rfl, _⟩ := h; simp [Sk.fp] at hk
  | .sl _ _, v, s, h, k, hk => by obtain ⟨rfl, _⟩ := h; simp [Sk.fp] at hk
  | .ag _, v, s, h, k, hk => by obtain ⟨rfl, _⟩ := h; simp [Sk.fp] at hk
  | .tp _, v, s, h, k, hk => by obtain ⟨rfl, _⟩ := h; simp [Sk.fp] at hk
  | .fn _ _ _, v, s, h, k, hk => by obtain ⟨rfl, _⟩ := h; simp [Sk.fp] at hk
  | .ifc _ _, v, s, h, k, hk => by obtain ⟨rfl, _⟩ := h; simp [Sk.fp] at hk
  | .ref _, v, s, h, k, hk => by obtain ⟨rfl, _⟩ := h; simp [Sk.fp] at hk
  | .vw _ _ _, v, s, h, k, hk => by obtain ⟨rfl, _⟩ := h; simp [Sk.fp] at hk
  | .ptrB _ _, v, s, h, k, hk => by obtain ⟨rfl, _⟩ := h; simp [Sk.fp] at hk
  | .ptrE _ _ _, v, s, h, k, hk => by obtain ⟨rfl, _⟩ := h; simp [Sk.fp] at hk
  | .pim _ _ _, v, s, h, k, hk => by obtain ⟨rfl, _⟩ := h; simp [Sk.fp] at hk
theorem OwnL.lt : ∀ (xs : List V) (vs : List Value) (ss : List Sk), OwnL w G P vs xs ss → ∀ k ∈ fpL ss, k < w.heap.size
  | [], [], [], _, k, hk => by simp [fpL] at hk
  | x :: xs, v :: vs, s :: ss, h, k, hk => by
    simp only [fpL, List.mem_append] at hk
    exact hk.elim (OwnC.lt x v s h.1 k) (OwnL.lt xs vs ss h.2 k)
  | [], _ :: _, _, h, _, _ => by simp [OwnL] at h
  | [], [], _ :: _, h, _, _ => by simp [OwnL] at h
  | _ :: _, [], _, h, _, _ => by simp [OwnL] at h
  | _ :: _, _ :: _, [], h, _, _ => by simp [OwnL] at h
end

theorem RgOk.lt {rg : Rg} {R : RG} (h : RgOk w G P rg R) : ∀ k ∈ R.fp, k < w.heap.size := by
  intro k hk
  simp only [RG.fp, List.mem_append, Option.mem_toList] at hk
  rcases hk with hk | hk
  · obtain ⟨⟨t, ht, _⟩, _⟩ := h.2.2 k hk
    exact (Array.getElem?_eq_some_iff.1 ht).1
  · exact OwnL.lt _ _ _ h.2.1 k hk

theorem RgOk.frame {rg : Rg} {R : RG} (h : RgOk w G P rg R) (hG : ∀ k, G k → w'.heap[k]? = w.heap[k]?) (hGG : ∀ k, G k → G' k)
    (hf : ∀ k ∈ R.fp, w'.heap[k]? = w.heap[k]?) : RgOk w' G' P rg R := by
  refine ⟨h.1, OwnL.frame hG hGG _ _ _ (fun k hk => hf k (by simp [RG.fp, hk])) h.2.1, fun b hb => ?_⟩
  obtain ⟨⟨t, ht, hty⟩, hs⟩ := h.2.2 b hb
  exact ⟨⟨t, by rw [hf b (by simp [RG.fp, hb])]; exact ht, hty⟩, hs⟩

/-- What is at a place, with its bones. -/
theorem OwnL.at : ∀ (p : List Nat) (row : List V) (j : Nat) (vals : List Value) (sks : List Sk), OwnL w G P vals row sks → getV p row j ≠ .bad →
    ∃ v, OwnC w G P v (getV p row j) (getSk p sks j) ∧ (p = [] → vals[j]? = some v)
  | [], row, j, vals, sks, h, hx => by
    have hj : j < row.length := by
      rcases Nat.lt_or_ge j row.length with h' | h'
      · exact h'
      · exact absurd (by simp [getV, nthV_out _ _ h']) hx
    obtain ⟨v, h1, h2⟩ := h.get j hj
    exact ⟨v, h2, fun _ => h1⟩
  | i :: p, row, j, vals, sks, h, hx => by
    have hj : j < row.length := by
      rcases Nat.lt_or_ge j row.length with h' | h'
      · exact h'
      · exact absurd (by simp only [getV, nthV_out _ _ h', ownXs]; exact getV_nil p i) hx
    obtain ⟨v, h1, h2⟩ := h.get j hj
    cases hr : nthV row j with
    | own e d cells =>
      rw [hr] at h2
      have ex : getV (i :: p) row j = getV p cells i := by simp [getV, hr, ownXs]
      cases hs : nthS sks j with
      | node g n cap sz cs =>
        rw [hs] at h2
        obtain ⟨cur, fr, g1, g2, g3, g4, g5, g6, g7, g8, g9, g10, g11⟩ := h2
        have es : getSk (i :: p) sks j = getSk p cs i := by simp [getSk, hs, skCells]
        rw [ex, es]
        obtain ⟨v', k1, _⟩ := OwnL.at p cells i _ cs g10 (by rwa [← ex])
        exact ⟨v', k1, fun h => by simp at h⟩
      | leaf => rw [hs] at h2; exact h2.elim
      | nil =>
        rw [hs] at h2
        obtain ⟨_, rfl⟩ := h2
        exact absurd (by rw [ex]; exact getV_nil p i) hx
    | _ => exact absurd (by simp only [getV, hr, ownXs]; exact getV_nil p i) hx

theorem cib_or {x : V} (h : x.cib = true) : x = .bad ∨ x.cim = true := by
  cases x <;> first | exact .inl rfl | exact .inr h
theorem cim_cib {x : V} (h : x.cim = true) : x.cib = true := by
  cases x <;> first | rfl | exact h
theorem cimL_cib : ∀ (l : List V), cimL l = true → cibL l = true
  | [], _ => rfl
  | x :: l, h => by simp only [cimL, Bool.and_eq_true] at h; simp [cibL, cim_cib h.1, cimL_cib l h.2]
theorem cibL_append (a b : List V) : cibL (a ++ b) = (cibL a && cibL b) := by
  induction a with
  | nil => simp [cibL]
  | cons x a ih => simp [cibL, ih, Bool.and_assoc]
theorem cibL_take : ∀ (l : List V) (k : Nat), cibL l = true → cibL (l.take k) = true
  | [], k, _ => by cases k <;> rfl
  | x :: l, 0, _ => rfl
  | x :: l, k + 1, h => by simp only [cibL, Bool.and_eq_true] at h; simp [cibL, h.1, cibL_take l k h.2]
theorem cibL_drop : ∀ (l : List V) (k : Nat), cibL l = true → cibL (l.drop k) = true
  | [], k, _ => by cases k <;> rfl
  | x :: l, 0, h => h
  | x :: l, k + 1, h => by simp only [cibL, Bool.and_eq_true] at h; simpa using cibL_drop l k h.2

theorem cimL_nth : ∀ (l : List V) (j : Nat), cibL l = true → nthV l j = .bad ∨ (nthV l j).cim = true
  | [], _, _ => .inl rfl
  | x :: l, 0, h => by simp only [cibL, Bool.and_eq_true] at h; exact cib_or h.1
  | x :: l, j + 1, h => by simp only [cibL, Bool.and_eq_true] at h; exact cimL_nth l j h.2

theorem imm_no_own : ∀ (p : List Nat) (l : List V) (j : Nat) (e : TypeId) (d : Bool) (xs : List V), cibL l = true → getV p l j ≠ .own e d xs
  | [], l, j, e, d, xs, h, hx => by
    simp only [getV] at hx
    rcases cimL_nth l j h with h' | h'
    · rw [hx] at h'; cases h'
    · rw [hx] at h'; simp [V.cim, V.imm] at h'
  | i :: p, l, j, e, d, xs, h, hx => by
    have : ownXs (nthV l j) = [] := by
      rcases cimL_nth l j h with h' | h'
      · rw [h']; rfl
      · cases hh : nthV l j <;> simp [ownXs]
        rw [hh] at h'; simp [V.cim, V.imm] at h'
    simp only [getV, this, getV_nil] at hx
    cases hx

theorem setV_length (q : List Nat) (row : List V) (i : Nat) (x : V) : (setV q row i x).length = row.length := by
  cases q <;> simp [setV]

/-- A change at a root cell. -/
theorem OwnL.put0 (hG : ∀ k, G k → w'.heap[k]? = w.heap[k]?) (hGG : ∀ k, G k → G' k) (x' : V) (s' : Sk) :
    ∀ (row : List V) (j : Nat) (vals : List Value) (sks : List Sk), OwnL w G P vals row sks → (fpL sks).Nodup → j < row.length →
    (∀ v, vals[j]? = some v → OwnC w G P v (nthV row j) (nthS sks j) → OwnC w' G' P v x' s') →
    (∀ k ∈ fpL sks, k ∉ (nthS sks j).fp → w'.heap[k]? = w.heap[k]?) →
    OwnL w' G' P vals (row.set j x') (sks.set j s')
  | [], _, _, _, _, _, hj, _, _ => by simp at hj
  | _ :: _, _, [], _, h, _, _, _, _ => by simp [OwnL] at h
  | _ :: _, _, _ :: _, [], h, _, _, _, _ => by simp [OwnL] at h
  | y :: ys, 0, v :: vs, s :: ss, h, hnd, hj, hput, hk => by
    simp only [OwnL] at h
    simp only [fpL, List.nodup_append] at hnd
    refine ⟨hput v rfl h.1, OwnL.frame hG hGG _ _ _ (fun k hk' => hk k (by simp [fpL, hk']) ?_) h.2⟩
    intro hm
    exact hnd.2.2 k (by simpa using hm) k hk' rfl
  | y :: ys, j + 1, v :: vs, s :: ss, h, hnd, hj, hput, hk => by
    simp only [OwnL] at h
    simp only [fpL, List.nodup_append] at hnd
    refine ⟨OwnC.frame hG hGG _ _ _ (fun k hk' => hk k (by simp [fpL, hk']) ?_) h.1,
      OwnL.put0 hG hGG x' s' ys j vs ss h.2 hnd.2.1 (by simpa using hj) (fun v hv => hput v (by simpa using hv)) (fun k hk1 hk2 => hk k (by simp [fpL, hk1]) (by simpa using hk2))⟩
    intro hm
    simp only [nthS_succ] at hm
    have hlt : j < ss.length := by
      rcases Nat.lt_or_ge j ss.length with h' | h'
      · exact h'
      · rw [nthS_out _ _ h'] at hm; simp [Sk.fp] at hm
    obtain ⟨rest, hp, _⟩ := fpL_set_perm ss j hlt
    exact hnd.2.2 k hk' k (hp.mem_iff.2 (List.mem_append_left _ hm)) rfl

/-- A change at a place at which an own slice is: what is put there is owned in the new world; all else stands. -/
theorem OwnL.put (hG : ∀ k, G k → w'.heap[k]? = w.heap[k]?) (hGG : ∀ k, G k → G' k) (x' : V) (s' : Sk) (e0 : TypeId) (d0 : Bool) (xs0 : List V) :
    ∀ (p : List Nat) (row : List V) (j : Nat) (vals : List Value) (sks : List Sk), OwnL w G P vals row sks → (fpL sks).Nodup →
    getV p row j = .own e0 d0 xs0 →
    (∀ v, OwnC w G P v (.own e0 d0 xs0) (getSk p sks j) → OwnC w' G' P v x' s') →
    (∀ k ∈ fpL sks, k ∉ (getSk p sks j).fp → w'.heap[k]? = w.heap[k]?) →
    OwnL w' G' P vals (setV p row j x') (setSk p sks j s')
  | [], row, j, vals, sks, h, hnd, hx, hput, hk => by
    have hj : j < row.length := by
      rcases Nat.lt_or_ge j row.length with h' | h'
      · exact h'
      · simp only [getV, nthV_out _ _ h'] at hx; cases hx
    exact OwnL.put0 hG hGG x' s' row j vals sks h hnd hj (fun v _ hv => hput v (by simp only [getV] at hx; rw [← hx]; exact hv)) hk
  | i :: p, row, j, vals, sks, h, hnd, hx, hput, hk => by
    have hj : j < row.length := by
      rcases Nat.lt_or_ge j row.length with h' | h'
      · exact h'
      · simp only [getV, nthV_out _ _ h', ownXs, getV_nil] at hx; cases hx
    obtain ⟨v, h1, h2⟩ := h.get j hj
    have hsl : j < sks.length := by have := h.length.2; omega
    obtain ⟨rest, hp, _⟩ := fpL_set_perm sks j hsl
    cases hr : nthV row j with
    | own e d cells =>
      rw [hr] at h2
      have ex : getV (i :: p) row j = getV p cells i := by simp only [getV, hr, ownXs]
      have esv : setV (i :: p) row j x' = row.set j (.own e d (setV p cells i x')) := by simp only [setV, hr, setOwn]
      rw [ex] at hx
      cases hs : nthS sks j with
      | node g n cap sz cs =>
        rw [hs] at h2 hp
        have es : getSk (i :: p) sks j = getSk p cs i := by simp only [getSk, hs, skCells]
        have ess : setSk (i :: p) sks j s' = sks.set j (.node g n cap sz (setSk p cs i s')) := by simp only [setSk, hs, skSetCells]
        rw [es] at hput hk
        have hsub : ∀ k, k ∈ (getSk p cs i).fp → k ∈ fpL cs := by
          by_cases hl : getSk p cs i = .leaf
          · intro k hk; rw [hl] at hk; simp [Sk.fp] at hk
          · obtain ⟨r2, hp2, _⟩ := getSk_perm p cs i hl
            exact fun k hk => hp2.mem_iff.2 (List.mem_append_left _ hk)
        have hndc : g ∉ fpL cs ∧ (fpL cs).Nodup := by
          have := hp.nodup_iff.1 hnd
          simp only [Sk.fp, List.cons_append, List.nodup_cons, List.mem_append, not_or, List.nodup_append] at this
          exact ⟨this.1.1, this.2.1⟩
        rw [esv, ess]
        refine OwnL.put0 hG hGG _ _ row j vals sks h hnd hj ?_ ?_
        · intro u _ hu
          rw [hr, hs] at hu
          obtain ⟨cur, fr, g1, g2, g3, g4, g5, g6, g7, g8, g9, g10, g11⟩ := hu
          have hgg : w'.heap[g]? = w.heap[g]? := hk g (hp.mem_iff.2 (by simp [Sk.fp])) (fun hm => hndc.1 (hsub g hm))
          refine ⟨cur, fr, g1, by rw [hgg]; exact g2, g3, g4, g5, g6, g7, g8, by rw [setV_length]; exact g9, ?_, ?_⟩
          · refine OwnL.put hG hGG x' s' e0 d0 xs0 p cells i _ cs g10 hndc.2 hx hput ?_
            intro k hk1 hk2
            exact hk k (hp.mem_iff.2 (by simp [Sk.fp, hk1])) hk2
          · intro hd
            exact absurd hx (imm_no_own p cells i e0 d0 xs0 (g11 hd))
        · intro k hk1 hk2
          rw [hs] at hk2
          exact hk k hk1 (fun hm => hk2 (by simp [Sk.fp, hsub k hm]))
      | leaf => rw [hs] at h2; exact h2.elim
      | nil =>
        rw [hs] at h2
        obtain ⟨_, rfl⟩ := h2
        rw [getV_nil] at hx; cases hx
    | _ => simp only [getV, hr, ownXs, getV_nil] at hx; cases hx
end own

set_option linter.unusedVariables false in
theorem nthV_slf : ∀ (l : List V) (j : Nat), nthV l j = .slf → l[j]? = some .slf
  | [], _, h => by cases h
  | x :: _, 0, h => by simpa [nthV] using h
  | _ :: l, j + 1, h => by simpa using nthV_slf l j h

set_option linter.unusedVariables false in
theorem setV_slf (p : List Nat) (row : List V) (j : Nat) (x : V) (hx : x ≠ .slf) (k : Nat)
    (h : (setV p row j x)[k]? = some .slf) : row[k]? = some .slf := by
  cases p with
  | nil =>
    simp only [setV, List.getElem?_set] at h
    split at h
    · split at h
      · exact absurd (Option.some.inj h) hx
      · cases h
    · exact h
  | cons i p =>
    simp only [setV, List.getElem?_set] at h
    split at h
    · next hjk =>
      subst hjk
      split at h
      · have h := Option.some.inj h
        refine nthV_slf row j ?_
        cases hv : nthV row j <;> rw [hv] at h <;> simp [setOwn] at h <;> rfl
      · cases h
    · exact h

theorem SelfOk.of {b : Nat} {row row' : List V} {vals : List Value} (h : SelfOk b row vals) (hr : ∀ k : Nat, row'[k]? = some .slf → row[k]? = some .slf) : SelfOk b row' vals :=
  fun k hk => h k (hr k hk)
theorem TypT.of {P : Program} {t : TypeId} {row row' : List V} (h : TypT P t row) (hr : ∀ k : Nat, row'[k]? = some .slf → row[k]? = some .slf) : TypT P t row' :=
  fun k hk => h k (hr k hk)
theorem TypT.none {P : Program} {t : TypeId} {row : List V} (h : ∀ x ∈ row, x ≠ .slf) : TypT P t row :=
  fun k hk => absurd rfl (h _ (List.mem_of_getElem? hk))
theorem SelfOk.none {b : Nat} {row : List V} {vals : List Value} (h : ∀ x ∈ row, x ≠ .slf) : SelfOk b row vals :=
  fun k hk => absurd rfl (h _ (List.mem_of_getElem? hk))

end Go.Ab
/- Changes of the regions: what is taken, what is frozen, what is new; and what the names then stand for. -/
namespace Go.Ab
open Go

section
variable {P : Program} {w0 w w' : World} {F : FG} {regs regs' : Nm → Option Rg} {G G' : Nat → Prop} {gm gm' : GM}

theorem Regs.ok (h : Regs P w0 F regs w G gm) {r : Nm} {rg : Rg} (hr : regs r = some rg) : ∃ R, gm r = some R ∧ RgOk w G P rg R := by
  have := h.reg r
  rw [hr] at this
  cases hg : gm r with
  | none => rw [hg] at this; exact this.elim
  | some R => rw [hg] at this; exact ⟨R, rfl, this⟩

theorem Regs.ok' (h : Regs P w0 F regs w G gm) {r : Nm} {R : RG} (hr : gm r = some R) : ∃ rg, regs r = some rg ∧ RgOk w G P rg R := by
  have := h.reg r
  rw [hr] at this
  cases hg : regs r with
  | none => rw [hg] at this; exact this.elim
  | some rg => rw [hg] at this; exact ⟨rg, rfl, this⟩

theorem Regs.none (h : Regs P w0 F regs w G gm) {r : Nm} (hr : regs r = none) : gm r = none := by
  have := h.reg r
  rw [hr] at this
  cases hg : gm r with
  | none => rfl
  | some R => rw [hg] at this; exact this.elim

theorem Regs.lt (h : Regs P w0 F regs w G gm) {r : Nm} {R : RG} (hr : gm r = some R) : ∀ k ∈ R.fp, k < w.heap.size := by
  obtain ⟨rg, _, hok⟩ := h.ok' hr
  exact hok.lt

/-- A block of the regions in C. -/
def InC (C : Nm → Prop) (gm : GM) (b : Nat) : Prop := ∃ r R, C r ∧ gm r = some R ∧ b ∈ R.fp

/-- The regions in C are changed: they hold, of old blocks, none but their own; all else stands. -/
theorem Regs.change (h : Regs P w0 F regs w G gm) (C : Nm → Prop)
    (hw : ∀ k, k < w.heap.size → ¬ InC C gm k → w'.heap[k]? = w.heap[k]?)
    (hos : w'.os = w.os) (htape : w'.tape = w.tape) (hout : w'.output = w.output) (hsize : w.heap.size ≤ w'.heap.size)
    (hsame : ∀ r, ¬ C r → regs' r = regs r ∧ gm' r = gm r)
    (hnew : ∀ r, C r → match regs' r, gm' r with | some rg, some R => RgOk w' G' P rg R | .none, .none => True | _, _ => False)
    (hnd : ∀ r R, C r → gm' r = some R → R.fp.Nodup)
    (hdj : ∀ r r' R R', C r → C r' → r ≠ r' → gm' r = some R → gm' r' = some R' → ∀ b, b ∈ R.fp → b ∉ R'.fp)
    (hsrc : ∀ r R b, C r → gm' r = some R → b ∈ R.fp → InC C gm b ∨ w.heap.size ≤ b)
    (hG1 : ∀ b, G b → G' b)
    (hG2 : ∀ b, G' b → G b ∨ ((InC C gm b ∨ w.heap.size ≤ b) ∧ b < w'.heap.size ∧ ¬ InC C gm' b))
    (hpar : ∀ i R, C (.par i) → gm' (.par i) = some R → ParOk F i R := by intro i R h; simp at h) :
    Regs P w0 F regs' w' G' gm' := by
  have hGw : ∀ k, G k → w'.heap[k]? = w.heap[k]? := by
    intro k hk
    refine hw k (h.old k hk) ?_
    rintro ⟨r, R, _, hr, hb⟩
    exact h.apart r R k hr hb hk
  have other : ∀ r R, ¬ C r → gm r = some R → ∀ b ∈ R.fp, ¬ InC C gm b ∧ b < w.heap.size := by
    intro r R hc hr b hb
    refine ⟨?_, h.lt hr b hb⟩
    rintro ⟨r', R', hc', hr', hb'⟩
    exact h.disj r r' R R' (fun e => hc (e ▸ hc')) hr hr' b hb hb'
  refine ⟨?_, ?_, ?_, ?_, ?_, ?_, ?_, fun b hb => hG1 b (h.base b hb), ?_, ?_, h.tabs.frame hGw hG1⟩
  · intro r
    by_cases hc : C r
    · exact hnew r hc
    · obtain ⟨e1, e2⟩ := hsame r hc
      rw [e1, e2]
      have := h.reg r
      cases hr : regs r with
      | none => rw [hr] at this; cases hg : gm r <;> rw [hg] at this <;> simp_all
      | some rg =>
        rw [hr] at this
        cases hg : gm r with
        | none => rw [hg] at this; exact this.elim
        | some R =>
          rw [hg] at this
          exact this.frame hGw hG1 (fun k hk => hw k (other r R hc hg k hk).2 (other r R hc hg k hk).1)
  · intro r R hr
    by_cases hc : C r
    · exact hnd r R hc hr
    · exact h.nodup r R ((hsame r hc).2 ▸ hr)
  · intro r r' R R' hne hr hr' b hb hb'
    by_cases hc : C r <;> by_cases hc' : C r'
    · exact hdj r r' R R' hc hc' hne hr hr' b hb hb'
    · rw [(hsame r' hc').2] at hr'
      rcases hsrc r R b hc hr hb with h1 | h1
      · exact (other r' R' hc' hr' b hb').1 h1
      · exact absurd (other r' R' hc' hr' b hb').2 (by omega)
    · rw [(hsame r hc).2] at hr
      rcases hsrc r' R' b hc' hr' hb' with h1 | h1
      · exact (other r R hc hr b hb).1 h1
      · exact absurd (other r R hc hr b hb).2 (by omega)
    · rw [(hsame r hc).2] at hr
      rw [(hsame r' hc').2] at hr'
      exact h.disj r r' R R' hne hr hr' b hb hb'
  · intro r R b hr hb hg
    by_cases hc : C r
    · rcases hG2 b hg with h1 | ⟨_, _, h3⟩
      · rcases hsrc r R b hc hr hb with ⟨r', R', _, h2, h3⟩ | h2
        · exact h.apart r' R' b h2 h3 h1
        · have := h.old b h1; omega
      · exact h3 ⟨r, R, hc, hr, hb⟩
    · rw [(hsame r hc).2] at hr
      rcases hG2 b hg with h1 | ⟨h2, _, _⟩
      · exact h.apart r R b hr hb h1
      · rcases h2 with h2 | h2
        · exact (other r R hc hr b hb).1 h2
        · exact absurd (other r R hc hr b hb).2 (by omega)
  · intro r R b hr hb
    by_cases hc : C r
    · rcases hsrc r R b hc hr hb with ⟨r', R', _, h2, h3⟩ | h2
      · exact h.mine r' R' b h2 h3
      · exact .inl (Nat.le_trans h.keep.size h2)
    · exact h.mine r R b ((hsame r hc).2 ▸ hr) hb
  · intro b hb
    rcases hG2 b hb with h1 | ⟨_, h2, _⟩
    · exact Nat.lt_of_lt_of_le (h.old b h1) hsize
    · exact h2
  · refine ⟨hos.trans h.keep.os, htape.trans h.keep.tape, hout.trans h.keep.output, Nat.le_trans h.keep.size hsize, fun k hk hF => ?_⟩
    rw [hw k (Nat.lt_of_lt_of_le hk h.keep.size) ?_]
    · exact h.keep.block k hk hF
    · rintro ⟨r, R, _, hr, hb⟩
      rcases h.mine r R k hr hb with h1 | h1
      · omega
      · exact hF h1
  · intro b hb
    rcases hG2 b hb with h1 | ⟨h2, _, _⟩
    · exact h.grow b h1
    · rcases h2 with ⟨r, R, _, hr, hb'⟩ | h2
      · exact .inr (h.mine r R b hr hb')
      · exact .inr (.inl (Nat.le_trans h.keep.size h2))
  · intro i R hr
    by_cases hc : C (.par i)
    · exact hpar i R hc hr
    · exact h.par i R ((hsame _ hc).2 ▸ hr)

/-- Draws and other things that leave memory as it is. -/
theorem Regs.world (h : Regs P w0 F regs w G gm) (hh : w'.heap = w.heap) (hos : w'.os = w.os) (htape : w'.tape = w.tape) (hout : w'.output = w.output) :
    Regs P w0 F regs w' G gm := by
  refine h.change (fun _ => False) (fun k _ _ => by rw [hh]) hos htape hout (by rw [hh]; exact Nat.le_refl _) (fun _ _ => ⟨rfl, rfl⟩) (fun _ h => h.elim)
    (fun _ _ h => h.elim) (fun _ _ _ _ h => h.elim) (fun _ _ _ h => h.elim) (fun _ h => h) (fun _ h => .inl h)

/-! ### names -/

theorem nameRef_head {q : Pl} {v : Value} (h : skHead (skAt gm' q) = skHead (skAt gm q)) (hv : nameRef gm q v) : nameRef gm' q v := by
  unfold nameRef at *
  cases e : skAt gm q <;> cases e' : skAt gm' q <;> rw [e, e'] at h <;> simp [skHead] at h <;> simp only [e] at hv
  · exact hv
  · obtain ⟨rfl, rfl, rfl, rfl⟩ := h; exact hv
theorem nameVw_head {q : Pl} {lo hi : Nat} {v : Value} (h : skHead (skAt gm' q) = skHead (skAt gm q)) (hv : nameVw gm q lo hi v) : nameVw gm' q lo hi v := by
  unfold nameVw at *
  cases e : skAt gm q <;> cases e' : skAt gm' q <;> rw [e, e'] at h <;> simp [skHead] at h <;> simp only [e] at hv
  · exact hv
  · obtain ⟨rfl, rfl, rfl, rfl⟩ := h; exact hv
theorem namePtrE_head {q : Pl} {i off : Nat} {v : Value} (h : skHead (skAt gm' q) = skHead (skAt gm q)) (hv : namePtrE gm q i off v) : namePtrE gm' q i off v := by
  unfold namePtrE at *
  cases e : skAt gm q <;> cases e' : skAt gm' q <;> rw [e, e'] at h <;> simp [skHead] at h <;> simp only [e] at hv
  · obtain ⟨rfl, rfl, rfl, rfl⟩ := h; exact hv

/-- All names but those that are killed stand for what they stood for. -/
structure Stay (k : Kl) (gm gm' : GM) : Prop where
  own : ∀ q, k.hits q = false → skAt gm q ≠ .leaf → skHead (skAt gm' q) = skHead (skAt gm q)
  box : ∀ r R b, r.mem k.a = false → gm r = some R → R.b = some b → ∃ R', gm' r = some R' ∧ R'.b = some b

theorem Stay.refl (k : Kl) (gm : GM) : Stay k gm gm := ⟨fun _ _ _ => rfl, fun _ R _ _ h1 h2 => ⟨R, h1, h2⟩⟩

theorem mem_append_false {n : Nm} {a b : List Nm} (h : n.mem (a ++ b) = false) : n.mem a = false ∧ n.mem b = false := by
  rw [Nm.mem_false] at *
  rw [Nm.mem_false]
  simp at h
  exact h

theorem hits_and {x y : Kl} {q : Pl} (h : (x.and y).hits q = false) : x.hits q = false ∧ y.hits q = false := by
  simp only [Kl.hits, Kl.and, Bool.or_eq_false_iff, Bool.and_eq_false_iff] at *
  obtain ⟨⟨h1, h2⟩, h3⟩ := h
  have h1 := mem_append_false h1
  have h2 := mem_append_false h2
  rcases h3 with h3 | h3
  · exact ⟨⟨⟨h1.1, h2.1⟩, .inl h3⟩, ⟨h1.2, h2.2⟩, .inl h3⟩
  · have h3 := mem_append_false h3
    exact ⟨⟨⟨h1.1, h2.1⟩, .inr h3.1⟩, ⟨h1.2, h2.2⟩, .inr h3.2⟩

theorem skHead_leaf {s : Sk} : skHead s = .leaf ↔ s = .leaf := by cases s <;> simp [skHead]

theorem Stay.trans {k k' : Kl} {gm'' : GM} (h : Stay k gm gm') (h' : Stay k' gm' gm'') : Stay (k.and k') gm gm'' := by
  refine ⟨fun q hq hl => ?_, fun r R b hr h1 h2 => ?_⟩
  · obtain ⟨a, b⟩ := hits_and hq
    have e := h.own q a hl
    rw [← e]
    refine h'.own q b (fun e' => hl ?_)
    rw [e'] at e
    exact skHead_leaf.1 e.symm
  · have hr' : r.mem k.a = false ∧ r.mem k'.a = false := mem_append_false hr
    obtain ⟨R', g1, g2⟩ := h.box r R b hr'.1 h1 h2
    exact h'.box r R' b hr'.2 g1 g2

theorem Kl.hits_no (q : Pl) : Kl.no.hits q = false := by simp [Kl.hits, Kl.no, Nm.mem]

/- What is read stays where its names are not killed. -/
mutual
theorem Rv.kill (hG : ∀ k, G k → w'.heap[k]? = w.heap[k]?) (hGG : ∀ k, G k → G' k) (k : Kl) (hs : Stay k gm gm') :
    ∀ (x : V) (v : Value), Rv w G gm v x → Rv w' G' gm' v (x.kill k)
  | .sc u, v, h => h
  | .nl _, v, h => h
  | .sl sz xs, v, h => Rv.frame hG hGG gm gm' (.sl sz xs) v (fun n hn => by simp [V.names] at hn) h
  | .ag xs, v, h => by
    obtain ⟨cs, h1, h2⟩ := h
    exact ⟨cs, h1, RvL.kill hG hGG k hs xs _ h2⟩
  | .tp xs, v, h => by
    obtain ⟨cs, h1, h2⟩ := h
    exact ⟨cs, h1, RvL.kill hG hGG k hs xs _ h2⟩
  | .fn f a b, v, h => by
    obtain ⟨first, caps, h1, h2, h3⟩ := h
    exact ⟨first, caps, h1, RvL.kill hG hGG k hs a _ h2, RvL.kill hG hGG k hs b _ h3⟩
  | .ifc t x, v, h => by
    obtain ⟨u, h1, h2⟩ := h
    exact ⟨u, h1, Rv.kill hG hGG k hs x u h2⟩
  | .ref q, v, h => by
    simp only [V.kill]
    cases hh : k.hits q
    · simp only [cond_false]
      refine nameRef_head (hs.own q hh ?_) h
      intro e; simp only [Rv, nameRef, e] at h
    · simp only [cond_true]; trivial
  | .vw q lo hi, v, h => by
    simp only [V.kill]
    cases hh : k.hits q
    · simp only [cond_false]
      refine nameVw_head (hs.own q hh ?_) h
      intro e; simp only [Rv, nameVw, e] at h
    · simp only [cond_true]; trivial
  | .ptrB r j, v, h => by
    simp only [V.kill]
    cases hh : r.mem k.a
    · simp only [cond_false]
      obtain ⟨R, b, h1, h2, h3⟩ := h
      obtain ⟨R', g1, g2⟩ := hs.box r R b hh h1 h2
      exact ⟨R', b, g1, g2, h3⟩
    · simp only [cond_true]; trivial
  | .ptrE q i off, v, h => by
    simp only [V.kill]
    cases hh : k.hits q
    · simp only [cond_false]
      refine namePtrE_head (hs.own q hh ?_) h
      intro e; simp only [Rv, namePtrE, e] at h
    · simp only [cond_true]; trivial
  | .pim n xs off, v, h => Rv.frame hG hGG gm gm' (.pim n xs off) v (fun n hn => by simp [V.names] at hn) h
  | .own _ _ _, v, h => h
  | .bad, v, h => h
theorem RvL.kill (hG : ∀ k, G k → w'.heap[k]? = w.heap[k]?) (hGG : ∀ k, G k → G' k) (k : Kl) (hs : Stay k gm gm') :
    ∀ (xs : List V) (vs : List Value), RvL w G gm vs xs → RvL w' G' gm' vs (killL k xs)
  | [], [], _ => trivial
  | x :: xs, v :: vs, h => ⟨Rv.kill hG hGG k hs x v h.1, RvL.kill hG hGG k hs xs vs h.2⟩
  | [], _ :: _, h => h.elim
  | _ :: _, [], h => h.elim
end

/-- Where nothing is killed. -/
theorem Rv.stay (hG : ∀ k, G k → w'.heap[k]? = w.heap[k]?) (hGG : ∀ k, G k → G' k) (hs : Stay .no gm gm') (x : V) (v : Value) (h : Rv w G gm v x) : Rv w' G' gm' v x := by
  have key : ∀ x : V, x.kill .no = x := by
    have : ∀ x : V, x.kill .no = x := fun x => by
      refine V.rec (motive_1 := fun x => x.kill .no = x) (motive_2 := fun l => killL .no l = l) ?_ ?_ ?_ ?_ ?_ ?_ ?_ ?_ ?_ ?_ ?_ ?_ ?_ ?_ ?_ ?_ ?_ x
      all_goals intros
      all_goals simp_all [V.kill, killL, Kl.hits, Kl.no, Nm.mem]
    exact this
  have := Rv.kill hG hGG .no hs x v h
  rwa [key] at this
end
end Go.Ab
/- What is put into a region: own slices move in, or are frozen. -/
namespace Go.Ab
open Go

def withHand (rd : Nm → Option Rg) (row : List V) : Nm → Option Rg := setR rd .hand (some ⟨false, row⟩)
def mix (T : List Nm) (rd regs : Nm → Option Rg) : Nm → Option Rg := fun n => bif n.mem T then rd n else regs n
def setG (gm : GM) (n : Nm) (x : Option RG) : GM := fun m => bif Nm.eq m n then x else gm m

theorem setG_self (gm : GM) (n : Nm) (x : Option RG) : setG gm n x n = x := by simp [setG, Nm.eq_self]
theorem setG_ne (gm : GM) {n m : Nm} (x : Option RG) (h : m ≠ n) : setG gm n x m = gm m := by simp [setG, Nm.eq_ne h]
theorem withHand_ne (rd : Nm → Option Rg) (row : List V) {m : Nm} (h : m ≠ .hand) : withHand rd row m = rd m := setR_ne _ _ h
theorem withHand_hand (rd : Nm → Option Rg) (row : List V) : withHand rd row .hand = some ⟨false, row⟩ := setR_self _ _ _

theorem skAt_ne {gm gm' : GM} {q : Pl} (h : gm' q.r = gm q.r) : skAt gm' q = skAt gm q := by simp only [skAt, h]

theorem nthV_set_self : ∀ (l : List V) (j : Nat) (x : V), nthV (l.set j x) j = x ∨ nthV (l.set j x) j = .bad
  | [], _, _ => .inr rfl
  | _ :: _, 0, _ => .inl rfl
  | _ :: l, j + 1, x => by simpa using nthV_set_self l j x
theorem nthV_set_ne : ∀ (l : List V) (j k : Nat) (x : V), j ≠ k → nthV (l.set j x) k = nthV l k
  | [], _, _, _, _ => rfl
  | _ :: _, 0, 0, _, h => (h rfl).elim
  | _ :: _, 0, _ + 1, _, _ => rfl
  | _ :: _, _ + 1, 0, _, _ => rfl
  | _ :: l, j + 1, k + 1, x, h => by simpa using nthV_set_ne l j k x (by omega)
theorem nthS_set_ne : ∀ (l : List Sk) (j k : Nat) (x : Sk), j ≠ k → nthS (l.set j x) k = nthS l k
  | [], _, _, _, _ => rfl
  | _ :: _, 0, 0, _, h => (h rfl).elim
  | _ :: _, 0, _ + 1, _, _ => rfl
  | _ :: _, _ + 1, 0, _, _ => rfl
  | _ :: l, j + 1, k + 1, x, h => by simpa using nthS_set_ne l j k x (by omega)
theorem nthS_set_self : ∀ (l : List Sk) (j : Nat) (x : Sk), nthS (l.set j x) j = (if j < l.length then x else .leaf)
  | [], _, _ => rfl
  | _ :: _, 0, _ => rfl
  | _ :: l, j + 1, x => by simpa using nthS_set_self l j x
theorem nthV_set_lt : ∀ (l : List V) (j : Nat) (x : V), j < l.length → nthV (l.set j x) j = x
  | [], _, _, h => by simp at h
  | _ :: _, 0, _, _ => rfl
  | _ :: l, j + 1, x, h => by simpa using nthV_set_lt l j x (by simpa using h)

theorem skHead_skSetCells (f : List Sk → List Sk) (s : Sk) : skHead (skSetCells f s) = skHead s := by cases s <;> rfl

/-- Where an own slice is left, its name stands for what it stood for. -/
theorem put_head {w : World} {G : Nat → Prop} {P : Program} : ∀ (p p' : List Nat) (vals : List Value) (row : List V) (sks : List Sk) (j j' : Nat) (e : TypeId) (d : Bool) (xs : List V), OwnL w G P vals row sks →
    getV p' (setV p row j .bad) j' = .own e d xs → skHead (getSk p' (setSk p sks j .leaf) j') = skHead (getSk p' sks j')
  | [], p', vals, row, sks, j, j', e, d, xs, _, h => by
    by_cases hj : j = j'
    · subst hj
      have hb : nthV (row.set j .bad) j = .bad := (nthV_set_self row j .bad).elim id id
      cases p' with
      | nil => simp only [getV, setV, hb] at h; cases h
      | cons i p => simp only [getV, setV, hb, ownXs, getV_nil] at h; cases h
    · cases p' with
      | nil => simp only [getSk, setSk, nthS_set_ne _ _ _ _ hj]
      | cons i p => simp only [getSk, setSk, nthS_set_ne _ _ _ _ hj]
  | i :: p, p', vals, row, sks, j, j', e, d, xs, hl, h => by
    by_cases hj : j = j'
    · subst hj
      by_cases hlt : j < row.length
      · have hlt' : j < sks.length := by have := hl.length.2; omega
        obtain ⟨v, _, ho⟩ := hl.get j hlt
        cases p' with
        | nil => simp only [getSk, setSk, nthS_set_self, hlt', if_true]; exact skHead_skSetCells _ _
        | cons i' p' =>
          simp only [getV, setV, nthV_set_lt _ _ _ hlt] at h
          simp only [getSk, setSk, nthS_set_self, hlt', if_true]
          cases hr : nthV row j with
          | own e1 d1 xs1 =>
            rw [hr] at h
            simp only [setOwn, ownXs] at h
            cases hs : nthS sks j with
            | node g n cap sz cs =>
              simp only [skSetCells, skCells]
              rw [hr, hs] at ho
              obtain ⟨cur, fr, _, _, _, _, _, _, _, _, _, g10, _⟩ := ho
              exact put_head p p' _ xs1 cs i i' e d xs g10 h
            | _ => simp only [skSetCells, skCells]
          | _ => rw [hr] at h; simp only [setOwn, ownXs, getV_nil] at h; cases h
      · have h1 : row.set j (setOwn (fun xs => setV p xs i .bad) (nthV row j)) = row := List.set_eq_of_length_le (by omega)
        have := hl.length.2
        have h2 : sks.set j (skSetCells (fun cs => setSk p cs i .leaf) (nthS sks j)) = sks := List.set_eq_of_length_le (by omega)
        simp only [setSk, h2]
    · cases p' with
      | nil => simp only [getSk, setSk, nthS_set_ne _ _ _ _ hj]
      | cons i' p' => simp only [getSk, setSk, nthS_set_ne _ _ _ _ hj]

theorem put_head_root (p : List Nat) (i : Nat) (sks : List Sk) (j j' : Nat) (x : Sk) : skHead (nthS (setSk (i :: p) sks j x) j') = skHead (nthS sks j') := by
  by_cases hj : j = j'
  · subst hj
    simp only [setSk, nthS_set_self]
    by_cases hlt : j < sks.length
    · rw [if_pos hlt]; exact skHead_skSetCells _ _
    · rw [if_neg hlt, nthS_out _ _ (by omega)]
  · simp only [setSk, nthS_set_ne _ _ _ _ hj]

/- What is frozen reads as what it was. -/
section
variable {w : World} {G G' : Nat → Prop} {P : Program}

theorem RvL.nil_of {gm : GM} {vs : List Value} (h : RvL w G gm vs []) : vs = [] := by
  cases vs with
  | nil => rfl
  | cons v vs => exact h.elim

theorem Rv.one {gm : GM} {v : Value} {x : V} (h : Rv w G gm v x) (hc : x.isCell = true) (hb : x ≠ .bad) : v.oneCell' = true := by
  cases x with
  | sc u => obtain ⟨rfl, h⟩ := h; cases v <;> simp_all [flat, Value.oneCell']
  | nl e => simp only [Rv] at h; subst h; rfl
  | sl sz xs => rcases h with ⟨rfl, _⟩ | ⟨_, _, _, _, rfl, _⟩ <;> rfl
  | own e d xs => exact h.elim
  | ag xs => simp [V.isCell] at hc
  | tp xs => simp [V.isCell] at hc
  | fn f a b => obtain ⟨_, _, rfl, _⟩ := h; rfl
  | ifc t x => obtain ⟨_, rfl, _⟩ := h; rfl
  | ref q => simp only [Rv, nameRef] at h; split at h <;> first | (subst h; rfl) | exact h.elim
  | vw q lo hi => simp only [Rv, nameVw] at h; split at h <;> first | (obtain ⟨_, _, _, rfl, _⟩ := h; rfl) | (obtain ⟨_, _, rfl⟩ := h; rfl) | exact h.elim
  | ptrB r j => obtain ⟨_, _, _, _, rfl⟩ := h; rfl
  | ptrE q i off => simp only [Rv, namePtrE] at h; split at h <;> first | (obtain ⟨_, rfl⟩ := h; rfl) | exact h.elim
  | pim n xs off => obtain ⟨_, _, _, rfl, _⟩ := h; rfl
  | slf => exact h.elim
  | bad => exact absurd rfl hb

theorem OwnC.one {v : Value} {x : V} {s : Sk} (h : OwnC w G P v x s) : v.oneCell' = true := by
  cases x with
  | own e d xs =>
    cases s with
    | leaf => exact h.elim
    | nil => obtain ⟨rfl, _⟩ := h; rfl
    | node g n cap sz cs => obtain ⟨_, _, rfl, _⟩ := h; rfl
  | bad => exact h.2
  | slf => exact h.2
  | _ =>
    obtain ⟨_, hc, hr⟩ := h
    exact hr.one (by simp only [V.cim, Bool.and_eq_true] at hc; exact hc.1) (by simp)

theorem OwnL.one : ∀ {vs : List Value} {xs : List V} {ss : List Sk}, OwnL w G P vs xs ss → ∀ u ∈ vs, u.oneCell' = true
  | [], _, _, _, u, hu => by simp at hu
  | v :: vs, x :: xs, s :: ss, h, u, hu => by
    simp only [List.mem_cons] at hu
    rcases hu with rfl | hu
    · exact h.1.one
    · exact OwnL.one h.2 u hu
  | _ :: _, [], _, h, _, _ => by simp [OwnL] at h
  | _ :: _, _ :: _, [], h, _, _ => by simp [OwnL] at h

/-- What is owned, frozen, has cells by which nothing is named. -/
theorem OwnC.cib {v : Value} {x : V} {s : Sk} (h : OwnC w G P v x s) : (Ab.frz P x).cib = true := by
  cases x with
  | own e d xs => rfl
  | bad => rfl
  | slf => rfl
  | _ => exact cim_cib h.2.1

theorem OwnL.cib : ∀ {vs : List Value} {xs : List V} {ss : List Sk}, OwnL w G P vs xs ss → cibL (frzL P xs) = true
  | _, [], _, _ => rfl
  | v :: vs, x :: xs, s :: ss, h => by simp only [frzL, cibL, Bool.and_eq_true]; exact ⟨h.1.cib, OwnL.cib h.2⟩
  | [], _ :: _, _, h => by simp [OwnL] at h
  | _ :: _, _ :: _, [], h => by simp [OwnL] at h

mutual
theorem OwnC.frz (hGG : ∀ k, G k → G' k) : ∀ (x : V) (v : Value) (s : Sk), OwnC w G P v x s → (∀ k ∈ s.fp, G' k) → Rv w G' noGM v (Ab.frz P x)
  | .own e d cells, v, .nil, h, _ => by
    obtain ⟨rfl, rfl⟩ := h
    refine .inl ⟨rfl, ?_⟩
    cases d <;> rfl
  | .own e d cells, v, .leaf, h, _ => h.elim
  | .own e d cells, v, .node g n cap sz sks, h, hf => by
    obtain ⟨cur, fr, h1, h2, h3, h4, h5, h6, h7, h8, h9, h10, h11⟩ := h
    simp only [Sk.fp, List.mem_cons] at hf
    have key : RvL w G' noGM (cur.toList.take (n * sz)) (bif d then frzL P cells else cells) := by
      cases d with
      | true => exact OwnL.frz hGG cells _ sks h10 (fun k hk => hf k (.inr hk))
      | false => exact OwnL.imm hGG cells _ sks h10 (h11 rfl)
    have hl : (bif d then frzL P cells else cells).length = n * sz := by rw [← h9, ← h10.length.1]; exact key.length.symm
    refine .inr ⟨⟨g, 0, none⟩, n, cap, cur.toList.take (n * sz), h1, fun _ => rfl, h7, by rw [hl, h6], by rw [h6]; exact h5, ?_, fun _ => hf g (.inl rfl), key, ?_, h10.one⟩
    rotate_left
    · cases d with
      | true => exact h10.cib
      | false => exact h11 rfl
    intro j u hu
    rw [List.getElem?_take] at hu
    split at hu
    · simp only [World.cell?, h2, Nat.zero_add]
      simpa using hu
    · cases hu
  | .bad, _, _, _, _ => trivial
  | .slf, _, _, _, _ => trivial
  | .sc u, v, s, h, _ => Rv.frame (fun _ _ => rfl) hGG noGM noGM _ v (fun _ _ => rfl) h.2.2
  | .nl _, v, s, h, _ => Rv.frame (fun _ _ => rfl) hGG noGM noGM _ v (fun _ _ => rfl) h.2.2
  | .sl _ _, v, s, h, _ => Rv.frame (fun _ _ => rfl) hGG noGM noGM _ v (fun _ _ => rfl) h.2.2
  | .ag _, v, s, h, _ => Rv.frame (fun _ _ => rfl) hGG noGM noGM _ v (fun _ _ => rfl) h.2.2
  | .tp _, v, s, h, _ => Rv.frame (fun _ _ => rfl) hGG noGM noGM _ v (fun _ _ => rfl) h.2.2
  | .fn _ _ _, v, s, h, _ => Rv.frame (fun _ _ => rfl) hGG noGM noGM _ v (fun _ _ => rfl) h.2.2
  | .ifc _ _, v, s, h, _ => Rv.frame (fun _ _ => rfl) hGG noGM noGM _ v (fun _ _ => rfl) h.2.2
  | .ref _, v, s, h, _ => Rv.frame (fun _ _ => rfl) hGG noGM noGM _ v (fun _ _ => rfl) h.2.2
  | .vw _ _ _, v, s, h, _ => Rv.frame (fun _ _ => rfl) hGG noGM noGM _ v (fun _ _ => rfl) h.2.2
  | .ptrB _ _, v, s, h, _ => Rv.frame (fun _ _ => rfl) hGG noGM noGM _ v (fun _ _ => rfl) h.2.2
  | .ptrE _ _ _, v, s, h, _ => Rv.frame (fun _ _ => rfl) hGG noGM noGM _ v (fun _ _ => rfl) h.2.2
  | .pim _ _ _, v, s, h, _ => Rv.frame (fun _ _ => rfl) hGG noGM noGM _ v (fun _ _ => rfl) h.2.2
theorem OwnL.frz (hGG : ∀ k, G k → G' k) : ∀ (xs : List V) (vs : List Value) (ss : List Sk), OwnL w G P vs xs ss → (∀ k ∈ fpL ss, G' k) → RvL w G' noGM vs (frzL P xs)
  | [], [], [], _, _ => trivial
  | x :: xs, v :: vs, s :: ss, h, hf => by
    simp only [fpL, List.mem_append] at hf
    exact ⟨OwnC.frz hGG x v s h.1 (fun k hk => hf k (.inl hk)), OwnL.frz hGG xs vs ss h.2 (fun k hk => hf k (.inr hk))⟩
  | [], _ :: _, _, h, _ => by simp [OwnL] at h
  | [], [], _ :: _, h, _ => by simp [OwnL] at h
  | _ :: _, [], _, h, _ => by simp [OwnL] at h
  | _ :: _, _ :: _, [], h, _ => by simp [OwnL] at h
theorem OwnL.imm (hGG : ∀ k, G k → G' k) : ∀ (xs : List V) (vs : List Value) (ss : List Sk), OwnL w G P vs xs ss → cibL xs = true → RvL w G' noGM vs xs
  | [], [], [], _, _ => trivial
  | x :: xs, v :: vs, s :: ss, h, hi => by
    simp only [cibL, Bool.and_eq_true] at hi
    refine ⟨?_, OwnL.imm hGG xs vs ss h.2 hi.2⟩
    have h1 := h.1
    cases x <;> first | (simp [V.cib, V.cim, V.imm] at hi; done) | exact trivial | exact Rv.frame (fun _ _ => rfl) hGG noGM noGM _ v (fun _ _ => rfl) h1.2.2
  | [], _ :: _, _, h, _ => by simp [OwnL] at h
  | [], [], _ :: _, h, _ => by simp [OwnL] at h
  | _ :: _, [], _, h, _ => by simp [OwnL] at h
  | _ :: _, _ :: _, [], h, _ => by simp [OwnL] at h
end

mutual
theorem imm_names : ∀ (x : V), x.imm = true → x.names = []
  | .sc _, _ => rfl
  | .nl _, _ => rfl
  | .sl _ _, _ => rfl
  | .own _ _ _, _ => rfl
  | .ag xs, h => immL_names xs h
  | .tp xs, h => immL_names xs h
  | .fn _ a b, h => by
    simp only [V.imm, Bool.and_eq_true] at h
    simp [V.names, immL_names a h.1, immL_names b h.2]
  | .ifc _ x, h => imm_names x h
  | .ref _, h => by simp [V.imm] at h
  | .vw _ _ _, h => by simp [V.imm] at h
  | .ptrB _ _, h => by simp [V.imm] at h
  | .ptrE _ _ _, h => by simp [V.imm] at h
  | .pim _ _ _, _ => rfl
  | .bad, _ => rfl
  | .slf, _ => rfl
theorem immL_names : ∀ (l : List V), immL l = true → namesL l = []
  | [], _ => rfl
  | x :: l, h => by
    simp only [immL, Bool.and_eq_true] at h
    simp [namesL, imm_names x h.1, immL_names l h.2]
end

theorem Rv.imm {gm gm' : GM} {v : Value} {x : V} (h : Rv w G gm v x) (hi : x.imm = true) : Rv w G gm' v x :=
  Rv.frame (fun _ _ => rfl) (fun _ h => h) gm gm' x v (fun n hn => by rw [imm_names x hi] at hn; simp at hn) h

theorem frz_imm (e : TypeId) (d : Bool) (xs : List V) : (Ab.frz P (.own e d xs)).cim = true := rfl
end
end Go.Ab
/- What is on its way: cells are taken into the hand, frozen there, or put there. -/
namespace Go.Ab
open Go

section
variable {P : Program} {w0 w : World} {F : FG} {rd regs : Nm → Option Rg} {G G' : Nat → Prop} {gm gm' : GM} {T : List Nm}

theorem hand_ok {row : List V} (h : Regs P w0 F (withHand rd row) w G gm) {R : RG} (hh : gm .hand = some R) : R.b = none ∧ OwnL w G P R.vals row R.sks := by
  obtain ⟨R', h1, h2⟩ := h.ok (withHand_hand rd row)
  rw [hh] at h1
  obtain rfl := Option.some.inj h1
  refine ⟨?_, h2.2.1⟩
  have := h2.1
  cases hb : R.b with
  | none => rfl
  | some b => rw [hb] at this; simp at this

/-- What is on its way last is taken for something else. -/
theorem hand_last {row : List V} {y y' : V} {vals : List Value} {v v' : Value} {sks : List Sk} {S S' : Sk}
    (h : Regs P w0 F (withHand rd (row ++ [y])) w G gm) (hh : gm .hand = some ⟨none, vals ++ [v], sks ++ [S]⟩) (hl : vals.length = row.length) (hls : sks.length = row.length)
    (hS : S'.fp.Sublist S.fp) (hG1 : ∀ b, G b → G' b) (hG2 : ∀ b, G' b → G b ∨ (b ∈ S.fp ∧ b ∉ S'.fp)) (ho : OwnC w G' P v' y' S') :
    Regs P w0 F (withHand rd (row ++ [y'])) w G' (setG gm .hand (some ⟨none, vals ++ [v'], sks ++ [S']⟩)) := by
  obtain ⟨_, hown⟩ := hand_ok h hh
  have hnd := h.nodup _ _ hh
  simp only [RG.fp, Option.toList_none, List.nil_append, fpL_append, fpL, List.append_nil] at hnd
  have hsplit : OwnL w G P vals row sks ∧ OwnC w G P v y S := by
    have key : ∀ (row : List V) (vals : List Value) (sks : List Sk), vals.length = row.length → sks.length = row.length →
        OwnL w G P (vals ++ [v]) (row ++ [y]) (sks ++ [S]) → OwnL w G P vals row sks ∧ OwnC w G P v y S := by
      intro row
      induction row with
      | nil =>
        intro vals sks h1 h2 h3
        obtain rfl := List.eq_nil_of_length_eq_zero h1
        obtain rfl := List.eq_nil_of_length_eq_zero h2
        exact ⟨trivial, h3.1⟩
      | cons x xs ih =>
        intro vals sks h1 h2 h3
        cases vals with
        | nil => simp at h1
        | cons u us =>
          cases sks with
          | nil => simp at h2
          | cons s ss =>
            have := ih us ss (by simpa using h1) (by simpa using h2) h3.2
            exact ⟨⟨h3.1, this.1⟩, this.2⟩
    exact key row vals sks hl hls hown
  have hin : ∀ b, InC (fun r => r = .hand) gm b ↔ b ∈ fpL sks ∨ b ∈ S.fp := by
    intro b
    constructor
    · rintro ⟨r, R, rfl, hr, hb⟩
      rw [hh] at hr
      obtain rfl := Option.some.inj hr
      simpa [RG.fp, fpL_append, fpL] using hb
    · intro hb
      exact ⟨.hand, _, rfl, hh, by simpa [RG.fp, fpL_append, fpL] using hb⟩
  refine h.change (fun r => r = .hand) (fun _ _ _ => rfl) rfl rfl rfl (Nat.le_refl _) ?_ ?_ ?_ ?_ ?_ hG1 ?_
  · intro r hr
    exact ⟨by rw [withHand_ne _ _ hr, withHand_ne _ _ hr], setG_ne _ _ hr⟩
  · rintro r rfl
    rw [withHand_hand, setG_self]
    refine ⟨rfl, ?_, fun b hb => by simp at hb⟩
    exact OwnL.append (OwnL.frame (fun _ _ => rfl) hG1 _ _ _ (fun _ _ => rfl) hsplit.1) ⟨ho, trivial⟩
  · rintro r R rfl hr
    rw [setG_self] at hr
    obtain rfl := Option.some.inj hr
    simp only [RG.fp, Option.toList_none, List.nil_append, fpL_append, fpL, List.append_nil]
    exact hnd.sublist (List.Sublist.append (List.Sublist.refl _) hS)
  · rintro r r' R R' rfl rfl hne
    exact absurd rfl hne
  · rintro r R b rfl hr hb
    rw [setG_self] at hr
    obtain rfl := Option.some.inj hr
    simp only [RG.fp, Option.toList_none, List.nil_append, fpL_append, fpL, List.append_nil, List.mem_append] at hb
    exact .inl ((hin b).2 (hb.imp id (fun h => hS.subset h)))
  · intro b hb
    rcases hG2 b hb with h1 | ⟨h1, h2⟩
    · exact .inl h1
    · refine .inr ⟨.inl ((hin b).2 (.inr h1)), h.lt hh b (by simpa [RG.fp, fpL_append, fpL] using Or.inr h1), ?_⟩
      rintro ⟨r, R, rfl, hr, hb'⟩
      rw [setG_self] at hr
      obtain rfl := Option.some.inj hr
      simp only [RG.fp, Option.toList_none, List.nil_append, fpL_append, fpL, List.append_nil, List.mem_append] at hb'
      rcases hb' with hb' | hb'
      · exact (List.nodup_append.1 hnd).2.2 b hb' b h1 rfl
      · exact h2 hb'

/-- A cell that owns nothing comes into the hand. -/
theorem hand_push {row : List V} {y : V} {vals : List Value} {v : Value} {sks : List Sk} {S : Sk}
    (h : Regs P w0 F (withHand rd row) w G gm) (hh : gm .hand = some ⟨none, vals, sks⟩) (hS : S.fp = []) (ho : OwnC w G P v y S) :
    Regs P w0 F (withHand rd (row ++ [y])) w G (setG gm .hand (some ⟨none, vals ++ [v], sks ++ [S]⟩)) := by
  obtain ⟨_, hown⟩ := hand_ok h hh
  have hin : ∀ b, InC (fun r => r = .hand) gm b ↔ b ∈ fpL sks := by
    intro b
    constructor
    · rintro ⟨r, R, rfl, hr, hb⟩
      rw [hh] at hr
      obtain rfl := Option.some.inj hr
      simpa [RG.fp] using hb
    · intro hb
      exact ⟨.hand, _, rfl, hh, by simpa [RG.fp] using hb⟩
  refine h.change (fun r => r = .hand) (fun _ _ _ => rfl) rfl rfl rfl (Nat.le_refl _) ?_ ?_ ?_ ?_ ?_ (fun _ h => h) (fun _ h => .inl h)
  · intro r hr
    exact ⟨by rw [withHand_ne _ _ hr, withHand_ne _ _ hr], setG_ne _ _ hr⟩
  · rintro r rfl
    rw [withHand_hand, setG_self]
    exact ⟨rfl, OwnL.append hown ⟨ho, trivial⟩, fun b hb => by simp at hb⟩
  · rintro r R rfl hr
    rw [setG_self] at hr
    obtain rfl := Option.some.inj hr
    have := h.nodup _ _ hh
    simpa [RG.fp, fpL_append, fpL, hS] using this
  · rintro r r' R R' rfl rfl hne
    exact absurd rfl hne
  · rintro r R b rfl hr hb
    rw [setG_self] at hr
    obtain rfl := Option.some.inj hr
    refine .inl ((hin b).2 ?_)
    simpa [RG.fp, fpL_append, fpL, hS] using hb

def Within (T : List Nm) (rd : Nm → Option Rg) : Prop := ∀ n, n.mem T = false → rd n = none

theorem Within.mem (h : Within T rd) {n : Nm} {g : Rg} (hn : rd n = some g) : n.mem T = true := by
  cases e : n.mem T
  · rw [h n e] at hn; cases hn
  · rfl

theorem mix_mem {n : Nm} (h : n.mem T = true) : mix T rd regs n = rd n := by simp [mix, h]
theorem mix_not {n : Nm} (h : n.mem T = false) : mix T rd regs n = regs n := by simp [mix, h]

theorem ownAt_some {q : Pl} {e : TypeId} {d : Bool} {xs : List V} (h : ownAt rd q = some (e, d, xs)) : ∃ rg, rd q.r = some rg ∧ getV q.p rg.row q.j = .own e d xs := by
  unfold ownAt at h
  cases hr : rd q.r with
  | none => rw [hr] at h; cases h
  | some rg =>
    rw [hr] at h
    refine ⟨rg, rfl, ?_⟩
    simp only at h
    cases hg : getV q.p rg.row q.j <;> rw [hg] at h <;> simp at h
    obtain ⟨rfl, rfl, rfl⟩ := h
    rfl

theorem ownB_some {q : Pl} (h : (ownB rd q).1 = true) : ∃ e d xs, q.e = e ∧ q.d = d ∧ (ownB rd q).2 = xs ∧ ownAt rd q = some (e, d, xs) := by
  refine ⟨_, _, _, rfl, rfl, rfl, ?_⟩
  unfold ownB at h ⊢
  unfold ownAt
  cases hr : rd q.r with
  | none => rw [hr] at h; cases h
  | some rg =>
    rw [hr] at h
    simp only at h ⊢
    cases hg : getV q.p rg.row q.j <;> rw [hg] at h <;> simp only [V.isOwnD] at h <;> try cases h
    next e d xs =>
      simp only [Bool.and_eq_true] at h
      have h1 := Nat.eq_of_beq_eq_true h.1
      have h2 : d = q.d := by simpa using h.2
      rw [h1, h2]
      rfl

/-- The own slice at a place comes into the hand. -/
theorem take_ok {row : List V} {vals : List Value} {sks : List Sk} {q : Pl} {e : TypeId} {d : Bool} {xs : List V}
    (h : Regs P w0 F (withHand (mix T rd regs) row) w G gm) (hh : gm .hand = some ⟨none, vals, sks⟩) (hT : Within T rd) (hTh : Nm.hand.mem T = false)
    (hq : ownAt rd q = some (e, d, xs)) :
    ∃ v gm1, OwnC w G P v (.own e d xs) (skAt gm q) ∧ skAt gm q ≠ .leaf ∧
      Regs P w0 F (withHand (mix T (takeAt rd q).1 regs) (row ++ [.own e d xs])) w G gm1 ∧
      gm1 .hand = some ⟨none, vals ++ [v], sks ++ [skAt gm q]⟩ ∧ Stay (takeAt rd q).2 gm gm1 ∧
      (∀ q' e' d' xs', ownAt (takeAt rd q).1 q' = some (e', d', xs') → skHead (skAt gm1 q') = skHead (skAt gm q')) ∧
      Within T (takeAt rd q).1 ∧ (∀ n, n ∉ (takeAt rd q).2.names → (takeAt rd q).1 n = rd n) := by
  obtain ⟨rg, hr, hx⟩ := ownAt_some hq
  have hm := hT.mem hr
  have hne : q.r ≠ .hand := fun e => by rw [e, hTh] at hm; cases hm
  have hreg : withHand (mix T rd regs) row q.r = some rg := by rw [withHand_ne _ _ hne, mix_mem hm, hr]
  obtain ⟨R, hR, hok⟩ := h.ok hreg
  obtain ⟨_, hown⟩ := hand_ok h hh
  have hsk : skAt gm q = getSk q.p R.sks q.j := by simp only [skAt, hR]
  obtain ⟨v, hv, hv0⟩ := OwnL.at q.p rg.row q.j R.vals R.sks hok.2.1 (by rw [hx]; simp)
  rw [hx, ← hsk] at hv
  have hleaf : skAt gm q ≠ .leaf := by intro e; rw [e] at hv; exact hv.elim
  obtain ⟨rest, hp1, hp2⟩ := getSk_perm q.p R.sks q.j (by rwa [← hsk])
  rw [← hsk] at hp1
  have hndR := h.nodup _ _ hR
  have hndH := h.nodup _ _ hh
  have hdj := h.disj _ _ _ _ hne hR hh
  simp only [RG.fp, Option.toList_none, List.nil_append] at hndH
  have hfpsub : ∀ b ∈ (skAt gm q).fp, b ∈ R.fp := fun b hb => by simp only [RG.fp, List.mem_append]; exact .inr (hp1.mem_iff.2 (List.mem_append_left _ hb))
  have hin : ∀ b, (b ∈ R.fp ∨ b ∈ fpL sks) → InC (fun r => r = q.r ∨ r = .hand) gm b := by
    rintro b (hb | hb)
    · exact ⟨q.r, R, .inl rfl, hR, hb⟩
    · exact ⟨.hand, _, .inr rfl, hh, by simpa [RG.fp] using hb⟩
  -- what is left of the region
  have step : ∀ (g' : Option Rg) (R' : Option RG), (match g', R' with | some rg, some R => RgOk w G P rg R | none, none => True | _, _ => False) →
      (∀ R1, R' = some R1 → (R1.fp.Nodup ∧ ∀ b ∈ R1.fp, b ∈ R.fp ∧ b ∉ (skAt gm q).fp) ∧ ∀ i, q.r = .par i → ParOk F i R1) →
      Regs P w0 F (withHand (mix T (setR rd q.r g') regs) (row ++ [.own e d xs])) w G
        (setG (setG gm q.r R') .hand (some ⟨none, vals ++ [v], sks ++ [skAt gm q]⟩)) := by
    intro g' R' hg' hR'
    refine h.change (fun r => r = q.r ∨ r = .hand) (fun _ _ _ => rfl) rfl rfl rfl (Nat.le_refl _) ?_ ?_ ?_ ?_ ?_ (fun _ h => h) (fun _ h => .inl h) ?_
    rotate_right
    · rintro i R1 (hi | hi) hr1
      · rw [hi, setG_ne _ _ hne, setG_self] at hr1
        exact (hR' R1 hr1).2 i hi.symm
      · cases hi
    · intro r hrr
      simp only [not_or] at hrr
      refine ⟨?_, by rw [setG_ne _ _ hrr.2, setG_ne _ _ hrr.1]⟩
      rw [withHand_ne _ _ hrr.2, withHand_ne _ _ hrr.2]
      simp only [mix, setR_ne _ _ hrr.1]
    · rintro r (rfl | rfl)
      · rw [withHand_ne _ _ hne, mix_mem hm, setR_self, setG_ne _ _ hne, setG_self]
        exact hg'
      · rw [withHand_hand, setG_self]
        exact ⟨rfl, OwnL.append hown ⟨hv, trivial⟩, fun b hb => by simp at hb⟩
    · rintro r R1 (rfl | rfl) hr1
      · rw [setG_ne _ _ hne, setG_self] at hr1
        exact (hR' R1 hr1).1.1
      · rw [setG_self] at hr1
        obtain rfl := Option.some.inj hr1
        simp only [RG.fp, Option.toList_none, List.nil_append, fpL_append, fpL, List.append_nil]
        refine List.nodup_append.2 ⟨hndH, ?_, ?_⟩
        · have : (fpL R.sks).Nodup := (List.nodup_append.1 hndR).2.1
          exact (List.nodup_append.1 (hp1.nodup_iff.1 this)).1
        · rintro b hb c hc rfl
          exact hdj b (hfpsub b hc) (by simpa [RG.fp] using hb)
    · rintro r r' R1 R2 (rfl | rfl) (rfl | rfl) hne' hr1 hr2 b hb hb'
      · exact hne' rfl
      · rw [setG_ne _ _ hne, setG_self] at hr1
        rw [setG_self] at hr2
        obtain rfl := Option.some.inj hr2
        simp only [RG.fp, Option.toList_none, List.nil_append, fpL_append, fpL, List.append_nil, List.mem_append] at hb'
        obtain ⟨h1, h2⟩ := (hR' R1 hr1).1.2 b hb
        rcases hb' with hb' | hb'
        · exact hdj b h1 (by simpa [RG.fp] using hb')
        · exact h2 hb'
      · rw [setG_ne _ _ hne, setG_self] at hr2
        rw [setG_self] at hr1
        obtain rfl := Option.some.inj hr1
        simp only [RG.fp, Option.toList_none, List.nil_append, fpL_append, fpL, List.append_nil, List.mem_append] at hb
        obtain ⟨h1, h2⟩ := (hR' R2 hr2).1.2 b hb'
        rcases hb with hb | hb
        · exact hdj b h1 (by simpa [RG.fp] using hb)
        · exact h2 hb
      · exact hne' rfl
    · rintro r R1 b (rfl | rfl) hr1 hb
      · rw [setG_ne _ _ hne, setG_self] at hr1
        exact .inl (hin b (.inl ((hR' R1 hr1).1.2 b hb).1))
      · rw [setG_self] at hr1
        obtain rfl := Option.some.inj hr1
        simp only [RG.fp, Option.toList_none, List.nil_append, fpL_append, fpL, List.append_nil, List.mem_append] at hb
        exact .inl (hin b (hb.elim .inr (fun h => .inl (hfpsub b h))))
  have hwithin : ∀ g', Within T (setR rd q.r g') := by
    intro g' n hn
    have : n ≠ q.r := fun e => by rw [e, hm] at hn; cases hn
    rw [setR_ne _ _ this]; exact hT n hn
  have handStay : ∀ (R' : Option RG) (q' : Pl), q'.r = .hand → skAt gm q' ≠ .leaf →
      skHead (skAt (setG (setG gm q.r R') .hand (some ⟨none, vals ++ [v], sks ++ [skAt gm q]⟩)) q') = skHead (skAt gm q') := by
    intro R' q' hq' hl
    simp only [skAt, hq', setG_self, hh] at hl ⊢
    have key : ∀ (p : List Nat) (sks : List Sk) (j : Nat) (s : Sk), getSk p sks j ≠ .leaf → getSk p (sks ++ [s]) j = getSk p sks j := by
      intro p sks j s hl
      have hj : j < sks.length := by
        rcases Nat.lt_or_ge j sks.length with h' | h'
        · exact h'
        · cases p with
          | nil => exact absurd (by simp only [getSk, nthS_out _ _ h']) hl
          | cons i p => exact absurd (by simp only [getSk, nthS_out _ _ h', skCells, getSk_nil]) hl
      have hn : ∀ (l : List Sk) (j : Nat), j < l.length → nthS (l ++ [s]) j = nthS l j := by
        intro l
        induction l with
        | nil => intro j h; simp at h
        | cons a l ih => intro j h; cases j with
          | zero => rfl
          | succ j => simpa using ih j (by simpa using h)
      cases p with
      | nil => simp only [getSk, hn _ _ hj]
      | cons i p => simp only [getSk, hn _ _ hj]
    rw [key _ _ _ _ hl]
  -- the part of the region, where it is not dropped
  have part : (q.p ≠ [] ∨ rg.box = true ∨ rg.row.length ≠ 1) → ∀ (kl : Kl), (kl = ⟨[q.r], [], []⟩ ∧ q.p ≠ [] ∨ kl = ⟨[], [q.r], []⟩) →
      ∃ gm1, Regs P w0 F (withHand (mix T (setR rd q.r ((rd q.r).map fun g => { g with row := setV q.p g.row q.j .bad })) regs) (row ++ [.own e d xs])) w G gm1 ∧
      gm1 .hand = some ⟨none, vals ++ [v], sks ++ [skAt gm q]⟩ ∧ Stay kl gm gm1 ∧
      (∀ q' e' d' xs', ownAt (setR rd q.r ((rd q.r).map fun g => { g with row := setV q.p g.row q.j .bad })) q' = some (e', d', xs') → skHead (skAt gm1 q') = skHead (skAt gm q')) ∧
      Within T (setR rd q.r ((rd q.r).map fun g => { g with row := setV q.p g.row q.j .bad })) ∧ (∀ n, n ∉ kl.names → (setR rd q.r ((rd q.r).map fun g => { g with row := setV q.p g.row q.j .bad })) n = rd n) := by
    intro hns kl hkl
    have hnd2 : (fpL R.sks).Nodup := (List.nodup_append.1 hndR).2.1
    have hput := OwnL.put (w' := w) (G' := G) (fun _ _ => rfl) (fun _ h => h) .bad .leaf e d xs q.p rg.row q.j R.vals R.sks hok.2.1 hnd2 hx
      (fun v hv => ⟨rfl, hv.one⟩) (fun _ _ _ => rfl)
    have hfp2 := hp2 .leaf
    simp only [Sk.fp, List.nil_append] at hfp2
    refine ⟨_, step _ (some { R with sks := setSk q.p R.sks q.j .leaf }) ?_ ?_, setG_self _ _ _, ?_, ?_, hwithin _, ?_⟩
    · rw [hr]
      exact ⟨hok.1, hput, fun b hb => ⟨⟨(hok.2.2 b hb).1.choose, (hok.2.2 b hb).1.choose_spec.1, (hok.2.2 b hb).1.choose_spec.2.of (fun k hk => setV_slf q.p rg.row q.j .bad (by simp) k hk)⟩, (hok.2.2 b hb).2.of (fun k hk => setV_slf q.p rg.row q.j .bad (by simp) k hk)⟩⟩
    · rintro R1 rfl_
      obtain rfl := Option.some.inj rfl_
      have hnd1 := List.nodup_append.1 hndR
      have hnd3 := List.nodup_append.1 (hp1.nodup_iff.1 hnd2)
      refine ⟨⟨List.nodup_append.2 ⟨hnd1.1, hfp2.nodup_iff.2 hnd3.2.1, fun b hb c hc hbc => hnd1.2.2 b hb c (hp1.mem_iff.2 (List.mem_append_right _ (hfp2.mem_iff.1 hc))) hbc⟩, ?_⟩, ?_⟩
      rotate_left
      · intro i hi
        obtain ⟨hpb, hps⟩ := h.par i R (hi ▸ hR)
        refine ⟨hpb, fun s hs => ?_⟩
        obtain ⟨h1, h2, h3⟩ := hps s hs
        refine ⟨h1, h2, ?_⟩
        rcases hns with hns | hns | hns
        · cases hqp : q.p with
          | nil => exact absurd hqp hns
          | cons i p => rw [← h3]; exact put_head_root p i R.sks q.j 0 .leaf
        · rw [hok.1, h1] at hns; cases hns
        · exact absurd (by rw [← hok.2.1.length.1]; exact h2) hns
      intro b hb
      simp only [RG.fp, List.mem_append] at hb
      rcases hb with hb | hb
      · refine ⟨by simp only [RG.fp, List.mem_append]; exact .inl hb, fun hb' => ?_⟩
        exact hnd1.2.2 b hb b (hp1.mem_iff.2 (List.mem_append_left _ hb')) rfl
      · have hb2 := hfp2.mem_iff.1 hb
        refine ⟨by simp only [RG.fp, List.mem_append]; exact .inr (hp1.mem_iff.2 (List.mem_append_right _ hb2)), fun hb' => ?_⟩
        exact hnd3.2.2 b hb' b hb2 rfl
    · constructor
      · intro q' hq' hl
        by_cases hh' : q'.r = .hand
        · exact handStay _ q' hh' hl
        · by_cases hrr : q'.r = q.r
          · rcases hkl with ⟨rfl, hp⟩ | rfl
            · have hp' : q'.p = [] := by
                simp only [Kl.hits, hrr, Nm.mem, Nm.eq_self, Bool.or_false, Bool.and_true, Bool.false_or, Bool.not_eq_false', List.isEmpty_iff] at hq'
                exact hq'
              simp only [skAt, hrr, setG_ne _ _ hne, setG_self, hR, hp', getSk]
              cases hqp : q.p with
              | nil => exact absurd hqp hp
              | cons i p => exact put_head_root p i R.sks q.j q'.j .leaf
            · simp [Kl.hits, hrr, Nm.mem, Nm.eq_self] at hq'
          · rw [skAt_ne (gm := gm) (by rw [setG_ne _ _ hh', setG_ne _ _ hrr])]
      · intro r R1 b _ hr1 hb1
        by_cases hh' : r = .hand
        · subst hh'
          rw [hh] at hr1
          obtain rfl := Option.some.inj hr1
          simp at hb1
        · by_cases hrr : r = q.r
          · subst hrr
            rw [hR] at hr1
            obtain rfl := Option.some.inj hr1
            exact ⟨{ R with sks := setSk q.p R.sks q.j .leaf }, by rw [setG_ne _ _ hh', setG_self], hb1⟩
          · exact ⟨R1, by rw [setG_ne _ _ hh', setG_ne _ _ hrr]; exact hr1, hb1⟩
    · intro q' e' d' xs' hq'
      obtain ⟨rg', hr', hx'⟩ := ownAt_some hq'
      by_cases hrr : q'.r = q.r
      · rw [hrr, setR_self, hr] at hr'
        obtain rfl := Option.some.inj hr'
        have hh' : q'.r ≠ .hand := by rw [hrr]; exact hne
        simp only [skAt, hrr, setG_ne _ _ hne, setG_self, hR]
        exact put_head q.p q'.p R.vals rg.row R.sks q.j q'.j e' d' xs' hok.2.1 hx'
      · rw [setR_ne _ _ hrr] at hr'
        have hh' : q'.r ≠ .hand := fun e => by have := hT.mem hr'; rw [e, hTh] at this; cases this
        rw [skAt_ne (gm := gm) (by rw [setG_ne _ _ hh', setG_ne _ _ hrr])]
    · intro n hn
      have : n ≠ q.r := by
        rintro rfl
        rcases hkl with ⟨rfl, _⟩ | rfl <;> simp [Kl.names] at hn
      exact setR_ne _ _ this
  refine ⟨v, ?_⟩
  have hfin : ∀ (x : (Nm → Option Rg) × Kl), (∃ gm1, Regs P w0 F (withHand (mix T x.1 regs) (row ++ [.own e d xs])) w G gm1 ∧
      gm1 .hand = some ⟨none, vals ++ [v], sks ++ [skAt gm q]⟩ ∧ Stay x.2 gm gm1 ∧
      (∀ q' e' d' xs', ownAt x.1 q' = some (e', d', xs') → skHead (skAt gm1 q') = skHead (skAt gm q')) ∧
      Within T x.1 ∧ (∀ n, n ∉ x.2.names → x.1 n = rd n)) → ∃ gm1, OwnC w G P v (.own e d xs) (skAt gm q) ∧ skAt gm q ≠ .leaf ∧
      Regs P w0 F (withHand (mix T x.1 regs) (row ++ [.own e d xs])) w G gm1 ∧
      gm1 .hand = some ⟨none, vals ++ [v], sks ++ [skAt gm q]⟩ ∧ Stay x.2 gm gm1 ∧
      (∀ q' e' d' xs', ownAt x.1 q' = some (e', d', xs') → skHead (skAt gm1 q') = skHead (skAt gm q')) ∧
      Within T x.1 ∧ (∀ n, n ∉ x.2.names → x.1 n = rd n) := by
    rintro x ⟨gm1, h1, h2, h3, h4, h5, h6⟩
    exact ⟨gm1, hv, hleaf, h1, h2, h3, h4, h5, h6⟩
  refine hfin _ ?_
  unfold takeAt
  rw [hr]
  have other : (rg.box = true ∨ rg.row.length ≠ 1) → ∃ gm1, Regs P w0 F (withHand (mix T (setR rd q.r ((some rg).map fun g => { g with row := setV q.p g.row q.j .bad })) regs) (row ++ [.own e d xs])) w G gm1 ∧
      gm1 .hand = some ⟨none, vals ++ [v], sks ++ [skAt gm q]⟩ ∧ Stay (match q.p with | [] => ⟨[], [q.r], []⟩ | _ => ⟨[q.r], [], []⟩) gm gm1 ∧
      (∀ q' e' d' xs', ownAt (setR rd q.r ((some rg).map fun g => { g with row := setV q.p g.row q.j .bad })) q' = some (e', d', xs') → skHead (skAt gm1 q') = skHead (skAt gm q')) ∧
      Within T (setR rd q.r ((some rg).map fun g => { g with row := setV q.p g.row q.j .bad })) ∧
      (∀ n, n ∉ Kl.names (match q.p with | [] => ⟨[], [q.r], []⟩ | _ => ⟨[q.r], [], []⟩) → (setR rd q.r ((some rg).map fun g => { g with row := setV q.p g.row q.j .bad })) n = rd n) := by
    intro hns
    have := part (.inr hns) (match q.p with | [] => ⟨[], [q.r], []⟩ | _ => ⟨[q.r], [], []⟩) (by cases hqp : q.p <;> simp)
    rwa [hr] at this
  rcases rg with ⟨box, rrow⟩
  cases box with
  | true => exact other (.inl rfl)
  | false =>
    rcases rrow with _ | ⟨y0, _ | ⟨y1, tl⟩⟩
    · exact other (.inr (by simp))
    · cases hqp : q.p with
      | cons i p =>
        simp only
        have := part (.inl (by rw [hqp]; simp)) ⟨[q.r], [], []⟩ (.inl ⟨rfl, by rw [hqp]; simp⟩)
        rw [hr, hqp] at this
        exact this
      | nil =>
        simp only
        have hb : R.b = none := by
          have := hok.1
          cases hb : R.b with
          | none => rfl
          | some b => rw [hb] at this; simp at this
        refine ⟨_, step none none trivial (fun R1 h1 => by cases h1), setG_self _ _ _, ?_, ?_, hwithin _, ?_⟩
        · constructor
          · intro q' hq' hl
            by_cases hh' : q'.r = .hand
            · exact handStay _ q' hh' hl
            · have hrr : q'.r ≠ q.r := fun e => by simp [Kl.hits, e, Nm.mem, Nm.eq_self] at hq'
              rw [skAt_ne (gm := gm) (by rw [setG_ne _ _ hh', setG_ne _ _ hrr])]
          · intro r R1 b hk hr1 hb1
            have hrr : r ≠ q.r := fun e => by simp [e, Nm.mem, Nm.eq_self] at hk
            by_cases hh' : r = .hand
            · subst hh'
              rw [hh] at hr1
              obtain rfl := Option.some.inj hr1
              simp at hb1
            · exact ⟨R1, by rw [setG_ne _ _ hh', setG_ne _ _ hrr]; exact hr1, hb1⟩
        · intro q' e' d' xs' hq'
          obtain ⟨rg', hr', hx'⟩ := ownAt_some hq'
          have hrr : q'.r ≠ q.r := fun e => by rw [e, setR_self] at hr'; cases hr'
          rw [setR_ne _ _ hrr] at hr'
          have hh' : q'.r ≠ .hand := fun e => by have := hT.mem hr'; rw [e, hTh] at this; cases this
          rw [skAt_ne (gm := gm) (by rw [setG_ne _ _ hh', setG_ne _ _ hrr])]
        · intro n hn
          have : n ≠ q.r := by rintro rfl; simp [Kl.names] at hn
          exact setR_ne _ _ this
    · exact other (.inr (by simp))
end
end Go.Ab
/- Cells of a slot's value are taken into the hand. -/
namespace Go.Ab
open Go

theorem Kl.names_and (x y : Kl) (n : Nm) : n ∈ (x.and y).names ↔ n ∈ x.names ∨ n ∈ y.names := by
  simp only [Kl.names, Kl.and, List.mem_append]
  grind

section
variable {P : Program} {w0 w : World} {F : FG} {rd regs : Nm → Option Rg} {G G' : Nat → Prop} {gm gm' : GM} {T : List Nm} {deep : TypeId → Bool}

/-- The own slices that are still there are named as they were at the beginning. -/
def Live (rd : Nm → Option Rg) (gm0 gm : GM) : Prop := ∀ q e d xs, ownAt rd q = some (e, d, xs) → skHead (skAt gm q) = skHead (skAt gm0 q)

/-- What taking cells into the hand comes to. -/
structure Took (P : Program) (w0 w : World) (F : FG) (T : List Nm) (regs : Nm → Option Rg) (rd : Nm → Option Rg) (row : List V) (vals : List Value) (sks : List Sk) (G : Nat → Prop) (gm : GM)
    (a : Abs) (vs : List Value) : Prop where
  ex : ∃ G' gm' ss, (∀ b, G b → G' b) ∧ Regs P w0 F (withHand (mix T a.rd regs) (row ++ a.xs)) w G' gm' ∧ gm' .hand = some ⟨none, vals ++ vs, sks ++ ss⟩ ∧ Stay a.k gm gm' ∧ Live a.rd gm gm'
  len : a.xs.length = vs.length
  within : Within T a.rd
  same : ∀ n, n ∉ a.k.names → a.rd n = rd n
  own : ∀ q t, ownAt a.rd q = some t → ∃ t', ownAt rd q = some t'

theorem getV_setV_own : ∀ (p p' : List Nat) (row : List V) (j j' : Nat) (e : TypeId) (d : Bool) (xs : List V), getV p' (setV p row j .bad) j' = .own e d xs →
    ∃ e' d' xs', getV p' row j' = .own e' d' xs'
  | [], p', row, j, j', e, d, xs, h => by
    by_cases hj : j = j'
    · subst hj
      have hb : nthV (row.set j .bad) j = .bad := (nthV_set_self row j .bad).elim id id
      cases p' with
      | nil => simp only [getV, setV, hb] at h; cases h
      | cons i p => simp only [getV, setV, hb, ownXs, getV_nil] at h; cases h
    · refine ⟨e, d, xs, ?_⟩
      cases p' with
      | nil => simpa only [getV, setV, nthV_set_ne _ _ _ _ hj] using h
      | cons i p => simpa only [getV, setV, nthV_set_ne _ _ _ _ hj] using h
  | i :: p, p', row, j, j', e, d, xs, h => by
    by_cases hj : j = j'
    · subst hj
      by_cases hlt : j < row.length
      · cases p' with
        | nil =>
          simp only [getV, setV, nthV_set_lt _ _ _ hlt] at h ⊢
          cases hr : nthV row j with
          | own e1 d1 xs1 => exact ⟨_, _, _, rfl⟩
          | _ => rw [hr] at h; simp only [setOwn] at h; cases h
        | cons i' p' =>
          simp only [getV, setV, nthV_set_lt _ _ _ hlt] at h ⊢
          cases hr : nthV row j with
          | own e1 d1 xs1 =>
            rw [hr] at h
            simp only [setOwn, ownXs] at h ⊢
            exact getV_setV_own p p' xs1 i i' e d xs h
          | _ => rw [hr] at h; simp only [setOwn, ownXs, getV_nil] at h; cases h
      · have h1 : row.set j (setOwn (fun xs => setV p xs i .bad) (nthV row j)) = row := List.set_eq_of_length_le (by omega)
        rw [setV, h1] at h
        exact ⟨_, _, _, h⟩
    · refine ⟨e, d, xs, ?_⟩
      cases p' with
      | nil => simpa only [getV, setV, nthV_set_ne _ _ _ _ hj] using h
      | cons i p => simpa only [getV, setV, nthV_set_ne _ _ _ _ hj] using h

theorem takeAt_own {rd : Nm → Option Rg} {q q' : Pl} {t : TypeId × Bool × List V} (h : ownAt (takeAt rd q).1 q' = some t) : ∃ t', ownAt rd q' = some t' := by
  obtain ⟨e, d, xs⟩ := t
  obtain ⟨rg, hr, hx⟩ := ownAt_some h
  have part : ∀ (hr : setR rd q.r ((rd q.r).map fun g => { g with row := setV q.p g.row q.j .bad }) q'.r = some rg), ∃ t', ownAt rd q' = some t' := by
    intro hr
    by_cases hrr : q'.r = q.r
    · rw [hrr, setR_self] at hr
      cases hq : rd q.r with
      | none => rw [hq] at hr; cases hr
      | some g =>
        rw [hq] at hr
        obtain rfl := Option.some.inj hr
        obtain ⟨e', d', xs', h'⟩ := getV_setV_own q.p q'.p g.row q.j q'.j e d xs hx
        exact ⟨(e', d', xs'), by unfold ownAt; rw [hrr, hq]; simp only [h']⟩
    · rw [setR_ne _ _ hrr] at hr
      exact ⟨(e, d, xs), by unfold ownAt; rw [hr]; simp only [hx]⟩
  unfold takeAt at hr
  split at hr
  · exact ⟨(e, d, xs), by unfold ownAt; rw [show rd q'.r = some rg from hr]; simp only [hx]⟩
  · split at hr
    · replace hr : setR rd q.r none q'.r = some rg := hr
      by_cases hrr : q'.r = q.r
      · rw [hrr, setR_self] at hr; cases hr
      · rw [setR_ne _ _ hrr] at hr
        exact ⟨(e, d, xs), by unfold ownAt; rw [hr]; simp only [hx]⟩
    · exact part hr
  · exact part hr

theorem szT_pos_of {e : TypeId} {d : Bool} {xs : List V} {v : Value} {g n cap sz : Nat} {cs : List Sk} (h : OwnC w G P v (.own e d xs) (.node g n cap sz cs)) : 0 < szT P e ∧ szT P e = sz ∧ xs.length = n * sz := by
  obtain ⟨_, _, _, _, _, _, h5, h6, _, _, h9, _⟩ := h
  exact ⟨by omega, h6, h9⟩

theorem getSk_append : ∀ (p : List Nat) (sks : List Sk) (j : Nat) (t : List Sk), getSk p sks j ≠ .leaf → getSk p (sks ++ t) j = getSk p sks j := by
  intro p sks j t hl
  have hj : j < sks.length := by
    rcases Nat.lt_or_ge j sks.length with h' | h'
    · exact h'
    · cases p with
      | nil => exact absurd (by simp only [getSk, nthS_out _ _ h']) hl
      | cons i p => exact absurd (by simp only [getSk, nthS_out _ _ h', skCells, getSk_nil]) hl
  have hn : ∀ (l : List Sk) (j : Nat), j < l.length → nthS (l ++ t) j = nthS l j := by
    intro l
    induction l with
    | nil => intro j h; simp at h
    | cons a l ih => intro j h; cases j with
      | zero => rfl
      | succ j => simpa using ih j (by simpa using h)
  cases p with
  | nil => simp only [getSk, hn _ _ hj]
  | cons i p => simp only [getSk, hn _ _ hj]

/-- Names but the hand's stand, where only the hand is changed, and that behind what it held. -/
theorem hand_stay' {vals vals' : List Value} {sks t : List Sk} (hh : gm .hand = some ⟨none, vals, sks⟩) : Stay .no gm (setG gm .hand (some ⟨none, vals', sks ++ t⟩)) := by
  constructor
  · intro q _ hl
    by_cases hq : q.r = .hand
    · simp only [skAt, hq, setG_self, hh] at hl ⊢
      rw [getSk_append _ _ _ _ hl]
    · rw [skAt_ne (setG_ne _ _ hq)]
  · intro r R b _ h1 h2
    by_cases hr : r = .hand
    · subst hr; rw [hh] at h1; obtain rfl := Option.some.inj h1; simp at h2
    · exact ⟨R, by rw [setG_ne _ _ hr]; exact h1, h2⟩

theorem Live.of_stay (hs : Stay .no gm gm') (hr : ∀ q e d xs, ownAt rd q = some (e, d, xs) → skAt gm q ≠ .leaf) : Live rd gm gm' :=
  fun q e d xs hq => hs.own q (Kl.hits_no q) (hr q e d xs hq)

theorem Regs.own_leaf {row : List V} (h : Regs P w0 F (withHand (mix T rd regs) row) w G gm) (hT : Within T rd) (hTh : Nm.hand.mem T = false) {q : Pl} {e : TypeId} {d : Bool} {xs : List V}
    (hq : ownAt rd q = some (e, d, xs)) : skAt gm q ≠ .leaf ∧ ∃ v, OwnC w G P v (.own e d xs) (skAt gm q) := by
  obtain ⟨rg, hr, hx⟩ := ownAt_some hq
  have hm := hT.mem hr
  have hne : q.r ≠ .hand := fun e => by rw [e, hTh] at hm; cases hm
  obtain ⟨R, hR, hok⟩ := h.ok (show withHand (mix T rd regs) row q.r = some rg by rw [withHand_ne _ _ hne, mix_mem hm, hr])
  obtain ⟨v, hv, _⟩ := OwnL.at q.p rg.row q.j R.vals R.sks hok.2.1 (by rw [hx]; simp)
  have hsk : skAt gm q = getSk q.p R.sks q.j := by simp only [skAt, hR]
  rw [hx, ← hsk] at hv
  exact ⟨by intro e; rw [e] at hv; exact hv.elim, v, hv⟩

theorem Stay.no_trans {k : Kl} {gm'' : GM} (h : Stay k gm gm') (h' : Stay .no gm' gm'') : Stay k gm gm'' := by
  refine ⟨fun q hq hl => ?_, fun r R b hr h1 h2 => ?_⟩
  · have e := h.own q hq hl
    rw [← e]
    refine h'.own q (Kl.hits_no q) (fun e' => hl ?_)
    rw [e'] at e
    exact skHead_leaf.1 e.symm
  · obtain ⟨R', g1, g2⟩ := h.box r R b hr h1 h2
    exact h'.box r R' b (by simp [Kl.no, Nm.mem]) g1 g2

/-- An own slice that was taken, in any shape that owns no more. -/
theorem took_last {row : List V} {vals : List Value} {sks : List Sk} {q : Pl} {e : TypeId} {d : Bool} {xs : List V}
    (h : Regs P w0 F (withHand (mix T rd regs) row) w G gm) (hh : gm .hand = some ⟨none, vals, sks⟩) (hl : vals.length = row.length) (hls : sks.length = row.length)
    (hT : Within T rd) (hTh : Nm.hand.mem T = false) (hq : ownAt rd q = some (e, d, xs)) (y' : V) (v' : Value)
    (hy : ∀ v, OwnC w G P v (.own e d xs) (skAt gm q) → ∃ S' G', S'.fp.Sublist (skAt gm q).fp ∧ (∀ b, G b → G' b) ∧ (∀ b, G' b → G b ∨ (b ∈ (skAt gm q).fp ∧ b ∉ S'.fp)) ∧ OwnC w G' P v' y' S') :
    ∀ b, Took P w0 w F T regs rd row vals sks G gm ⟨b, [y'], (takeAt rd q).1, (takeAt rd q).2⟩ [v'] := by
  intro _
  obtain ⟨v, gm1, h1, h2, h3, h4, h5, h6, h7, h8⟩ := take_ok h hh hT hTh hq
  obtain ⟨S', G', k1, k2, k3, k4⟩ := hy v h1
  have hr := hand_last h3 h4 hl hls k1 k2 k3 k4
  have hst : ∀ (x : RG), (∃ a b, x = ⟨none, a, sks ++ [b]⟩) → ∀ q', q'.r = .hand → skAt gm q' ≠ .leaf → skHead (skAt (setG gm1 .hand (some x)) q') = skHead (skAt gm q') := by
    rintro x ⟨a, b, rfl⟩ q' hq' hle
    simp only [skAt, hq', setG_self, hh] at hle ⊢
    rw [getSk_append _ _ _ _ hle]
  refine ⟨⟨G', _, [S'], k2, hr, setG_self _ _ _, ?_, ?_⟩, rfl, h7, h8, fun _ _ h => takeAt_own h⟩
  · constructor
    · intro q' hq' hle
      by_cases hqh : q'.r = .hand
      · exact hst _ ⟨_, _, rfl⟩ q' hqh hle
      · rw [skAt_ne (gm := gm1) (setG_ne _ _ hqh)]; exact h5.own q' hq' hle
    · intro r R b hk g1 g2
      obtain ⟨R', g3, g4⟩ := h5.box r R b hk g1 g2
      by_cases hrh : r = .hand
      · subst hrh; rw [hh] at g1; obtain rfl := Option.some.inj g1; simp at g2
      · exact ⟨R', by rw [setG_ne _ _ hrh]; exact g3, g4⟩
  · intro q' e' d' xs' hq'
    have := h6 q' e' d' xs' hq'
    have hqh : q'.r ≠ .hand := by
      obtain ⟨rg', hr', _⟩ := ownAt_some hq'
      intro e; have := h7.mem hr'; rw [e, hTh] at this; cases this
    rw [skAt_ne (gm := gm1) (setG_ne _ _ hqh)]
    exact this

/-- A cell that owns nothing. -/
theorem took_push {row : List V} {vals : List Value} {sks : List Sk} (h : Regs P w0 F (withHand (mix T rd regs) row) w G gm) (hh : gm .hand = some ⟨none, vals, sks⟩)
    (hT : Within T rd) (hTh : Nm.hand.mem T = false) (y : V) (v : Value) (S : Sk) (hS : S.fp = []) (ho : OwnC w G P v y S) :
    ∀ b, Took P w0 w F T regs rd row vals sks G gm ⟨b, [y], rd, .no⟩ [v] := by
  intro _
  have hs := hand_stay' (vals' := vals ++ [v]) (t := [S]) hh
  exact ⟨⟨G, _, [S], fun _ h => h, hand_push h hh hS ho, setG_self _ _ _, hs, Live.of_stay hs (fun q e d xs hq => (h.own_leaf hT hTh hq).1)⟩, rfl, hT, fun _ _ => rfl, fun _ t h => ⟨t, h⟩⟩

theorem OwnC.of_imm {v : Value} {x : V} (h : Rv w G noGM v x) (hi : x.cim = true) : OwnC w G P v x .leaf := by
  cases x <;> first | (simp [V.cim, V.imm] at hi; done) | exact ⟨rfl, hi, h⟩

theorem cim_imm {x : V} (h : x.cim = true) : x.imm = true := by
  simp only [V.cim, Bool.and_eq_true] at h; exact h.2

theorem hdr_zero {g cap sz hi : Nat} {v : Value} (h : isHdr g cap sz 0 hi v) : v = .slice (some ⟨g, 0, none⟩) hi cap := by
  obtain ⟨o, h1, h2⟩ := h
  have := h2 (.inr rfl)
  simp only [Nat.zero_mul] at this
  subst this
  simpa using h1

/-- One cell of a slot's value. -/
theorem absC_ok {row : List V} {vals : List Value} {sks : List Sk} {keep : Bool} {v : Value} {x : V} {gm0 : GM} {G0 : Nat → Prop}
    (h : Regs P w0 F (withHand (mix T rd regs) row) w G gm) (hh : gm .hand = some ⟨none, vals, sks⟩) (hl : vals.length = row.length) (hls : sks.length = row.length)
    (hT : Within T rd) (hTh : Nm.hand.mem T = false)
    (hv : Rv w G0 gm0 v x) (hG0 : ∀ b, G0 b → G b) (hlive : Live rd gm0 gm) (hok : (absC P deep keep rd x).ok = true) :
    Took P w0 w F T regs rd row vals sks G gm (absC P deep keep rd x) [v] ∧ (keep = false → cimL (absC P deep keep rd x).xs = true) ∧ (absC P deep keep rd x).xs.length = 1 := by
  cases x with
  | nl e =>
    simp only [Rv] at hv
    subst hv
    cases keep with
    | true => exact ⟨took_push h hh hT hTh (.own e (deep e) []) (.slice none 0 0) .nil rfl ⟨rfl, rfl⟩ _, by simp, rfl⟩
    | false => exact ⟨took_push h hh hT hTh (.sl (szT P e) []) (.slice none 0 0) .leaf rfl ⟨rfl, rfl, .inl ⟨rfl, rfl⟩⟩ _, by simp [absC, cimL, V.cim, V.imm, V.isCell], rfl⟩
  | ref q =>
    simp only [absC] at hok ⊢
    obtain ⟨e, d, xs, he, hd, hxx, hq⟩ := ownB_some hok
    focus
      simp only [he, hd, hxx]
      have hhd := hlive q e d xs hq
      obtain ⟨hle, _⟩ := h.own_leaf hT hTh hq
      have hval : ∀ u, OwnC w G P u (.own e d xs) (skAt gm q) → u = v := by
        intro u hu
        have hn : nameRef gm q v := nameRef_head hhd hv
        unfold nameRef at hn
        cases hs : skAt gm q with
        | leaf => exact absurd hs hle
        | nil => rw [hs] at hn hu; exact hu.1.trans hn.symm
        | node g n cap sz cs => rw [hs] at hn hu; obtain ⟨_, _, h1, _⟩ := hu; exact h1.trans hn.symm
      cases keep with
      | true =>
        refine ⟨took_last h hh hl hls hT hTh hq _ v (fun u hu => ⟨skAt gm q, G, List.Sublist.refl _, fun _ h => h, fun _ h => .inl h, by rw [← hval u hu]; exact hu⟩) _, by simp, rfl⟩
      | false =>
        refine ⟨took_last h hh hl hls hT hTh hq _ v (fun u hu => ⟨.leaf, fun b => G b ∨ b ∈ (skAt gm q).fp, by simp [Sk.fp], fun _ h => .inl h, ?_, ?_⟩) _, by simp [cimL, frz_imm], rfl⟩
        · rintro b (hb | hb)
          · exact .inl hb
          · exact .inr ⟨hb, by simp [Sk.fp]⟩
        · rw [← hval u hu]
          exact OwnC.of_imm (OwnC.frz (fun _ h => .inl h) _ _ _ hu (fun k hk => .inr hk)) (frz_imm e d xs)
  | vw q lo hi =>
    simp only [absC] at hok ⊢
    rw [Bool.and_eq_true] at hok
    obtain ⟨hok1, hok⟩ := hok
    obtain ⟨e, d, xs, he, hd, hxx, hq⟩ := ownB_some hok1
    focus
      simp only [he, hd, hxx]
      have hhd := hlive q e d xs hq
      obtain ⟨hle, _⟩ := h.own_leaf hT hTh hq
      have hn : nameVw gm q lo hi v := nameVw_head hhd hv
      unfold nameVw at hn
      cases keep with
      | true =>
        simp only [Bool.not_true, Bool.false_or] at hok
        have hlo : lo = 0 := by simpa using hok
        subst hlo
        refine ⟨took_last h hh hl hls hT hTh hq _ v (fun u hu => ?_) _, by simp, rfl⟩
        cases hs : skAt gm q with
        | leaf => exact absurd hs hle
        | nil =>
          rw [hs] at hn hu
          obtain ⟨_, rfl, rfl⟩ := hn
          obtain ⟨_, rfl⟩ := hu
          exact ⟨.nil, G, by simp [Sk.fp], fun _ h => h, fun _ h => .inl h, ⟨rfl, by simp⟩⟩
        | node g n cap sz cs =>
          rw [hs] at hn hu
          obtain ⟨_, hn2, hn3⟩ := hn
          obtain ⟨cur, fr, h1, h2, h3, h4, h5, h6, h7, h8, h9, h10, h11⟩ := hu
          have hle : hi * sz ≤ n * sz := Nat.mul_le_mul_right _ hn2
          refine ⟨.node g hi cap sz (cs.take (hi * sz)), G, ?_, fun _ h => h, fun _ h => .inl h, ?_⟩
          · simp only [Sk.fp]; exact List.Sublist.cons_cons _ (fpL_take_sub _ _)
          · refine ⟨cur, fr, hdr_zero hn3, h2, h3, h4, h5, h6, Nat.le_trans hn2 h7, h8, ?_, ?_, ?_⟩
            · simp [h6, h9, hle]
            · have := h10.take (hi * sz)
              rw [List.take_take, Nat.min_eq_left hle] at this
              simpa [h6] using this
            · intro hd
              have hi' := h11 hd
              simpa [h6] using cibL_take xs (hi * sz) hi'
      | false =>
        refine ⟨took_last h hh hl hls hT hTh hq _ v (fun u hu => ⟨.leaf, fun b => G b ∨ b ∈ (skAt gm q).fp, by simp [Sk.fp], fun _ h => .inl h, ?_, ?_⟩) _, by simp [cimL, frz_imm], rfl⟩
        · rintro b (hb | hb)
          · exact .inl hb
          · exact .inr ⟨hb, by simp [Sk.fp]⟩
        · refine OwnC.of_imm ?_ (frz_imm e d _)
          cases hs : skAt gm q with
          | leaf => exact absurd hs hle
          | nil =>
            rw [hs] at hn hu
            obtain ⟨rfl, rfl, rfl⟩ := hn
            obtain ⟨_, rfl⟩ := hu
            refine .inl ⟨rfl, ?_⟩
            cases d <;> simp [frzL]
          | node g n cap sz cs =>
            rw [hs] at hn hu
            obtain ⟨hn1, hn2, oo, rfl, hn3⟩ := hn
            obtain ⟨cur, fr, h1, h2, h3, h4, h5, h6, h7, h8, h9, h10, h11⟩ := hu
            have hfrz := OwnC.frz (G' := fun b => G b ∨ b ∈ (Sk.node g n cap sz cs).fp) (fun _ h => .inl h) (.own e d xs) _ (.node g n cap sz cs) ⟨cur, fr, h1, h2, h3, h4, h5, h6, h7, h8, h9, h10, h11⟩ (fun k hk => .inr hk)
            -- the cells of the whole, frozen
            obtain ⟨ys, hys, hyl, hyc⟩ : ∃ ys, Ab.frz P (.own e d ((xs.drop (lo * szT P e)).take ((hi - lo) * szT P e))) = .sl sz ((ys.drop (lo * sz)).take ((hi - lo) * sz)) ∧
                (RvL w (fun b => G b ∨ b ∈ (Sk.node g n cap sz cs).fp) noGM (cur.toList.take (n * sz)) ys) ∧ cibL ys = true := by
              have fd : ∀ (l : List V) (k : Nat), frzL P (l.drop k) = (frzL P l).drop k := by
                intro l
                induction l with
                | nil => intro k; cases k <;> simp [frzL]
                | cons a l ih => intro k; cases k with
                  | zero => rfl
                  | succ k => simpa [frzL] using ih k
              have ft : ∀ (l : List V) (k : Nat), frzL P (l.take k) = (frzL P l).take k := by
                intro l
                induction l with
                | nil => intro k; cases k <;> simp [frzL]
                | cons a l ih => intro k; cases k with
                  | zero => rfl
                  | succ k => simpa [frzL] using ih k
              cases d with
              | true => exact ⟨frzL P xs, by simp [Ab.frz, h6, fd, ft], OwnL.frz (fun _ h => .inl h) xs _ cs h10 (fun k hk => .inr (by simp [Sk.fp, hk])), h10.cib⟩
              | false => exact ⟨xs, by simp [Ab.frz, h6], OwnL.imm (fun _ h => .inl h) xs _ cs h10 (h11 rfl), h11 rfl⟩
            rw [hys]
            have hyn : ys.length = n * sz := by
              have := hyl.length
              rw [← this, h10.length.1, h9]
            have hm : (hi - lo) * sz ≤ (n - lo) * sz := Nat.mul_le_mul_right _ (by omega)
            have hm2 : (n - lo) * sz = n * sz - lo * sz := Nat.sub_mul _ _ _
            have rd1 : ∀ (l : List V) (m : List Value) (k : Nat), RvL w (fun b => G b ∨ b ∈ (Sk.node g n cap sz cs).fp) noGM m l → RvL w (fun b => G b ∨ b ∈ (Sk.node g n cap sz cs).fp) noGM (m.drop k) (l.drop k) := by
              intro l
              induction l with
              | nil => intro m k hr; rw [RvL.nil_of hr]; cases k <;> exact trivial
              | cons a l ih => intro m k hr; cases m with
                | nil => exact hr.elim
                | cons b m => cases k with
                  | zero => exact hr
                  | succ k => exact ih m k hr.2
            have rt1 : ∀ (l : List V) (m : List Value) (k : Nat), RvL w (fun b => G b ∨ b ∈ (Sk.node g n cap sz cs).fp) noGM m l → RvL w (fun b => G b ∨ b ∈ (Sk.node g n cap sz cs).fp) noGM (m.take k) (l.take k) := by
              intro l
              induction l with
              | nil => intro m k hr; rw [RvL.nil_of hr]; cases k <;> exact trivial
              | cons a l ih => intro m k hr; cases m with
                | nil => exact hr.elim
                | cons b m => cases k with
                  | zero => exact trivial
                  | succ k => exact ⟨hr.1, ih m k hr.2⟩
            refine .inr ⟨⟨g, oo, none⟩, hi - lo, cap - lo, ((cur.toList.take (n * sz)).drop (lo * sz)).take ((hi - lo) * sz), rfl, fun _ => rfl, by omega, ?_, h5, ?_, ?_, rt1 _ _ _ (rd1 _ _ _ hyl), cibL_take _ _ (cibL_drop _ _ hyc), fun u hu => h10.one u (List.mem_of_mem_drop (List.mem_of_mem_take hu))⟩
            · simp only [List.length_take, List.length_drop, hyn]; omega
            · intro j u hu
              rw [List.getElem?_take] at hu
              split at hu
              · rename_i hj
                rw [List.getElem?_drop, List.getElem?_take] at hu
                split at hu
                · have hne : ¬ cap = lo := by
                    intro e
                    have : hi - lo = 0 := by omega
                    rw [this] at hj; simp at hj
                  rw [hn3 (.inl hne)]
                  simp only [World.cell?, h2]
                  simpa using hu
                · cases hu
              · cases hu
            · intro _
              right
              simp [Sk.fp]
  | sc u => exact ⟨took_push h hh hT hTh _ _ .leaf rfl (OwnC.of_imm (Rv.frame (fun _ _ => rfl) hG0 gm0 noGM _ v (fun n hn => by simp [V.names] at hn) hv) hok) _, fun _ => by simp [absC, cimL, V.cim, V.imm, V.isCell], rfl⟩
  | sl sz xs => exact ⟨took_push h hh hT hTh _ _ .leaf rfl (OwnC.of_imm (Rv.frame (fun _ _ => rfl) hG0 gm0 noGM _ v (fun n hn => by simp [V.names] at hn) hv) hok) _, fun _ => by simp [absC, cimL, V.cim, V.imm, V.isCell], rfl⟩
  | own e d xs => cases hok
  | slf => cases hok
  | ag xs => cases hok
  | tp xs => cases hok
  | fn f a b =>
    have hi : (V.fn f a b).imm = true := cim_imm hok
    exact ⟨took_push h hh hT hTh _ _ .leaf rfl (OwnC.of_imm (Rv.frame (fun _ _ => rfl) hG0 gm0 noGM _ v (fun n hn => by rw [imm_names _ hi] at hn; simp at hn) hv) hok) _, fun _ => by simp only [absC, cimL, Bool.and_true]; exact hok, rfl⟩
  | ifc t y =>
    have hi : (V.ifc t y).imm = true := cim_imm hok
    exact ⟨took_push h hh hT hTh _ _ .leaf rfl (OwnC.of_imm (Rv.frame (fun _ _ => rfl) hG0 gm0 noGM _ v (fun n hn => by rw [imm_names _ hi] at hn; simp at hn) hv) hok) _, fun _ => by simp only [absC, cimL, Bool.and_true]; exact hok, rfl⟩
  | ptrB r j => cases hok
  | ptrE q i off => cases hok
  | pim n xs off => exact ⟨took_push h hh hT hTh _ _ .leaf rfl (OwnC.of_imm (Rv.frame (fun _ _ => rfl) hG0 gm0 noGM _ v (fun n hn => by simp [V.names] at hn) hv) hok) _, fun _ => by simp [absC, cimL, V.cim, V.imm, V.isCell], rfl⟩
  | bad => cases hok

theorem cimL_append (a b : List V) : cimL (a ++ b) = (cimL a && cimL b) := by
  induction a with
  | nil => simp [cimL]
  | cons x a ih => simp [cimL, ih, Bool.and_assoc]

theorem Live.trans {rd' : Nm → Option Rg} {gm0 : GM} (h : Live rd gm0 gm) (h' : Live rd' gm gm') (ho : ∀ q t, ownAt rd' q = some t → ∃ t', ownAt rd q = some t') : Live rd' gm0 gm' := by
  intro q e d xs hq
  obtain ⟨⟨e', d', xs'⟩, hq'⟩ := ho q _ hq
  rw [h' q e d xs hq, h q e' d' xs' hq']

theorem Took.nil {row : List V} {vals : List Value} {sks : List Sk} (h : Regs P w0 F (withHand (mix T rd regs) row) w G gm) (hh : gm .hand = some ⟨none, vals, sks⟩) (hT : Within T rd) :
    ∀ b, Took P w0 w F T regs rd row vals sks G gm ⟨b, [], rd, .no⟩ [] :=
  fun _ => ⟨⟨G, gm, [], fun _ h => h, by simpa using h, by simpa using hh, Stay.refl _ _, fun _ _ _ _ _ => rfl⟩, rfl, hT, fun _ _ => rfl, fun _ t h => ⟨t, h⟩⟩

theorem Took.trans {row : List V} {vals : List Value} {sks : List Sk} {a b : Abs} {vs vs' : List Value} {G1 : Nat → Prop} {gm1 : GM} {ss : List Sk}
    (ha : Took P w0 w F T regs rd row vals sks G gm a vs) (hG : ∀ b, G b → G1 b) (hs : Stay a.k gm gm1) (hl : Live a.rd gm gm1)
    (hb : Took P w0 w F T regs a.rd (row ++ a.xs) (vals ++ vs) (sks ++ ss) G1 gm1 b vs') :
    ∀ o, Took P w0 w F T regs rd row vals sks G gm ⟨o, a.xs ++ b.xs, b.rd, a.k.and b.k⟩ (vs ++ vs') := by
  intro o
  obtain ⟨G2, gm2, ss2, h1, h2, h3, h4, h5⟩ := hb.ex
  refine ⟨⟨G2, gm2, ss ++ ss2, fun b hb => h1 b (hG b hb), by simpa [List.append_assoc] using h2, by simpa [List.append_assoc] using h3, hs.trans h4, hl.trans h5 hb.own⟩, ?_, hb.within, ?_, ?_⟩
  · simp [ha.len, hb.len]
  · intro n hn
    rw [Kl.names_and, not_or] at hn
    rw [hb.same n hn.2, ha.same n hn.1]
  · intro q t hq
    obtain ⟨t', hq'⟩ := hb.own q t hq
    exact ha.own q t' hq'

theorem absL_ok {keep : Bool} {gm0 : GM} {G0 : Nat → Prop} : ∀ (xs : List V) (vs : List Value) {rd : Nm → Option Rg} {G : Nat → Prop} {gm : GM} {row : List V} {vals : List Value} {sks : List Sk}
    (_ : Regs P w0 F (withHand (mix T rd regs) row) w G gm) (_ : gm .hand = some ⟨none, vals, sks⟩) (_ : vals.length = row.length) (_ : sks.length = row.length)
    (_ : Within T rd) (_ : Nm.hand.mem T = false)
    (_ : RvL w G0 gm0 vs xs) (_ : ∀ b, G0 b → G b) (_ : Live rd gm0 gm) (_ : (absL P deep keep xs rd).ok = true),
    Took P w0 w F T regs rd row vals sks G gm (absL P deep keep xs rd) vs ∧ (keep = false → cimL (absL P deep keep xs rd).xs = true)
  | [], [], rd, G, gm, row, vals, sks, h, hh, hl, hls, hT, hTh, _, _, _, _ => ⟨Took.nil h hh hT _, fun _ => rfl⟩
  | x :: xs, v :: vs, rd, G, gm, row, vals, sks, h, hh, hl, hls, hT, hTh, hv, hG0, hlive, hok => by
    simp only [absL, Bool.and_eq_true] at hok ⊢
    obtain ⟨h1, i1, n1⟩ := absC_ok (deep := deep) (keep := keep) h hh hl hls hT hTh hv.1 hG0 hlive hok.1
    obtain ⟨G1, gm1, ss1, k1, k2, k3, k4, k5⟩ := h1.ex
    have hlen := h1.len
    obtain ⟨hb0, hown⟩ := hand_ok k2 k3
    have hss : (sks ++ ss1).length = (row ++ (absC P deep keep rd x).xs).length := hown.length.2
    obtain ⟨h2, i2⟩ := absL_ok xs vs k2 k3 (by simp only [List.length_append, hl, hlen]) hss h1.within hTh hv.2 (fun b hb => k1 b (hG0 b hb)) (hlive.trans k5 h1.own) hok.2
    refine ⟨h1.trans k1 k4 k5 h2 _, fun hk => ?_⟩
    rw [cimL_append, i1 hk, i2 hk]; rfl
  | [], _ :: _, _, _, _, _, _, _, _, _, _, _, _, _, hv, _, _, _ => hv.elim
  | _ :: _, [], _, _, _, _, _, _, _, _, _, _, _, _, hv, _, _, _ => hv.elim

/-- A slot's value, as cells. -/
theorem absV_ok {row : List V} {vals : List Value} {sks : List Sk} {keep : Bool} {v : Value} {x : V} {gm0 : GM} {G0 : Nat → Prop}
    (h : Regs P w0 F (withHand (mix T rd regs) row) w G gm) (hh : gm .hand = some ⟨none, vals, sks⟩) (hl : vals.length = row.length) (hls : sks.length = row.length)
    (hT : Within T rd) (hTh : Nm.hand.mem T = false)
    (hv : Rv w G0 gm0 v x) (hG0 : ∀ b, G0 b → G b) (hlive : Live rd gm0 gm) (hok : (absV P deep keep rd x).ok = true) :
    Took P w0 w F T regs rd row vals sks G gm (absV P deep keep rd x) v.cells.toList ∧ (keep = false → cimL (absV P deep keep rd x).xs = true) := by
  cases x with
  | ag xs =>
    obtain ⟨cs, rfl, h2⟩ := hv
    exact absL_ok xs cs.toList h hh hl hls hT hTh h2 hG0 hlive hok
  | _ =>
    have hc : v.cells.toList = [v] := by
      have key : ∀ cs : Array Value, v ≠ .agg cs := by
        rintro cs rfl
        clear h hh hl hls hlive
        simp only [Rv] at hv <;> revert hok <;> first
          | (obtain ⟨hv, hf⟩ := hv; subst hv; cases hf; done)
          | (intro hok; cases hok; done)
          | (cases hv; done)
          | (rcases hv with ⟨hv, _⟩ | ⟨_, _, _, _, hv, _⟩ <;> cases hv; done)
          | (obtain ⟨_, hv, _⟩ := hv; cases hv; done)
          | (obtain ⟨_, _, hv, _⟩ := hv; cases hv; done)
          | (obtain ⟨_, _, _, hv, _⟩ := hv; cases hv; done)
          | (unfold nameRef at hv; split at hv <;> first | (cases hv; done) | exact hv.elim)
          | (unfold nameVw at hv; split at hv <;> first | (cases hv.2.2; done) | (obtain ⟨_, _, _, hv, _⟩ := hv; cases hv; done) | exact hv.elim)
      cases v <;> first | rfl | exact absurd rfl (key _)
    rw [hc]
    have := absC_ok (deep := deep) (keep := keep) h hh hl hls hT hTh hv hG0 hlive hok
    exact ⟨this.1, this.2.1⟩
end
end Go.Ab
/- Runs of the model's operations on memory: loads, stores, new rows. -/
namespace Go.Ab
open Go
set_option linter.unusedSimpArgs false
set_option linter.unusedVariables false

section
variable {P : Program} {w : World}

theorem nbeq {a b : Nat} (h : Nat.beq a b = true) : a = b := Nat.eq_of_beq_eq_true h
theorem nble {a b : Nat} (h : Nat.ble a b = true) : a ≤ b := Nat.le_of_ble_eq_true h
theorem nblt {a b : Nat} (h : Nat.blt a b = true) : a < b := Nat.le_of_ble_eq_true h

theorem add_addr (b o n : Nat) : (⟨b, o, none⟩ : Addr).add n = ⟨b, o + n, none⟩ := by unfold Addr.add; split <;> simp_all

theorem info_of_underlying {t : TypeId} {d : TypeDesc} (h : P.underlying t = some d) : ∃ i, P.info? t = some i ∧ szT P t = i.size ∧ bytesT P t = i.bytes := by
  cases hi : P.info? t with
  | none => simp [Program.underlying, hi] at h
  | some i => exact ⟨i, rfl, by simp [szT, hi], by simp [bytesT, hi]⟩

theorem tyOk_spec {t : TypeId} (h : tyOk P t = true) : ∃ d i, P.underlying t = some d ∧ P.info? t = some i ∧ szT P t = i.size ∧ bytesT P t = i.bytes ∧ (cellsT P t).length = szT P t := by
  simp only [tyOk, Bool.and_eq_true] at h
  obtain ⟨d, hd⟩ := Option.isSome_iff_exists.1 h.1
  obtain ⟨i, h1, h2, h3⟩ := info_of_underlying hd
  exact ⟨d, i, hd, h1, h2, h3, nbeq h.2⟩

theorem cellsT_plain {t : TypeId} (h : aggT P t = false) : cellsT P t = [t] := by
  unfold cellsT
  simp only [cellTys]
  unfold aggT at h
  split <;> simp_all

theorem run_isAgg {t : TypeId} (h : tyOk P t = true) : (isAgg t).run P w = .ok (aggT P t) w := by
  obtain ⟨d, i, hd, hi, _⟩ := tyOk_spec h
  simp only [isAgg, Sem.run_bind, run_underlying hd, Result.andThen_ok, aggT, hd]
  cases d <;> rfl

theorem run_sizeOf {t : TypeId} (h : tyOk P t = true) : (sizeOf t).run P w = .ok (szT P t) w := by
  obtain ⟨d, i, hd, hi, hs, _⟩ := tyOk_spec h
  simp [sizeOf, typeInfo, hi, hs]

theorem run_sizeOf' {t : TypeId} {i : TypeInfo} (hi : P.info? t = some i) : (sizeOf t).run P w = .ok i.size w := by
  simp [sizeOf, typeInfo, hi]

/-- The value that cells make. -/
def valOf (P : Program) (t : TypeId) (cs : List Value) : Value := if aggT P t then .agg cs.toArray else cs.headD undef

theorem run_loadVar {t : TypeId} (h : tyOk P t = true) {b o : Nat} {cs : List Value} (hc : CellsAt w ⟨b, o, none⟩ cs) (hl : cs.length = szT P t) :
    (loadVar t ⟨b, o, none⟩).run P w = .ok (valOf P t cs) w := by
  unfold loadVar valOf
  simp only [Sem.run_bind, run_isAgg h, Result.andThen_ok]
  cases ha : aggT P t with
  | true =>
    simp only [if_true, Sem.run_bind, run_sizeOf h, Result.andThen_ok]
    rw [← hl, run_loadCells_list w ⟨b, o, none⟩ cs (fun j v hv => by rw [add_addr]; exact hc j v hv)]
    rfl
  | false =>
    obtain ⟨d, i, hd, hi, hs, _, hn⟩ := tyOk_spec h
    rw [cellsT_plain ha] at hn
    have : cs.length = 1 := by rw [hl, ← hn]; rfl
    match cs, this with
    | [c], _ =>
      have := hc 0 c rfl
      simp only [Nat.add_zero] at this
      simp [this]

theorem valOf_cells {t : TypeId} (h : tyOk P t = true) {cs : List Value} (hl : cs.length = szT P t) (h1 : ∀ c ∈ cs, c.oneCell' = true) : (valOf P t cs).cells.toList = cs := by
  unfold valOf
  cases ha : aggT P t with
  | true => simp [Value.cells]
  | false =>
    obtain ⟨d, i, hd, hi, hs, _, hn⟩ := tyOk_spec h
    rw [cellsT_plain ha] at hn
    have : cs.length = 1 := by rw [hl, ← hn]; rfl
    match cs, this with
    | [c], _ =>
      have := h1 c (by simp)
      cases c <;> simp_all [Value.cells, Value.oneCell']

/-- Cells that are written over from a place on. -/
def over (cur : Array Value) (o : Nat) (vs : List Value) : Array Value := (cur.toList.take o ++ vs ++ cur.toList.drop (o + vs.length)).toArray

theorem over_size {cur : Array Value} {o : Nat} {vs : List Value} (h : o + vs.length ≤ cur.size) : (over cur o vs).size = cur.size := by
  simp only [over, List.size_toArray, List.length_append, List.length_take, List.length_drop, Array.length_toList]; omega

theorem run_storeCells {P : Program} (g o : Nat) (t : TypeId) (fz : Nat × Nat) : ∀ (vs : List Value) (i : Nat) (cur : Array Value) (w : World), w.heap[g]? = some (.cells cur t fz) → frOk fz cur.size → o + i + vs.length ≤ cur.size → (∀ v ∈ vs, v.oneCell' = true) →
    (storeCells ⟨g, o, none⟩ vs i).run P w = .ok () (w.setRow g (over cur (o + i) vs))
  | [], i, cur, w, hg, _, _, _ => by
    simp only [storeCells, over, List.append_nil, List.length_nil, Nat.add_zero, List.take_append_drop, Array.toArray_toList]
    rw [setRow_self w g cur t fz hg]
    rfl
  | v :: rest, i, cur, w, hg, hfz, hl, h1 => by
    have hi : o + i < cur.size := by simp at hl; omega
    have hcell : w.cell? ⟨g, o + i, none⟩ = some cur[o + i] := by simp [World.cell?, hg, hi]
    have hfro : w.frozen? ⟨g, o + i, none⟩ = false := by
      obtain ⟨lo, hi'⟩ := fz
      simp only [World.frozen?, hg, Bool.and_eq_false_iff, decide_eq_false_iff_not]
      simp only [frOk] at hfz
      omega
    have hst : (store ((⟨g, o, none⟩ : Addr).add i) v).run P w = .ok () (w.setRow g (cur.setIfInBounds (o + i) v)) := by
      rw [add_addr, run_store P w _ v _ (h1 v (by simp)), hcell]
      simp [hfro, setCell_eq_setRow w g (o + i) cur t fz v hg]
    have ih := run_storeCells (P := P) g o t fz rest (i + 1) (cur.setIfInBounds (o + i) v) (w.setRow g (cur.setIfInBounds (o + i) v)) (setRow_heap w g cur _ t _ hg) (by simpa using hfz) (by simp at hl ⊢; omega) (fun x hx => h1 x (by simp [hx]))
    simp only [storeCells, Sem.run_bind, hst, Result.andThen_ok, ih, setRow_setRow]
    congr 2
    unfold over
    congr 1
    have e := list_seg_step cur.toList (o + i) v rest (by simp at hl ⊢; omega)
    simpa [Array.toList_setIfInBounds, Nat.add_assoc] using e

theorem run_storeVar {t : TypeId} (h : tyOk P t = true) {g o : Nat} {e : TypeId} {fz : Nat × Nat} {cur : Array Value} (hg : w.heap[g]? = some (.cells cur e fz)) (hf : frOk fz cur.size) {v : Value}
    (hl : v.cells.size = szT P t) (ho : o + v.cells.size ≤ cur.size) (h1 : ∀ u ∈ v.cells.toList, u.oneCell' = true) :
    (storeVar t ⟨g, o, none⟩ v).run P w = .ok () (w.setRow g (over cur o v.cells.toList)) := by
  have := run_storeCells (P := P) g o e fz v.cells.toList 0 cur w hg hf (by simpa using ho) h1
  simp only [Nat.add_zero] at this
  simp [storeVar, run_sizeOf h, hl, this]

theorem over_get {cur : Array Value} {o : Nat} {vs : List Value} (h : o + vs.length ≤ cur.size) (k : Nat) :
    (over cur o vs).toList[k]? = if k < o then cur.toList[k]? else if k < o + vs.length then vs[k - o]? else cur.toList[k]? := by
  simp only [over]
  have hto : (cur.toList.take o).length = o := by simp; omega
  split
  · rw [List.append_assoc, List.getElem?_append_left (by omega), List.getElem?_take_of_lt (by assumption)]
  · rw [List.append_assoc, List.getElem?_append_right (by omega), hto]
    split
    · rw [List.getElem?_append_left (by omega)]
    · rw [List.getElem?_append_right (by omega), List.getElem?_drop]
      congr 1; omega

/-! ### readings of cells -/
variable {G : Nat → Prop} {gm : GM}

/-- What a list of looks comes to. -/
theorem mkV_ok {t : TypeId} {l : List (Bool × V)} {cs : List Value} (hr : RvL w G gm cs (l.map (·.2))) (hl : cs.length = szT P t) (hok : (mkV P t l).ok = true) :
    tyOk P t = true ∧ allOk l = true ∧ (mkV P t l).k = .no ∧ (mkV P t l).w = [] ∧ Rv w G gm (valOf P t cs) (mkV P t l).val := by
  have hk : (mkV P t l).k = .no ∧ (mkV P t l).w = [] := by unfold mkV; cases aggT P t <;> exact ⟨rfl, rfl⟩
  have hok' : (tyOk P t && allOk l) = true := by
    unfold mkV Eff.when at hok
    simp only [Bool.and_eq_true] at hok ⊢
    exact hok.1
  simp only [Bool.and_eq_true] at hok'
  refine ⟨hok'.1, hok'.2, hk.1, hk.2, ?_⟩
  unfold valOf mkV Eff.when
  cases ha : aggT P t with
  | true => exact ⟨cs.toArray, rfl, by simpa using hr⟩
  | false =>
    obtain ⟨d, i, hd, hi, hs, _, hn⟩ := tyOk_spec hok'.1
    rw [cellsT_plain ha] at hn
    have : cs.length = 1 := by rw [hl, ← hn]; rfl
    match cs, l, this, hr with
    | [c], [x], _, hr => exact hr.1
    | [c], [], _, hr => exact hr.elim

theorem viewC_none {deep : TypeId → Bool} {c : TypeId} {x : V} (h : (viewC P deep none c x).1 = true) : (viewC P deep none c x).2 = x := by
  unfold viewC at *
  split <;> simp_all
  · cases x <;> simp_all [V.isInt, V.intOf]
    rename_i v; cases v <;> simp_all [V.isInt, V.intOf]
  · cases x <;> simp_all [V.isBool, V.boolOf]
    rename_i v; cases v <;> simp_all [V.isBool, V.boolOf]
  · cases x <;> simp_all [V.isStr, V.strOf]
    rename_i v; cases v <;> simp_all [V.isStr, V.strOf]
  · cases x <;> simp_all [V.isSl, V.cellsOf]

theorem viewC_some {deep : TypeId → Bool} {q : Pl} {c : TypeId} {x : V} (h : (viewC P deep (some q) c x).1 = true) :
    ∃ e' d', (viewC P deep (some q) c x).2 = x ∨ (∃ e d xs, x = .own e d xs) ∧ (viewC P deep (some q) c x).2 = .ref { q with e := e', d := d' } := by
  by_cases hs : ∃ e, P.underlying c = some (.slice e)
  · obtain ⟨e, he⟩ := hs
    refine ⟨e, deep e, .inr ?_⟩
    simp only [viewC, he] at h ⊢
    cases x <;> simp [V.isOwnD] at h
    exact ⟨⟨_, _, _, rfl⟩, trivial⟩
  · refine ⟨0, false, .inl ?_⟩
    have e1 : viewC P deep (some q) c x = viewC P deep none c x := by
      unfold viewC
      split <;> first | rfl | (rename_i e he; exact absurd ⟨e, he⟩ hs)
    rw [e1] at h ⊢
    exact viewC_none h

theorem viewB_eq {r : Nm} {j : Nat} {c : TypeId} {x : V} (h : (viewB P r j c x).1 = true) :
    ∃ e' d', ((viewB P r j c x).2 = x ∧ ((∃ sz xs, x = .sl sz xs) ∨ x.cim = true)) ∨ (∃ e d xs, x = .own e d xs) ∧ (viewB P r j c x).2 = .ref ⟨r, j, [], e', d'⟩ := by
  unfold viewB at *
  split
  · next e d xs => exact ⟨e, d, .inr ⟨⟨_, _, _, rfl⟩, rfl⟩⟩
  · exact ⟨0, false, .inl ⟨rfl, .inl ⟨_, _, rfl⟩⟩⟩
  · next h1 h2 =>
    refine ⟨0, false, .inl ⟨rfl, .inr ?_⟩⟩
    split at h <;> first | (next e d xs => exact absurd rfl (h1 e d xs)) | (next sz xs => exact absurd rfl (h2 sz xs)) | exact h
end
end Go.Ab
/- States: what an operation's effect leaves of the invariant. -/
namespace Go.Ab
open Go
set_option linter.unusedSimpArgs false
set_option linter.unusedVariables false

section
variable {P : Program} {w0 w w' : World} {F : FG} {N : Nat} {st : St} {a : Act} {G G' : Nat → Prop} {gm gm' : GM}

theorem getD_put_self (a : Act) (d : Nat) (v : Value) (h : d < a.tmps.size) : (a.put (some d) v).tmps.getD d undef = v := by
  simp [Act.put, h]
theorem getD_put_ne (a : Act) (d i : Nat) (v : Value) (h : d ≠ i) : (a.put (some d) v).tmps.getD i undef = a.tmps.getD i undef := by
  simp [Act.put, Array.getElem?_setIfInBounds_ne h]

theorem isDst_some (d i : Nat) : isDst (some d) i = true ↔ i = d := by
  simp only [isDst]
  exact ⟨nbeq, fun h => by subst h; simp⟩
theorem isDst_none (i : Nat) : isDst none i = false := rfl

theorem Kl.isNo_eq {k : Kl} (h : k.isNo = true) : k = .no := by
  obtain ⟨d, r, a⟩ := k
  simp only [Kl.isNo, Bool.and_eq_true, List.isEmpty_iff] at h
  obtain ⟨⟨rfl, rfl⟩, rfl⟩ := h
  rfl

/-- The state behind an effect. -/
theorem Inv.app (hI : Inv P w0 F N st a w G gm) (e : Eff) (d : Option Nat) (hd : ∀ x, d = some x → x < N) (v : Value)
    (hR : Regs P w0 F (st.app e d).regs w' G' gm') (hh : (st.app e d).regs .hand = none) (hG : ∀ b, G b → G' b) (hw : ∀ k, G k → w'.heap[k]? = w.heap[k]?) (hs : Stay e.k gm gm')
    (hv : d ≠ none → Rv w' G' gm' v e.val) : Inv P w0 F N (st.app e d) (a.put d v) w' G' gm' := by
  refine ⟨hR, fun i => ?_, ?_, ?_, hh⟩
  · have key : ∀ y, Rv w G gm y (st.env i) → Rv w' G' gm' y (bif e.k.isNo then st.env i else (st.env i).kill e.k) := by
      intro y hy
      cases hk : e.k.isNo with
      | true => simp only [cond_true]; exact Rv.stay hw hG (Kl.isNo_eq hk ▸ hs) _ _ hy
      | false => simp only [cond_false]; exact Rv.kill hw hG e.k hs _ _ hy
    cases d with
    | none => exact key _ (hI.env i)
    | some d =>
      by_cases hi : i = d
      · subst hi
        have : isDst (some i) i = true := (isDst_some i i).2 rfl
        simp only [St.app, this, cond_true]
        rw [getD_put_self a i v (by rw [hI.size]; exact hd i rfl)]
        exact hv (by simp)
      · have : isDst (some d) i = false := by
          cases h : isDst (some d) i with
          | false => rfl
          | true => exact absurd ((isDst_some d i).1 h) hi
        simp only [St.app, this, cond_false]
        rw [getD_put_ne a d i v (fun h => hi h.symm)]
        exact key _ (hI.env i)
  · cases d with
    | none => exact hI.size
    | some d => simpa [Act.put] using hI.size
  · cases d with
    | none => exact hI.defers
    | some d => exact hI.defers

/-- An effect that touches no region. -/
theorem Inv.quiet (hI : Inv P w0 F N st a w G gm) (e : Eff) (d : Option Nat) (hd : ∀ x, d = some x → x < N) (v : Value) (hk : e.k = .no) (hwr : e.w = [])
    (hv : d ≠ none → Rv w G gm v e.val) : Inv P w0 F N (st.app e d) (a.put d v) w G gm := by
  have hreg : (st.app e d).regs = st.regs := by
    funext n
    simp only [St.app, hwr, Nm.mem, cond_false]
  refine hI.app e d hd v (by rw [hreg]; exact hI.regs) (by rw [hreg]; exact hI.hand) (fun _ h => h) (fun _ _ => rfl) (by rw [hk]; exact Stay.refl _ _) hv

theorem Act.put_none (a : Act) (v : Value) : a.put none v = a := rfl

/-- Only draws have been made. -/
theorem Inv.world (hI : Inv P w0 F N st a w G gm) (hh : w'.heap = w.heap) (hos : w'.os = w.os) (htape : w'.tape = w.tape) (hout : w'.output = w.output) : Inv P w0 F N st a w' G gm :=
  ⟨hI.regs.world hh hos htape hout, fun i => Rv.stay (fun _ _ => by rw [hh]) (fun _ h => h) (Stay.refl _ _) _ _ (hI.env i), hI.size, hI.defers, hI.hand⟩

theorem only_within (T : List Nm) (rd : Nm → Option Rg) : Within T (only T rd) := fun n hn => by simp [only, hn]
theorem mix_only (T : List Nm) (rd : Nm → Option Rg) : mix T (only T rd) rd = rd := by
  funext n
  cases h : n.mem T <;> simp [mix, only, h]

/-- An empty hand. -/
theorem Inv.start (hI : Inv P w0 F N st a w G gm) (T : List Nm) : ∃ gm1, Regs P w0 F (withHand (mix T (only T st.regs) st.regs) []) w G gm1 ∧ gm1 .hand = some ⟨none, [], []⟩ ∧ Stay .no gm gm1 ∧
    (Nm.hand.mem T = false → Live (only T st.regs) gm gm1) := by
  have hg : gm .hand = none := hI.regs.none hI.hand
  have hst : Stay .no gm (setG gm .hand (some ⟨none, [], []⟩)) := by
    constructor
    · intro q _ hl
      by_cases hq : q.r = .hand
      · simp only [skAt, hq, hg] at hl; exact absurd rfl hl
      · rw [skAt_ne (setG_ne _ _ hq)]
    · intro r R b _ h1 h2
      by_cases hr : r = .hand
      · subst hr; rw [hg] at h1; cases h1
      · exact ⟨R, by rw [setG_ne _ _ hr]; exact h1, h2⟩
  refine ⟨setG gm .hand (some ⟨none, [], []⟩), ?_, setG_self _ _ _, hst, ?_⟩
  · rw [mix_only]
    refine hI.regs.change (fun r => r = .hand) (fun _ _ _ => rfl) rfl rfl rfl (Nat.le_refl _) ?_ ?_ ?_ ?_ ?_ (fun _ h => h) (fun _ h => .inl h)
    · intro r hr
      exact ⟨withHand_ne _ _ hr, setG_ne _ _ hr⟩
    · rintro r rfl
      rw [withHand_hand, setG_self]
      exact ⟨rfl, trivial, fun b hb => by cases hb⟩
    · rintro r R rfl hr
      rw [setG_self] at hr
      obtain rfl := Option.some.inj hr
      simp [RG.fp, fpL]
    · rintro r r' R R' rfl rfl hne
      exact absurd rfl hne
    · rintro r R b rfl hr hb
      rw [setG_self] at hr
      obtain rfl := Option.some.inj hr
      simp [RG.fp, fpL] at hb
  · intro hT q e d xs hq
    obtain ⟨rg, hr, hx⟩ := ownAt_some hq
    have : q.r ≠ .hand := by
      intro e
      have := (only_within T st.regs).mem hr
      rw [e, hT] at this; cases this
    rw [skAt_ne (setG_ne _ _ this)]

/-- What was on its way becomes a region of the operation's own, maybe after memory was written. -/
theorem Inv.land (hI : Inv P w0 F N st a w G gm) {d : Nat} (hd : d < N) {T : List Nm} (hTd : (Nm.loc d).mem T = true) (hTh : Nm.hand.mem T = false) {rd1 : Nm → Option Rg} {k : Kl} {G1 : Nat → Prop} {gm1 : GM}
    {row : List V} {vals : List Value} {sks : List Sk}
    (h1 : Regs P w0 F (withHand (mix T rd1 st.regs) row) w G1 gm1) (hh : gm1 .hand = some ⟨none, vals, sks⟩) (hG : ∀ b, G b → G1 b) (hs : Stay k gm gm1) (hT : Within T rd1)
    (hsame : ∀ n, n ∉ k.names → rd1 n = only T st.regs n) (hkT : ∀ n, n ∈ k.names → n.mem T = true)
    {w2 : World} (hw : ∀ b, b < w.heap.size → b ∉ fpL sks → w2.heap[b]? = w.heap[b]?) (hos : w2.os = w.os) (htape : w2.tape = w.tape) (hout : w2.output = w.output) (hsize : w.heap.size ≤ w2.heap.size)
    {rg : Rg} {R : RG} {G2 : Nat → Prop} (hok : RgOk w2 G2 P rg R) (hnd : R.fp.Nodup) (hsrc : ∀ b ∈ R.fp, b ∈ fpL sks ∨ w.heap.size ≤ b)
    (hG1 : ∀ b, G1 b → G2 b) (hG2 : ∀ b, G2 b → G1 b ∨ ((b ∈ fpL sks ∨ w.heap.size ≤ b) ∧ b < w2.heap.size ∧ b ∉ R.fp))
    (v : Value) (x : V) (hv : Rv w2 G2 (setG (setG gm1 .hand none) (.loc d) (some R)) v x) :
    Inv P w0 F N (st.app (newReg d rd1 rg x k) (some d)) (a.put (some d) v) w2 G2 (setG (setG gm1 .hand none) (.loc d) (some R)) := by
  have hne : Nm.loc d ≠ .hand := by simp
  have hfp : ∀ b, b ∈ fpL sks → InC (fun r => r = .hand ∨ r = .loc d) gm1 b := fun b hb => ⟨.hand, _, .inl rfl, hh, by simpa [RG.fp] using hb⟩
  have hfresh : ∀ b ∈ R.fp, ¬ G1 b := by
    intro b hb hg
    rcases hsrc b hb with h | h
    · exact h1.apart _ _ b hh (by simpa [RG.fp] using h) hg
    · have := h1.old b hg; omega
  have hreg : Regs P w0 F (st.app (newReg d rd1 rg x k) (some d)).regs w2 G2 (setG (setG gm1 .hand none) (.loc d) (some R)) := by
    refine h1.change (fun r => r = .hand ∨ r = .loc d) ?_ hos htape hout hsize ?_ ?_ ?_ ?_ ?_ hG1 ?_
    · intro b hb hn
      exact hw b hb (fun hm => hn (hfp b hm))
    · intro r hr
      simp only [not_or] at hr
      refine ⟨?_, by rw [setG_ne _ _ hr.2, setG_ne _ _ hr.1]⟩
      rw [withHand_ne _ _ hr.1]
      simp only [St.app, newReg, mix, Nm.mem, Nm.eq_ne hr.2, Bool.false_or]
      by_cases hk : r ∈ k.names
      · rw [(Nm.mem_iff r k.names).2 hk, hkT r hk]
        simp only [cond_true, setR_ne _ _ hr.2]
      · rw [(Nm.mem_false r k.names).2 hk]
        simp only [cond_false]
        cases hm : r.mem T with
        | false => rfl
        | true => simp only [cond_true]; rw [hsame r hk]; simp [only, hm]
    · rintro r (rfl | rfl)
      · have hh2 : Nm.hand.mem k.names = false := by
          cases h : Nm.hand.mem k.names with
          | false => rfl
          | true => have := hkT .hand ((Nm.mem_iff _ _).1 h); rw [hTh] at this; cases this
        simp only [St.app, newReg, Nm.mem, Nm.eq_ne (Ne.symm hne), hh2, Bool.false_or, cond_false, hI.hand]
        rw [setG_ne _ _ (Ne.symm hne), setG_self]
        trivial
      · simp only [St.app, newReg, Nm.mem, Nm.eq_self, Bool.true_or, cond_true, setR_self, setG_self]
        exact hok
    · rintro r R1 (rfl | rfl) hr
      · rw [setG_ne _ _ (Ne.symm hne), setG_self] at hr; cases hr
      · rw [setG_self] at hr
        obtain rfl := Option.some.inj hr
        exact hnd
    · rintro r r' R1 R2 (rfl | rfl) (rfl | rfl) hne' hr1 hr2
      · exact absurd rfl hne'
      · rw [setG_ne _ _ (Ne.symm hne), setG_self] at hr1; cases hr1
      · rw [setG_ne _ _ (Ne.symm hne), setG_self] at hr2; cases hr2
      · exact absurd rfl hne'
    · rintro r R1 b (rfl | rfl) hr hb
      · rw [setG_ne _ _ (Ne.symm hne), setG_self] at hr; cases hr
      · rw [setG_self] at hr
        obtain rfl := Option.some.inj hr
        exact (hsrc b hb).imp (hfp b) id
    · intro b hb
      rcases hG2 b hb with h | ⟨h2, h3, h4⟩
      · exact .inl h
      · refine .inr ⟨h2.imp (hfp b) id, h3, ?_⟩
        rintro ⟨r, R1, (rfl | rfl), hr, hb'⟩
        · rw [setG_ne _ _ (Ne.symm hne), setG_self] at hr; cases hr
        · rw [setG_self] at hr
          obtain rfl := Option.some.inj hr
          exact h4 hb'
  refine hI.app _ _ (fun x hx => by obtain rfl := Option.some.inj hx; exact hd) v hreg ?_ (fun b hb => hG1 b (hG b hb)) ?_ ?_ (fun _ => hv)
  · have hh2 : Nm.hand.mem k.names = false := by
      cases h : Nm.hand.mem k.names with
      | false => rfl
      | true => have := hkT .hand ((Nm.mem_iff _ _).1 h); rw [hTh] at this; cases this
    simp only [St.app, newReg, Nm.mem, Nm.eq_ne (Ne.symm hne), hh2, Bool.false_or, cond_false, hI.hand]
  · intro b hb
    refine hw b (hI.regs.old b hb) (fun hm => ?_)
    exact h1.apart _ _ b hh (by simpa [RG.fp] using hm) (hG b hb)
  · refine ⟨?_, ?_⟩
    · intro q hq hl
      obtain ⟨hq1, hq2⟩ := hits_and hq
      have hqd : q.r ≠ .loc d := by
        intro e
        simp [Kl.hits, e, Nm.mem, Nm.eq_self] at hq2
      have hqh : q.r ≠ .hand := by
        intro e
        have hg : gm .hand = none := hI.regs.none hI.hand
        simp only [skAt, e, hg] at hl; exact absurd rfl hl
      rw [skAt_ne (gm := gm1) (by rw [setG_ne _ _ hqd, setG_ne _ _ hqh])]
      exact hs.own q hq1 hl
    · intro r R1 b hr g1 g2
      have hr' := mem_append_false hr
      have hrd : r ≠ .loc d := by
        intro e
        have := hr'.2
        simp [e, Nm.mem, Nm.eq_self] at this
      have hrh : r ≠ .hand := by
        intro e
        have hg : gm .hand = none := hI.regs.none hI.hand
        rw [e, hg] at g1; cases g1
      obtain ⟨R', k1, k2⟩ := hs.box r R1 b hr'.1 g1 g2
      exact ⟨R', by rw [setG_ne _ _ hrd, setG_ne _ _ hrh]; exact k1, k2⟩
end
end Go.Ab
/- Operations that leave memory as it is. -/
namespace Go.Ab
open Go
set_option linter.unusedSimpArgs false
set_option linter.unusedVariables false

section
variable {P : Program} {w0 w : World} {F : FG} {N : Nat} {st : St} {a : Act} {G : Nat → Prop} {gm : GM}

/-- An operation's run comes to its effect. -/
def OpRes (P : Program) (w0 : World) (F : FG) (N : Nat) (st : St) (a : Act) (w : World) (G : Nat → Prop) (o : Oper) (e : Eff) : Prop :=
  ∃ v w' nx G' gm', (execOp a.eval o).run P w = .ok nx w' ∧ (nx = .value v ∨ (nx = .skip ∧ v = undef)) ∧ (∀ b, G b → G' b) ∧
    Inv P w0 F N (st.app e o.dst) (a.put o.dst v) w' G' gm'

theorem OpRes.quiet (hI : Inv P w0 F N st a w G gm) {o : Oper} {e : Eff} (hd : ∀ x, o.dst = some x → x < N) (v : Value) (hr : (execOp a.eval o).run P w = .ok (.value v) w)
    (hk : e.k = .no) (hwr : e.w = []) (hv : Rv w G gm v e.val) : OpRes P w0 F N st a w G o e :=
  ⟨v, w, _, G, gm, hr, .inl rfl, fun _ h => h, hI.quiet e o.dst hd v hk hwr (fun _ => hv)⟩

theorem when_ok {b : Bool} {e : Eff} (h : (Eff.when b e).ok = true) : b = true ∧ e.ok = true := by
  simpa [Eff.when] using h
theorem when_val (b : Bool) (e : Eff) : (Eff.when b e).val = e.val := rfl
theorem when_k (b : Bool) (e : Eff) : (Eff.when b e).k = e.k := rfl
theorem when_w (b : Bool) (e : Eff) : (Eff.when b e).w = e.w := rfl
theorem when_regs (b : Bool) (e : Eff) : (Eff.when b e).regs = e.regs := rfl
theorem when_app (st : St) (b : Bool) (e : Eff) (d : Option Nat) : st.app (Eff.when b e) d = st.app e d := rfl
theorem OpRes.when {o : Oper} {b : Bool} {e : Eff} (h : OpRes P w0 F N st a w G o e) : OpRes P w0 F N st a w G o (Eff.when b e) := h

/-! ### operands -/
theorem elT_spec {t : TypeId} {e : TypeId} (h : elT P t = some e) : P.underlying t = some (.slice e) := by
  unfold elT at h
  split at h <;> simp_all

theorem cellEnv_ok (v : Value) (c : TypeId) : Rv w G gm v (cellEnv P v c) := by
  unfold cellEnv
  split
  · cases elT P c with
    | some e => rfl
    | none => trivial
  · cases hf : flat v with
    | true => exact ⟨rfl, hf⟩
    | false => trivial

theorem cellsEnv_ok : ∀ (vs : List Value) (cs : List TypeId), vs.length = cs.length → RvL w G gm vs ((vs.zip cs).map fun x => cellEnv P x.1 x.2)
  | [], [], _ => trivial
  | v :: vs, c :: cs, h => ⟨cellEnv_ok v c, cellsEnv_ok vs cs (by simpa using h)⟩

theorem constV_ok (ty : TypeId) (v : Value) : Rv w G gm v (constV P ty v) := by
  unfold constV
  split
  · cases elT P ty with
    | some e => rfl
    | none => trivial
  · rename_i cs
    cases hl : Nat.beq cs.size (cellsT P ty).length with
    | true => exact ⟨cs, rfl, cellsEnv_ok _ _ (by simpa using nbeq hl)⟩
    | false => trivial
  · cases hf : flat v with
    | true => exact ⟨rfl, hf⟩
    | false => trivial

theorem opd_ok (hI : Inv P w0 F N st a w G gm) (x : TypeId × Operand) : Rv w G gm (a.eval x.2) (opd P st.env x) := by
  obtain ⟨ty, x⟩ := x
  cases x with
  | tmp t => exact hI.env t
  | const v => exact constV_ok ty v
  | func f => exact ⟨#[], #[], rfl, trivial, trivial⟩
  | global g => trivial

theorem opds_ok (hI : Inv P w0 F N st a w G gm) : ∀ (l : List (TypeId × Operand)), RvL w G gm (l.map fun x => a.eval x.2) (l.map (opd P st.env))
  | [] => trivial
  | x :: l => ⟨opd_ok hI x, opds_ok hI l⟩

/-! ### reading regions -/
theorem only_some {T : List Nm} {rd : Nm → Option Rg} {n : Nm} {g : Rg} (h : only T rd n = some g) : rd n = some g := by
  unfold only at h
  cases hm : n.mem T <;> rw [hm] at h
  · cases h
  · exact h

theorem own_at (hR : Regs P w0 F st.regs w G gm) {T : List Nm} {q : Pl} {e : TypeId} {d : Bool} {xs : List V} (h : ownAt (only T st.regs) q = some (e, d, xs)) :
    ∃ v, OwnC w G P v (.own e d xs) (skAt gm q) := by
  obtain ⟨rg, hr, hx⟩ := ownAt_some h
  obtain ⟨R, hg, hok⟩ := hR.ok (only_some hr)
  obtain ⟨v, hv, _⟩ := OwnL.at q.p rg.row q.j R.vals R.sks hok.2.1 (by rw [hx]; simp)
  rw [hx] at hv
  exact ⟨v, by simpa only [skAt, hg] using hv⟩

theorem getSk_snoc : ∀ (p : List Nat) (sks : List Sk) (j k : Nat), getSk (p ++ [k]) sks j = nthS (skCells (getSk p sks j)) k
  | [], _, _, _ => rfl
  | _ :: p, sks, j, k => by simpa only [List.cons_append, getSk] using getSk_snoc p _ _ k

theorem OwnC.ref {v : Value} {e : TypeId} {d : Bool} {xs : List V} {q : Pl} (h : OwnC w G P v (.own e d xs) (skAt gm q)) : nameRef gm q v := by
  unfold nameRef
  cases hs : skAt gm q with
  | leaf => rw [hs] at h; exact h.elim
  | nil => rw [hs] at h; exact h.1
  | node g n cap sz cs => rw [hs] at h; obtain ⟨_, _, h1, _⟩ := h; exact h1

/-- A cell that was read, by its own shape. -/
theorem cell_read {u : Value} {x y : V} {s : Sk} (ho : OwnC w G P u x s) (hb : x ≠ .bad) (q : Pl) (hq : skAt gm q = s)
    (hy : y = x ∧ ((∃ sz xs, x = .sl sz xs) ∨ x.cim = true) ∨ (∃ e d xs, x = .own e d xs) ∧ y = .ref q) : Rv w G gm u y := by
  rcases hy with ⟨rfl, hx⟩ | ⟨⟨e, d, xs, rfl⟩, rfl⟩
  · have hc : y.cim = true := by
      rcases hx with ⟨sz, xs, rfl⟩ | h
      · rfl
      · exact h
    have : Rv w G noGM u y := by
      cases y <;> first | exact ho.2.2 | (simp [V.cim, V.imm] at hc; done)
    exact this.imm (cim_imm hc)
  · exact OwnC.ref (hq ▸ ho)

theorem numbered_map {α : Type} (f : Nat × TypeId → α) : ∀ (cs : List TypeId) (k i : Nat), ((numbered k cs).map f)[i]? = (cs[i]?).map fun c => f (k + i, c)
  | [], _, _ => by simp [numbered]
  | c :: cs, k, 0 => by simp [numbered]
  | c :: cs, k, i + 1 => by
    simp only [numbered, List.map_cons, List.getElem?_cons_succ]
    rw [numbered_map f cs (k + 1) i]
    cases cs[i]? <;> simp [Nat.add_assoc, Nat.add_comm 1 i]

theorem numbered_length : ∀ (cs : List TypeId) (k : Nat), (numbered k cs).length = cs.length
  | [], _ => rfl
  | _ :: cs, k => by simp [numbered, numbered_length cs]

theorem allOk_get : ∀ (l : List (Bool × V)) (i : Nat) (x : Bool × V), allOk l = true → l[i]? = some x → x.1 = true
  | [], _, _, _, h => by simp at h
  | y :: l, 0, x, h, hx => by simp only [allOk, Bool.and_eq_true] at h; simp at hx; subst hx; exact h.1
  | y :: l, i + 1, x, h, hx => by simp only [allOk, Bool.and_eq_true] at h; exact allOk_get l i x h.2 (by simpa using hx)

theorem RvL.of_get : ∀ (vs : List Value) (xs : List V), vs.length = xs.length → (∀ (i : Nat) (v : Value) (x : V), vs[i]? = some v → xs[i]? = some x → Rv w G gm v x) → RvL w G gm vs xs
  | [], [], _, _ => trivial
  | v :: vs, x :: xs, hl, h => ⟨h 0 v x rfl rfl, RvL.of_get vs xs (by simpa using hl) (fun i v x h1 h2 => h (i + 1) v x (by simpa using h1) (by simpa using h2))⟩
  | [], _ :: _, hl, _ => by simp at hl
  | _ :: _, [], hl, _ => by simp at hl

theorem RvL.get : ∀ {vs : List Value} {xs : List V}, RvL w G gm vs xs → ∀ i, i < xs.length → ∃ v, vs[i]? = some v ∧ Rv w G gm v (nthV xs i)
  | v :: _, _ :: _, h, 0, _ => ⟨v, rfl, h.1⟩
  | _ :: _, _ :: _, h, i + 1, hi => by simpa using RvL.get h.2 i (by simpa using hi)
  | [], [], _, i, hi => by simp at hi
  | [], _ :: _, h, _, _ => h.elim
  | _ :: _, [], h, _, _ => h.elim

theorem nthV_some : ∀ (l : List V) (i : Nat), nthV l i ≠ .bad → l[i]? = some (nthV l i)
  | [], _, h => absurd rfl h
  | _ :: _, 0, _ => rfl
  | _ :: l, i + 1, h => by simpa using nthV_some l i (by simpa using h)

theorem List.get_drop_take {α : Type} (l : List α) (o n i : Nat) (h : i < n) : ((l.drop o).take n)[i]? = l[o + i]? := by
  rw [List.getElem?_take, if_pos h, List.getElem?_drop]

theorem viewC_cim {deep : TypeId → Bool} {c : TypeId} {x : V} (h : (viewC P deep none c x).1 = true) : x.cim = true := by
  have hs : ∀ v : V, (v.isInt .i64 = true ∨ True) → ∀ k, v.isInt k = true → v.cim = true := by
    intro v _ k h; cases v <;> simp_all [V.isInt, V.cim, V.imm, V.isCell]
  unfold viewC at h
  split at h
  · exact hs x (.inr trivial) _ h
  · cases x <;> simp_all [V.isBool, V.cim, V.imm, V.isCell]
  · cases x <;> simp_all [V.isStr, V.cim, V.imm, V.isCell]
  · cases x <;> simp_all [V.isSl, V.cim, V.imm, V.isCell]
  · exact h

/-- A load. -/
theorem semLoad_ok (hI : Inv P w0 F N st a w G gm) {deep : TypeId → Bool} {T : List Nm} {t : TypeId} {av : Value} {ax : V} (ha : Rv w G gm av ax) (hok : (semLoad P deep (only T st.regs) t ax).ok = true) :
    ∃ b o v, av = .pointer (some ⟨b, o, none⟩) ∧ (loadVar t ⟨b, o, none⟩).run P w = .ok v w ∧ Rv w G gm v (semLoad P deep (only T st.regs) t ax).val ∧
      (semLoad P deep (only T st.regs) t ax).k = .no ∧ (semLoad P deep (only T st.regs) t ax).w = [] := by
  -- given the cells and their looks
  have key : ∀ (l : List (Bool × V)) (b o : Nat) (cs : List Value), CellsAt w ⟨b, o, none⟩ cs → cs.length = l.length → l.length = (cellsT P t).length → (mkV P t l).ok = true →
      (∀ (i : Nat) (v : Value) (x : Bool × V), cs[i]? = some v → l[i]? = some x → x.1 = true → Rv w G gm v x.2) →
      ∃ v, (loadVar t ⟨b, o, none⟩).run P w = .ok v w ∧ Rv w G gm v (mkV P t l).val ∧ (mkV P t l).k = .no ∧ (mkV P t l).w = [] := by
    intro l b o cs hc hl hl2 hok hall
    have hty : tyOk P t = true := by
      have := (when_ok hok).1
      simp only [Bool.and_eq_true] at this
      exact this.1
    have hao : allOk l = true := by
      have := (when_ok hok).1
      simp only [Bool.and_eq_true] at this
      exact this.2
    obtain ⟨_, _, _, _, _, _, hn⟩ := tyOk_spec hty
    have hr : RvL w G gm cs (l.map (·.2)) := RvL.of_get _ _ (by simpa using hl) (fun i v x h1 h2 => by
      rw [List.getElem?_map] at h2
      cases h3 : l[i]? with
      | none => rw [h3] at h2; cases h2
      | some y => rw [h3] at h2; obtain rfl := Option.some.inj h2; exact hall i v y h1 h3 (allOk_get l i y hao h3))
    have hm := mkV_ok hr (by rw [hl, hl2, hn]) hok
    exact ⟨_, run_loadVar hty hc (by rw [hl, hl2, hn]), hm.2.2.2.2, hm.2.2.1, hm.2.2.2.1⟩
  cases ax with
  | ptrB r j =>
    obtain ⟨R, b, h1, h2, rfl⟩ := ha
    simp only [semLoad] at hok ⊢
    cases hr : only T st.regs r with
    | none => rw [hr] at hok; cases hok
    | some rg =>
      obtain ⟨box, row⟩ := rg
      cases box with
      | false => rw [hr] at hok; cases hok
      | true =>
        rw [hr] at hok
        simp only at hok ⊢
        obtain ⟨hle, hok⟩ := when_ok hok
        have hle := nble hle
        obtain ⟨R', h1', hokR⟩ := hI.regs.ok (only_some hr)
        rw [h1] at h1'
        obtain rfl := Option.some.inj h1'
        obtain ⟨⟨t', ht', _⟩, _⟩ := hokR.2.2 b h2
        have hlen := hokR.2.1.length
        refine Exists.elim (key _ b j ((R.vals.drop j).take (cellsT P t).length) ?_ ?_ ?_ hok ?_) (fun v hv => ⟨b, j, v, rfl, hv.1, hv.2.1, hv.2.2.1, hv.2.2.2⟩)
        · intro i u hu
          by_cases hi : i < (cellsT P t).length
          · rw [List.get_drop_take _ _ _ _ hi] at hu
            simp only [World.cell?, ht']
            simpa using hu
          · rw [List.getElem?_take, if_neg hi] at hu; cases hu
        · simp only [List.length_take, List.length_drop, List.length_map, numbered_length, hlen.1]; omega
        · simp [numbered_length]
        · intro i u x hu hx hx1
          rw [numbered_map] at hx
          have hi : i < (cellsT P t).length := by
            rcases Nat.lt_or_ge i (cellsT P t).length with h | h
            · exact h
            · rw [List.getElem?_eq_none (by simpa using h)] at hx; cases hx
          rw [List.get_drop_take _ _ _ _ hi] at hu
          cases hc : (cellsT P t)[i]? with
          | none => rw [hc] at hx; cases hx
          | some c =>
            rw [hc] at hx
            obtain rfl := Option.some.inj hx
            obtain ⟨u', g1, g2⟩ := hokR.2.1.get (j + i) (by simp only at hle ⊢; omega)
            rw [g1] at hu
            obtain rfl := Option.some.inj hu
            obtain ⟨e', d', hvb⟩ := viewB_eq hx1
            refine cell_read g2 ?_ ⟨r, j + i, [], e', d'⟩ (by simp only [skAt, h1, getSk]) hvb
            intro e
            simp only [e, viewB] at hx1
            cases hx1
  | ptrE q i off =>
    simp only [semLoad] at hok ⊢
    obtain ⟨hle, hok⟩ := when_ok hok
    rw [Bool.and_eq_true] at hle
    obtain ⟨hqb, hle⟩ := hle
    obtain ⟨e, d, xs, hqe, hqd, hqx, hq⟩ := ownB_some hqb
    focus
      simp only [hqe, hqd, hqx] at hok hle ⊢
      have hle := nble hle
      obtain ⟨u, hu⟩ := own_at hI.regs hq
      simp only [Rv, namePtrE] at ha
      cases hs : skAt gm q with
      | leaf => rw [hs] at ha; exact ha.elim
      | nil => rw [hs] at ha; exact ha.elim
      | node g n cap sz cs =>
        rw [hs] at ha hu
        obtain ⟨hin, rfl⟩ := ha
        obtain ⟨cur, fr, h1, h2, h3, h4, h5, h6, h7, h8, h9, h10, h11⟩ := hu
        have hbound : i * sz + sz ≤ n * sz := by
          have : (i + 1) * sz ≤ n * sz := Nat.mul_le_mul_right _ hin
          rwa [Nat.add_mul, Nat.one_mul] at this
        refine Exists.elim (key _ g (i * sz + off) (((cur.toList.take (n * sz)).drop (i * sz + off)).take (cellsT P t).length) ?_ ?_ ?_ hok ?_) (fun v hv => ⟨g, i * sz + off, v, rfl, hv.1, hv.2.1, hv.2.2.1, hv.2.2.2⟩)
        · intro k u hu
          by_cases hi : k < (cellsT P t).length
          · rw [List.get_drop_take _ _ _ _ hi, List.getElem?_take] at hu
            split at hu
            · simp only [World.cell?, h2]
              simpa using hu
            · cases hu
          · rw [List.getElem?_take, if_neg hi] at hu; cases hu
        · have hcap : n * sz ≤ cap * sz := Nat.mul_le_mul_right _ h7
          simp only [List.length_take, List.length_drop, List.length_map, numbered_length, Array.length_toList]
          omega
        · simp [numbered_length]
        · intro k u x hu hx hx1
          rw [numbered_map] at hx
          have hi : k < (cellsT P t).length := by
            rcases Nat.lt_or_ge k (cellsT P t).length with h | h
            · exact h
            · rw [List.getElem?_eq_none (by simpa using h)] at hx; cases hx
          rw [List.get_drop_take _ _ _ _ hi] at hu
          cases hc : (cellsT P t)[k]? with
          | none => rw [hc] at hx; cases hx
          | some c =>
            rw [hc] at hx
            obtain rfl := Option.some.inj hx
            rw [h6] at hx1 ⊢
            dsimp only at hx1 ⊢
            obtain ⟨u', g1, g2⟩ := h10.get (i * sz + off + k) (by omega)
            rw [g1] at hu
            obtain rfl := Option.some.inj hu
            have hb : nthV xs (i * sz + off + k) ≠ .bad := by
              intro e
              rw [e] at hx1
              cases d <;> simp only [cond_true, cond_false, viewC] at hx1 <;> split at hx1 <;> cases hx1
            cases d with
            | false =>
              simp only [cond_false] at hx1 ⊢
              have hc := h11 rfl
              refine cell_read g2 hb ⟨q.r, q.j, q.p ++ [i * sz + off + k], e, false⟩ ?_ (.inl ⟨viewC_none hx1, .inr ((cimL_nth xs _ hc).resolve_left hb)⟩)
              have hcim := (cimL_nth xs (i * sz + off + k) hc).resolve_left hb
              have hsk : nthS cs (i * sz + off + k) = .leaf := by
                cases hx' : nthV xs (i * sz + off + k) <;> rw [hx'] at g2 hcim <;> first | exact g2.1 | (simp [V.cim, V.imm] at hcim; done)
              rw [hsk]
              simp only [skAt] at hs ⊢
              split at hs
              · rw [getSk_snoc, hs]; exact hsk
              · cases hs
            | true =>
              simp only [cond_true] at hx1 ⊢
              have hsk : ∀ e' d', skAt gm ⟨q.r, q.j, q.p ++ [i * sz + off + k], e', d'⟩ = nthS cs (i * sz + off + k) := by
                intro e' d'
                simp only [skAt] at hs ⊢
                split at hs
                · rw [getSk_snoc, hs]; rfl
                · cases hs
              obtain ⟨e', d', hvc⟩ := viewC_some hx1
              refine cell_read g2 hb _ (hsk e' d') ?_
              rcases hvc with h | ⟨h, h'⟩
              · left
                refine ⟨h, ?_⟩
                · right
                  cases hx' : nthV xs (i * sz + off + k) with
                  | own e' d' xs' =>
                    exfalso
                    rw [hx'] at h hx1
                    unfold viewC at h hx1
                    split at h <;> simp [V.isInt, V.isBool, V.isStr, V.isOwnD, V.cim, V.imm] at h hx1
                  | bad => exact absurd hx' hb
                  | slf =>
                    exfalso
                    rw [hx'] at h hx1
                    unfold viewC at h hx1
                    split at h <;> simp [V.isInt, V.isBool, V.isStr, V.isOwnD, V.cim, V.imm] at h hx1
                  | _ => rw [hx'] at g2; exact g2.2.1
              · exact .inr ⟨h, h'⟩
  | pim n xs off =>
    obtain ⟨b, o, cs, rfl, h2, h3, h4, h5⟩ := ha
    simp only [semLoad] at hok ⊢
    obtain ⟨hle, hok⟩ := when_ok hok
    have hle := nble hle
    have hlen := h5.length
    refine Exists.elim (key _ b (o + off) ((cs.drop off).take (cellsT P t).length) ?_ ?_ ?_ hok ?_) (fun v hv => ⟨b, o + off, v, rfl, hv.1, hv.2.1, hv.2.2.1, hv.2.2.2⟩)
    · intro k u hu
      by_cases hi : k < (cellsT P t).length
      · rw [List.get_drop_take _ _ _ _ hi] at hu
        have := h3 (off + k) u hu
        simpa [Nat.add_assoc] using this
      · rw [List.getElem?_take, if_neg hi] at hu; cases hu
    · simp only [List.length_take, List.length_drop, List.length_map, numbered_length]; omega
    · simp [numbered_length]
    · intro k u x hu hx hx1
      rw [numbered_map] at hx
      have hi : k < (cellsT P t).length := by
        rcases Nat.lt_or_ge k (cellsT P t).length with h | h
        · exact h
        · rw [List.getElem?_eq_none (by simpa using h)] at hx; cases hx
      rw [List.get_drop_take _ _ _ _ hi] at hu
      cases hc : (cellsT P t)[k]? with
      | none => rw [hc] at hx; cases hx
      | some c =>
        rw [hc] at hx
        obtain rfl := Option.some.inj hx
        obtain ⟨u', g1, g2⟩ := h5.get (off + k) (by omega)
        rw [g1] at hu
        obtain rfl := Option.some.inj hu
        rw [viewC_none hx1]
        exact Rv.imm g2 (cim_imm (viewC_cim hx1))
  | sc v => cases hok
  | nl e => cases hok
  | sl sz xs => cases hok
  | own e d xs => cases hok
  | ag xs => cases hok
  | tp xs => cases hok
  | fn f a b => cases hok
  | ifc t y => cases hok
  | ref q => cases hok
  | vw q lo hi => cases hok
  | slf => cases hok
  | bad => cases hok
end
end Go.Ab
/- Operations on numbers, texts, parts of values, and places. -/
namespace Go.Ab
open Go
set_option linter.unusedSimpArgs false
set_option linter.unusedVariables false

section
variable {P : Program} {w0 w : World} {F : FG} {N : Nat} {st : St} {a : Act} {G : Nat → Prop} {gm : GM}

theorem Rv.sc_eq {v u : Value} (h : Rv w G gm v (.sc u)) : v = u ∧ flat u = true := h

theorem eqGuard_plain {op : BinOp} {t : TypeId} {x y : Operand} {u v : Value} (hu : flat u = true) (h : ¬ (u = .nilIface ∧ v = .nilIface)) : (eqGuard op t x y u v).run P w = .ok () w := by
  unfold eqGuard
  cases op <;> simp <;> (cases u <;> cases v <;> simp_all [flat])

theorem max_i64 : IntKind.i64.max = 9223372036854775807 := by decide

theorem run_equalIn_bool (d : Nat) {t : TypeId} (ht : P.underlying t = some .bool) (x y : Bool) : (Op.equalIn (d + 1) t (.bool x) (.bool y)).run P w = .ok (x == y) w := by
  simp only [Op.equalIn, Sem.run_bind, run_underlying ht, Result.andThen_ok]
  rfl
theorem run_equal_bool {t : TypeId} (ht : P.underlying t = some .bool) (x y : Bool) : (Op.equal t (.bool x) (.bool y)).run P w = .ok (x == y) w :=
  run_equalIn_bool 9999 ht x y

theorem binE_ok {op : BinOp} {t : TypeId} {u v r : Value} (h : binE op u v = (true, r)) (hb : (∃ x y, u = .bool x ∧ v = .bool y) → P.underlying t = some .bool) :
    (binOp op t u v).run P w = .ok r w ∧ flat r = true ∧ ¬ (u = .nilIface ∧ v = .nilIface) := by
  cases u <;> cases v <;> simp only [binE, Prod.mk.injEq] at h <;> try (cases h.1; done)
  case bool.bool x y =>
    have ht := hb ⟨x, y, rfl, rfl⟩
    cases op <;> simp only [Prod.mk.injEq] at h <;> try (cases h.1; done)
    all_goals
      obtain ⟨_, rfl⟩ := h
      refine ⟨?_, rfl, by simp⟩
      simp only [binOp, Sem.run_bind, run_equal_bool ht, Result.andThen_ok]
      rfl
  case int.int k x k' y =>
    cases op <;> simp only [Prod.mk.injEq, decide_eq_true_eq, Bool.and_eq_true, bne_iff_ne] at h <;> obtain ⟨h1, rfl⟩ := h
    case shl => exact ⟨by simp [binOp, Op.shift, show ¬ y < 0 by omega], rfl, by simp⟩
    case shr => exact ⟨by simp [binOp, Op.shift, show ¬ y < 0 by omega], rfl, by simp⟩
    case quo => obtain ⟨rfl, h2⟩ := h1; exact ⟨by simp [binOp, Op.intDiv, h2], rfl, by simp⟩
    case rem => obtain ⟨rfl, h2⟩ := h1; exact ⟨by simp [binOp, Op.intDiv, h2], rfl, by simp⟩
    all_goals
      subst h1
      refine ⟨?_, rfl, by simp⟩
      simp [binOp, Op.intArith, Op.intBits, Op.intCmp, cmpI, bitsI]
  case string.string x y =>
    cases op <;> simp only [Prod.mk.injEq, decide_eq_true_eq, isCmp] at h <;> try (cases h.1; done)
    case add =>
      obtain ⟨h1, rfl⟩ := h
      refine ⟨?_, rfl, by simp⟩
      have : ¬ (((x.size + y.size : Nat) : Int) > IntKind.i64.max) := by rw [max_i64]; omega
      simp only [binOp, Op.stringOp]
      rw [if_neg this]; rfl
    all_goals
      obtain ⟨_, rfl⟩ := h
      refine ⟨?_, rfl, by simp⟩
      simp [binOp, Op.stringOp, cmpS, strEq, strLt]

theorem scEq_run (d : Nat) {t : TypeId} {x y : V} {u v : Value} (hx : Rv w G gm u x) (hy : Rv w G gm v y) (h : (scEq (P.underlying t) x y).1 = true) :
    (Op.equalIn (d + 1) t u v).run P w = .ok (scEq (P.underlying t) x y).2 w := by
  cases x <;> try (cases h; done)
  rename_i p
  obtain ⟨rfl, _⟩ := hx.sc_eq
  cases u <;> try (cases h; done)
  all_goals
    cases y <;> try (cases h; done)
    rename_i q
    obtain ⟨rfl, _⟩ := hy.sc_eq
    cases v <;> try (cases h; done)
    simp only [scEq] at h ⊢
    cases hu : P.underlying t with
    | none => rw [hu] at h; cases h
    | some z =>
      cases z <;> rw [hu] at h <;> try (cases h; done)
      first
        | exact run_equalIn_bool d hu _ _
        | exact run_equalIn_string w d t _ _ hu
        | (simp only [decide_eq_true_eq] at h
           subst h
           exact run_equalIn_int w d t _ _ _ _ hu)
theorem eqFs_run (d : Nat) {cs ds : Array Value} {xs ys : List V} (hx : RvL w G gm cs.toList xs) (hy : RvL w G gm ds.toList ys) : ∀ fs : List Field, (eqFs P xs ys fs).1 = true →
    (Op.eqFields (d + 1) cs ds fs).run P w = .ok (eqFs P xs ys fs).2 w
  | [], _ => rfl
  | f :: fs, h => by
    simp only [eqFs, Bool.and_eq_true, Bool.not_eq_true'] at h
    obtain ⟨⟨⟨⟨⟨⟨h1, h2⟩, h3⟩, h4⟩, h5⟩, h6⟩, h7⟩ := h
    have ih := eqFs_run d hx hy fs h7
    obtain ⟨u, u1, u2⟩ := hx.get f.offset (nblt h4)
    obtain ⟨v, v1, v2⟩ := hy.get f.offset (nblt h5)
    have u1' : cs[f.offset]? = some u := by simpa using u1
    have v1' : ds[f.offset]? = some v := by simpa using v1
    have hn : f.name ≠ "_" := by simpa using h1
    simp only [Op.eqFields, if_pos hn, Sem.run_bind, part, run_isAgg h2, Result.andThen_ok, h3, Bool.false_eq_true, if_false, u1', v1', Sem.run_pure, scEq_run d u2 v2 h6, Sem.run_ite, eqFs]
    cases (scEq (P.underlying f.type) (nthV xs f.offset) (nthV ys f.offset)).2 with
    | true => simpa using ih
    | false => simp
theorem eqGuard_agg {op : BinOp} {t : TypeId} {x y : Operand} {cs ds : Array Value} (h : P.eqGuardType P.depth t = false) : (eqGuard op t x y (.agg cs) (.agg ds)).run P w = .ok () w := run_eqGuard_agg w op t x y cs ds h
theorem semBinAg_ok (hI : Inv P w0 F N st a w G gm) {o : Oper} (hd : ∀ x, o.dst = some x → x < N) {op : BinOp} {t yt : TypeId} {x y : Operand} (ho : o.op = .binOp op t x y yt)
    {xs ys : List V} (hx : Rv w G gm (a.eval x) (.ag xs)) (hy : Rv w G gm (a.eval y) (.ag ys)) (hok : (semBin P op t (.ag xs) (.ag ys)).ok = true) : OpRes P w0 F N st a w G o (semBin P op t (.ag xs) (.ag ys)) := by
  obtain ⟨cs, c1, c2⟩ := hx
  obtain ⟨ds, d1, d2⟩ := hy
  simp only [semBin] at hok ⊢
  cases hu : P.underlying t with
  | none => rw [hu] at hok; cases hok
  | some q =>
    cases q <;> rw [hu] at hok <;> try (cases hok; done)
    rename_i fs
    simp only at hok ⊢
    obtain ⟨h1, _⟩ := when_ok hok
    simp only [Bool.and_eq_true, Bool.not_eq_true'] at h1
    obtain ⟨⟨⟨g1, g2⟩, g3⟩, g4⟩ := h1
    have hfs : P.fieldsOf t = fs := by unfold Program.fieldsOf; rw [hu]
    have e1 : (Op.equalIn 10000 t (.agg cs) (.agg ds)).run P w = .ok (eqFs P xs ys fs.toList).2 w := by
      rw [run_equalIn_struct w 9999 t cs ds (by rw [hfs]; exact hu) g2, hfs]
      exact eqFs_run 9998 c2 d2 fs.toList g4
    refine OpRes.when (OpRes.quiet hI hd (eqOut op (eqFs P xs ys fs.toList).2) ?_ rfl rfl ?_)
    · simp only [execOp, ho, c1, d1, Sem.run_bind, eqGuard_agg g3, Result.andThen_ok]
      cases op <;> try (cases g1; done)
      · simp only [run_eql_struct, e1, Result.andThen_ok]; rfl
      · simp only [run_neq_struct, e1, Result.andThen_ok]; rfl
    · cases op <;> exact ⟨rfl, rfl⟩
theorem semBin_ok (hI : Inv P w0 F N st a w G gm) {o : Oper} (hd : ∀ x, o.dst = some x → x < N) {op : BinOp} {t yt : TypeId} {x y : Operand} (ho : o.op = .binOp op t x y yt)
    {vx vy : V} (hx : Rv w G gm (a.eval x) vx) (hy : Rv w G gm (a.eval y) vy) (hok : (semBin P op t vx vy).ok = true) : OpRes P w0 F N st a w G o (semBin P op t vx vy) := by
  cases vx <;> cases vy <;> try (cases hok; done)
  case ag.ag xs ys => exact semBinAg_ok hI hd ho hx hy hok
  rename_i u v
  have hx := hx.sc_eq
  have hy := hy.sc_eq
  have fin : ∀ r, binE op u v = (true, r) → ((∃ x y, u = .bool x ∧ v = .bool y) → P.underlying t = some .bool) →
      OpRes P w0 F N st a w G o (Eff.put (.sc r)) := by
    intro r hr hb
    obtain ⟨h1, h2, h3⟩ := binE_ok (P := P) (w := w) (t := t) hr hb
    refine OpRes.quiet hI hd r ?_ rfl rfl ⟨rfl, h2⟩
    simp only [execOp, ho, hx.1, hy.1, Sem.run_bind, eqGuard_plain hx.2 h3, Result.andThen_ok, h1]
    rfl
  by_cases hb : ∃ x y, u = .bool x ∧ v = .bool y
  · obtain ⟨p, q, rfl, rfl⟩ := hb
    simp only [semBin] at hok ⊢
    cases hu : P.underlying t with
    | none => rw [hu] at hok; cases hok
    | some d =>
      cases d with
      | bool =>
        rw [hu] at hok
        simp only at hok ⊢
        obtain ⟨h1, _⟩ := when_ok hok
        exact (fin _ (by rw [← h1]) (fun _ => hu)).when
      | _ => rw [hu] at hok; cases hok
  · have e : semBin P op t (.sc u) (.sc v) = Eff.when (binE op u v).1 (Eff.put (.sc (binE op u v).2)) := by
      clear hx hy fin hok
      cases u <;> cases v <;> first | rfl | exact absurd ⟨_, _, rfl, rfl⟩ hb
    rw [e] at hok ⊢
    obtain ⟨h1, _⟩ := when_ok hok
    exact (fin _ (by rw [← h1]) (fun h => absurd h hb)).when

theorem semUn_ok (hI : Inv P w0 F N st a w G gm) {o : Oper} (hd : ∀ x, o.dst = some x → x < N) {op : UnOp} {t : TypeId} {x : Operand} (ho : o.op = .unOp op t x)
    {vx : V} (hx : Rv w G gm (a.eval x) vx) (hok : (semUn op vx).ok = true) : OpRes P w0 F N st a w G o (semUn op vx) := by
  cases vx <;> try (cases hok; done)
  rename_i u
  have hx := hx.sc_eq
  have hu : (∃ k n, u = .int k n) ∨ (∃ b, u = .bool b) := by
    cases u <;> first | exact .inl ⟨_, _, rfl⟩ | exact .inr ⟨_, rfl⟩ | cases hok
  rcases hu with ⟨k, n, rfl⟩ | ⟨b, rfl⟩
  · cases op <;> try (cases hok; done)
    · refine OpRes.quiet hI hd (.int k (k.wrap (0 - n))) ?_ rfl rfl ⟨rfl, rfl⟩
      simp [execOp, ho, hx.1, Op.unary, Op.intArith]
    · refine OpRes.quiet hI hd (.int k (bitsI .xor k (if k.signed then -1 else k.max) n)) ?_ rfl rfl ⟨rfl, rfl⟩
      simp [execOp, ho, hx.1, Op.unary, Op.intBits, bitsI]
  · cases op <;> try (cases hok; done)
    refine OpRes.quiet hI hd (.bool !b) ?_ rfl rfl ⟨rfl, rfl⟩
    simp [execOp, ho, hx.1, Op.unary]

theorem fold_max2 (x y : Value) : (Builtin.max_ #[] 0 #[x, y]).run P w = (Builtin.max2 x y).run P w := by
  simp [Builtin.max_]

theorem semField_ok (hI : Inv P w0 F N st a w G gm) {o : Oper} (hd : ∀ x, o.dst = some x → x < N) {t : TypeId} {f : Nat} {x : Operand} (ho : o.op = .fieldAddr t x f)
    {vx : V} (hx : Rv w G gm (a.eval x) vx) (hok : (semFieldAddr P t f vx).ok = true) : OpRes P w0 F N st a w G o (semFieldAddr P t f vx) := by
  unfold semFieldAddr at hok ⊢
  cases hf : fieldT P t f with
  | none => rw [hf] at hok; cases hok
  | some fd =>
    rw [hf] at hok
    simp only at hok ⊢
    obtain ⟨h1, h2⟩ := when_ok hok
    have hfs : ∃ fs, P.underlying t = some (.struct fs) ∧ fs[f]? = some fd := by
      unfold fieldT at hf
      split at hf
      · rename_i fs hu; exact ⟨fs, hu, hf⟩
      · cases hf
    obtain ⟨fs, hu, hff⟩ := hfs
    have hsz : szT P fd.type ≠ 0 := by
      intro e
      rw [e] at h1; simp at h1
    have hinfo : ∃ i, P.info? fd.type = some i ∧ szT P fd.type = i.size := by
      unfold szT at hsz ⊢
      cases hi : P.info? fd.type with
      | none => rw [hi] at hsz; exact absurd rfl hsz
      | some i => exact ⟨i, rfl, rfl⟩
    obtain ⟨i, hi, hi2⟩ := hinfo
    have run : ∀ b j, a.eval x = .pointer (some ⟨b, j, none⟩) → (execOp a.eval o).run P w = .ok (.value (.pointer (some ⟨b, j + fd.offset, none⟩))) w := by
      intro b j he
      rw [hi2] at hsz
      simp [execOp, ho, he, Instr.fieldAt, run_underlying hu, hff, Instr.sureAddr, fieldPlace, run_sizeOf' hi, hsz, add_addr]
    refine OpRes.when ?_
    cases vx <;> try (cases h2; done)
    case ptrB r j =>
      obtain ⟨R, b, g1, g2, g3⟩ := hx
      exact OpRes.quiet hI hd _ (run b j g3) rfl rfl ⟨R, b, g1, g2, rfl⟩
    case ptrE q k off =>
      simp only [Rv, namePtrE] at hx
      cases hs : skAt gm q with
      | leaf => rw [hs] at hx; exact hx.elim
      | nil => rw [hs] at hx; exact hx.elim
      | node g n cap sz cs =>
        rw [hs] at hx
        refine OpRes.quiet hI hd _ (run _ _ hx.2) rfl rfl ?_
        simp only [Eff.put, Rv, namePtrE, hs]
        exact ⟨hx.1, by rw [Nat.add_assoc]⟩
    case pim n xs off =>
      obtain ⟨b, oo, cs, g1, g2, g3, g4, g5⟩ := hx
      exact OpRes.quiet hI hd _ (run b (oo + off) g1) rfl rfl ⟨b, oo, cs, by rw [Nat.add_assoc], g2, g3, g4, g5⟩

theorem lenE_mul {n sz : Nat} (h : 0 < sz) : lenE sz (n * sz) = n := by
  unfold lenE
  cases hb : Nat.beq sz 1 with
  | true => have := nbeq hb; subst this; simp
  | false => simp only [cond_false]; exact Nat.mul_div_cancel _ h

theorem lenE_zero (sz : Nat) : lenE sz 0 = 0 := by unfold lenE; cases Nat.beq sz 1 <;> simp

theorem run_indexAt {t e : TypeId} {i : TypeInfo} (hu : P.underlying t = some (.slice e)) (hi : P.info? e = some i) {b oo len cap : Nat} {k : IntKind} {n : Int} (h0 : 0 ≤ n) (h1 : n < (len : Int)) :
    (Instr.indexAt t (.slice (some ⟨b, oo, none⟩) len cap) (.int k n)).run P w = .ok (.pointer (some ⟨b, oo + n.toNat * i.size, none⟩)) w := by
  simp [Instr.indexAt, asIntOf, run_underlying hu, run_sizeOf' hi, h0, h1, add_addr]

theorem semIndexAddr_ok (hI : Inv P w0 F N st a w G gm) {o : Oper} (hd : ∀ x, o.dst = some x → x < N) {t : TypeId} {x y : Operand} (ho : o.op = .indexAddr t x y) {T : List Nm}
    {vx : V} {k : IntKind} {n : Int} (hx : Rv w G gm (a.eval x) vx) (hy : a.eval y = .int k n) (hok : (semIndexAddr P (only T st.regs) t vx n).ok = true) :
    OpRes P w0 F N st a w G o (semIndexAddr P (only T st.regs) t vx n) := by
  unfold semIndexAddr at hok ⊢
  cases he : elT P t with
  | none =>
    rw [he] at hok
    simp only at hok ⊢
    unfold semIndexArr at hok ⊢
    cases ha : arrT P t with
    | none => rw [ha] at hok; cases hok
    | some le =>
      obtain ⟨len, e⟩ := le
      rw [ha] at hok
      simp only at hok ⊢
      have hu : P.underlying t = some (.array len e) := by
        unfold arrT at ha
        split at ha
        · next n' e' hu =>
          simp only [Option.some.injEq, Prod.mk.injEq] at ha
          obtain ⟨rfl, rfl⟩ := ha
          exact hu
        · cases ha
      cases vx <;> try (cases hok; done)
      case ptrB r j =>
        simp only at hok ⊢
        obtain ⟨h1, _⟩ := when_ok hok
        simp only [Bool.and_eq_true, decide_eq_true_eq] at h1
        obtain ⟨⟨g2, g3⟩, hin⟩ := h1
        obtain ⟨i, hi⟩ := Option.isSome_iff_exists.1 hin
        have hi2 : szT P e = i.size := by simp [szT, hi]
        obtain ⟨R, b, q1, q2, q3⟩ := hx
        refine OpRes.when (OpRes.quiet hI hd (.pointer (some ⟨b, j + n.toNat * i.size, none⟩)) ?_ rfl rfl ⟨R, b, q1, q2, by rw [hi2]⟩)
        simp [execOp, ho, q3, hy, Instr.indexAt, asIntOf, run_underlying hu, Instr.sureAddr, run_sizeOf' hi, g2, g3, add_addr]
      case ptrE q j off =>
        simp only at hok ⊢
        obtain ⟨h1, _⟩ := when_ok hok
        simp only [Bool.and_eq_true, decide_eq_true_eq] at h1
        obtain ⟨⟨g2, g3⟩, hin⟩ := h1
        obtain ⟨i, hi⟩ := Option.isSome_iff_exists.1 hin
        have hi2 : szT P e = i.size := by simp [szT, hi]
        have run : ∀ b oo, a.eval x = .pointer (some ⟨b, oo, none⟩) → (execOp a.eval o).run P w = .ok (.value (.pointer (some ⟨b, oo + n.toNat * i.size, none⟩))) w := by
          intro b oo q3
          simp [execOp, ho, q3, hy, Instr.indexAt, asIntOf, run_underlying hu, Instr.sureAddr, run_sizeOf' hi, g2, g3, add_addr]
        simp only [Rv, namePtrE] at hx
        cases hs : skAt gm q with
        | leaf => rw [hs] at hx; exact hx.elim
        | nil => rw [hs] at hx; exact hx.elim
        | node g n' cap sz cs =>
          rw [hs] at hx
          refine OpRes.when (OpRes.quiet hI hd _ (run _ _ hx.2) rfl rfl ?_)
          simp only [Eff.put, Rv, namePtrE, hs]
          exact ⟨hx.1, by rw [hi2, Nat.add_assoc]⟩
      case pim m xs off =>
        simp only at hok ⊢
        obtain ⟨h1, _⟩ := when_ok hok
        simp only [Bool.and_eq_true, decide_eq_true_eq] at h1
        obtain ⟨⟨g2, g3⟩, hin⟩ := h1
        obtain ⟨i, hi⟩ := Option.isSome_iff_exists.1 hin
        have hi2 : szT P e = i.size := by simp [szT, hi]
        obtain ⟨b, oo, cs, q1, q2, q3, q4, q5⟩ := hx
        refine OpRes.when (OpRes.quiet hI hd (.pointer (some ⟨b, oo + off + n.toNat * i.size, none⟩)) ?_ rfl rfl ⟨b, oo, cs, by rw [hi2, Nat.add_assoc], q2, q3, q4, q5⟩)
        simp [execOp, ho, q1, hy, Instr.indexAt, asIntOf, run_underlying hu, Instr.sureAddr, run_sizeOf' hi, g2, g3, add_addr]
  | some e =>
    have hu := elT_spec he
    rw [he] at hok
    simp only at hok ⊢
    have run : ∀ b oo len cap i, P.info? e = some i → a.eval x = .slice (some ⟨b, oo, none⟩) len cap → 0 ≤ n → n < (len : Int) →
        (execOp a.eval o).run P w = .ok (.value (.pointer (some ⟨b, oo + n.toNat * i.size, none⟩))) w := by
      intro b oo len cap i hi hxx h0 h1
      simp only [execOp, ho, hxx, hy, Sem.run_bind, run_indexAt hu hi h0 h1, Result.andThen_ok]
      rfl
    have hinfo : ∀ sz, szT P e = sz → 0 < sz → ∃ i, P.info? e = some i ∧ i.size = sz := by
      intro sz hs h0
      unfold szT at hs
      cases hi : P.info? e with
      | none => simp only [hi] at hs; omega
      | some i => simp only [hi] at hs; exact ⟨i, rfl, hs⟩
    cases vx <;> try (cases hok; done)
    case sl sz' xs =>
      obtain ⟨h1, _⟩ := when_ok hok
      simp only [Bool.and_eq_true, decide_eq_true_eq] at h1
      obtain ⟨⟨g1, g2⟩, g3⟩ := h1
      have g1 := nbeq g1
      subst g1
      rcases hx with ⟨_, rfl⟩ | ⟨ad, len, cap, cs, k1, k2, k3, k4, k5, k6, k7, k8, _⟩
      · rw [List.length_nil, lenE_zero] at g3; omega
      · rw [k4, lenE_mul k5] at g3
        obtain ⟨i, hi, hi2⟩ := hinfo _ rfl k5
        obtain ⟨bk, oo, sp⟩ := ad
        have hne : xs ≠ [] := by
          rintro rfl
          have : len * szT P e = 0 := by simpa using k4.symm
          rcases Nat.mul_eq_zero.1 this with h | h <;> omega
        have k2 := k2 hne
        simp only at k2
        subst k2
        have hlen := k8.length
        have hb : n.toNat * szT P e + szT P e ≤ len * szT P e := by
          have : (n.toNat + 1) * szT P e ≤ len * szT P e := Nat.mul_le_mul_right _ (by omega)
          rwa [Nat.add_mul, Nat.one_mul] at this
        refine OpRes.when (OpRes.quiet hI hd _ (run bk oo len cap i hi k1 g2 g3) rfl rfl ?_)
        rw [hi2]
        refine ⟨bk, oo + n.toNat * szT P e, (cs.drop (n.toNat * szT P e)).take (szT P e), by simp, by simp, ?_, ?_, ?_⟩
        · intro j v hv
          by_cases hj : j < szT P e
          · rw [List.get_drop_take _ _ _ _ hj] at hv
            have := k6 _ _ hv
            simpa [Nat.add_assoc] using this
          · rw [List.getElem?_take, if_neg hj] at hv; cases hv
        · intro _
          refine k7 (fun hxs => ?_)
          subst hxs
          simp at k4
          omega
        · refine RvL.of_get _ _ (by simp only [List.length_take, List.length_drop, List.length_map, List.length_range]; omega) ?_
          intro j v x' hv hx'
          have hj : j < szT P e := by
            have := (List.getElem?_eq_some_iff.1 hx').1
            simpa using this
          rw [List.get_drop_take _ _ _ _ hj] at hv
          simp only [List.getElem?_map, List.getElem?_range hj, Option.map_some, Option.some.injEq] at hx'
          subst hx'
          obtain ⟨v', q1, q2⟩ := k8.get (n.toNat * szT P e + j) (by rw [k4]; omega)
          rw [q1] at hv
          obtain rfl := Option.some.inj hv
          exact q2
    case ref q =>
      simp only at hok ⊢
      obtain ⟨h1, _⟩ := when_ok hok
      simp only [Bool.and_eq_true, decide_eq_true_eq] at h1
      obtain ⟨⟨⟨g0, g1⟩, g2⟩, g3⟩ := h1
      obtain ⟨e', d, xs, hqe, hqd, hqx, hq⟩ := ownB_some g0
      focus
        rw [hqe] at g1
        simp only [hqx] at g3
        have g1 := nbeq g1
        subst g1
        obtain ⟨u, hu'⟩ := own_at hI.regs hq
        simp only [Rv, nameRef] at hx
        cases hs : skAt gm q with
        | leaf => rw [hs] at hx; exact hx.elim
        | nil =>
          rw [hs] at hu'
          obtain ⟨_, rfl⟩ := hu'
          rw [List.length_nil, lenE_zero] at g3; omega
        | node g n' cap sz cs =>
          rw [hs] at hx hu'
          obtain ⟨p1, p2, p3⟩ := szT_pos_of hu'
          obtain ⟨i, hi, hi2⟩ := hinfo _ rfl p1
          rw [p3, ← p2, lenE_mul p1] at g3
          refine OpRes.when (OpRes.quiet hI hd _ (run g 0 n' cap i hi hx g2 g3) rfl rfl ?_)
          simp only [Eff.put, Rv, namePtrE, hs]
          exact ⟨by omega, by rw [hi2, p2]; simp⟩
    case vw q lo hi =>
      simp only at hok ⊢
      obtain ⟨h1, _⟩ := when_ok hok
      simp only [Bool.and_eq_true, decide_eq_true_eq] at h1
      obtain ⟨⟨⟨g0, g1⟩, g2⟩, g3⟩ := h1
      obtain ⟨e', d, xs, hqe, hqd, hqx, hq⟩ := ownB_some g0
      focus
        rw [hqe] at g1
        have g1 := nbeq g1
        subst g1
        obtain ⟨u, hu'⟩ := own_at hI.regs hq
        simp only [Rv, nameVw] at hx
        cases hs : skAt gm q with
        | leaf => rw [hs] at hx; exact hx.elim
        | nil =>
          rw [hs] at hx
          obtain ⟨rfl, rfl, _⟩ := hx
          simp at g3; omega
        | node g n' cap sz cs =>
          rw [hs] at hx hu'
          obtain ⟨p1, p2, p3⟩ := szT_pos_of hu'
          obtain ⟨i, hi', hi2⟩ := hinfo _ rfl p1
          obtain ⟨x1, x2, oo, x3, x4⟩ := hx
          have hcl : ¬ cap = lo := by
            obtain ⟨_, _, _, _, _, _, _, _, h7, _⟩ := hu'
            omega
          rw [x4 (.inl hcl)] at x3
          refine OpRes.when (OpRes.quiet hI hd _ (run g (lo * sz) (hi - lo) (cap - lo) i hi' x3 g2 g3) rfl rfl ?_)
          simp only [Eff.put, Rv, namePtrE, hs]
          exact ⟨by omega, by rw [hi2, p2, Nat.add_mul]; simp⟩
end
end Go.Ab
