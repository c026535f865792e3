/- The abstract machine: Go's intermediate code run over values, with own slices and boxes by name. Definitions alone; nothing is assumed. -/
import Derived.Calls
import Derived.Orders
import Derived.Laws.Sem
import GoSem.ClaimData
namespace Go.Ab
open Go

/-- A region's name: the slot that made it, or the place among the regions handed in ('hand': what is on its way, in proofs). -/
inductive Nm where
  | loc (i : Nat)
  | par (i : Nat)
  | hand
  deriving DecidableEq, Repr, Inhabited

def Nm.eq : Nm → Nm → Bool
  | .loc i, .loc j => Nat.beq i j
  | .par i, .par j => Nat.beq i j
  | .hand, .hand => true
  | _, _ => false

def Nm.mem (n : Nm) : List Nm → Bool
  | [] => false
  | m :: l => Nm.eq n m || n.mem l

/-- The place of a cell that holds an own slice: a root cell of a region, and from there cells within own slices. -/
structure Pl where
  r : Nm
  j : Nat
  p : List Nat
  e : TypeId
  d : Bool
  deriving DecidableEq, Repr, Inhabited

inductive V where
  | sc (v : Value)
  | nl (e : TypeId)
  | sl (sz : Nat) (xs : List V)
  | own (e : TypeId) (d : Bool) (xs : List V)
  | ag (xs : List V)
  | tp (xs : List V)
  | fn (f : FuncId) (first caps : List V)
  | ifc (t : TypeId) (v : V)
  | ref (q : Pl)
  | vw (q : Pl) (lo hi : Nat)
  | ptrB (r : Nm) (j : Nat)
  | ptrE (q : Pl) (i off : Nat)
  | pim (n : Nat) (xs : List V) (off : Nat)
  | slf
  | bad
  deriving Inhabited

structure Rg where
  box : Bool
  row : List V
  deriving Inhabited

structure St where
  env : Nat → V
  regs : Nm → Option Rg

/-! ### cells at places -/
def nthV : List V → Nat → V
  | [], _ => .bad
  | x :: _, 0 => x
  | _ :: l, j + 1 => nthV l j

def ownXs : V → List V
  | .own _ _ xs => xs
  | _ => []

def getV : List Nat → List V → Nat → V
  | [], row, j => nthV row j
  | i :: p, row, j => getV p (ownXs (nthV row j)) i

def setOwn (f : List V → List V) : V → V
  | .own e d xs => .own e d (f xs)
  | v => v

def setV : List Nat → List V → Nat → V → List V
  | [], row, j, x => row.set j x
  | i :: p, row, j, x => row.set j (setOwn (fun xs => setV p xs i x) (nthV row j))

/-! ### types -/
section types
variable (P : Program)
def szT (t : TypeId) : Nat := match P.info? t with | some i => i.size | none => 0
def bytesT (t : TypeId) : Nat := match P.info? t with | some i => i.bytes | none => 0
def elT (t : TypeId) : Option TypeId := match P.underlying t with | some (.slice e) => some e | _ => none
def aggT (t : TypeId) : Bool := match P.underlying t with | some (.struct _) => true | some (.array _ _) => true | _ => false
def cellTys : Nat → TypeId → List TypeId
  | 0, t => [t]
  | n + 1, t => match P.underlying t with
    | some (.struct fs) => fs.toList.flatMap fun f => cellTys n f.type
    | some (.array k e) => (List.replicate k (cellTys n e)).flatten
    | _ => [t]
def cellsT (t : TypeId) : List TypeId := cellTys P 8 t
def isStrT (t : TypeId) : Bool := match P.underlying t with | some .string => true | _ => false
/-- Is the type known, with its cells? -/
def tyOk (t : TypeId) : Bool := (P.underlying t).isSome && Nat.beq (cellsT P t).length (szT P t)
def hasSlice (t : TypeId) : Bool := (cellsT P t).any fun c => (elT P c).isSome
/-- A struct's field: where its cells begin, and its type. -/
def fieldT (t : TypeId) (f : Nat) : Option Field := match P.underlying t with | some (.struct fs) => fs[f]? | _ => none
end types

def flat : Value → Bool
  | .bool _ | .int _ _ | .string _ | .nilFunc | .nilIface => true
  | .pointer none | .map none | .chan none => true
  | _ => false

/-- A cell of a constant, as a part of a slot's value. -/
def cellEnv (P : Program) : Value → TypeId → V
  | .slice none 0 0, c => match elT P c with | some e => .nl e | none => .bad
  | v, _ => bif flat v then .sc v else .bad
/-- A cell of a zero value, as a region holds it. -/
def cellRow (P : Program) (deep : TypeId → Bool) (keep : Bool) : Value → TypeId → V
  | .slice none 0 0, c => match elT P c with | some e => (bif keep then .own e (deep e) [] else .sl (szT P e) []) | none => .bad
  | .pointer none, c => bif deep c then .slf else .sc (.pointer none)
  | v, _ => bif flat v then .sc v else .bad

/-- A constant of a type, as a value of a slot. -/
def constV (P : Program) (ty : TypeId) : Value → V
  | .slice none 0 0 => match elT P ty with | some e => .nl e | none => .bad
  | .agg cs => bif Nat.beq cs.size (cellsT P ty).length then .ag ((cs.toList.zip (cellsT P ty)).map fun x => cellEnv P x.1 x.2) else .bad
  | v => bif flat v then .sc v else .bad

def opd (P : Program) (env : Nat → V) (x : TypeId × Operand) : V :=
  match x.2 with
  | .tmp t => env t
  | .const v => constV P x.1 v
  | .func f => .fn f [] []
  | .global _ => .bad

/-! ### names in values -/
mutual
def V.names : V → List Nm
  | .ag xs => namesL xs
  | .tp xs => namesL xs
  | .fn _ a b => namesL a ++ namesL b
  | .ifc _ v => v.names
  | .ref q => [q.r]
  | .vw q _ _ => [q.r]
  | .ptrB r _ => [r]
  | .ptrE q _ _ => [q.r]
  | _ => []
def namesL : List V → List Nm
  | [] => []
  | x :: xs => x.names ++ namesL xs
end

/-- Names that are no longer good: 'd': those of cells within own slices; 'r': those of own slices in root cells, too; 'a': all. -/
structure Kl where
  d : List Nm
  r : List Nm
  a : List Nm
  deriving Inhabited

def Kl.no : Kl := ⟨[], [], []⟩
def Kl.and (x y : Kl) : Kl := ⟨x.d ++ y.d, x.r ++ y.r, x.a ++ y.a⟩
def Kl.isNo (x : Kl) : Bool := x.d.isEmpty && x.r.isEmpty && x.a.isEmpty
def Kl.names (x : Kl) : List Nm := x.d ++ x.r ++ x.a
/-- Is the own slice at a place, or a cell of it, named in vain? -/
def Kl.hits (x : Kl) (q : Pl) : Bool := q.r.mem x.a || q.r.mem x.r || (!q.p.isEmpty && q.r.mem x.d)

mutual
def V.kill (k : Kl) : V → V
  | .ag xs => .ag (killL k xs)
  | .tp xs => .tp (killL k xs)
  | .fn f a b => .fn f (killL k a) (killL k b)
  | .ifc t v => .ifc t (v.kill k)
  | .ref q => bif k.hits q then .bad else .ref q
  | .vw q lo hi => bif k.hits q then .bad else .vw q lo hi
  | .ptrB r j => bif r.mem k.a then .bad else .ptrB r j
  | .ptrE q i o => bif k.hits q then .bad else .ptrE q i o
  | v => v
def killL (k : Kl) : List V → List V
  | [] => []
  | x :: xs => x.kill k :: killL k xs
end

/- Other names for the names. -/
mutual
def V.ren (f : Nm → Nm) : V → V
  | .ag xs => .ag (renL f xs)
  | .tp xs => .tp (renL f xs)
  | .fn g a b => .fn g (renL f a) (renL f b)
  | .ifc t v => .ifc t (v.ren f)
  | .ref q => .ref { q with r := f q.r }
  | .vw q lo hi => .vw { q with r := f q.r } lo hi
  | .ptrB r j => .ptrB (f r) j
  | .ptrE q i o => .ptrE { q with r := f q.r } i o
  | v => v
def renL (f : Nm → Nm) : List V → List V
  | [] => []
  | x :: xs => x.ren f :: renL f xs
end

/-- What an operation does. -/
structure Eff where
  ok : Bool
  val : V
  /-- the regions, of those that the operation looks at and of its own -/
  regs : Nm → Option Rg
  /-- regions that are written, made or dropped -/
  w : List Nm
  k : Kl

def Eff.no : Eff := ⟨false, .bad, fun _ => none, [], .no⟩
def Eff.put (v : V) : Eff := ⟨true, v, fun _ => none, [], .no⟩
def Eff.when (b : Bool) (e : Eff) : Eff := { e with ok := b && e.ok }

def setR (rd : Nm → Option Rg) (n : Nm) (x : Option Rg) : Nm → Option Rg := fun m => bif Nm.eq m n then x else rd m

/-! ### slices -/
/-- How many elements of so many cells each. -/
def lenE (sz n : Nat) : Nat := bif Nat.beq sz 1 then n else n / sz

/- An own slice becomes one that nobody writes. -/
mutual
def frz (P : Program) : V → V
  | .own e d xs => .sl (szT P e) (bif d then frzL P xs else xs)
  | .slf => .bad
  | v => v
def frzL (P : Program) : List V → List V
  | [] => []
  | x :: xs => frz P x :: frzL P xs
end

/-- The own slice at a place: its element type, whether it may hold own slices, its cells. -/
def ownAt (rd : Nm → Option Rg) (q : Pl) : Option (TypeId × Bool × List V) :=
  match rd q.r with
  | some rg => match getV q.p rg.row q.j with
    | .own e d xs => some (e, d, xs)
    | _ => none
  | none => none

def V.isOwnD (e : TypeId) (d : Bool) : V → Bool
  | .own e' d' _ => Nat.beq e' e && (d' == d)
  | _ => false
def V.cellsOf : V → List V
  | .sl _ xs => xs
  | .own _ _ xs => xs
  | _ => []
/-- The same, as it should be by the place's own word: whether it is so, and the cells. -/
def ownB (rd : Nm → Option Rg) (q : Pl) : Bool × List V :=
  match rd q.r with
  | some rg => ((getV q.p rg.row q.j).isOwnD q.e q.d, (getV q.p rg.row q.j).cellsOf)
  | none => (false, [])

/-- The own slice at a place is taken away: what is left of the regions; which names are no longer good. -/
def takeAt (rd : Nm → Option Rg) (q : Pl) : (Nm → Option Rg) × Kl :=
  match rd q.r with
  | none => (rd, .no)
  | some ⟨false, [_]⟩ => match q.p with
    | [] => (setR rd q.r none, ⟨[], [], [q.r]⟩)
    | _ => (setR rd q.r ((rd q.r).map fun g => { g with row := setV q.p g.row q.j .bad }), ⟨[q.r], [], []⟩)
  | _ => (setR rd q.r ((rd q.r).map fun g => { g with row := setV q.p g.row q.j .bad }), match q.p with | [] => ⟨[], [q.r], []⟩ | _ => ⟨[q.r], [], []⟩)

/-- A slot's value, taken for reading: its element type's cells, where it is a slice. -/
structure Sli where
  ok : Bool
  sz : Nat
  d : Bool
  xs : List V

def sliOf (P : Program) (rd : Nm → Option Rg) (e : TypeId) : V → Sli
  | .nl _ => ⟨true, szT P e, false, []⟩
  | .sl sz xs => ⟨Nat.beq sz (szT P e), sz, false, xs⟩
  | .ref q => ⟨(ownB rd q).1 && Nat.beq q.e e, szT P e, q.d, (ownB rd q).2⟩
  | .vw q lo hi => ⟨(ownB rd q).1 && Nat.beq q.e e, szT P e, q.d, ((ownB rd q).2.drop (lo * szT P e)).take ((hi - lo) * szT P e)⟩
  | _ => ⟨false, 0, false, []⟩

/- Names stand for what they name: a value that is read by value. -/
mutual
def V.byVal (P : Program) (rd : Nm → Option Rg) : V → V
  | .nl e => .sl (szT P e) []
  | .ag xs => .ag (byValL P rd xs)
  | .ref q => frz P (.own q.e q.d (ownB rd q).2)
  | .vw q lo hi => frz P (.own q.e q.d (((ownB rd q).2.drop (lo * szT P q.e)).take ((hi - lo) * szT P q.e)))
  | v => v
def byValL (P : Program) (rd : Nm → Option Rg) : List V → List V
  | [] => []
  | x :: xs => x.byVal P rd :: byValL P rd xs
end

/- Is what is named there? -/
mutual
def V.seen (rd : Nm → Option Rg) : V → Bool
  | .ag xs => seenL rd xs
  | .ref q => (ownB rd q).1
  | .vw q _ _ => (ownB rd q).1
  | _ => true
def seenL (rd : Nm → Option Rg) : List V → Bool
  | [] => true
  | x :: xs => x.seen rd && seenL rd xs
end

/- A value by which nothing is named. -/
mutual
def V.imm : V → Bool
  | .ag xs => immL xs
  | .tp xs => immL xs
  | .fn _ a b => immL a && immL b
  | .ifc _ v => v.imm
  | .sc _ | .sl _ _ | .pim _ _ _ => true
  | _ => false
def immL : List V → Bool
  | [] => true
  | x :: xs => x.imm && immL xs
end

def V.isCell : V → Bool
  | .ag _ | .tp _ => false
  | _ => true
/-- What one cell may hold by which nothing is named. -/
def V.cim (x : V) : Bool := x.isCell && x.imm
def cimL : List V → Bool
  | [] => true
  | x :: xs => x.cim && cimL xs
/-- The same, or a cell of which nothing is known. -/
def V.cib : V → Bool
  | .bad => true
  | x => x.cim
def cibL : List V → Bool
  | [] => true
  | x :: xs => x.cib && cibL xs

/-! ### what is put into a region: own slices move in -/
structure Abs where
  ok : Bool
  xs : List V
  rd : Nm → Option Rg
  k : Kl

section put
variable (P : Program) (deep : TypeId → Bool)
/-- One cell. 'keep': an own slice stays own. -/
def absC (keep : Bool) (rd : Nm → Option Rg) : V → Abs
  | .nl e => ⟨true, [bif keep then .own e (deep e) [] else .sl (szT P e) []], rd, .no⟩
  | .ref q => let (rd', k) := takeAt rd q
    ⟨(ownB rd q).1, [bif keep then .own q.e q.d (ownB rd q).2 else frz P (.own q.e q.d (ownB rd q).2)], rd', k⟩
  | .vw q lo hi => let (rd', k) := takeAt rd q
    let ys := ((ownB rd q).2.drop (lo * szT P q.e)).take ((hi - lo) * szT P q.e)
    ⟨(ownB rd q).1 && (!keep || Nat.beq lo 0), [bif keep then .own q.e q.d ys else frz P (.own q.e q.d ys)], rd', k⟩
  | v => ⟨v.cim, [v], rd, .no⟩
def absL (keep : Bool) : List V → (Nm → Option Rg) → Abs
  | [], rd => ⟨true, [], rd, .no⟩
  | x :: xs, rd => let a := absC P deep keep rd x
    let b := absL keep xs a.rd
    ⟨a.ok && b.ok, a.xs ++ b.xs, b.rd, a.k.and b.k⟩
/-- A value of a slot, as cells. -/
def absV (keep : Bool) (rd : Nm → Option Rg) : V → Abs
  | .ag xs => absL P deep keep xs rd
  | v => absC P deep keep rd v
end put

def zeroCells (P : Program) (t : TypeId) : List Value :=
  match P.info? t with
  | some i => match i.zero with
    | some z => z.cells.toList
    | none => []
  | none => []

/-- A zero's cells are as many as the type's, each of them one. -/
def zeroOne (P : Program) (t : TypeId) : Bool := (zeroCells P t).all Value.oneCell'

/-- Cells of a type's zero, as a region holds them. -/
def zeroRow (P : Program) (deep : TypeId → Bool) (keep : Bool) (t : TypeId) : List V := ((zeroCells P t).zip (cellsT P t)).map fun x => cellRow P deep keep x.1 x.2

/-- Cells of a type's zero, as a slot holds them. -/
def zeroEnv (P : Program) (t : TypeId) : List V := ((zeroCells P t).zip (cellsT P t)).map fun x => cellEnv P x.1 x.2

/-! ### what is read out of a cell, by its type -/
def V.intOf : V → Int
  | .sc (.int _ n) => n
  | _ => 0
def V.isInt (k : IntKind) : V → Bool
  | .sc (.int k' _) => decide (k' = k)
  | _ => false
def V.boolOf : V → Bool
  | .sc (.bool b) => b
  | _ => false
def V.isBool : V → Bool
  | .sc (.bool _) => true
  | _ => false
def V.strOf : V → ByteArray
  | .sc (.string s) => s
  | _ => .empty
def V.isStr : V → Bool
  | .sc (.string _) => true
  | _ => false
def V.isSl (sz : Nat) : V → Bool
  | .sl sz' _ => Nat.beq sz' sz
  | _ => false
def V.isOwnB : V → Bool
  | .own _ _ _ => true
  | _ => false
def V.isOwn (e : TypeId) : V → Bool
  | .own e' _ _ => Nat.beq e' e
  | _ => false
def V.deepOf : V → Bool
  | .own _ d _ => d
  | _ => false
def V.good : V → Bool
  | .bad => false
  | .own _ _ _ => false
  | .nl _ => false
  | .slf => false
  | _ => true

/-- A cell of type 'c', read: 'q': its place, where it may hold an own slice. -/
def viewC (P : Program) (deep : TypeId → Bool) (q : Option Pl) (c : TypeId) (x : V) : Bool × V :=
  match P.underlying c with
  | some (.int k) => (x.isInt k, .sc (.int k x.intOf))
  | some .bool => (x.isBool, .sc (.bool x.boolOf))
  | some .string => (x.isStr, .sc (.string x.strOf))
  | some (.slice e) => match q with
    | some q => (x.isOwnD e (deep e), .ref { q with e := e, d := deep e })
    | none => (x.isSl (szT P e), .sl (szT P e) x.cellsOf)
  | _ => (x.cim, x)

/-- A root cell of a region: what it holds is told by its own shape. -/
def viewB (P : Program) (r : Nm) (j : Nat) (c : TypeId) (x : V) : Bool × V :=
  match x with
  | .own e d _ => ((elT P c).isSome, .ref ⟨r, j, [], e, d⟩)
  | .sl sz xs => (true, .sl sz xs)
  | x => (x.cim, x)

def allOk : List (Bool × V) → Bool
  | [] => true
  | x :: l => x.1 && allOk l

/-- Cells that have been read make a value of the type. -/
def mkV (P : Program) (t : TypeId) (l : List (Bool × V)) : Eff :=
  Eff.when (tyOk P t && allOk l) (bif aggT P t then Eff.put (.ag (l.map (·.2))) else Eff.put (match l with | x :: _ => x.2 | _ => .bad))

/-- Cells k, k + 1, .. numbered with the types. -/
def numbered : Nat → List TypeId → List (Nat × TypeId)
  | _, [] => []
  | k, c :: cs => (k, c) :: numbered (k + 1) cs

def semLoad (P : Program) (deep : TypeId → Bool) (rd : Nm → Option Rg) (t : TypeId) : V → Eff
  | .ptrB r j => match rd r with
    | some ⟨true, row⟩ => Eff.when (Nat.ble (j + (cellsT P t).length) row.length) (mkV P t ((numbered j (cellsT P t)).map fun (k, c) => viewB P r k c (nthV row k)))
    | _ => Eff.no
  | .ptrE q i off => Eff.when ((ownB rd q).1 && Nat.ble (off + (cellsT P t).length) (szT P q.e))
        (mkV P t ((numbered (i * szT P q.e + off) (cellsT P t)).map fun (k, c) => viewC P deep (bif q.d then some { q with p := q.p ++ [k] } else none) c (nthV (ownB rd q).2 k)))
  | .pim n xs off => Eff.when (Nat.ble (off + (cellsT P t).length) n)
      (mkV P t ((numbered off (cellsT P t)).map fun (k, c) => viewC P deep none c (nthV xs k)))
  | _ => Eff.no

def setMany : Nat → List V → List V → List V
  | _, [], row => row
  | k, x :: xs, row => setMany (k + 1) xs (row.set k x)

/-- The row at a place is written anew. -/
def mapAt (f : List V → List V) (q : Pl) (g : Rg) : Rg :=
  { g with row := setV q.p g.row q.j (setOwn f (getV q.p g.row q.j)) }

section sem
variable (P : Program) (deep : TypeId → Bool)

def semStore (rd : Nm → Option Rg) (t : TypeId) (x : V) : V → Eff
  | .ptrB r j => match rd r with
    | some ⟨true, _⟩ =>
      let a := absV P deep true rd x
      match a.rd r with
      | some ⟨true, row⟩ =>
        Eff.when (a.ok && tyOk P t && Nat.beq a.xs.length (szT P t) && Nat.ble (j + a.xs.length) row.length && !(r.mem a.k.a) && (hasSlice P t || ((row.drop j).take a.xs.length).all (fun y => !y.isOwnB)))
          ⟨true, .bad, setR a.rd r (some ⟨true, setMany j a.xs row⟩), r :: a.k.names, a.k.and ⟨[], bif hasSlice P t then [r] else [], []⟩⟩
      | _ => Eff.no
    | _ => Eff.no
  | .ptrE q i off =>
    let a := absV P deep q.d rd x
    match a.rd q.r with
    | some g =>
      Eff.when ((ownB rd q).1 && a.ok && (ownB a.rd q).1 && tyOk P t && Nat.beq a.xs.length (szT P t) && Nat.ble (off + a.xs.length) (szT P q.e))
        ⟨true, .bad, setR a.rd q.r (some (mapAt (setMany (i * szT P q.e + off) a.xs) q g)), q.r :: a.k.names, a.k.and ⟨bif q.d then [q.r] else [], [], []⟩⟩
    | none => Eff.no
  | _ => Eff.no

/-- A new region of the operation's own. -/
def newReg (d : Nat) (rd : Nm → Option Rg) (g : Rg) (v : V) (k : Kl) : Eff :=
  ⟨true, v, setR rd (.loc d) (some g), .loc d :: k.names, k.and ⟨[], [], [.loc d]⟩⟩

def semIndexAddr (rd : Nm → Option Rg) (t : TypeId) (x : V) (n : Int) : Eff :=
  match elT P t with
  | none => Eff.no
  | some e =>
    let sz := szT P e
    match x with
    | .sl sz' xs => Eff.when (Nat.beq sz' sz && decide (0 ≤ n) && decide (n < (lenE sz xs.length : Int)))
        (Eff.put (.pim sz ((List.range sz).map fun k => nthV xs (n.toNat * sz + k)) 0))
    | .ref q => Eff.when ((ownB rd q).1 && Nat.beq q.e e && decide (0 ≤ n) && decide (n < (lenE sz (ownB rd q).2.length : Int))) (Eff.put (.ptrE q n.toNat 0))
    | .vw q lo hi => Eff.when ((ownB rd q).1 && Nat.beq q.e e && decide (0 ≤ n) && decide (n < ((hi - lo : Nat) : Int))) (Eff.put (.ptrE q (lo + n.toNat) 0))
    | _ => Eff.no

def semLen (rd : Nm → Option Rg) (t : TypeId) (x : V) : Eff :=
  match x with
  | .sc (.string s) => Eff.when (isStrT P t) (Eff.put (.sc (.int .i64 s.size)))
  | .vw q lo hi => Eff.when ((elT P t).isSome && (ownB rd q).1) (Eff.put (.sc (.int .i64 ((hi - lo : Nat) : Int))))
  | x => match elT P t with
    | none => Eff.no
    | some e => let s := sliOf P rd e x
      Eff.when s.ok (Eff.put (.sc (.int .i64 (lenE s.sz s.xs.length))))

def bytesV (s : ByteArray) : List V := s.data.toList.map fun b => .sc (.int .u8 b.toNat)
def byteOfV (v : V) : UInt8 := UInt8.ofNat v.intOf.toNat
def strOfCells (xs : List V) : ByteArray := ⟨(xs.map byteOfV).toArray⟩

def srcDeep (s : Sli) (keep : Bool) (rd : Nm → Option Rg) : V → Abs
  | .ref q => let (rd', k) := takeAt rd q
    ⟨s.ok && keep, s.xs, rd', k⟩
  | _ => ⟨false, [], rd, .no⟩

/-- The cells of what is appended or copied from; an own source that holds own slices goes with it. -/
def srcOf (rd : Nm → Option Rg) (e : TypeId) (keep : Bool) (x : V) : Abs :=
  match x with
  | .sc (.string s) => ⟨Nat.beq (szT P e) 1, bytesV s, rd, .no⟩
  | x =>
    let s := sliOf P rd e x
    bif s.d then srcDeep s keep rd x else ⟨s.ok, s.xs, rd, .no⟩

/-- May a value of the type be appended to a slice with such elements? -/
def srcTy (e xt : TypeId) : Bool := isStrT P xt || (match elT P xt with | some e' => Nat.beq e' e | none => false)

def roomy (n : Nat) : Bool := decide (n ≤ 140737488355328)

/-- Own cells that are appended to: of a whole own slice, of its head, or none. -/
structure Dst where
  ok : Bool
  d : Bool
  xs : List V
  rd : Nm → Option Rg
  k : Kl

def dstOf (rd : Nm → Option Rg) (e : TypeId) : V → Dst
  | s =>
    let a := absC P deep true rd s
    match a.xs with
    | [.own e' d xs] => ⟨a.ok && Nat.beq e' e, d, xs, a.rd, a.k⟩
    | _ => ⟨false, false, [], rd, .no⟩

def semAppend (d : Nat) (rd : Nm → Option Rg) (t xt : TypeId) (s x : V) : Eff :=
  match elT P t with
  | none => Eff.no
  | some e =>
    let dp := (dstOf P deep rd e s).d
    let a := srcOf P rd e dp x
    let r := dstOf P deep a.rd e s
    Eff.when (r.ok && a.ok && srcTy P e xt && (dp == r.d) && tyOk P e && Nat.blt 0 (szT P e) && Nat.beq (zeroCells P e).length (szT P e) && roomy ((lenE (szT P e) r.xs.length + lenE (szT P e) a.xs.length) * bytesT P e) && roomy (lenE (szT P e) r.xs.length + lenE (szT P e) a.xs.length))
      (newReg d r.rd ⟨false, [.own e dp (r.xs ++ a.xs)]⟩ (.ref ⟨.loc d, 0, [], e, dp⟩) (a.k.and r.k))

def semMake (d : Nat) (rd : Nm → Option Rg) (t : TypeId) (l c : Int) : Eff :=
  match elT P t with
  | none => Eff.no
  | some e =>
    Eff.when (decide (0 ≤ l) && decide (l ≤ c) && tyOk P e && zeroOne P e && Nat.blt 0 (szT P e) && Nat.beq (zeroCells P e).length (szT P e) && (deep e || cimL (zeroRow P deep (deep e) e)) && roomy (c.toNat * bytesT P e) && roomy c.toNat)
      (newReg d rd ⟨false, [.own e (deep e) (List.replicate l.toNat (zeroRow P deep (deep e) e)).flatten]⟩ (.ref ⟨.loc d, 0, [], e, deep e⟩) .no)

/-- Bounds of a slice expression over n elements. -/
def bnds (n : Nat) (lo hi : Option Int) : Bool × Nat × Nat :=
  let h : Int := match hi with | some h => h | none => n
  let l : Int := match lo with | some l => l | none => 0
  (match hi, lo with
    | some h, some l => decide (0 ≤ l) && decide (l ≤ h) && decide (h ≤ (n : Int))
    | some h, none => decide (0 ≤ h) && decide (h ≤ (n : Int))
    | none, some l => decide (0 ≤ l) && decide (l ≤ (n : Int))
    | none, none => true, l.toNat, h.toNat)

def cut (sz : Nat) (xs : List V) (lo hi : Option Int) (l h : Nat) : List V :=
  match lo, hi with
  | none, none => xs
  | some _, none => xs.drop (l * sz)
  | none, some _ => xs.take (h * sz)
  | some _, some _ => (xs.drop (l * sz)).take ((h - l) * sz)

def semSlice (rd : Nm → Option Rg) (t : TypeId) (x : V) (lo hi : Option Int) : Eff :=
  match x with
  | .sc (.string s) => let r := bnds s.size lo hi
    Eff.when (r.1 && isStrT P t) (Eff.put (.sc (.string (s.extract r.2.1 r.2.2))))
  | x => match elT P t with
    | none => Eff.no
    | some e => match x with
      | .sl sz xs => let r := bnds (lenE sz xs.length) lo hi
        Eff.when (r.1 && Nat.beq sz (szT P e) && (P.info? e).isSome) (Eff.put (.sl sz (cut sz xs lo hi r.2.1 r.2.2)))
      | .ref q => let r := bnds (lenE (szT P e) (ownB rd q).2.length) lo hi
        Eff.when ((ownB rd q).1 && r.1 && Nat.beq q.e e && (P.info? e).isSome) (Eff.put (.vw q r.2.1 r.2.2))
      | .vw q l0 h0 => let r := bnds (h0 - l0) lo hi
        Eff.when ((ownB rd q).1 && r.1 && Nat.beq q.e e && (P.info? e).isSome) (Eff.put (.vw q (l0 + r.2.1) (l0 + r.2.2)))
      | _ => Eff.no

/-! ### numbers, texts -/
def cmpI (op : BinOp) (a b : Int) : Bool :=
  match op with
  | .eql => a == b
  | .neq => a != b
  | .lss => decide (a < b)
  | .leq => decide (a ≤ b)
  | .gtr => decide (a > b)
  | .geq => decide (a ≥ b)
  | _ => false
def isCmp : BinOp → Bool
  | .eql | .neq | .lss | .leq | .gtr | .geq => true
  | _ => false
def strLt (x y : ByteArray) : Bool := Op.bytesLess x.toList y.toList
def strEq (x y : ByteArray) : Bool := x.toList == y.toList
def cmpS (op : BinOp) (x y : ByteArray) : Bool :=
  match op with
  | .eql => strEq x y
  | .neq => !strEq x y
  | .lss => strLt x y
  | .leq => strLt x y || strEq x y
  | .gtr => !(strLt x y || strEq x y)
  | .geq => !strLt x y
  | _ => false
def bitsI (op : BinOp) (k : IntKind) (x y : Int) : Int :=
  let a := BitVec.ofInt k.bits x
  let b := BitVec.ofInt k.bits y
  match op with
  | .and => k.wrap (a &&& b).toNat
  | .or => k.wrap (a ||| b).toNat
  | .xor => k.wrap (a ^^^ b).toNat
  | _ => k.wrap (a &&& ~~~b).toNat

def binE (op : BinOp) : Value → Value → Bool × Value
  | .int k a, .int k' b =>
    match op with
    | .shl => (decide (0 ≤ b), .int k (k.wrap (a * 2 ^ (min b.toNat k.bits))))
    | .shr => (decide (0 ≤ b), .int k (a.fdiv (2 ^ (min b.toNat k.bits))))
    | .add => (decide (k = k'), .int k (k.wrap (a + b)))
    | .sub => (decide (k = k'), .int k (k.wrap (a - b)))
    | .mul => (decide (k = k'), .int k (k.wrap (a * b)))
    | .quo => (decide (k = k') && (b != 0), .int k (k.wrap (a.tdiv b)))
    | .rem => (decide (k = k') && (b != 0), .int k (a.tmod b))
    | .and | .or | .xor | .andNot => (decide (k = k'), .int k (bitsI op k a b))
    | op => (decide (k = k'), .bool (cmpI op a b))
  | .bool a, .bool b =>
    match op with
    | .eql => (true, .bool (a == b))
    | .neq => (true, .bool (!(a == b)))
    | _ => (false, .bool false)
  | .string x, .string y =>
    match op with
    | .add => (decide (x.size + y.size ≤ 9223372036854775807), .string (x ++ y))
    | op => (isCmp op, .bool (cmpS op x y))
  | _, _ => (false, .bool false)

def semBin (op : BinOp) (t : TypeId) : V → V → Eff
  | .sc x, .sc y => match x, y with
    | .bool _, .bool _ => match P.underlying t with
      | some .bool => let (ok, v) := binE op x y
        Eff.when ok (Eff.put (.sc v))
      | _ => Eff.no
    | x, y => let (ok, v) := binE op x y
      Eff.when ok (Eff.put (.sc v))
  | _, _ => Eff.no

def semUn (op : UnOp) : V → Eff
  | .sc (.int k n) => match op with
    | .neg => Eff.put (.sc (.int k (k.wrap (0 - n))))
    | .xor => Eff.put (.sc (.int k (bitsI .xor k (if k.signed then -1 else k.max) n)))
    | _ => Eff.no
  | .sc (.bool b) => match op with
    | .not => Eff.put (.sc (.bool !b))
    | _ => Eff.no
  | _ => Eff.no

def allU8 : List V → Bool
  | [] => true
  | x :: xs => x.isInt .u8 && allU8 xs

def semConvert (d : Nat) (rd : Nm → Option Rg) (src dst : TypeId) (x : V) : Eff :=
  match P.underlying src, P.underlying dst with
  | some _, some (.int k) => match x with
    | .sc (.int _ n) => Eff.put (.sc (.int k (k.wrap n)))
    | _ => Eff.no
  | some .string, some .string => match x with
    | .sc (.string s) => Eff.put (.sc (.string s))
    | _ => Eff.no
  | some .string, some (.slice e) => match P.underlying e, x with
    | some (.int .u8), .sc (.string s) => Eff.when (roomy s.size && Nat.beq (szT P e) 1) (newReg d rd ⟨false, [.own e false (bytesV s)]⟩ (.ref ⟨.loc d, 0, [], e, false⟩) .no)
    | _, _ => Eff.no
  | some (.slice e), some .string => match P.underlying e with
    | some (.int .u8) => let s := sliOf P rd e x
      Eff.when (s.ok && Nat.beq (szT P e) 1 && !s.d && allU8 s.xs) (Eff.put (.sc (.string (strOfCells s.xs))))
    | _ => Eff.no
  | _, _ => Eff.no

def semMinMax (isMax : Bool) : V → V → Eff
  | .sc (.int k x), .sc (.int k' y) => Eff.when (decide (k = k')) (Eff.put (.sc (.int k (bif isMax then (bif decide (y > x) then y else x) else (bif decide (y < x) then y else x)))))
  | _, _ => Eff.no

/-- What an assignment to a variable's slot does: a whole own slice takes the slot's name. -/
def semAssign (d : Nat) (rd : Nm → Option Rg) (x : V) : Eff :=
  match x with
  | .nl e => newReg d rd ⟨false, [.own e (deep e) []]⟩ (.ref ⟨.loc d, 0, [], e, deep e⟩) .no
  | .ref ⟨r, 0, [], _, _⟩ => match rd r with
    | some ⟨false, [.own e dp xs]⟩ => bif Nm.eq r (.loc d) then Eff.put x else
      newReg d (setR rd r none) ⟨false, [.own e dp xs]⟩ (.ref ⟨.loc d, 0, [], e, dp⟩) ⟨[], [], [r]⟩
    | _ => Eff.put x
  | .vw ⟨r, 0, [], _, _⟩ 0 hi => match rd r with
    | some ⟨false, [.own e dp xs]⟩ => newReg d (setR rd r none) ⟨false, [.own e dp (xs.take (hi * szT P e))]⟩ (.ref ⟨.loc d, 0, [], e, dp⟩) ⟨[], [], [r]⟩
    | _ => Eff.put x
  | x => Eff.put x

def intV : V → Option Int
  | .sc (.int _ n) => some n
  | _ => none

def optInt : List V → Option (List Int)
  | [] => some []
  | .sc (.int _ n) :: l => match optInt l with | some r => some (n :: r) | none => none
  | _ :: _ => none

def partCells : V → List V
  | .ag xs => xs
  | x => [x]
/-- The parts of a struct or an array are laid over the zero value. -/
def placeParts : List (Nat × V) → List V → Bool × List V
  | [], row => (true, row)
  | (off, x) :: ps, row =>
    placeParts ps (setMany off (partCells x) row)

end sem
end Go.Ab
