/- The abstract machine, second part: operations, code, calls. Definitions alone; nothing is assumed. -/
import Derived.Test.YtnjgofgogeileaaE1
namespace Go.Ab
open Go

/-! ### what an operation reads -/
def argsOf (P : Program) (o : Oper) : List (TypeId × Operand) :=
  match o.op with
  | .move x | .assign x => [(o.type, x)]
  | .pick c a b => [(0, c), (o.type, a), (o.type, b)]
  | .alloc _ => []
  | .box t x => [(t, x)]
  | .build t ps => ps.toList.map fun (i, x) => ((match P.underlying t with
      | some (.struct fs) => (match fs[i]? with | some f => f.type | none => 0)
      | some (.array _ e) => e
      | _ => 0), x)
  | .buildSlice t _ ps => ps.toList.map fun (_, x) => ((elT P t).getD 0, x)
  | .load _ a => [(0, a)]
  | .store t a x => [(0, a), (t, x)]
  | .nilCheck x => [(0, x)]
  | .binOp _ t x y _ => [(t, x), (t, y)]
  | .unOp _ t x => [(t, x)]
  | .convert s _ x => [(s, x)]
  | .makeInterface t x => [(t, x)]
  | .makeFunc _ first caps => (first ++ caps).toList.map fun x => (0, x)
  | .makeSlice _ l c => [(0, l), (0, c)]
  | .slice t x lo hi _ => (t, x) :: (lo.toList ++ hi.toList).map fun x => (0, x)
  | .fieldAddr t x _ => [(t, x)]
  | .field t x _ => [(t, x)]
  | .indexAddr t x i => [(t, x), (0, i)]
  | .index t x i => [(t, x), (0, i)]
  | .extract x _ => [(0, x)]
  | .call c => (match c.callee with
      | .value f => [(0, f)]
      | .invoke r _ => [(0, r)]
      | .builtin _ => []) ++ c.argTypes.toList.zip c.args.toList
  | _ => []

def offOf (P : Program) (t : TypeId) (i : Nat) : Nat :=
  match P.underlying t with
  | some (.struct fs) => (match fs[i]? with | some f => f.offset | none => 0)
  | some (.array _ e) => i * szT P e
  | _ => 0

section sem
variable (P : Program) (deep : TypeId → Bool)

def V.isPart : V → Bool
  | .bad | .tp _ | .own _ _ _ | .slf => false
  | _ => true
def partLen : V → Nat
  | .ag xs => xs.length
  | _ => 1
def partTy (t : TypeId) (i : Nat) : Option TypeId :=
  match P.underlying t with
  | some (.struct fs) => (fs[i]?).map (·.type)
  | some (.array _ e) => some e
  | _ => none
def partOk (t : TypeId) (p : Nat × V) : Bool :=
  match partTy P t p.1 with
  | some c => p.2.isPart && Nat.beq (partLen p.2) (szT P c) && Nat.ble (offOf P t p.1 + szT P c) (szT P t)
  | none => false
def bldOk (t : TypeId) : Bool :=
  (match P.underlying t with
  | some (.struct fs) => fs.toList.all fun f => (P.info? f.type).isSome
  | some (.array _ e) => (P.info? e).isSome
  | _ => false) && (match P.info? t with | some i => i.zero.isSome | none => false)

def semBuild (t : TypeId) (ps : List Nat) (vs : List V) : Eff :=
  let z := zeroEnv P t
  let l := ps.zip vs
  Eff.when (bldOk P t && Nat.beq z.length (szT P t) && Nat.beq (zeroCells P t).length (cellsT P t).length && l.all (partOk P t))
    (Eff.put (.ag (placeParts (l.map fun p => (offOf P t p.1, p.2)) z).2))

/-- The parts of a slice that is written out: each is taken in, in turn. -/
structure AbsP where
  ok : Bool
  l : List (List V)
  rd : Nm → Option Rg
  k : Kl

def absParts (keep : Bool) : List V → (Nm → Option Rg) → AbsP
  | [], rd => ⟨true, [], rd, .no⟩
  | x :: xs, rd =>
    let a := absV P deep keep rd x
    let r := absParts keep xs a.rd
    ⟨a.ok && r.ok, a.xs :: r.l, r.rd, a.k.and r.k⟩

def denseL : Nat → List Nat → Bool
  | _, [] => true
  | k, i :: l => Nat.beq i k && denseL (k + 1) l

def semBuildSlice (d : Nat) (rd : Nm → Option Rg) (t : TypeId) (n : Nat) (ps : List Nat) (vs : List V) : Eff :=
  match elT P t with
  | none => Eff.no
  | some e =>
    let a := absParts P deep (deep e) vs rd
    Eff.when (a.ok && tyOk P e && Nat.blt 0 (szT P e) && Nat.beq (zeroCells P e).length (szT P e) && Nat.ble (n * szT P e) 16777216 && a.l.all (fun cs => Nat.beq cs.length (szT P e))
        && denseL 0 ps && Nat.beq ps.length n && Nat.beq vs.length n && vs.all V.isPart && vs.all (fun x => Nat.beq (partLen x) (szT P e)))
      (newReg d a.rd ⟨false, [.own e (deep e) a.l.flatten]⟩ (.ref ⟨.loc d, 0, [], e, deep e⟩) a.k)

def semField (t : TypeId) (f : Nat) : V → Eff
  | .ag xs => match fieldT P t f with
    | some fd => bif aggT P fd.type then Eff.when (tyOk P fd.type && Nat.ble (fd.offset + szT P fd.type) xs.length) (Eff.put (.ag ((xs.drop fd.offset).take (szT P fd.type))))
        else Eff.when (tyOk P fd.type && Nat.blt fd.offset xs.length) (Eff.put (nthV xs fd.offset))
    | none => Eff.no
  | _ => Eff.no

def semFieldAddr (t : TypeId) (f : Nat) (x : V) : Eff :=
  match fieldT P t f with
  | some fd => Eff.when (!(Nat.beq (szT P fd.type) 0)) (match x with
    | .ptrB r j => Eff.put (.ptrB r (j + fd.offset))
    | .ptrE q i off => Eff.put (.ptrE q i (off + fd.offset))
    | .pim n xs off => Eff.put (.pim n xs (off + fd.offset))
    | _ => Eff.no)
  | none => Eff.no

def semBuiltin (dst : Option Nat) (rd : Nm → Option Rg) (c : Call) (vs : List V) : Eff :=
  match c.callee, c.argTypes.toList, c.args.toList, vs with
  | .builtin .len, [t], [_], [x] => semLen P rd t x
  | .builtin .append, [t, xt], [_, _], [s, x] => match dst with
    | some d => semAppend P deep d rd t xt s x
    | none => Eff.no
  | .builtin .max, _, [_, _], [x, y] => semMinMax true x y
  | .builtin .min, _, [_, _], [x, y] => semMinMax false x y
  | _, _, _, _ => Eff.no

def on1 (vs : List V) (f : V → Eff) : Eff := match vs with | [x] => f x | _ => Eff.no
def on2 (vs : List V) (f : V → V → Eff) : Eff := match vs with | [x, y] => f x y | _ => Eff.no
def on3 (vs : List V) (f : V → V → V → Eff) : Eff := match vs with | [x, y, z] => f x y z | _ => Eff.no
def onDst (d : Option Nat) (f : Nat → Eff) : Eff := match d with | some d => f d | none => Eff.no
def onBool (v : V) (f : Bool → Eff) : Eff := match v with | .sc (.bool b) => f b | _ => Eff.no
def onInt (v : V) (f : Int → Eff) : Eff := match v with | .sc (.int _ n) => f n | _ => Eff.no
def onStr (v : V) (f : ByteArray → Eff) : Eff := match v with | .sc (.string s) => f s | _ => Eff.no
def onTp (v : V) (f : List V → Eff) : Eff := match v with | .tp xs => f xs | _ => Eff.no
def onPtr (v : V) : Eff := match v with
  | .ptrB _ _ | .ptrE _ _ _ | .pim _ _ _ => Eff.put v
  | _ => Eff.no
def notIface (t : TypeId) : Bool := !(match P.underlying t with | some (.interface _) => true | none => true | _ => false)

def semSliceOp (rd : Nm → Option Rg) (t : TypeId) (lo hi : Bool) (vs : List V) : Eff :=
  match lo, hi, vs with
  | false, false, [x] => semSlice P rd t x none none
  | true, false, [x, l] => onInt l fun l => semSlice P rd t x (some l) none
  | false, true, [x, h] => onInt h fun h => semSlice P rd t x none (some h)
  | true, true, [x, l, h] => onInt l fun l => onInt h fun h => semSlice P rd t x (some l) (some h)
  | _, _, _ => Eff.no

def sem (o : Oper) (vs : List V) (rd : Nm → Option Rg) : Eff :=
  match o.op with
  | .move _ => on1 vs Eff.put
  | .assign _ => on1 vs fun x => onDst o.dst fun d => semAssign P deep d rd x
  | .pick _ _ _ => on3 vs fun c a b => onBool c fun t => Eff.put (bif t then a else b)
  | .alloc t => onDst o.dst fun d =>
      Eff.when (tyOk P t && zeroOne P t && Nat.blt 0 (szT P t) && Nat.beq (zeroCells P t).length (szT P t)) (newReg d rd ⟨true, zeroRow P deep true t⟩ (.ptrB (.loc d) 0) .no)
  | .box t _ => on1 vs fun x => onDst o.dst fun d => let a := absV P deep true rd x
      Eff.when (a.ok && tyOk P t && Nat.beq a.xs.length (szT P t)) (newReg d a.rd ⟨true, a.xs⟩ (.ptrB (.loc d) 0) a.k)
  | .build t ps => semBuild P t (ps.toList.map (·.1)) vs
  | .buildSlice t n ps => onDst o.dst fun d => semBuildSlice P deep d rd t n (ps.toList.map (·.1)) vs
  | .load t _ => on1 vs (semLoad P deep rd t)
  | .store t _ _ => on2 vs fun p x => semStore P deep rd t x p
  | .nilCheck _ => on1 vs onPtr
  | .binOp op t _ _ _ => on2 vs (semBin P op t)
  | .unOp op _ _ => on1 vs (semUn op)
  | .convert s t _ => on1 vs fun x => onDst o.dst fun d => semConvert P d rd s t x
  | .makeInterface t _ => on1 vs fun x => Eff.when (x.imm && notIface P t) (Eff.put (.ifc t x))
  | .makeFunc (.func f) first _ => Eff.put (.fn f (vs.take first.size) (vs.drop first.size))
  | .makeSlice t _ _ => on2 vs fun l c => onInt l fun l => onInt c fun c => onDst o.dst fun d => semMake P deep d rd t l c
  | .slice t _ lo hi none => semSliceOp P rd t lo.isSome hi.isSome vs
  | .fieldAddr t _ f => on1 vs (semFieldAddr P t f)
  | .field t _ f => on1 vs (semField P t f)
  | .indexAddr t _ _ => on2 vs fun x i => onInt i fun n => semIndexAddr P rd t x n
  | .index t _ _ => on2 vs fun x i => onStr x fun s => onInt i fun n => Eff.when (isStrT P t && decide (0 ≤ n) && decide (n < (s.size : Int))) (Eff.put (.sc (.int .u8 (s.data.getD n.toNat 0).toNat)))
  | .extract _ i => on1 vs fun x => onTp x fun xs => Eff.when (Nat.blt i xs.length) (Eff.put (nthV xs i))
  | .call c => semBuiltin P deep o.dst rd c vs
  | _ => Eff.no

/-- The regions that an operation looks into, or makes. -/
def touch (o : Oper) (vs : List V) : List Nm :=
  match o.op with
  | .move _ | .pick _ _ _ | .build _ _ | .nilCheck _ | .binOp _ _ _ _ _ | .unOp _ _ _ | .makeInterface _ _ | .makeFunc _ _ _ | .fieldAddr _ _ _ | .field _ _ _ | .extract _ _ => []
  | .alloc _ | .box _ _ | .buildSlice _ _ _ | .assign _ | .makeSlice _ _ _ | .convert _ _ _ | .call _ => (match o.dst with | some d => [.loc d] | none => []) ++ namesL vs
  | _ => namesL vs

def only (T : List Nm) (rd : Nm → Option Rg) : Nm → Option Rg := fun n => bif n.mem T then rd n else none

end sem

/-! ### states -/
def isDst (d : Option Nat) (i : Nat) : Bool := match d with | some d => Nat.beq i d | none => false

def St.app (st : St) (e : Eff) (d : Option Nat) : St :=
  { env := fun i => bif isDst d i then e.val else (bif e.k.isNo then st.env i else (st.env i).kill e.k)
    regs := fun n => bif n.mem e.w then e.regs n else st.regs n }

def St.set (st : St) (d : Option Nat) (v : V) : St := { st with env := fun i => bif isDst d i then v else st.env i }

/-- Only some slots and regions are kept. -/
def St.keepOnly (st : St) (L : List Nat) (R : List Nm) : St :=
  { env := fun i => (lookN i (L.zip (L.map fun j => bif (st.env j).names.all (fun n => n.mem R) then st.env j else .bad))).getD V.bad
    regs := fun n => (lookR n (R.zip (R.map st.regs))).getD none }
where
  lookN (i : Nat) : List (Nat × V) → Option V
    | [] => none
    | (j, v) :: l => bif Nat.beq i j then some v else lookN i l
  lookR (n : Nm) : List (Nm × Option Rg) → Option (Option Rg)
    | [] => none
    | (m, v) :: l => bif Nm.eq n m then some v else lookR n l

/-! ### results and arguments of calls -/
inductive Sh where
  | i (k : IntKind) | b | s
  | sl (sz : Nat)
  | own (e : TypeId) (d : Bool)
  | ag (l : List Sh)
  | tp (l : List Sh)
  | any
  deriving Inhabited

def V.isAg (n : Nat) : V → Bool
  | .ag xs => Nat.beq xs.length n
  | _ => false
def V.isTp (n : Nat) : V → Bool
  | .tp xs => Nat.beq xs.length n
  | _ => false
def V.partsOf : V → List V
  | .ag xs => xs
  | .tp xs => xs
  | _ => []

mutual
def Sh.re : Sh → V → Bool × V
  | .i k, v => (v.isInt k, .sc (.int k v.intOf))
  | .b, v => (v.isBool, .sc (.bool v.boolOf))
  | .s, v => (v.isStr, .sc (.string v.strOf))
  | .sl sz, v => (v.isSl sz, .sl sz v.cellsOf)
  | .own e d, v => (v.isOwnD e d, .own e d v.cellsOf)
  | .ag l, v => let r := Sh.reL l v.partsOf 0; (v.isAg l.length && r.1, .ag r.2)
  | .tp l, v => let r := Sh.reL l v.partsOf 0; (v.isTp l.length && r.1, .tp r.2)
  | .any, v => (true, v)
def Sh.reL : List Sh → List V → Nat → Bool × List V
  | [], _, _ => (true, [])
  | h :: l, xs, k => let a := h.re (nthV xs k)
    let r := Sh.reL l xs (k + 1)
    (a.1 && r.1, a.2 :: r.2)
end

/- Own slices become ones that nobody writes, where the shape asks it. -/
mutual
def Sh.coe (P : Program) : Sh → V → V
  | .sl _, .own e d xs => frz P (.own e d xs)
  | .ag l, .ag xs => .ag (Sh.coeL P l xs)
  | _, v => v
def Sh.coeL (P : Program) : List Sh → List V → List V
  | h :: l, x :: xs => h.coe P x :: Sh.coeL P l xs
  | _, xs => xs
end

/- The own slices of what a call hands back get names. -/
mutual
def V.land (n : Nm) (j : Nat) : V → V × List V
  | .own e dp xs => (.ref ⟨n, j, [], e, dp⟩, [.own e dp xs])
  | .ag xs => let r := landL n j xs; (.ag r.1, r.2)
  | .tp xs => let r := landL n j xs; (.tp r.1, r.2)
  | v => (v, [])
def landL (n : Nm) (j : Nat) : List V → List V × List V
  | [] => ([], [])
  | x :: xs => let a := x.land n j
    let r := landL n (j + a.2.length) xs
    (a.1 :: r.1, a.2 ++ r.2)
end

mutual
def V.refNames : V → List Nm
  | .ag xs => refNamesL xs
  | .ref q => [q.r]
  | .vw q _ _ => [q.r]
  | _ => []
def refNamesL : List V → List Nm
  | [] => []
  | x :: xs => x.refNames ++ refNamesL xs
end

/- Is a part of a value dead? -/
mutual
def V.dead : V → Bool
  | .bad => true
  | .ag xs => deadL xs
  | .tp xs => deadL xs
  | .fn _ a b => deadL a || deadL b
  | .ifc _ v => v.dead
  | _ => false
def deadL : List V → Bool
  | [] => false
  | x :: xs => x.dead || deadL xs
end

/- Own slices of some regions are nobody's any more: their names become values. -/
mutual
def V.fz (P : Program) (rd : Nm → Option Rg) (ns : List Nm) : V → V
  | .ag xs => .ag (fzL P rd ns xs)
  | .tp xs => .tp (fzL P rd ns xs)
  | .fn f a b => .fn f (fzL P rd ns a) (fzL P rd ns b)
  | .ifc t v => .ifc t (v.fz P rd ns)
  | .ref q => bif q.r.mem ns then (bif q.p.isEmpty && (ownB rd q).1 then frz P (.own q.e q.d (ownB rd q).2) else .bad) else .ref q
  | .vw q lo hi => bif q.r.mem ns then (bif q.p.isEmpty && (ownB rd q).1 then frz P (.own q.e q.d (((ownB rd q).2.drop (lo * szT P q.e)).take ((hi - lo) * szT P q.e))) else .bad) else .vw q lo hi
  | .ptrB r j => bif r.mem ns then .bad else .ptrB r j
  | .ptrE q i o => bif q.r.mem ns then .bad else .ptrE q i o
  | v => v
def fzL (P : Program) (rd : Nm → Option Rg) (ns : List Nm) : List V → List V
  | [] => []
  | x :: xs => x.fz P rd ns :: fzL P rd ns xs
end

def St.fz (P : Program) (st : St) (ns : List Nm) : St :=
  { env := fun i => (st.env i).fz P st.regs ns
    regs := fun n => bif n.mem ns then none else st.regs n }

mutual
def Sh.scalar : Sh → Bool
  | .i _ | .b | .s => true
  | .ag l => scalarL l
  | .tp l => scalarL l
  | _ => false
def scalarL : List Sh → Bool
  | [] => true
  | h :: l => h.scalar && scalarL l
end

def dedup : List Nm → List Nm
  | [] => []
  | n :: l => bif n.mem l then dedup l else n :: dedup l

def idxOf (n : Nm) : List Nm → Nat
  | [] => 0
  | m :: l => bif Nm.eq n m then 0 else idxOf n l + 1

def allSome : List (Option Rg) → Option (List Rg)
  | [] => some []
  | some g :: l => match allSome l with | some r => some (g :: r) | none => none
  | none :: _ => none

def zipSet : List Nm → List Rg → (Nm → Option Rg) → (Nm → Option Rg)
  | n :: ns, g :: gs, rd => zipSet ns gs (setR rd n (some g))
  | _, _, rd => rd

/-- The parameters of the machine: which element types may hold own slices in a function; which functions take slices by name; the shapes of what calls hand back; what is kept at heads of loops and behind branches. -/
structure Cfg where
  P : Program
  deep : FuncId → TypeId → Bool
  byName : FuncId → Bool
  sig : FuncId → Sh
  ann : FuncId → List Nat → Option (List Nat × List Nm)
  cut : FuncId → List Nat → Bool

abbrev PrimT := List V → List Rg → Bool × V × List Rg
abbrev CallK := FuncId → PrimT

section call
variable (C : Cfg)

structure Prep where
  ok : Bool
  vs : List V
  bn : List Nm
  bv : List Nm

def prep (g : FuncId) (rd : Nm → Option Rg) (vs : List V) : Prep :=
  let vs1 := bif C.byName g then vs else byValL C.P rd vs
  let bn := dedup (namesL vs1)
  let bv := bif C.byName g then [] else dedup (refNamesL vs)
  ⟨bv.all (fun n => !(n.mem bn)) && (C.byName g || seenL rd vs), renL (fun n => .par (idxOf n bn)) vs1, bn, bv⟩

def Rg.lone (g : Rg) : Bool := match g with
  | ⟨false, [_]⟩ => true
  | _ => false
def roots : List Nm → List Rg → List Nm
  | n :: ns, g :: gs => bif g.lone then roots ns gs else n :: roots ns gs
  | _, _ => []

def ddOf : Option Nat → Nat
  | some d => d
  | none => 0

def semRet (d : Option Nat) (rd : Nm → Option Rg) (bn : List Nm) (gs0 : List Rg) (sh : Sh) (res : V) (gs : List Rg) : Eff :=
  let r := sh.re res
  let dd := ddOf d
  let l := r.2.land (.loc dd) 0
  let rd1 := zipSet bn gs rd
  let nw := d.isSome && !l.2.isEmpty
  Eff.when (r.1 && r.2.names.isEmpty && Nat.beq gs.length bn.length && (d.isSome || l.2.isEmpty))
    ⟨true, l.1, bif nw then setR rd1 (.loc dd) (some ⟨false, l.2⟩) else rd1, (bif nw then [.loc dd] else []) ++ bn, ⟨bn, roots bn gs0, bif nw then [.loc dd] else []⟩⟩

end call

inductive Ex where
  | nm
  | ex (id : Nat)
  | rt
  deriving Inhabited, DecidableEq

/-- What an operation has touched, written, unnamed, named: for regions whose order is open; 'bad': it is not fit for them. -/
structure Foot where
  t : List Nm
  w : List Nm
  k : List Nm
  n : List Nm
  bad : Bool

def Foot.nil : Foot := ⟨[], [], [], [], false⟩
def noMeet (a b : List Nm) : Bool := a.all fun n => !(n.mem b)
def Foot.apart (a b : Foot) : Bool := noMeet a.w b.t && noMeet b.w a.t && noMeet a.w b.w && noMeet a.k b.n && noMeet b.k a.n

section exec
variable (C : Cfg) (callK : CallK) (fid : FuncId)

def footOf (o : Oper) (vs : List V) (e : Eff) : Foot := ⟨touch o vs, e.w, e.k.names, namesL vs ++ e.val.names, deadL vs⟩

/-- Is the operation apart from the ones that were run, but need not have been run ahead of it? -/
def apartLog (ops : Array Oper) (bef : Nat) (o : Oper) : List (Nat × Oper × Foot) → Foot → Bool
  | [], _ => true
  | (i, x, f) :: l, g => (bef.testBit i || (f.apart g && x.apart ops o)) && apartLog ops bef o l g

variable {R : Type}

/-- One operation that is wanted. -/
def opK (o : Oper) (st : St) (κ : St → Foot → Option R) : Option R :=
  let vs := (argsOf C.P o).map (opd C.P st.env)
  let rd := only (touch o vs) st.regs
  match o.op, vs with
  | .call ⟨.value _, xs, _⟩, (.fn g first caps) :: ws =>
    let p := prep C g rd (first ++ ws ++ caps)
    let fr := !((C.sig g).scalar && p.bn.isEmpty) && !p.bv.isEmpty
    bif p.ok && Nat.beq ws.length xs.size then
      match allSome (p.bn.map rd) with
      | some gs =>
        let r := callK g p.vs gs
        let st1 := bif fr then st.fz C.P p.bv else st
        let e := semRet o.dst (only (touch o vs) st1.regs) p.bn gs (C.sig g) r.2.1 r.2.2
        bif r.1 && e.ok then κ (st1.app e o.dst) ⟨touch o vs, e.w, e.k.names, namesL vs ++ e.val.names, fr || deadL vs⟩ else none
      | none => none
    else none
  | _, _ =>
    let e := sem C.P (C.deep fid) o vs rd
    bif e.ok then κ (st.app e o.dst) (footOf o vs e) else none

def guardDst (ops : Array Oper) (g : Nat) : Option Nat := (ops[g]?).bind (·.dst)

/-- The operations of a region, one after the other. 'bef': who must have been run ahead of whom, where the order is open. -/
def opsK (ops : Array Oper) (bef : Option (Array Nat)) : List Oper → Nat → List (Nat × Oper × Foot) → St → (St → Option R) → Option R
  | [], _, _, st, κ => κ st
  | o :: rest, i, log, st, κ =>
    let go (st : St) : Option R := opK C callK fid o st fun st' f =>
      match bef with
      | none => opsK ops bef rest (i + 1) log st' κ
      | some b => bif !f.bad && apartLog ops (b.getD i 0) o log f then opsK ops bef rest (i + 1) ((i, o, f) :: log) st' κ else none
    let no (st : St) : Option R := match bef with
      | none => opsK ops bef rest (i + 1) log st κ
      | some b => bif apartLog ops (b.getD i 0) o log Foot.nil then opsK ops bef rest (i + 1) ((i, o, Foot.nil) :: log) st κ else none
    match o.guard with
    | none => go st
    | some (g, want) => match guardDst ops g with
      | none => none
      | some t => match st.env t with
        | .sc (.bool c) =>
          bif c then
            (bif want then go (st.set (some t) (.sc (.bool true))) else no ((st.set (some t) (.sc (.bool true))).set o.dst (.tp [])))
          else
            (bif want then no ((st.set (some t) (.sc (.bool false))).set o.dst (.tp [])) else go (st.set (some t) (.sc (.bool false))))
        | .tp [] => no (st.set o.dst (.tp []))
        | _ => none

/-- Does every operation wait for earlier ones alone? -/
def edgesBack (ops : Array Oper) : Bool := ops.toList.zipIdx.all fun x => x.1.after.toList.all fun e => !Region.binds .any e || Nat.blt e.on x.2

def forget (p : List Nat) (st : St) : St :=
  match C.ann fid p with
  | some (L, R) => st.keepOnly L R
  | none => st

/-- Code. 'rec': how loops, and pieces that are cut off, run. -/
def execC (rec : Code → List Nat → St → (Ex → St → Option R) → Option R) : Code → List Nat → St → (Ex → St → Option R) → Option R
  | .skip, _, st, κ => κ .nm st
  | .region _ ops draw, _, st, κ => bif draw then (bif edgesBack ops then opsK C callK fid ops (some (Region.before ops)) ops.toList 0 [] st (κ .nm) else none) else opsK C callK fid ops none ops.toList 0 [] st (κ .nm)
  | .seq a b, p, st, κ => execC rec a (0 :: p) st fun e st' => match e with
    | .nm => bif C.cut fid (1 :: p) then rec b (1 :: p) (forget C fid (1 :: p) st') κ else execC rec b (1 :: p) (forget C fid (1 :: p) st') κ
    | e => κ e st'
  | .cond c a b, p, st, κ => match opd C.P st.env (0, c) with
    | .sc (.bool t) => bif t then execC rec a (0 :: p) st κ else execC rec b (1 :: p) st κ
    | _ => none
  | .block id a, p, st, κ => execC rec a (0 :: p) st fun e st' => match e with
    | .ex i => bif Nat.beq i id then κ .nm st' else κ (.ex i) st'
    | e => κ e st'
  | .loop a, p, st, κ => rec (.loop a) p (forget C fid p st) κ
  | .exit id, _, st, κ => κ (.ex id) st
  | .ret, _, st, κ => κ .rt st
  | _, _, _, _ => none

end exec

/-! ### fuel -/
section fuel
variable (C : Cfg) (prim : FuncId → Option PrimT)

/-- A result: its cells are taken, out of the regions that it names. -/
def takeRes (deep : TypeId → Bool) (rd : Nm → Option Rg) (x : V) : Bool × V × (Nm → Option Rg) :=
  let T := x.names
  let a := absV C.P deep true (only T rd) x
  (a.ok, (match x with | .ag _ => .ag a.xs | _ => nthV a.xs 0), fun n => bif n.mem T then a.rd n else rd n)

/-- What a function's results read. -/
def resVal (deep : TypeId → Bool) (st : St) : ResultVar → Bool × V
  | .tmp t => (true, st.env t)
  | .cell a t => let e := semLoad C.P deep (only (st.env a).names st.regs) t (st.env a); (e.ok, e.val)
def resVals (deep : TypeId → Bool) (st : St) : List ResultVar → Bool × List V
  | [] => (true, [])
  | r :: l => let a := resVal C deep st r
    let b := resVals deep st l
    (a.1 && b.1, a.2 :: b.2)

/-- Results, taken one after the other. -/
def takeAll (deep : TypeId → Bool) : List V → (Nm → Option Rg) → Bool × List V × (Nm → Option Rg)
  | [], rd => (true, [], rd)
  | x :: l, rd =>
    let a := takeRes C deep rd x
    let r := takeAll deep l a.2.2
    (a.1 && r.1, a.2.1 :: r.2.1, r.2.2)

def shParts : Sh → List Sh
  | .tp l => l
  | h => [h]

def endOf (fid : FuncId) (rs : List ResultVar) (np : Nat) (st : St) : Option (V × List Rg) :=
  let q := resVals C (C.deep fid) st rs
  let r := takeAll C (C.deep fid) q.2 st.regs
  let vs := Sh.coeL C.P (shParts (C.sig fid)) r.2.1
  bif q.1 && r.1 && Nat.ble rs.length 3 then
    match allSome ((List.range np).map fun i => r.2.2 (.par i)) with
    | some gs => some (match vs with | [v] => v | vs => .tp vs, gs)
    | none => none
  else none

def stOf (args : List V) (gs : List Rg) : St :=
  { env := fun i => nthV args i
    regs := fun n => match n with | .par i => gs[i]? | _ => none }

/-- Does every operation write a slot that is there? -/
def codeOk (N : Nat) : Code → Bool
  | .region _ ops _ => ops.toList.all fun o => match o.dst with | some d => Nat.blt d N | none => true
  | .seq x y => codeOk N x && codeOk N y
  | .cond _ x y => codeOk N x && codeOk N y
  | .block _ x => codeOk N x
  | .loop x => codeOk N x
  | _ => true

/-- A function's call, given how its loops and its calls run. -/
def callBody (E : FuncId → Code → List Nat → St → (Ex → St → Option (V × List Rg)) → Option (V × List Rg)) (f : FuncId) (args : List V) (gs : List Rg) : Option (V × List Rg) :=
  match prim f with
  | some g => let r := g args gs
    bif r.1 then some r.2 else none
  | none => match C.P.funcs[f]? with
    | some fn => match fn.body with
      | some c => bif codeOk fn.ntmps c && Nat.ble args.length fn.ntmps && !(fn.name == "runtime.NumGoroutine") then
          E f c [] (stOf args gs) fun e st => match e with
          | .ex _ => none
          | _ => endOf C f fn.results.toList gs.length st
        else none
      | none => none
    | none => none

def optK (K : FuncId → List V → List Rg → Option (V × List Rg)) : CallK := fun g vs gs => match K g vs gs with
  | some r => (true, r)
  | none => (false, .bad, [])

/-- Loops and pieces of code, with so much fuel. -/
def recE : Nat → (R : Type) → FuncId → Code → List Nat → St → (Ex → St → Option R) → Option R
  | 0, _, _ => fun _ _ _ _ => none
  | k + 1, R, f => fun c p st κ => match c with
    | .loop a => execC C (optK (callBody C prim (recE k (V × List Rg)))) f (recE k R f) a (0 :: p) st fun e s => match e with
      | .nm => recE k R f (.loop a) p (forget C f p s) κ
      | e => κ e (forget C f (9 :: p) s)
    | c => execC C (optK (callBody C prim (recE k (V × List Rg)))) f (recE k R f) c p st fun e s => κ e (forget C f (9 :: p) s)

def callE (k : Nat) : FuncId → List V → List Rg → Option (V × List Rg) := callBody C prim (recE C prim k (V × List Rg))

end fuel
end Go.Ab
