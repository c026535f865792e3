/- What it means that memory reads as the machine's values: readings, own slices, the state's invariant. -/
import Derived.Test.YtnjgofgogeileaaE2
import Derived.Below
import Derived.Laws.AppendOwn
namespace Go.Ab
open Go

/-- The bones of an own slice: its block, its number of elements, its capacity, an element's cells, and the cells' own bones. -/
inductive Sk where
  | leaf
  | nil
  | node (g n cap sz : Nat) (cs : List Sk)
  deriving Inhabited

mutual
def Sk.fp : Sk → List Nat
  | .node g _ _ _ cs => g :: fpL cs
  | _ => []
def fpL : List Sk → List Nat
  | [] => []
  | s :: l => s.fp ++ fpL l
end

def nthS : List Sk → Nat → Sk
  | [], _ => .leaf
  | x :: _, 0 => x
  | _ :: l, j + 1 => nthS l j

def skCells : Sk → List Sk
  | .node _ _ _ _ cs => cs
  | _ => []
def getSk : List Nat → List Sk → Nat → Sk
  | [], row, j => nthS row j
  | i :: p, row, j => getSk p (skCells (nthS row j)) i
def skSetCells (f : List Sk → List Sk) : Sk → Sk
  | .node g n cap sz cs => .node g n cap sz (f cs)
  | s => s
def setSk : List Nat → List Sk → Nat → Sk → List Sk
  | [], row, j, x => row.set j x
  | i :: p, row, j, x => row.set j (skSetCells (fun cs => setSk p cs i x) (nthS row j))

/-- A region's bones: its block, where it is a box; the values of its root cells; their bones. -/
structure RG where
  b : Option Nat
  vals : List Value
  sks : List Sk

def RG.fp (R : RG) : List Nat := R.b.toList ++ fpL R.sks

abbrev GM := Nm → Option RG
def noGM : GM := fun _ => none

def skAt (gm : GM) (q : Pl) : Sk := match gm q.r with | some R => getSk q.p R.sks q.j | none => .leaf

/-- The value of a slice over the elements lo .. hi of an own one (behind the last cell of a block its address may be another). -/
def isHdr (g cap sz lo hi : Nat) (v : Value) : Prop :=
  ∃ o, v = .slice (some ⟨g, o, none⟩) (hi - lo) (cap - lo) ∧ (cap ≠ lo ∨ lo = 0 → o = lo * sz)

def nameRef (gm : GM) (q : Pl) (v : Value) : Prop :=
  match skAt gm q with
  | .node g n cap _ _ => v = .slice (some ⟨g, 0, none⟩) n cap
  | .nil => v = .slice none 0 0
  | .leaf => False
def nameVw (gm : GM) (q : Pl) (lo hi : Nat) (v : Value) : Prop :=
  match skAt gm q with
  | .node g n cap sz _ => lo ≤ hi ∧ hi ≤ n ∧ isHdr g cap sz lo hi v
  | .nil => lo = 0 ∧ hi = 0 ∧ v = .slice none 0 0
  | .leaf => False
def namePtrB (gm : GM) (r : Nm) (j : Nat) (v : Value) : Prop :=
  ∃ R b, gm r = some R ∧ R.b = some b ∧ v = .pointer (some ⟨b, j, none⟩)
def namePtrE (gm : GM) (q : Pl) (i off : Nat) (v : Value) : Prop :=
  match skAt gm q with
  | .node g n _ sz _ => i < n ∧ v = .pointer (some ⟨g, i * sz + off, none⟩)
  | _ => False

section read
variable (w : World) (G : Nat → Prop)

/-- Cells that lie at an address. -/
def CellsAt (a : Addr) (cs : List Value) : Prop := ∀ j v, cs[j]? = some v → w.cell? ⟨a.block, a.off + j, none⟩ = some v

/- A value reads as one of the machine's. -/
mutual
def Rv (gm : GM) : Value → V → Prop
  | v, .sc u => v = u ∧ flat u = true
  | v, .nl _ => v = .slice none 0 0
  | v, .sl sz xs => (v = .slice none 0 0 ∧ xs = []) ∨
      ∃ a n c cs, v = .slice (some a) n c ∧ (xs ≠ [] → a.spot = none) ∧ n ≤ c ∧ xs.length = n * sz ∧ 0 < sz ∧ CellsAt w a cs ∧ (xs ≠ [] → G a.block) ∧ RvL noGM cs xs ∧ cibL xs = true ∧ ∀ u ∈ cs, u.oneCell' = true
  | v, .ag xs => ∃ cs : Array Value, v = .agg cs ∧ RvL gm cs.toList xs
  | v, .tp xs => ∃ cs : Array Value, v = .tuple cs ∧ RvL gm cs.toList xs
  | v, .fn f a b => ∃ first caps : Array Value, v = .func (.func f) first caps ∧ RvL gm first.toList a ∧ RvL gm caps.toList b
  | v, .ifc t x => ∃ u, v = .iface t u ∧ Rv gm u x
  | v, .ref q => nameRef gm q v
  | v, .vw q lo hi => nameVw gm q lo hi v
  | v, .ptrB r j => namePtrB gm r j v
  | v, .ptrE q i off => namePtrE gm q i off v
  | v, .pim n xs off => ∃ b o cs, v = .pointer (some ⟨b, o + off, none⟩) ∧ xs.length = n ∧ CellsAt w ⟨b, o, none⟩ cs ∧ (xs ≠ [] → G b) ∧ RvL noGM cs xs
  | _, .own _ _ _ => False
  | _, .slf => False
  | _, .bad => True
def RvL (gm : GM) : List Value → List V → Prop
  | [], [] => True
  | v :: vs, x :: xs => Rv gm v x ∧ RvL gm vs xs
  | _, _ => False
end

variable (P : Program)
def frOk (fr : Nat × Nat) (n : Nat) : Prop := fr.2 ≤ fr.1 ∨ n ≤ fr.1

/- A cell's value, and what it owns. -/
mutual
def OwnC : Value → V → Sk → Prop
  | v, .own e d cells, s => match s with
    | .nil => v = .slice none 0 0 ∧ cells = []
    | .node g n cap sz sks => ∃ cur fr, v = .slice (some ⟨g, 0, none⟩) n cap ∧ w.heap[g]? = some (.cells cur e fr) ∧ frOk fr cur.size ∧
        cur.size = cap * sz ∧ 0 < sz ∧ szT P e = sz ∧ n ≤ cap ∧ cap ≤ maxLen ∧ cells.length = n * sz ∧
        OwnL (cur.toList.take (n * sz)) cells sks ∧ (d = false → cibL cells = true)
    | .leaf => False
  | v, .bad, s => s = .leaf ∧ v.oneCell' = true
  | v, .slf, s => s = .leaf ∧ v.oneCell' = true
  | v, x, s => s = .leaf ∧ x.cim = true ∧ Rv w G noGM v x
def OwnL : List Value → List V → List Sk → Prop
  | [], [], [] => True
  | v :: vs, x :: xs, s :: ss => OwnC v x s ∧ OwnL vs xs ss
  | _, _, _ => False
end

/-- A cell that names its own place. -/
def SelfOk (b : Nat) (row : List V) (vals : List Value) : Prop :=
  ∀ k : Nat, row[k]? = some V.slf → vals[k]? = some (Value.pointer none) ∨ vals[k]? = some (Value.pointer (some ⟨b, k, none⟩))

def RgOk (rg : Rg) (R : RG) : Prop :=
  rg.box = R.b.isSome ∧ OwnL w G P R.vals rg.row R.sks ∧ ∀ b, R.b = some b → (∃ t, w.heap[b]? = some (.cells R.vals.toArray t (0, 0))) ∧ SelfOk b rg.row R.vals
end read

/-- What a call has left as it was: all old blocks but those handed to it. -/
structure Keep (w0 : World) (F : Nat → Prop) (w : World) : Prop where
  os : w.os = w0.os
  tape : w.tape = w0.tape
  output : w.output = w0.output
  size : w0.heap.size ≤ w.heap.size
  block : ∀ k, k < w0.heap.size → ¬ F k → w.heap[k]? = w0.heap[k]?

/-- What a call may write of what was there (f), and what nobody wrote when it began (g). -/
structure FG where
  f : Nat → Prop
  g : Nat → Prop
  /-- the boxes that were handed in, and the heads of the lone own slices -/
  b : Nat → Option Nat
  h : Nat → Option Sk

/-- What a name's bones tell of its value. -/
def skHead : Sk → Sk
  | .node g n cap sz _ => .node g n cap sz []
  | s => s

/-- A region that was handed in is the box, or the lone own slice, that it was. -/
def ParOk (F : FG) (i : Nat) (R : RG) : Prop := R.b = F.b i ∧ ∀ s, F.h i = some s → R.b = none ∧ R.vals.length = 1 ∧ skHead (nthS R.sks 0) = s

/-- The regions of a state: each reads as it is named; no block is owned twice; what nobody writes is nobody's own. -/
structure Regs (P : Program) (w0 : World) (F : FG) (regs : Nm → Option Rg) (w : World) (G : Nat → Prop) (gm : GM) : Prop where
  reg : ∀ r, match regs r, gm r with
    | some rg, some R => RgOk w G P rg R
    | none, none => True
    | _, _ => False
  nodup : ∀ r R, gm r = some R → R.fp.Nodup
  disj : ∀ r r' R R', r ≠ r' → gm r = some R → gm r' = some R' → ∀ b, b ∈ R.fp → b ∉ R'.fp
  apart : ∀ r R b, gm r = some R → b ∈ R.fp → ¬ G b
  mine : ∀ r R b, gm r = some R → b ∈ R.fp → w0.heap.size ≤ b ∨ F.f b
  old : ∀ b, G b → b < w.heap.size
  keep : Keep w0 F.f w
  base : ∀ b, F.g b → G b
  grow : ∀ b, G b → F.g b ∨ w0.heap.size ≤ b ∨ F.f b
  par : ∀ i R, gm (.par i) = some R → ParOk F i R

structure Inv (P : Program) (w0 : World) (F : FG) (N : Nat) (st : St) (a : Act) (w : World) (G : Nat → Prop) (gm : GM) : Prop where
  regs : Regs P w0 F st.regs w G gm
  env : ∀ i, Rv w G gm (a.tmps.getD i undef) (st.env i)
  size : a.tmps.size = N
  defers : a.defers = []
  hand : st.regs .hand = none

/-! ### readings stand while what they read stands -/
theorem CellsAt.frame {w w' : World} {a : Addr} {cs : List Value} (h : CellsAt w a cs) (hb : w'.heap[a.block]? = w.heap[a.block]?) : CellsAt w' a cs := by
  intro j v hv
  rw [World.cell?_of_block (w := w) (a := ⟨a.block, a.off + j, none⟩) hb]
  exact h j v hv

theorem RvL.length {w : World} {G : Nat → Prop} {gm : GM} : ∀ {vs : List Value} {xs : List V}, RvL w G gm vs xs → vs.length = xs.length
  | [], [], _ => rfl
  | _ :: _, _ :: _, h => by simp only [RvL] at h; simp [RvL.length h.2]
  | [], _ :: _, h => by simp [RvL] at h
  | _ :: _, [], h => by simp [RvL] at h

theorem CellsAt.nil (w : World) (a : Addr) : CellsAt w a [] := by intro j v h; simp at h

section frame
variable {w w' : World} {G G' : Nat → Prop}
/- What is read stays, where its blocks, and what its names stand for, stay. -/
mutual
theorem Rv.frame (hG : ∀ k, G k → w'.heap[k]? = w.heap[k]?) (hGG : ∀ k, G k → G' k) (gm gm' : GM) :
    ∀ (x : V) (v : Value), (∀ n ∈ x.names, gm' n = gm n) → Rv w G gm v x → Rv w' G' gm' v x
  | .sc u, v, _, h => h
  | .nl _, v, _, h => h
  | .sl sz xs, v, _, h => by
    rcases h with h | ⟨a, n, c, cs, h1, h2, h3, h4, h5, h6, h7, h8, h9⟩
    · exact .inl h
    · refine .inr ⟨a, n, c, cs, h1, h2, h3, h4, h5, ?_, fun hx => hGG _ (h7 hx), RvL.frame hG hGG noGM noGM xs cs (fun _ _ => rfl) h8, h9⟩
      by_cases hx : xs = []
      · have := h8.length; rw [hx] at this
        rw [List.eq_nil_of_length_eq_zero this]
        exact CellsAt.nil _ _
      · exact h6.frame (hG _ (h7 hx))
  | .ag xs, v, hn, h => by
    obtain ⟨cs, h1, h2⟩ := h
    exact ⟨cs, h1, RvL.frame hG hGG gm gm' xs _ hn h2⟩
  | .tp xs, v, hn, h => by
    obtain ⟨cs, h1, h2⟩ := h
    exact ⟨cs, h1, RvL.frame hG hGG gm gm' xs _ hn h2⟩
  | .fn f a b, v, hn, h => by
    obtain ⟨first, caps, h1, h2, h3⟩ := h
    simp only [V.names, List.mem_append] at hn
    exact ⟨first, caps, h1, RvL.frame hG hGG gm gm' a _ (fun n h => hn n (.inl h)) h2, RvL.frame hG hGG gm gm' b _ (fun n h => hn n (.inr h)) h3⟩
  | .ifc t x, v, hn, h => by
    obtain ⟨u, h1, h2⟩ := h
    exact ⟨u, h1, Rv.frame hG hGG gm gm' x u hn h2⟩
  | .ref q, v, hn, h => by
    have := hn q.r (by simp [V.names])
    simpa only [Rv, nameRef, skAt, this] using h
  | .vw q lo hi, v, hn, h => by
    have := hn q.r (by simp [V.names])
    simpa only [Rv, nameVw, skAt, this] using h
  | .ptrB r j, v, hn, h => by
    have := hn r (by simp [V.names])
    simpa only [Rv, namePtrB, this] using h
  | .ptrE q i off, v, hn, h => by
    have := hn q.r (by simp [V.names])
    simpa only [Rv, namePtrE, skAt, this] using h
  | .pim n xs off, v, _, h => by
    obtain ⟨b, o, cs, h1, h2, h3, h4, h5⟩ := h
    refine ⟨b, o, cs, h1, h2, ?_, fun hx => hGG _ (h4 hx), RvL.frame hG hGG noGM noGM xs cs (fun _ _ => rfl) h5⟩
    by_cases hx : xs = []
    · have := h5.length; rw [hx] at this
      rw [List.eq_nil_of_length_eq_zero this]
      exact CellsAt.nil _ _
    · exact h3.frame (hG _ (h4 hx))
  | .own _ _ _, v, _, h => h
  | .slf, v, _, h => h
  | .bad, v, _, h => h
theorem RvL.frame (hG : ∀ k, G k → w'.heap[k]? = w.heap[k]?) (hGG : ∀ k, G k → G' k) (gm gm' : GM) :
    ∀ (xs : List V) (vs : List Value), (∀ n ∈ namesL xs, gm' n = gm n) → RvL w G gm vs xs → RvL w' G' gm' vs xs
  | [], [], _, _ => trivial
  | x :: xs, v :: vs, hn, h => by
    simp only [namesL, List.mem_append] at hn
    exact ⟨Rv.frame hG hGG gm gm' x v (fun n h => hn n (.inl h)) h.1, RvL.frame hG hGG gm gm' xs vs (fun n h => hn n (.inr h)) h.2⟩
  | [], _ :: _, _, h => h.elim
  | _ :: _, [], _, h => h.elim
end

variable {P : Program}
/- What is owned stays, where its blocks and those that are only read stay. -/
mutual
theorem OwnC.frame (hG : ∀ k, G k → w'.heap[k]? = w.heap[k]?) (hGG : ∀ k, G k → G' k) :
    ∀ (x : V) (v : Value) (s : Sk), (∀ k ∈ s.fp, w'.heap[k]? = w.heap[k]?) → OwnC w G P v x s → OwnC w' G' P v x s
  | .own e d cells, v, .nil, _, h => h
  | .own e d cells, v, .leaf, _, h => h
  | .own e d cells, v, .node g n cap sz sks, hf, h => by
    obtain ⟨cur, fr, h1, h2, h3, h4, h5, h6, h7, h8, h9, h10, h11⟩ := h
    simp only [Sk.fp, List.mem_cons] at hf
    exact ⟨cur, fr, h1, by rw [hf g (.inl rfl)]; exact h2, h3, h4, h5, h6, h7, h8, h9, OwnL.frame hG hGG cells _ sks (fun k hk => hf k (.inr hk)) h10, h11⟩
  | .bad, _, _, _, h => h
  | .slf, _, _, _, h => h
  | .sc u, v, s, _, h => ⟨h.1, h.2.1, Rv.frame hG hGG noGM noGM _ v (fun _ _ => rfl) h.2.2⟩
  | .nl _, v, s, _, h => ⟨h.1, h.2.1, Rv.frame hG hGG noGM noGM _ v (fun _ _ => rfl) h.2.2⟩
  | .sl _ _, v, s, _, h => ⟨h.1, h.2.1, Rv.frame hG hGG noGM noGM _ v (fun _ _ => rfl) h.2.2⟩
  | .ag _, v, s, _, h => ⟨h.1, h.2.1, Rv.frame hG hGG noGM noGM _ v (fun _ _ => rfl) h.2.2⟩
  | .tp _, v, s, _, h => ⟨h.1, h.2.1, Rv.frame hG hGG noGM noGM _ v (fun _ _ => rfl) h.2.2⟩
  | .fn _ _ _, v, s, _, h => ⟨h.1, h.2.1, Rv.frame hG hGG noGM noGM _ v (fun _ _ => rfl) h.2.2⟩
  | .ifc _ _, v, s, _, h => ⟨h.1, h.2.1, Rv.frame hG hGG noGM noGM _ v (fun _ _ => rfl) h.2.2⟩
  | .ref _, v, s, _, h => ⟨h.1, h.2.1, Rv.frame hG hGG noGM noGM _ v (fun _ _ => rfl) h.2.2⟩
  | .vw _ _ _, v, s, _, h => ⟨h.1, h.2.1, Rv.frame hG hGG noGM noGM _ v (fun _ _ => rfl) h.2.2⟩
  | .ptrB _ _, v, s, _, h => ⟨h.1, h.2.1, Rv.frame hG hGG noGM noGM _ v (fun _ _ => rfl) h.2.2⟩
  | .ptrE _ _ _, v, s, _, h => ⟨h.1, h.2.1, Rv.frame hG hGG noGM noGM _ v (fun _ _ => rfl) h.2.2⟩
  | .pim _ _ _, v, s, _, h => ⟨h.1, h.2.1, Rv.frame hG hGG noGM noGM _ v (fun _ _ => rfl) h.2.2⟩
theorem OwnL.frame (hG : ∀ k, G k → w'.heap[k]? = w.heap[k]?) (hGG : ∀ k, G k → G' k) :
    ∀ (xs : List V) (vs : List Value) (ss : List Sk), (∀ k ∈ fpL ss, w'.heap[k]? = w.heap[k]?) → OwnL w G P vs xs ss → OwnL w' G' P vs xs ss
  | [], [], [], _, _ => trivial
  | x :: xs, v :: vs, s :: ss, hf, h => by
    simp only [fpL, List.mem_append] at hf
    exact ⟨OwnC.frame hG hGG x v s (fun k hk => hf k (.inl hk)) h.1, OwnL.frame hG hGG xs vs ss (fun k hk => hf k (.inr hk)) h.2⟩
  | [], _ :: _, _, _, h => by simp [OwnL] at h
  | [], [], _ :: _, _, h => by simp [OwnL] at h
  | _ :: _, [], _, _, h => by simp [OwnL] at h
  | _ :: _, _ :: _, [], _, h => by simp [OwnL] at h
end
end frame
end Go.Ab
