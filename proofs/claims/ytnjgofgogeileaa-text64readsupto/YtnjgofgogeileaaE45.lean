/- States in their plain form; tables of what is known. -/
import Derived.Test.YtnjgofgogeileaaE44
namespace Go.Ab
open Go
set_option linter.unusedSimpArgs false
set_option linter.unusedVariables false

/-- A state told by its slots and its regions. -/
def mkS (l : List (Nat × V)) (r : List (Nm × Option Rg)) : St :=
  { env := fun i => (St.keepOnly.lookN i l).getD V.bad, regs := fun n => (St.keepOnly.lookR n r).getD none }

/-! ### values that are the same -/
def beqN : List Nat → List Nat → Bool
  | [], [] => true
  | a :: l, b :: m => Nat.beq a b && beqN l m
  | _, _ => false
theorem beqN_eq : ∀ {l m : List Nat}, beqN l m = true → l = m
  | [], [], _ => rfl
  | a :: l, b :: m, h => by
    simp only [beqN, Bool.and_eq_true] at h
    rw [nbeq h.1, beqN_eq h.2]
  | [], _ :: _, h => by cases h
  | _ :: _, [], h => by cases h
def Pl.same (a b : Pl) : Bool := Nm.eq a.r b.r && Nat.beq a.j b.j && beqN a.p b.p && Nat.beq a.e b.e && (a.d == b.d)
theorem Pl.same_eq {a b : Pl} (h : a.same b = true) : a = b := by
  simp only [Pl.same, Bool.and_eq_true] at h
  obtain ⟨⟨⟨⟨h1, h2⟩, h3⟩, h4⟩, h5⟩ := h
  obtain ⟨r, j, p, e, d⟩ := a
  obtain ⟨r', j', p', e', d'⟩ := b
  simp only at *
  rw [(Nm.eq_iff _ _).1 h1, nbeq h2, beqN_eq h3, nbeq h4]
  simp at h5
  rw [h5]

def sameC : Value → Value → Bool
  | .nilFunc, .nilFunc => true
  | .nilIface, .nilIface => true
  | .pointer none, .pointer none => true
  | _, _ => false
theorem sameC_eq {u v : Value} (h : sameC u v = true) : u = v := by
  unfold sameC at h
  split at h <;> first | rfl | cases h

mutual
def V.same : V → V → Bool
  | .ref a, v => (match v with | .ref b => a.same b | _ => false)
  | .ptrB r j, v => (match v with | .ptrB r' j' => Nm.eq r r' && Nat.beq j j' | _ => false)
  | .fn f a b, v => (match v with | .fn f' a' b' => Nat.beq f f' && sameL a a' && sameL b b' | _ => false)
  | .sc u, v => (match v with | .sc w => sameC u w | _ => false)
  | .nl e, v => (match v with | .nl e' => Nat.beq e e' | _ => false)
  | .bad, v => (match v with | .bad => true | _ => false)
  | .slf, v => (match v with | .slf => true | _ => false)
  | _, _ => false
def sameL : List V → List V → Bool
  | [], v => (match v with | [] => true | _ => false)
  | x :: xs, v => (match v with | y :: ys => x.same y && sameL xs ys | _ => false)
end

mutual
theorem V.same_eq : ∀ (x y : V), x.same y = true → x = y
  | .ref a, y, h => by cases y <;> simp only [V.same] at h <;> first | cases h | rw [Pl.same_eq h]
  | .ptrB r j, y, h => by
    cases y <;> simp only [V.same, Bool.and_eq_true] at h <;> try cases h
    next r' j' h1 h2 => rw [(Nm.eq_iff _ _).1 h1, nbeq h2]
  | .fn f a b, y, h => by
    cases y <;> simp only [V.same, Bool.and_eq_true] at h <;> try cases h
    next f' a' b' h1 h2 => rw [nbeq h1.1, sameL_eq a a' h1.2, sameL_eq b b' h2]
  | .sc u, y, h => by cases y <;> simp only [V.same] at h <;> first | cases h | rw [sameC_eq h]
  | .nl e, y, h => by cases y <;> simp only [V.same] at h <;> first | cases h | rw [nbeq h]
  | .bad, y, h => by cases y <;> simp only [V.same] at h <;> first | rfl | cases h
  | .slf, y, h => by cases y <;> simp only [V.same] at h <;> first | rfl | cases h
  | .sl _ _, _, h => by simp [V.same] at h
  | .own _ _ _, _, h => by simp [V.same] at h
  | .ag _, _, h => by simp [V.same] at h
  | .tp _, _, h => by simp [V.same] at h
  | .ifc _ _, _, h => by simp [V.same] at h
  | .vw _ _ _, _, h => by simp [V.same] at h
  | .ptrE _ _ _, _, h => by simp [V.same] at h
  | .pim _ _ _, _, h => by simp [V.same] at h
theorem sameL_eq : ∀ (xs ys : List V), sameL xs ys = true → xs = ys
  | [], y, h => by cases y <;> simp only [sameL] at h <;> first | rfl | cases h
  | x :: xs, y, h => by
    cases y <;> simp only [sameL, Bool.and_eq_true] at h <;> try cases h
    next y ys h1 h2 => rw [V.same_eq x y h1, sameL_eq xs ys h2]
end

/-! ### shapes of what a slot, or a region's cell, holds -/
inductive Pat where
  | i (k : IntKind) | b | s
  | sl (sz : Nat)
  | own (e : TypeId) (d : Bool)
  | ag (l : List Pat)
  | is (v : V)
  deriving Inhabited

mutual
def Pat.ck : Pat → V → Bool
  | .i k, v => v.isInt k
  | .b, v => v.isBool
  | .s, v => v.isStr
  | .sl sz, v => v.isSl sz
  | .own e d, v => v.isOwnD e d
  | .ag l, v => v.isAg l.length && ckL l v.partsOf 0
  | .is u, v => v.same u
def ckL : List Pat → List V → Nat → Bool
  | [], _, _ => true
  | h :: l, xs, k => h.ck (nthV xs k) && ckL l xs (k + 1)
end
mutual
def Pat.cn : Pat → V → V
  | .i k, v => .sc (.int k v.intOf)
  | .b, v => .sc (.bool v.boolOf)
  | .s, v => .sc (.string v.strOf)
  | .sl sz, v => .sl sz v.cellsOf
  | .own e d, v => .own e d v.cellsOf
  | .ag l, v => .ag (cnL l v.partsOf 0)
  | .is u, _ => u
def cnL : List Pat → List V → Nat → List V
  | [], _, _ => []
  | h :: l, xs, k => h.cn (nthV xs k) :: cnL l xs (k + 1)
end
mutual
theorem Pat.ck_eq : ∀ (h : Pat) (v : V), h.ck v = true → h.cn v = v
  | .i k, v, h => (isInt_eq h).symm
  | .b, v, h => (isBool_eq h).symm
  | .s, v, h => (isStr_eq h).symm
  | .sl sz, v, h => (isSl_eq h).symm
  | .own e d, v, h => (isOwnD_eq h).symm
  | .ag l, v, h => by
    simp only [Pat.ck, Bool.and_eq_true] at h
    obtain ⟨h1, h2⟩ := isAg_eq h.1
    simp only [Pat.cn]
    rw [ckL_eq l v.partsOf 0 (by omega) h.2, List.drop_zero]
    exact h1.symm
  | .is u, v, h => (V.same_eq v u h).symm
theorem ckL_eq : ∀ (l : List Pat) (xs : List V) (k : Nat), k + l.length = xs.length → ckL l xs k = true → cnL l xs k = xs.drop k
  | [], xs, k, hk, _ => by
    simp only [cnL]
    rw [List.drop_eq_nil_of_le (by simp at hk; omega)]
  | h :: l, xs, k, hk, hok => by
    simp only [ckL, Bool.and_eq_true] at hok
    have hlt : k < xs.length := by simp at hk; omega
    simp only [cnL]
    rw [Pat.ck_eq h _ hok.1, ckL_eq l xs (k + 1) (by simp at hk; omega) hok.2, nthV_get _ _ hlt, List.drop_eq_getElem_cons hlt]
end

/-! ### states -/
structure RPat where
  n : Nm
  box : Bool
  row : List Pat

def rowOf (g : Option Rg) : List V := match g with | some g => g.row | none => []
def boxIs (b : Bool) (n : Nat) (g : Option Rg) : Bool := match g with | some g => (g.box == b) && Nat.beq g.row.length n | none => false

def ckN : List (Nat × Pat) → St → Bool
  | [], _ => true
  | x :: xs, st => x.2.ck (st.env x.1) && ckN xs st
def ckR : List RPat → St → Bool
  | [], _ => true
  | r :: rs, st => (boxIs r.box r.row.length (st.regs r.n) && ckL r.row (rowOf (st.regs r.n)) 0) && ckR rs st
def ckS (ls : List (Nat × Pat)) (rs : List RPat) (st : St) : Bool := ckN ls st && ckR rs st
def cnS (ls : List (Nat × Pat)) (rs : List RPat) (st : St) : St :=
  mkS (ls.map fun x => (x.1, x.2.cn (st.env x.1))) (rs.map fun r => (r.n, some ⟨r.box, cnL r.row (rowOf (st.regs r.n)) 0⟩))

theorem lookN_at (ls : List (Nat × Pat)) (f g : Nat → V) (h : ∀ x ∈ ls, g x.1 = x.2.cn (f x.1)) (i : Nat) :
    St.keepOnly.lookN i (ls.map fun x => (x.1, x.2.cn (f x.1))) = St.keepOnly.lookN i (ls.map fun x => (x.1, g x.1)) := by
  have : (ls.map fun x => (x.1, x.2.cn (f x.1))) = ls.map fun x => (x.1, g x.1) := by
    apply List.map_congr_left
    intro x hx
    rw [h x hx]
  rw [this]

theorem ckN_slots : ∀ (ls : List (Nat × Pat)) (st : St), ckN ls st = true → ∀ x ∈ ls, x.2.ck (st.env x.1) = true
  | [], _, _ => by simp
  | x :: xs, st, h => by
    simp only [ckN, Bool.and_eq_true] at h
    intro y hy
    simp only [List.mem_cons] at hy
    rcases hy with rfl | hy
    · exact h.1
    · exact ckN_slots xs st h.2 y hy
theorem ckR_slots : ∀ (rs : List RPat) (st : St), ckR rs st = true → ∀ r ∈ rs, boxIs r.box r.row.length (st.regs r.n) = true ∧ ckL r.row (rowOf (st.regs r.n)) 0 = true
  | [], _, _ => by simp
  | r :: rs, st, h => by
    simp only [ckR, Bool.and_eq_true] at h
    intro y hy
    simp only [List.mem_cons] at hy
    rcases hy with rfl | hy
    · exact h.1
    · exact ckR_slots rs st h.2 y hy
theorem ckS_slots (ls : List (Nat × Pat)) (rs : List RPat) (st : St) (h : ckS ls rs st = true) : (∀ x ∈ ls, x.2.ck (st.env x.1) = true) ∧ ∀ r ∈ rs, boxIs r.box r.row.length (st.regs r.n) = true ∧ ckL r.row (rowOf (st.regs r.n)) 0 = true := by
  simp only [ckS, Bool.and_eq_true] at h
  exact ⟨ckN_slots ls st h.1, ckR_slots rs st h.2⟩

theorem boxIs_eq {b : Bool} {l : List Pat} {g : Option Rg} (h : boxIs b l.length g = true) (hc : ckL l (rowOf g) 0 = true) : some ⟨b, cnL l (rowOf g) 0⟩ = g := by
  cases g with
  | none => cases h
  | some g =>
    simp only [boxIs, Bool.and_eq_true] at h
    obtain ⟨bx, row⟩ := g
    have h1 : bx = b := by simpa using h.1
    have h2 := nbeq h.2
    simp only [rowOf] at hc h2 ⊢
    rw [ckL_eq l row 0 (by omega) hc, List.drop_zero, h1]

/-- A state that has been cut down, told by its shapes. -/
theorem canon {C : Cfg} {f : FuncId} {p : List Nat} {ls : List (Nat × Pat)} {rs : List RPat} (hann : C.ann f p = some (ls.map (·.1), rs.map (·.n))) (st0 : St) (hck : ckS ls rs (forget C f p st0) = true) :
    forget C f p st0 = cnS ls rs (forget C f p st0) := by
  obtain ⟨h1, h2⟩ := ckS_slots ls rs _ hck
  have e1 : ∀ x ∈ ls, (forget C f p st0).env x.1 = x.2.cn ((forget C f p st0).env x.1) := fun x hx => (Pat.ck_eq x.2 _ (h1 x hx)).symm
  have e2 : ∀ r ∈ rs, (forget C f p st0).regs r.n = some ⟨r.box, cnL r.row (rowOf ((forget C f p st0).regs r.n)) 0⟩ := fun r hr => (boxIs_eq (h2 r hr).1 (h2 r hr).2).symm
  unfold cnS mkS
  have k1 : (ls.map fun x => (x.1, x.2.cn ((forget C f p st0).env x.1))) = ls.map fun x => (x.1, (forget C f p st0).env x.1) := by
    apply List.map_congr_left; intro x hx; rw [← e1 x hx]
  have k2 : (rs.map fun r => (r.n, some (⟨r.box, cnL r.row (rowOf ((forget C f p st0).regs r.n)) 0⟩ : Rg))) = rs.map fun r => (r.n, (forget C f p st0).regs r.n) := by
    apply List.map_congr_left; intro r hr; rw [← e2 r hr]
  rw [k1, k2]
  -- what is looked up in a state that was cut down is what it was cut down to
  have kN : ∀ (L : List Nat) (v : Nat → V) (i : Nat), (St.keepOnly.lookN i (L.map fun j => (j, (St.keepOnly.lookN j (L.zip (L.map v))).getD V.bad))).getD V.bad = (St.keepOnly.lookN i (L.zip (L.map v))).getD V.bad := by
    intro L v i
    have z : ∀ (M : List Nat) (j : Nat), St.keepOnly.lookN j (M.zip (M.map v)) = bif M.any (Nat.beq j) then some (v j) else none := by
      intro M
      induction M with
      | nil => intro j; rfl
      | cons m M ih =>
        intro j
        simp only [List.map_cons, List.zip_cons_cons, St.keepOnly.lookN, List.any_cons]
        cases hm : Nat.beq j m with
        | true => rw [nbeq hm]; rfl
        | false => simp only [cond_false, Bool.false_or]; exact ih j
    have y : ∀ (M : List Nat) (g : Nat → V) (j : Nat), St.keepOnly.lookN j (M.map fun m => (m, g m)) = bif M.any (Nat.beq j) then some (g j) else none := by
      intro M g
      induction M with
      | nil => intro j; rfl
      | cons m M ih =>
        intro j
        simp only [List.map_cons, St.keepOnly.lookN, List.any_cons]
        cases hm : Nat.beq j m with
        | true => rw [nbeq hm]; rfl
        | false => simp only [cond_false, Bool.false_or]; exact ih j
    rw [y, z]
    cases h : L.any (Nat.beq i) with
    | true => simp only [cond_true, Option.getD_some]
    | false => rfl
  have kR : ∀ (L : List Nm) (v : Nm → Option Rg) (n : Nm), (St.keepOnly.lookR n (L.map fun m => (m, (St.keepOnly.lookR m (L.zip (L.map v))).getD none))).getD none = (St.keepOnly.lookR n (L.zip (L.map v))).getD none := by
    intro L v n
    have z : ∀ (M : List Nm) (j : Nm), (St.keepOnly.lookR j (M.zip (M.map v))).getD none = bif j.mem M then v j else none := fun M j => lookR_mem v M j
    have y : ∀ (M : List Nm) (g : Nm → Option Rg) (j : Nm), (St.keepOnly.lookR j (M.map fun m => (m, g m))).getD none = bif j.mem M then g j else none := by
      intro M g
      induction M with
      | nil => intro j; rfl
      | cons m M ih =>
        intro j
        simp only [List.map_cons, St.keepOnly.lookR, Nm.mem]
        cases hm : Nm.eq j m with
        | true => rw [(Nm.eq_iff _ _).1 hm]; rfl
        | false => simp only [cond_false, Bool.false_or]; exact ih j
    rw [y, z]
    cases h : n.mem L with
    | true => simp only [cond_true]
    | false => rfl
  have hf : forget C f p st0 = st0.keepOnly (ls.map (·.1)) (rs.map (·.n)) := by simp only [forget, hann]
  have m1 : (ls.map fun x => (x.1, (forget C f p st0).env x.1)) = (ls.map (·.1)).map fun j => (j, (forget C f p st0).env j) := by rw [List.map_map]; rfl
  have m2 : (rs.map fun r => (r.n, (forget C f p st0).regs r.n)) = (rs.map (·.n)).map fun n => (n, (forget C f p st0).regs n) := by rw [List.map_map]; rfl
  rw [m1, m2, hf]
  unfold St.keepOnly
  congr 1
  · funext i; exact (kN _ _ i).symm
  · funext n; exact (kR _ _ n).symm

/-! ### tables -/
def kNil : CallK := fun _ _ _ => (false, .bad, [])
def kCons (g0 : FuncId) (k : PrimT) (K : CallK) : CallK := fun g => bif Nat.beq g g0 then k else K g
def tNil : Tab := fun _ _ _ _ => none
def tCons (p0 : List Nat) (t : St → (R : Type) → (Ex → St → Option R) → Option R) (T : Tab) : Tab := fun p st R κ => bif beqN p p0 then t st R κ else T p st R κ

section
variable {C : Cfg} {prim : FuncId → Option PrimT} {f : FuncId}
theorem KOK.nil : KOK C prim kNil := by intro g vs gs x h; cases h
theorem KOK.cons {g0 : FuncId} {k : PrimT} {K : CallK} (h : ∀ vs gs x, k vs gs = (true, x) → CallR C prim g0 vs gs x) (hK : KOK C prim K) : KOK C prim (kCons g0 k K) := by
  intro g vs gs x hx
  unfold kCons at hx
  cases hg : Nat.beq g g0 with
  | true => rw [hg] at hx; rw [nbeq hg]; exact h vs gs x hx
  | false => rw [hg] at hx; exact hK g vs gs x hx
theorem TOK.nil : TOK C prim f tNil := by intro p st R κ r h; cases h
theorem TOK.cons {p0 : List Nat} {t : St → (R : Type) → (Ex → St → Option R) → Option R} {T : Tab}
    (h : ∀ st0 R κ r, t (forget C f p0 st0) R κ = some r → ∃ e s, κ e s = some r ∧ RunP C prim f p0 (forget C f p0 st0) e s) (hT : TOK C prim f T) : TOK C prim f (tCons p0 t T) := by
  intro p st R κ r hx
  unfold tCons at hx
  cases hp : beqN p p0 with
  | true => rw [hp] at hx; obtain rfl := beqN_eq hp; exact h st R κ r hx
  | false => rw [hp] at hx; exact hT p st R κ r hx
end
end Go.Ab
