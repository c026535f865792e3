/- Functions of a law, as the machine runs them: the first ones. -/
import Derived.Test.YtbeemjiaohaamaaDoorDSC
import Derived.Test.YtbeemjiaohaamaaDoorZSC
namespace Go.Ab
open Go Go.Proofs Go.RowKit
set_option linter.unusedSimpArgs false
set_option linter.unusedVariables false

def K_f157 : CallK := kNil
theorem K_f157_ok : KOK C prim K_f157 := KOK.nil
def T_f157 : Tab := tNil
theorem T_f157_ok : TOK C prim 157 T_f157 := TOK.nil
def f157 (s : ByteArray) : Option (V × List Rg) :=
  bif (decide (((s.size : Nat) : Int) ≥ 1)) then
    bif ((((decide ((0 : Int) ≤ (IntKind.wrap .i64 (((s.size : Nat) : Int) - 1)))) && (decide ((IntKind.wrap .i64 (((s.size : Nat) : Int) - 1)) ≤ ((s.size : Nat) : Int)))) && true) && true) then
      some (.sc (.bool (strEq (s.extract ((IntKind.wrap .i64 (((s.size : Nat) : Int) - 1))).toNat (((s.size : Nat) : Int)).toNat) (⟨#[10]⟩ : ByteArray))), [])
    else none
  else
    some (.sc (.bool false), [])
theorem f157_run (s : ByteArray) (z9 : V × List Rg) (h : f157 s = some z9) : CallR C prim 157 [.sc (.string s), .sc (.string ⟨#[10]⟩)] [] z9 := by
  refine call_fn (K := K_f157) (T := T_f157) K_f157_ok T_f157_ok (by kernel_rfl) ?_
  refine Eq.trans ?_ h
  kernel_rfl

theorem f157_eq (s : ByteArray) (hp : (decide (s.size ≤ 1000000000)) = true) : f157 s = some (.sc (.bool (endNl s)), []) := by
  simp only [decide_eq_true_eq] at hp
  unfold f157
  rcases snoc_cases s.data.toList with h | ⟨t, b, h⟩
  · have hs : s.size = 0 := by rw [bl_size, h]; rfl
    rw [end_nil s h, hs]; rfl
  · have hs : s.size = t.length + 1 := by rw [bl_size, h]; simp
    have e1 : IntKind.wrap .i64 (((s.size : Nat) : Int) - 1) = ((t.length : Nat) : Int) := by rw [wrap_id (by omega) (by omega)]; omega
    have e : s.extract t.length (t.length + 1) = ⟨#[b]⟩ := ba_ext (by rw [bl_extract, h, List.take_of_length_le (by simp)]; simp)
    rw [end_snoc s h, e1, dec_true (show ((s.size : Nat) : Int) ≥ 1 by omega), dec_true (show (0 : Int) ≤ ((t.length : Nat) : Int) by omega), dec_true (show ((t.length : Nat) : Int) ≤ ((s.size : Nat) : Int) by omega), Int.toNat_natCast, Int.toNat_natCast, hs, e]
    have : strEq (⟨#[b]⟩ : ByteArray) ⟨#[10]⟩ = (b == 10) := by
      rw [Bool.eq_iff_iff, strEq_iff]
      constructor
      · intro h'
        have := congrArg (fun x : ByteArray => x.data.toList) h'
        simpa using this
      · intro h'
        rw [beq_iff_eq] at h'
        rw [h']
    rw [this]
    rfl
def k157 : PrimT := fun vs gs => match vs, gs with
  | [.sc (.string s), .sc (.string q1)], [] => ((strEq q1 (⟨#[10]⟩ : ByteArray) && (decide (s.size ≤ 1000000000))), .sc (.bool (endNl s)), [])
  | _, _ => (false, .bad, [])
theorem k157_ok : ∀ vs gs x, k157 vs gs = (true, x) → CallR C prim 157 vs gs x := by
  intro vs gs x h
  unfold k157 at h
  split at h
  · simp only [Prod.mk.injEq] at h
    obtain ⟨hp, rfl⟩ := h
    rw [Bool.and_eq_true] at hp
    obtain ⟨hq, hp⟩ := hp
    obtain rfl := (strEq_iff _ _).1 hq
    exact f157_run _ _ (f157_eq _ hp)
  · cases h

def K_f131 : CallK := kCons 157 k157 <| kNil
theorem K_f131_ok : KOK C prim K_f131 := KOK.cons k157_ok <| KOK.nil
def T_f131 : Tab := tNil
theorem T_f131_ok : TOK C prim 131 T_f131 := TOK.nil
def f131 (s : ByteArray) : Option (V × List Rg) :=
  bif ((decide (s.size ≤ 1000000000)) && true) then
    bif (endNl s) then
      bif ((((decide ((0 : Int) ≤ (IntKind.wrap .i64 (((s.size : Nat) : Int) - 1)))) && (decide ((IntKind.wrap .i64 (((s.size : Nat) : Int) - 1)) ≤ ((s.size : Nat) : Int)))) && true) && true) then
        some (.sc (.string (s.extract 0 ((IntKind.wrap .i64 (((s.size : Nat) : Int) - 1))).toNat)), [])
      else none
    else
      some (.sc (.string s), [])
  else none
theorem f131_run (s : ByteArray) (z9 : V × List Rg) (h : f131 s = some z9) : CallR C prim 131 [.sc (.string s), .sc (.string ⟨#[10]⟩)] [] z9 := by
  refine call_fn (K := K_f131) (T := T_f131) K_f131_ok T_f131_ok (by kernel_rfl) ?_
  refine Eq.trans ?_ h
  kernel_rfl

theorem endNl_pos (s : ByteArray) (h : endNl s = true) : 1 ≤ s.size := by
  rcases snoc_cases s.data.toList with h' | ⟨t, b, h'⟩
  · rw [end_nil s h'] at h; cases h
  · rw [bl_size, h']; simp
theorem f131_eq (s : ByteArray) (hp : (decide (s.size ≤ 1000000000)) = true) : f131 s = some (.sc (.string (trimNl s)), []) := by
  have hq := hp
  simp only [decide_eq_true_eq] at hp
  unfold f131 trimNl
  rw [hq]
  cases h : endNl s with
  | false => rfl
  | true =>
    have h1 := endNl_pos s h
    rw [wrap_id (n := ((s.size : Nat) : Int) - 1) (by omega) (by omega), dec_true (show (0 : Int) ≤ ((s.size : Nat) : Int) - 1 by omega), dec_true (show ((s.size : Nat) : Int) - 1 ≤ ((s.size : Nat) : Int) by omega), show ((s.size : Int) - 1).toNat = s.size - 1 by omega]
    rfl
def k131 : PrimT := fun vs gs => match vs, gs with
  | [.sc (.string s), .sc (.string q1)], [] => ((strEq q1 (⟨#[10]⟩ : ByteArray) && (decide (s.size ≤ 1000000000))), .sc (.string (trimNl s)), [])
  | _, _ => (false, .bad, [])
theorem k131_ok : ∀ vs gs x, k131 vs gs = (true, x) → CallR C prim 131 vs gs x := by
  intro vs gs x h
  unfold k131 at h
  split at h
  · simp only [Prod.mk.injEq] at h
    obtain ⟨hp, rfl⟩ := h
    rw [Bool.and_eq_true] at hp
    obtain ⟨hq, hp⟩ := hp
    obtain rfl := (strEq_iff _ _).1 hq
    exact f131_run _ _ (f131_eq _ hp)
  · cases h

def K_f95 : CallK := kCons 131 k131 <| kNil
theorem K_f95_ok : KOK C prim K_f95 := KOK.cons k131_ok <| KOK.nil
def T_f95 : Tab := tNil
theorem T_f95_ok : TOK C prim 95 T_f95 := TOK.nil
def f95 (s : ByteArray) : Option (V × List Rg) :=
  bif ((decide (s.size ≤ 1000000000)) && true) then
    some (.sc (.string (trimNl s)), [])
  else none
theorem f95_run (s : ByteArray) (z9 : V × List Rg) (h : f95 s = some z9) : CallR C prim 95 [.sc (.string s), .sc (.string ⟨#[10]⟩)] [] z9 := by
  refine call_fn (K := K_f95) (T := T_f95) K_f95_ok T_f95_ok (by kernel_rfl) ?_
  refine Eq.trans ?_ h
  kernel_rfl

theorem f95_eq (s : ByteArray) (hp : (decide (s.size ≤ 1000000000)) = true) : f95 s = some (.sc (.string (trimNl s)), []) := by
  unfold f95
  rw [hp]
  rfl
def k95 : PrimT := fun vs gs => match vs, gs with
  | [.sc (.string s), .sc (.string q1)], [] => ((strEq q1 (⟨#[10]⟩ : ByteArray) && (decide (s.size ≤ 1000000000))), .sc (.string (trimNl s)), [])
  | _, _ => (false, .bad, [])
theorem k95_ok : ∀ vs gs x, k95 vs gs = (true, x) → CallR C prim 95 vs gs x := by
  intro vs gs x h
  unfold k95 at h
  split at h
  · simp only [Prod.mk.injEq] at h
    obtain ⟨hp, rfl⟩ := h
    rw [Bool.and_eq_true] at hp
    obtain ⟨hq, hp⟩ := hp
    obtain rfl := (strEq_iff _ _).1 hq
    exact f95_run _ _ (f95_eq _ hp)
  · cases h

def K_f88 : CallK := kCons 121 k121 <| kNil
theorem K_f88_ok : KOK C prim K_f88 := KOK.cons k121_ok <| KOK.nil
def T_f88 : Tab := tNil
theorem T_f88_ok : TOK C prim 88 T_f88 := TOK.nil
def f88 (s : ByteArray) : Option (V × List Rg) :=
  bif (strEq (⟨#[10]⟩ : ByteArray) s) then
    some (.sc (.int .i64 0), [])
  else
    some (.sc (.int .i64 (idxB s 10)), [])
theorem f88_run (s : ByteArray) (z9 : V × List Rg) (h : f88 s = some z9) : CallR C prim 88 [.sc (.string s), .sc (.string ⟨#[10]⟩)] [] z9 := by
  refine call_fn (K := K_f88) (T := T_f88) K_f88_ok T_f88_ok (by kernel_rfl) ?_
  refine Eq.trans ?_ h
  kernel_rfl

theorem f88_eq (s : ByteArray) : f88 s = some (.sc (.int .i64 (idxB s 10)), []) := by
  unfold f88
  cases h : strEq (⟨#[10]⟩ : ByteArray) s with
  | false => rfl
  | true =>
    rw [strEq_iff] at h
    subst h
    rfl
def k88 : PrimT := fun vs gs => match vs, gs with
  | [.sc (.string s), .sc (.string q1)], [] => ((strEq q1 (⟨#[10]⟩ : ByteArray) && true), .sc (.int .i64 (idxB s 10)), [])
  | _, _ => (false, .bad, [])
theorem k88_ok : ∀ vs gs x, k88 vs gs = (true, x) → CallR C prim 88 vs gs x := by
  intro vs gs x h
  unfold k88 at h
  split at h
  · simp only [Prod.mk.injEq] at h
    obtain ⟨hp, rfl⟩ := h
    rw [Bool.and_eq_true] at hp
    obtain ⟨hq, hp⟩ := hp
    obtain rfl := (strEq_iff _ _).1 hq
    exact f88_run _ _ (f88_eq _)
  · cases h

def K_f46 : CallK := kCons 88 k88 <| kNil
theorem K_f46_ok : KOK C prim K_f46 := KOK.cons k88_ok <| KOK.nil
def T_f46 : Tab := tNil
theorem T_f46_ok : TOK C prim 46 T_f46 := TOK.nil
def f46 (s : ByteArray) : Option (V × List Rg) :=
  some (.sc (.int .i64 (idxB s 10)), [])
theorem f46_run (s : ByteArray) (z9 : V × List Rg) (h : f46 s = some z9) : CallR C prim 46 [.sc (.string s), .sc (.string ⟨#[10]⟩)] [] z9 := by
  refine call_fn (K := K_f46) (T := T_f46) K_f46_ok T_f46_ok (by kernel_rfl) ?_
  refine Eq.trans ?_ h
  kernel_rfl

def k46 : PrimT := fun vs gs => match vs, gs with
  | [.sc (.string s), .sc (.string sep)], [] => (isNl sep, .sc (.int .i64 (idxB s 10)), [])
  | _, _ => (false, .bad, [])
theorem k46_ok : ∀ vs gs x, k46 vs gs = (true, x) → CallR C prim 46 vs gs x := by
  intro vs gs x h
  unfold k46 at h
  split at h
  · next s sep =>
    simp only [Prod.mk.injEq] at h
    obtain ⟨hp, rfl⟩ := h
    rw [isNl_eq hp]
    exact f46_run s _ rfl
  · cases h

def K_f120 : CallK := kNil
theorem K_f120_ok : KOK C prim K_f120 := KOK.nil
def T_f120 : Tab := tNil
theorem T_f120_ok : TOK C prim 120 T_f120 := TOK.nil
def f120 (x : ByteArray) : Option (V × List Rg) :=
  some (.sc (.bool (!(strEq x x))), [])
theorem f120_run (x : ByteArray) (z9 : V × List Rg) (h : f120 x = some z9) : CallR C prim 120 [.sc (.string x)] [] z9 := by
  refine call_fn (K := K_f120) (T := T_f120) K_f120_ok T_f120_ok (by kernel_rfl) ?_
  refine Eq.trans ?_ h
  kernel_rfl

theorem f120_eq (x : ByteArray) : f120 x = some (.sc (.bool false), []) := by
  unfold f120
  rw [strEq_self]
  rfl
def k120 : PrimT := fun vs gs => match vs, gs with
  | [.sc (.string x)], [] => (true, .sc (.bool false), [])
  | _, _ => (false, .bad, [])
theorem k120_ok : ∀ vs gs x, k120 vs gs = (true, x) → CallR C prim 120 vs gs x := by
  intro vs gs x h
  unfold k120 at h
  split at h
  · simp only [Prod.mk.injEq, true_and] at h
    subst h
    exact f120_run _ _ (f120_eq _)
  · cases h

def K_f162 : CallK := kNil
theorem K_f162_ok : KOK C prim K_f162 := KOK.nil
def T_f162 : Tab := tNil
theorem T_f162_ok : TOK C prim 162 T_f162 := TOK.nil
def f162 (x : Int) : Option (V × List Rg) :=
  some (.sc (.bool (x != x)), [])
theorem f162_run (x : Int) (z9 : V × List Rg) (h : f162 x = some z9) : CallR C prim 162 [.sc (.int .i64 x)] [] z9 := by
  refine call_fn (K := K_f162) (T := T_f162) K_f162_ok T_f162_ok (by kernel_rfl) ?_
  refine Eq.trans ?_ h
  kernel_rfl

theorem f162_eq (x : Int) : f162 x = some (.sc (.bool false), []) := by
  unfold f162
  rw [bne_self_eq_false]
def k162 : PrimT := fun vs gs => match vs, gs with
  | [.sc (.int .i64 x)], [] => (true, .sc (.bool false), [])
  | _, _ => (false, .bad, [])
theorem k162_ok : ∀ vs gs x, k162 vs gs = (true, x) → CallR C prim 162 vs gs x := by
  intro vs gs x h
  unfold k162 at h
  split at h
  · simp only [Prod.mk.injEq, true_and] at h
    subst h
    exact f162_run _ _ (f162_eq _)
  · cases h

def K_f87 : CallK := kCons 120 k120 <| kNil
theorem K_f87_ok : KOK C prim K_f87 := KOK.cons k120_ok <| KOK.nil
def T_f87 : Tab := tNil
theorem T_f87_ok : TOK C prim 87 T_f87 := TOK.nil
def f87 (x : ByteArray) (y : ByteArray) : Option (V × List Rg) :=
  bif (strLt x y) then
    some (.sc (.int .i64 (-1)), [])
  else
    bif (!((strLt x y) || (strEq x y))) then
      some (.sc (.int .i64 1), [])
    else
      some (.sc (.int .i64 0), [])
theorem f87_run (x : ByteArray) (y : ByteArray) (z9 : V × List Rg) (h : f87 x y = some z9) : CallR C prim 87 [.sc (.string x), .sc (.string y)] [] z9 := by
  refine call_fn (K := K_f87) (T := T_f87) K_f87_ok T_f87_ok (by kernel_rfl) ?_
  refine Eq.trans ?_ h
  kernel_rfl

theorem bw_zero {a b : ByteArray} (h1 : ¬ bwI a b < 0) (h2 : ¬ bwI a b > 0) : bwI a b = 0 := by omega
theorem bw_self (a : ByteArray) : bwI a a = 0 := by
  unfold bwI
  generalize a.data.toList = l
  induction l with
  | nil => rfl
  | cons b l ih => unfold cmpL; rw [beq_self_eq_true, cond_true]; exact ih
theorem f87_eq (x : ByteArray) (y : ByteArray) : f87 x y = some (.sc (.int .i64 (bwI x y)), []) := by
  have h1 := bw_one x y
  have e1 := strLt_cmp x y
  have e2 := strLt_cmp' x y
  unfold f87
  by_cases hx : bwI x y < 0
  · rw [e1, dec_true hx]
    have : bwI x y = -1 := by omega
    rw [this]; rfl
  · rw [e1, dec_false hx]
    cases he : strEq x y with
    | true =>
      obtain rfl := (strEq_iff x y).1 he
      rw [bw_self]; rfl
    | false =>
      have hne : bwI x y > 0 := by
        rcases (show bwI x y > 0 ∨ bwI x y = 0 by omega) with h | h
        · exact h
        · exfalso
          have g : ∀ a b : List UInt8, cmpL a b = 0 → a = b := by
            intro a
            induction a with
            | nil => intro b hb; cases b with
              | nil => rfl
              | cons c b => simp [cmpL] at hb
            | cons c a ih => intro b hb; cases b with
              | nil => simp [cmpL] at hb
              | cons d b =>
                unfold cmpL at hb
                cases hcd : c == d with
                | true =>
                  rw [hcd] at hb
                  have := eq_of_beq hcd
                  rw [this, ih b hb]
                | false =>
                  rw [hcd] at hb
                  cases hd : decide (c < d) <;> rw [hd] at hb <;> simp at hb
          have : x = y := ba_ext (g _ _ h)
          rw [this, strEq_self] at he
          cases he
      have : bwI x y = 1 := by omega
      rw [this]; rfl
def k87 : PrimT := fun vs gs => match vs, gs with
  | [.sc (.string x), .sc (.string y)], [] => (true, .sc (.int .i64 (bwI x y)), [])
  | _, _ => (false, .bad, [])
theorem k87_ok : ∀ vs gs x, k87 vs gs = (true, x) → CallR C prim 87 vs gs x := by
  intro vs gs x h
  unfold k87 at h
  split at h
  · simp only [Prod.mk.injEq, true_and] at h
    subst h
    exact f87_run _ _ _ (f87_eq _ _)
  · cases h

def K_f147 : CallK := kCons 162 k162 <| kNil
theorem K_f147_ok : KOK C prim K_f147 := KOK.cons k162_ok <| KOK.nil
def T_f147 : Tab := tNil
theorem T_f147_ok : TOK C prim 147 T_f147 := TOK.nil
def f147 (x : Int) (y : Int) : Option (V × List Rg) :=
  bif (decide (x < y)) then
    some (.sc (.int .i64 (-1)), [])
  else
    bif (decide (x > y)) then
      some (.sc (.int .i64 1), [])
    else
      some (.sc (.int .i64 0), [])
theorem f147_run (x : Int) (y : Int) (z9 : V × List Rg) (h : f147 x y = some z9) : CallR C prim 147 [.sc (.int .i64 x), .sc (.int .i64 y)] [] z9 := by
  refine call_fn (K := K_f147) (T := T_f147) K_f147_ok T_f147_ok (by kernel_rfl) ?_
  refine Eq.trans ?_ h
  kernel_rfl

theorem f147_eq (x : Int) (y : Int) : f147 x y = some (.sc (.int .i64 (cmpII x y)), []) := by
  unfold f147 cmpII
  cases decide (x < y) <;> cases decide (x > y) <;> rfl
def k147 : PrimT := fun vs gs => match vs, gs with
  | [.sc (.int .i64 x), .sc (.int .i64 y)], [] => (true, .sc (.int .i64 (cmpII x y)), [])
  | _, _ => (false, .bad, [])
theorem k147_ok : ∀ vs gs x, k147 vs gs = (true, x) → CallR C prim 147 vs gs x := by
  intro vs gs x h
  unfold k147 at h
  split at h
  · simp only [Prod.mk.injEq, true_and] at h
    subst h
    exact f147_run _ _ _ (f147_eq _ _)
  · cases h

def K_f148 : CallK := kNil
theorem K_f148_ok : KOK C prim K_f148 := KOK.nil
def T_f148 : Tab := tNil
theorem T_f148_ok : TOK C prim 148 T_f148 := TOK.nil
def f148 (c : Int) : Option (V × List Rg) :=
  bif (c == 9) then
    some (.sc (.bool true), [])
  else
    some (.sc (.bool (c == 32)), [])
theorem f148_run (c : Int) (z9 : V × List Rg) (h : f148 c = some z9) : CallR C prim 148 [.sc (.int .u8 c)] [] z9 := by
  refine call_fn (K := K_f148) (T := T_f148) K_f148_ok T_f148_ok (by kernel_rfl) ?_
  refine Eq.trans ?_ h
  kernel_rfl

theorem f148_eq (c : Int) : f148 c = some (.sc (.bool (blankI c)), []) := by
  unfold f148 blankI
  cases c == 9 <;> rfl
def k148 : PrimT := fun vs gs => match vs, gs with
  | [.sc (.int .u8 c)], [] => (true, .sc (.bool (blankI c)), [])
  | _, _ => (false, .bad, [])
theorem k148_ok : ∀ vs gs x, k148 vs gs = (true, x) → CallR C prim 148 vs gs x := by
  intro vs gs x h
  unfold k148 at h
  split at h
  · simp only [Prod.mk.injEq, true_and] at h
    subst h
    exact f148_run _ _ (f148_eq _)
  · cases h

def K_f70 : CallK := kNil
theorem K_f70_ok : KOK C prim K_f70 := KOK.nil
def T_f70 : Tab := tNil
theorem T_f70_ok : TOK C prim 70 T_f70 := TOK.nil
def f70 (c : Int) : Option (V × List Rg) :=
  bif (c == 9) then
    some (.sc (.bool true), [])
  else
    some (.sc (.bool (c == 32)), [])
theorem f70_run (c : Int) (z9 : V × List Rg) (h : f70 c = some z9) : CallR C prim 70 [.sc (.int .u8 c)] [] z9 := by
  refine call_fn (K := K_f70) (T := T_f70) K_f70_ok T_f70_ok (by kernel_rfl) ?_
  refine Eq.trans ?_ h
  kernel_rfl

theorem f70_eq (c : Int) : f70 c = some (.sc (.bool (blankI c)), []) := by
  unfold f70 blankI
  cases c == 9 <;> rfl
def k70 : PrimT := fun vs gs => match vs, gs with
  | [.sc (.int .u8 c)], [] => (true, .sc (.bool (blankI c)), [])
  | _, _ => (false, .bad, [])
theorem k70_ok : ∀ vs gs x, k70 vs gs = (true, x) → CallR C prim 70 vs gs x := by
  intro vs gs x h
  unfold k70 at h
  split at h
  · simp only [Prod.mk.injEq, true_and] at h
    subst h
    exact f70_run _ _ (f70_eq _)
  · cases h

def K_f129 : CallK := kNil
theorem K_f129_ok : KOK C prim K_f129 := KOK.nil
def T_f129 : Tab := tNil
theorem T_f129_ok : TOK C prim 129 T_f129 := TOK.nil
def f129 (c : Int) : Option (V × List Rg) :=
  bif (decide (c ≥ 48)) then
    some (.sc (.bool (decide (c ≤ 57))), [])
  else
    some (.sc (.bool false), [])
theorem f129_run (c : Int) (z9 : V × List Rg) (h : f129 c = some z9) : CallR C prim 129 [.sc (.int .u8 c)] [] z9 := by
  refine call_fn (K := K_f129) (T := T_f129) K_f129_ok T_f129_ok (by kernel_rfl) ?_
  refine Eq.trans ?_ h
  kernel_rfl

theorem f129_eq (c : Int) : f129 c = some (.sc (.bool (digI c)), []) := by
  unfold f129 digI
  cases decide (c ≥ 48) <;> rfl
def k129 : PrimT := fun vs gs => match vs, gs with
  | [.sc (.int .u8 c)], [] => (true, .sc (.bool (digI c)), [])
  | _, _ => (false, .bad, [])
theorem k129_ok : ∀ vs gs x, k129 vs gs = (true, x) → CallR C prim 129 vs gs x := by
  intro vs gs x h
  unfold k129 at h
  split at h
  · simp only [Prod.mk.injEq, true_and] at h
    subst h
    exact f129_run _ _ (f129_eq _)
  · cases h

def K_f149_l0 : CallK := kNil
theorem K_f149_l0_ok : KOK C prim K_f149_l0 := KOK.nil
def T_f149_l0 : Tab := tNil
theorem T_f149_l0_ok : TOK C prim 149 T_f149_l0 := TOK.nil
def f149_l0 : Nat → ByteArray → Int → (R : Type) → (Ex → St → Option R) → Option R
  | 0, _, _, _, _ => none
  | n + 1, s, n', R, κ =>
    bif (decide (n' < ((s.size : Nat) : Int))) then
      bif (((decide ((0 : Int) ≤ n')) && (decide (n' < ((s.size : Nat) : Int)))) && true) then
        bif (decide (((s.data.getD (n').toNat 0).toNat : Int) ≥ 48)) then
          bif (((decide ((0 : Int) ≤ n')) && (decide (n' < ((s.size : Nat) : Int)))) && true) then
            bif (decide (((s.data.getD (n').toNat 0).toNat : Int) ≤ 57)) then
              f149_l0 n s (IntKind.wrap .i64 (n' + 1)) R κ
            else
              κ (.ex 0) (mkS [(2, .bad), (3, .sc (.int .i64 n'))] [])
          else none
        else
          κ (.ex 0) (mkS [(2, .bad), (3, .sc (.int .i64 n'))] [])
      else none
    else
      κ (.ex 0) (mkS [(2, .bad), (3, .sc (.int .i64 n'))] [])
def f149_l0_ls : List (Nat × Pat) := [(0, .s), (3, .i .i64)]
def f149_l0_rs : List RPat := []
theorem f149_l0_ok (n : Nat) : ∀ (s : ByteArray) (n' : Int) (R : Type) (κ : Ex → St → Option R) (r : R), f149_l0 n s n' R κ = some r → ∃ ee ss, κ ee ss = some r ∧ RunP C prim 149 [0, 0, 1, 1] (mkS [(0, .sc (.string s)), (3, .sc (.int .i64 n'))] []) ee ss := by
  induction n with
  | zero => intro s n' R κ r h; cases h
  | succ n ih =>
    intro s n' R κ r h
    refine loop_round (K := K_f149_l0) (T := T_f149_l0) K_f149_l0_ok T_f149_l0_ok (p := [0, 0, 1, 1]) (by kernel_rfl) (fun st => bif ckS f149_l0_ls f149_l0_rs st then f149_l0 n ((st.env 0).strOf) ((st.env 3).intOf) R κ else none) (fun st0 h0 => ?_) ?_
    · obtain ⟨hs, h0⟩ := cond_some h0
      rw [canon (ls := f149_l0_ls) (rs := f149_l0_rs) (by kernel_rfl) st0 hs]
      exact ih _ _ R κ r h0
    · refine Eq.trans ?_ h
      kernel_rfl

def f149_s0 (s : ByteArray) (n' : Int) (R : Type) (κ : Ex → St → Option R) : Option R :=
  κ (.ex 0) (mkS [(2, .bad), (3, .sc (.int .i64 ((digN s : Nat) : Int)))] [])
theorem dig_byte (s : ByteArray) {i : Nat} (h : i < s.data.toList.length) : (((s.data.getD i 0).toNat : Nat) : Int) = (((s.data.toList[i]).toNat : Nat) : Int) := by rw [getD_list' s i h]
theorem f149_loop (s : ByteArray) (hs : s.size ≤ 1000000000) (R : Type) (κ : Ex → St → Option R) : ∀ (k i : Nat), i + k = s.size →
    f149_l0 (k + 1) s ((i : Nat) : Int) R κ = κ (.ex 0) (mkS [(2, .bad), (3, .sc (.int .i64 ((i + leadN digU (s.data.toList.drop i) : Nat) : Int)))] [])
  | 0, i, h => by
    have hl := bl_size s
    rw [f149_l0, dec_false (by omega), List.drop_of_length_le (by omega)]
    rfl
  | k + 1, i, h => by
    have hl := bl_size s
    have hlt : i < s.data.toList.length := by omega
    rw [f149_l0, dec_true (show ((i : Nat) : Int) < ((s.size : Nat) : Int) by omega), dec_true (show (0 : Int) ≤ ((i : Nat) : Int) by omega), Int.toNat_natCast, dig_byte s hlt, wrap_succ (by omega), f149_loop s hs R κ k (i + 1) (by omega), List.drop_eq_getElem_cons hlt, leadN]
    unfold digU digI
    cases decide ((((s.data.toList[i]).toNat : Nat) : Int) ≥ 48) with
    | false => rfl
    | true =>
      cases decide ((((s.data.toList[i]).toNat : Nat) : Int) ≤ 57) with
      | false => rfl
      | true =>
        simp only [Bool.and_self, cond_true]
        rw [Nat.add_assoc, Nat.add_comm 1]
theorem f149_s0_eq (s : ByteArray) (n' : Int) (hp : ((n' == 0) && decide (s.size ≤ 1000000000)) = true) : ∃ n, ∀ (R : Type) (κ : Ex → St → Option R), f149_l0 n s n' R κ = f149_s0 s n' R κ := by
  simp only [Bool.and_eq_true, decide_eq_true_eq, beq_iff_eq] at hp
  obtain ⟨rfl, h2⟩ := hp
  refine ⟨s.size + 1, fun R κ => ?_⟩
  have := f149_loop s h2 R κ s.size 0 (by omega)
  rw [Nat.zero_add] at this
  exact this
def t_f149_l0 (st : St) (R : Type) (κ : Ex → St → Option R) : Option R := bif ckS f149_l0_ls f149_l0_rs st then (bif ((((st.env 3).intOf) == 0) && decide (((st.env 0).strOf).size ≤ 1000000000)) then f149_s0 ((st.env 0).strOf) ((st.env 3).intOf) R κ else none) else none
theorem t_f149_l0_ok : ∀ st0 R κ r, t_f149_l0 (forget C 149 [0, 0, 1, 1] st0) R κ = some r → ∃ ee ss, κ ee ss = some r ∧ RunP C prim 149 [0, 0, 1, 1] (forget C 149 [0, 0, 1, 1] st0) ee ss := by
  intro st0 R κ r h
  obtain ⟨hs, h⟩ := cond_some h
  obtain ⟨hp, h⟩ := cond_some h
  rw [canon (ls := f149_l0_ls) (rs := f149_l0_rs) (by kernel_rfl) st0 hs]
  obtain ⟨n, hn⟩ := f149_s0_eq _ _ hp
  rw [← hn] at h
  exact f149_l0_ok n _ _ R κ r h

def K_f149 : CallK := kNil
theorem K_f149_ok : KOK C prim K_f149 := KOK.nil
def T_f149 : Tab := tCons [0, 0, 1, 1] t_f149_l0 <| tNil
theorem T_f149_ok : TOK C prim 149 T_f149 := TOK.cons t_f149_l0_ok <| TOK.nil
def f149 (s : ByteArray) : Option (V × List Rg) :=
  bif (((0 : Int) == 0) && decide (s.size ≤ 1000000000)) then
    some (.sc (.int .i64 ((digN s : Nat) : Int)), [])
  else none
theorem f149_run (s : ByteArray) (z9 : V × List Rg) (h : f149 s = some z9) : CallR C prim 149 [.sc (.string s)] [] z9 := by
  refine call_fn (K := K_f149) (T := T_f149) K_f149_ok T_f149_ok (by kernel_rfl) ?_
  refine Eq.trans ?_ h
  kernel_rfl

theorem f149_eq (s : ByteArray) (hp : (decide (s.size ≤ 1000000000)) = true) : f149 s = some (.sc (.int .i64 ((digN s : Nat) : Int)), []) := by
  unfold f149
  rw [hp]
  rfl
def k149 : PrimT := fun vs gs => match vs, gs with
  | [.sc (.string s)], [] => ((decide (s.size ≤ 1000000000)), .sc (.int .i64 ((digN s : Nat) : Int)), [])
  | _, _ => (false, .bad, [])
theorem k149_ok : ∀ vs gs x, k149 vs gs = (true, x) → CallR C prim 149 vs gs x := by
  intro vs gs x h
  unfold k149 at h
  split at h
  · simp only [Prod.mk.injEq] at h
    obtain ⟨hp, rfl⟩ := h
    exact f149_run _ _ (f149_eq _ hp)
  · cases h

def K_f55 : CallK := kNil
theorem K_f55_ok : KOK C prim K_f55 := KOK.nil
def T_f55 : Tab := tNil
theorem T_f55_ok : TOK C prim 55 T_f55 := TOK.nil
def f55 (n' : Int) (low : Int) (high : Int) : Option (V × List Rg) :=
  bif (decide (n' ≥ low)) then
    some (.sc (.bool (decide (n' ≤ high))), [])
  else
    some (.sc (.bool false), [])
theorem f55_run (n' : Int) (low : Int) (high : Int) (z9 : V × List Rg) (h : f55 n' low high = some z9) : CallR C prim 55 [.sc (.int .i64 n'), .sc (.int .i64 low), .sc (.int .i64 high)] [] z9 := by
  refine call_fn (K := K_f55) (T := T_f55) K_f55_ok T_f55_ok (by kernel_rfl) ?_
  refine Eq.trans ?_ h
  kernel_rfl

theorem f55_eq (n' : Int) (low : Int) (high : Int) : f55 n' low high = some (.sc (.bool (decide (n' ≥ low) && decide (n' ≤ high))), []) := by
  unfold f55
  cases decide (n' ≥ low) <;> rfl
def k55 : PrimT := fun vs gs => match vs, gs with
  | [.sc (.int .i64 n'), .sc (.int .i64 low), .sc (.int .i64 high)], [] => (true, .sc (.bool (decide (n' ≥ low) && decide (n' ≤ high))), [])
  | _, _ => (false, .bad, [])
theorem k55_ok : ∀ vs gs x, k55 vs gs = (true, x) → CallR C prim 55 vs gs x := by
  intro vs gs x h
  unfold k55 at h
  split at h
  · simp only [Prod.mk.injEq, true_and] at h
    subst h
    exact f55_run _ _ _ _ (f55_eq _ _ _)
  · cases h

def K_f146_l0 : CallK := kNil
theorem K_f146_l0_ok : KOK C prim K_f146_l0 := KOK.nil
def T_f146_l0 : Tab := tNil
theorem T_f146_l0_ok : TOK C prim 146 T_f146_l0 := TOK.nil
def f146_l0 : Nat → Int → List V → Int → Int → (R : Type) → (Ex → St → Option R) → Option R
  | 0, _, _, _, _, _, _ => none
  | n + 1, zero, v6, v7, v8, R, κ =>
    bif (decide (v8 < v7)) then
      bif (((decide ((0 : Int) ≤ v8)) && (decide (v8 < ((v6.length : Nat) : Int)))) && true) then
        bif (((V.isInt .i64 (nthV v6 (((v8).toNat * 1) + 0))) && true) && true) then
          bif ((V.intOf (nthV v6 (((v8).toNat * 1) + 0))) != zero) then
            κ .rt (mkS [(2, .sc (.int .i64 (V.intOf (nthV v6 (((v8).toNat * 1) + 0))))), (3, .sc (.int .i64 zero))] [])
          else
            f146_l0 n zero v6 v7 (IntKind.wrap .i64 (v8 + 1)) R κ
        else none
      else none
    else
      κ (.ex 0) (mkS [(2, .bad), (3, .sc (.int .i64 zero))] [])
def f146_l0_ls : List (Nat × Pat) := [(3, .i .i64), (6, .sl 1), (7, .i .i64), (8, .i .i64)]
def f146_l0_rs : List RPat := []
theorem f146_l0_ok (n : Nat) : ∀ (zero : Int) (v6 : List V) (v7 : Int) (v8 : Int) (R : Type) (κ : Ex → St → Option R) (r : R), f146_l0 n zero v6 v7 v8 R κ = some r → ∃ ee ss, κ ee ss = some r ∧ RunP C prim 146 [0, 1, 0, 1, 1] (mkS [(3, .sc (.int .i64 zero)), (6, .sl 1 v6), (7, .sc (.int .i64 v7)), (8, .sc (.int .i64 v8))] []) ee ss := by
  induction n with
  | zero => intro zero v6 v7 v8 R κ r h; cases h
  | succ n ih =>
    intro zero v6 v7 v8 R κ r h
    refine loop_round (K := K_f146_l0) (T := T_f146_l0) K_f146_l0_ok T_f146_l0_ok (p := [0, 1, 0, 1, 1]) (by kernel_rfl) (fun st => bif ckS f146_l0_ls f146_l0_rs st then f146_l0 n ((st.env 3).intOf) ((st.env 6).cellsOf) ((st.env 7).intOf) ((st.env 8).intOf) R κ else none) (fun st0 h0 => ?_) ?_
    · obtain ⟨hs, h0⟩ := cond_some h0
      rw [canon (ls := f146_l0_ls) (rs := f146_l0_rs) (by kernel_rfl) st0 hs]
      exact ih _ _ _ _ R κ r h0
    · refine Eq.trans ?_ h
      kernel_rfl

def f146_s0 (zero : Int) (v6 : List V) (v7 : Int) (v8 : Int) (R : Type) (κ : Ex → St → Option R) : Option R :=
  bif (firstBy V.intOf v6 != 0) then
    κ .rt (mkS [(2, .sc (.int .i64 (firstBy V.intOf v6))), (3, .sc (.int .i64 zero))] [])
  else
    κ (.ex 0) (mkS [(2, .bad), (3, .sc (.int .i64 zero))] [])
theorem f146_loop (l : List V) (hl : l.all (V.isInt .i64) = true) (hn : l.length ≤ 1000000000) (R : Type) (κ : Ex → St → Option R) : ∀ (k i : Nat), i + k = l.length →
    f146_l0 (k + 1) 0 l ((l.length : Nat) : Int) ((i : Nat) : Int) R κ = bif firstBy V.intOf (l.drop i) != 0 then κ .rt (mkS [(2, .sc (.int .i64 (firstBy V.intOf (l.drop i)))), (3, .sc (.int .i64 0))] []) else κ (.ex 0) (mkS [(2, .bad), (3, .sc (.int .i64 0))] [])
  | 0, i, h => by
    rw [f146_l0, dec_false (by omega), List.drop_of_length_le (by omega)]
    rfl
  | k + 1, i, h => by
    have hi : i < l.length := by omega
    have i1 : V.isInt .i64 l[i] = true := List.all_eq_true.1 hl _ (List.getElem_mem hi)
    rw [f146_l0, dec_true (show ((i : Nat) : Int) < ((l.length : Nat) : Int) by omega), dec_true (show (0 : Int) ≤ ((i : Nat) : Int) by omega), nth_at hi, i1, wrap_succ (by omega), f146_loop l hl hn R κ k (i + 1) (by omega), List.drop_eq_getElem_cons hi, firstBy]
    cases hb : V.intOf l[i] != 0 with
    | true => simp only [Bool.and_self, cond_true, hb]
    | false => simp only [Bool.and_self, cond_true, cond_false]
theorem f146_s0_eq (zero : Int) (v6 : List V) (v7 : Int) (v8 : Int) (hp : ((v7 == ((v6.length : Nat) : Int)) && (v8 == 0) && (zero == 0) && v6.all (V.isInt .i64) && decide (v6.length ≤ 1000000000)) = true) : ∃ n, ∀ (R : Type) (κ : Ex → St → Option R), f146_l0 n zero v6 v7 v8 R κ = f146_s0 zero v6 v7 v8 R κ := by
  simp only [Bool.and_eq_true, decide_eq_true_eq, beq_iff_eq] at hp
  obtain ⟨⟨⟨⟨rfl, rfl⟩, rfl⟩, h4⟩, h5⟩ := hp
  exact ⟨v6.length + 1, fun R κ => f146_loop v6 h4 h5 R κ v6.length 0 (by omega)⟩
def t_f146_l0 (st : St) (R : Type) (κ : Ex → St → Option R) : Option R := bif ckS f146_l0_ls f146_l0_rs st then (bif ((((st.env 7).intOf) == ((((st.env 6).cellsOf).length : Nat) : Int)) && (((st.env 8).intOf) == 0) && (((st.env 3).intOf) == 0) && ((st.env 6).cellsOf).all (V.isInt .i64) && decide (((st.env 6).cellsOf).length ≤ 1000000000)) then f146_s0 ((st.env 3).intOf) ((st.env 6).cellsOf) ((st.env 7).intOf) ((st.env 8).intOf) R κ else none) else none
theorem t_f146_l0_ok : ∀ st0 R κ r, t_f146_l0 (forget C 146 [0, 1, 0, 1, 1] st0) R κ = some r → ∃ ee ss, κ ee ss = some r ∧ RunP C prim 146 [0, 1, 0, 1, 1] (forget C 146 [0, 1, 0, 1, 1] st0) ee ss := by
  intro st0 R κ r h
  obtain ⟨hs, h⟩ := cond_some h
  obtain ⟨hp, h⟩ := cond_some h
  rw [canon (ls := f146_l0_ls) (rs := f146_l0_rs) (by kernel_rfl) st0 hs]
  obtain ⟨n, hn⟩ := f146_s0_eq _ _ _ _ hp
  rw [← hn] at h
  exact f146_l0_ok n _ _ _ _ R κ r h

def K_f146 : CallK := kNil
theorem K_f146_ok : KOK C prim K_f146 := KOK.nil
def T_f146 : Tab := tCons [0, 1, 0, 1, 1] t_f146_l0 <| tNil
theorem T_f146_ok : TOK C prim 146 T_f146 := TOK.cons t_f146_l0_ok <| TOK.nil
def f146 (vals : List V) : Option (V × List Rg) :=
  bif ((((vals.length : Nat) : Int) == ((vals.length : Nat) : Int)) && ((0 : Int) == 0) && ((0 : Int) == 0) && vals.all (V.isInt .i64) && decide (vals.length ≤ 1000000000)) then
    bif (firstBy V.intOf vals != 0) then
      some (.sc (.int .i64 (firstBy V.intOf vals)), [])
    else
      some (.sc (.int .i64 0), [])
  else none
theorem f146_run (vals : List V) (z9 : V × List Rg) (h : f146 vals = some z9) : CallR C prim 146 [.sl 1 vals] [] z9 := by
  refine call_fn (K := K_f146) (T := T_f146) K_f146_ok T_f146_ok (by kernel_rfl) ?_
  refine Eq.trans ?_ h
  kernel_rfl

theorem f146_eq (vals : List V) (hp : (vals.all (V.isInt .i64) && decide (vals.length ≤ 1000000000)) = true) : f146 vals = some (.sc (.int .i64 (firstBy V.intOf vals)), []) := by
  simp only [Bool.and_eq_true] at hp
  unfold f146
  rw [hp.1, hp.2, beq_self_eq_true]
  cases h : firstBy V.intOf vals != 0 with
  | true => rfl
  | false =>
    have : firstBy V.intOf vals = 0 := by simpa using h
    rw [this]; rfl
def k146 : PrimT := fun vs gs => match vs, gs with
  | [.sl 1 vals], [] => ((vals.all (V.isInt .i64) && decide (vals.length ≤ 1000000000)), .sc (.int .i64 (firstBy V.intOf vals)), [])
  | _, _ => (false, .bad, [])
theorem k146_ok : ∀ vs gs x, k146 vs gs = (true, x) → CallR C prim 146 vs gs x := by
  intro vs gs x h
  unfold k146 at h
  split at h
  · simp only [Prod.mk.injEq] at h
    obtain ⟨hp, rfl⟩ := h
    exact f146_run _ _ (f146_eq _ hp)
  · cases h

def K_f144_l0 : CallK := kCons 148 k148 <| kNil
theorem K_f144_l0_ok : KOK C prim K_f144_l0 := KOK.cons k148_ok <| KOK.nil
def T_f144_l0 : Tab := tNil
theorem T_f144_l0_ok : TOK C prim 144 T_f144_l0 := TOK.nil
def f144_l0 : Nat → ByteArray → ByteArray → Int → Int → Int → List V → (R : Type) → (Ex → St → Option R) → Option R
  | 0, _, _, _, _, _, _, _, _ => none
  | n + 1, line, separator, from', v9, v10, out, R, κ =>
    bif (decide (v10 < v9)) then
      bif (strEq separator (⟨#[]⟩ : ByteArray)) then
        bif (decide (v10 > 0)) then
          bif (((decide ((0 : Int) ≤ v10)) && (decide (v10 < ((line.size : Nat) : Int)))) && true) then
            bif (blankI ((line.data.getD (v10).toNat 0).toNat : Int)) then
              bif (((decide ((0 : Int) ≤ (IntKind.wrap .i64 (v10 - 1)))) && (decide ((IntKind.wrap .i64 (v10 - 1)) < ((line.size : Nat) : Int)))) && true) then
                bif (!(blankI ((line.data.getD ((IntKind.wrap .i64 (v10 - 1))).toNat 0).toNat : Int))) then
                  bif (((roomy (((lenE 2 out.length) + 1) * 16)) && (roomy ((lenE 2 out.length) + 1))) && true) then
                    f144_l0 n line separator v10 v9 (IntKind.wrap .i64 (v10 + 1)) (out ++ [.sc (.int .i64 from'), .sc (.int .i64 v10)]) R κ
                  else none
                else
                  bif (!(strEq separator (⟨#[]⟩ : ByteArray))) then
                    bif (((decide ((0 : Int) ≤ v10)) && (decide (v10 < ((line.size : Nat) : Int)))) && true) then
                      bif ((decide ((0 : Int) < ((separator.size : Nat) : Int))) && true) then
                        bif (((line.data.getD (v10).toNat 0).toNat : Int) == ((separator.data.getD 0 0).toNat : Int)) then
                          bif (((roomy (((lenE 2 out.length) + 1) * 16)) && (roomy ((lenE 2 out.length) + 1))) && true) then
                            f144_l0 n line separator (IntKind.wrap .i64 (v10 + 1)) v9 (IntKind.wrap .i64 (v10 + 1)) (out ++ [.sc (.int .i64 from'), .sc (.int .i64 v10)]) R κ
                          else none
                        else
                          f144_l0 n line separator from' v9 (IntKind.wrap .i64 (v10 + 1)) out R κ
                      else none
                    else none
                  else
                    f144_l0 n line separator from' v9 (IntKind.wrap .i64 (v10 + 1)) out R κ
              else none
            else
              bif (!(strEq separator (⟨#[]⟩ : ByteArray))) then
                bif (((decide ((0 : Int) ≤ v10)) && (decide (v10 < ((line.size : Nat) : Int)))) && true) then
                  bif ((decide ((0 : Int) < ((separator.size : Nat) : Int))) && true) then
                    bif (((line.data.getD (v10).toNat 0).toNat : Int) == ((separator.data.getD 0 0).toNat : Int)) then
                      bif (((roomy (((lenE 2 out.length) + 1) * 16)) && (roomy ((lenE 2 out.length) + 1))) && true) then
                        f144_l0 n line separator (IntKind.wrap .i64 (v10 + 1)) v9 (IntKind.wrap .i64 (v10 + 1)) (out ++ [.sc (.int .i64 from'), .sc (.int .i64 v10)]) R κ
                      else none
                    else
                      f144_l0 n line separator from' v9 (IntKind.wrap .i64 (v10 + 1)) out R κ
                  else none
                else none
              else
                f144_l0 n line separator from' v9 (IntKind.wrap .i64 (v10 + 1)) out R κ
          else none
        else
          bif (!(strEq separator (⟨#[]⟩ : ByteArray))) then
            bif (((decide ((0 : Int) ≤ v10)) && (decide (v10 < ((line.size : Nat) : Int)))) && true) then
              bif ((decide ((0 : Int) < ((separator.size : Nat) : Int))) && true) then
                bif (((line.data.getD (v10).toNat 0).toNat : Int) == ((separator.data.getD 0 0).toNat : Int)) then
                  bif (((roomy (((lenE 2 out.length) + 1) * 16)) && (roomy ((lenE 2 out.length) + 1))) && true) then
                    f144_l0 n line separator (IntKind.wrap .i64 (v10 + 1)) v9 (IntKind.wrap .i64 (v10 + 1)) (out ++ [.sc (.int .i64 from'), .sc (.int .i64 v10)]) R κ
                  else none
                else
                  f144_l0 n line separator from' v9 (IntKind.wrap .i64 (v10 + 1)) out R κ
              else none
            else none
          else
            f144_l0 n line separator from' v9 (IntKind.wrap .i64 (v10 + 1)) out R κ
      else
        bif (!(strEq separator (⟨#[]⟩ : ByteArray))) then
          bif (((decide ((0 : Int) ≤ v10)) && (decide (v10 < ((line.size : Nat) : Int)))) && true) then
            bif ((decide ((0 : Int) < ((separator.size : Nat) : Int))) && true) then
              bif (((line.data.getD (v10).toNat 0).toNat : Int) == ((separator.data.getD 0 0).toNat : Int)) then
                bif (((roomy (((lenE 2 out.length) + 1) * 16)) && (roomy ((lenE 2 out.length) + 1))) && true) then
                  f144_l0 n line separator (IntKind.wrap .i64 (v10 + 1)) v9 (IntKind.wrap .i64 (v10 + 1)) (out ++ [.sc (.int .i64 from'), .sc (.int .i64 v10)]) R κ
                else none
              else
                f144_l0 n line separator from' v9 (IntKind.wrap .i64 (v10 + 1)) out R κ
            else none
          else none
        else
          f144_l0 n line separator from' v9 (IntKind.wrap .i64 (v10 + 1)) out R κ
    else
      κ (.ex 0) (mkS [(0, .sc (.string line)), (4, .bad), (5, .ref ⟨.loc 5, 0, [], 175, false⟩), (6, .sc (.int .i64 from'))] [(.loc 5, some ⟨false, [.own 175 false out]⟩)])
def f144_l0_ls : List (Nat × Pat) := [(0, .s), (1, .s), (5, .is (.ref ⟨.loc 5, 0, [], 175, false⟩)), (6, .i .i64), (9, .i .i64), (10, .i .i64)]
def f144_l0_rs : List RPat := [⟨.loc 5, false, [.own 175 false]⟩]
theorem f144_l0_ok (n : Nat) : ∀ (line : ByteArray) (separator : ByteArray) (from' : Int) (v9 : Int) (v10 : Int) (out : List V) (R : Type) (κ : Ex → St → Option R) (r : R), f144_l0 n line separator from' v9 v10 out R κ = some r → ∃ ee ss, κ ee ss = some r ∧ RunP C prim 144 [0, 1, 0, 1, 1, 1] (mkS [(0, .sc (.string line)), (1, .sc (.string separator)), (5, .ref ⟨.loc 5, 0, [], 175, false⟩), (6, .sc (.int .i64 from')), (9, .sc (.int .i64 v9)), (10, .sc (.int .i64 v10))] [(.loc 5, some ⟨false, [.own 175 false out]⟩)]) ee ss := by
  induction n with
  | zero => intro line separator from' v9 v10 out R κ r h; cases h
  | succ n ih =>
    intro line separator from' v9 v10 out R κ r h
    refine loop_round (K := K_f144_l0) (T := T_f144_l0) K_f144_l0_ok T_f144_l0_ok (p := [0, 1, 0, 1, 1, 1]) (by kernel_rfl) (fun st => bif ckS f144_l0_ls f144_l0_rs st then f144_l0 n ((st.env 0).strOf) ((st.env 1).strOf) ((st.env 6).intOf) ((st.env 9).intOf) ((st.env 10).intOf) ((nthV (rowOf (st.regs (.loc 5))) 0).cellsOf) R κ else none) (fun st0 h0 => ?_) ?_
    · obtain ⟨hs, h0⟩ := cond_some h0
      rw [canon (ls := f144_l0_ls) (rs := f144_l0_rs) (by kernel_rfl) st0 hs]
      exact ih _ _ _ _ _ _ R κ r h0
    · refine Eq.trans ?_ h
      kernel_rfl

def f144_s0 (line : ByteArray) (separator : ByteArray) (from' : Int) (v9 : Int) (v10 : Int) (out : List V) (R : Type) (κ : Ex → St → Option R) : Option R :=
  κ (.ex 0) (mkS [(0, .sc (.string line)), (4, .bad), (5, .ref ⟨.loc 5, 0, [], 175, false⟩), (6, .sc (.int .i64 ((fldZ line separator : Nat) : Int)))] [(.loc 5, some ⟨false, [.own 175 false (fldC line separator)]⟩)])
theorem f144_step (n : Nat) (line sep : ByteArray) (fr i : Nat) (out : List V) (hi : i < line.size) (hs : line.size ≤ 1000000000) (ho : out.length ≤ 2000000000) (R : Type) (κ : Ex → St → Option R) :
    f144_l0 (n + 1) line sep ((fr : Nat) : Int) ((line.size : Nat) : Int) ((i : Nat) : Int) out R κ = bif cutAt line sep i then f144_l0 n line sep ((nxF sep i : Nat) : Int) ((line.size : Nat) : Int) ((i + 1 : Nat) : Int) (out ++ [celI fr, celI i]) R κ else f144_l0 n line sep ((fr : Nat) : Int) ((line.size : Nat) : Int) ((i + 1 : Nat) : Int) out R κ := by
  have r1 : roomy ((lenE 2 out.length + 1) * 16) = true := dec_true (by have : lenE 2 out.length = out.length / 2 := rfl; omega)
  have r2 : roomy (lenE 2 out.length + 1) = true := dec_true (by have : lenE 2 out.length = out.length / 2 := rfl; omega)
  have b : (((line.data.getD i 0).toNat : Nat) : Int) = byteI line i := rfl
  have b0 : (((sep.data.getD 0 0).toNat : Nat) : Int) = byteI sep 0 := rfl
  rw [f144_l0, dec_true (show ((i : Nat) : Int) < ((line.size : Nat) : Int) by omega), dec_true (show (0 : Int) ≤ ((i : Nat) : Int) by omega), Int.toNat_natCast, wrap_succ (by omega), r1, r2, b, b0]
  unfold cutAt nxF
  cases he : strEq sep (⟨#[]⟩ : ByteArray) with
  | true =>
    cases i with
    | zero =>
      rw [dec_false (show ¬ ((0 : Nat) : Int) > 0 by omega), dec_false (show ¬ (0 < 0) by omega)]
      rfl
    | succ j =>
      have hw : IntKind.wrap .i64 (((j + 1 : Nat) : Int) - 1) = ((j : Nat) : Int) := by rw [wrap_id (by omega) (by omega)]; omega
      have bj : (((line.data.getD j 0).toNat : Nat) : Int) = byteI line j := rfl
      rw [dec_true (show ((j + 1 : Nat) : Int) > 0 by omega), dec_true (show 0 < j + 1 by omega), hw, dec_true (show (0 : Int) ≤ ((j : Nat) : Int) by omega), dec_true (show ((j : Nat) : Int) < ((line.size : Nat) : Int) by omega), Int.toNat_natCast, bj, Nat.add_sub_cancel]
      cases blankI (byteI line (j + 1)) <;> cases blankI (byteI line j) <;> rfl
  | false =>
    have hz : 0 < sep.size := by
      rcases Nat.eq_zero_or_pos sep.size with h' | h'
      · have : sep = ⟨#[]⟩ := ba_ext (by rw [bl_size] at h'; exact List.eq_nil_of_length_eq_zero h')
        rw [this, strEq_self] at he; cases he
      · exact h'
    rw [dec_true (show (0 : Int) < ((sep.size : Nat) : Int) by omega)]
    cases byteI line i == byteI sep 0 <;> rfl
theorem f144_loop (line sep : ByteArray) (hs : line.size ≤ 1000000000) (R : Type) (κ : Ex → St → Option R) : ∀ (k i fr : Nat) (out : List V), i + k = line.size → out.length ≤ 2 * i →
    f144_l0 (k + 1) line sep ((fr : Nat) : Int) ((line.size : Nat) : Int) ((i : Nat) : Int) out R κ = κ (.ex 0) (mkS [(0, .sc (.string line)), (4, .bad), (5, .ref ⟨.loc 5, 0, [], 175, false⟩), (6, .sc (.int .i64 (((fldF line sep k i fr).2 : Nat) : Int)))] [(.loc 5, some ⟨false, [.own 175 false (out ++ (fldF line sep k i fr).1)]⟩)])
  | 0, i, fr, out, h, ho => by
    rw [f144_l0, dec_false (by omega), fldF, List.append_nil]
    rfl
  | k + 1, i, fr, out, h, ho => by
    rw [f144_step _ _ _ _ _ _ (by omega) hs (by omega), fldF]
    cases cutAt line sep i with
    | true =>
      simp only [cond_true]
      rw [f144_loop line sep hs R κ k (i + 1) (nxF sep i) _ (by omega) (by simp; omega)]
      simp only [List.append_assoc, List.cons_append, List.nil_append]
    | false =>
      simp only [cond_false]
      exact f144_loop line sep hs R κ k (i + 1) fr out (by omega) (by omega)
theorem f144_s0_eq (line : ByteArray) (separator : ByteArray) (from' : Int) (v9 : Int) (v10 : Int) (out : List V) (hp : ((v9 == ((line.size : Nat) : Int)) && (v10 == 0) && (from' == 0) && (out.length == 0) && decide (line.size ≤ 1000000000)) = true) : ∃ n, ∀ (R : Type) (κ : Ex → St → Option R), f144_l0 n line separator from' v9 v10 out R κ = f144_s0 line separator from' v9 v10 out R κ := by
  simp only [Bool.and_eq_true, decide_eq_true_eq, beq_iff_eq] at hp
  obtain ⟨⟨⟨⟨rfl, rfl⟩, rfl⟩, h4⟩, h5⟩ := hp
  obtain rfl : out = [] := List.eq_nil_of_length_eq_zero h4
  exact ⟨line.size + 1, fun R κ => f144_loop line separator h5 R κ line.size 0 0 [] (by omega) (Nat.le_refl _)⟩
def t_f144_l0 (st : St) (R : Type) (κ : Ex → St → Option R) : Option R := bif ckS f144_l0_ls f144_l0_rs st then (bif ((((st.env 9).intOf) == ((((st.env 0).strOf).size : Nat) : Int)) && (((st.env 10).intOf) == 0) && (((st.env 6).intOf) == 0) && (((nthV (rowOf (st.regs (.loc 5))) 0).cellsOf).length == 0) && decide (((st.env 0).strOf).size ≤ 1000000000)) then f144_s0 ((st.env 0).strOf) ((st.env 1).strOf) ((st.env 6).intOf) ((st.env 9).intOf) ((st.env 10).intOf) ((nthV (rowOf (st.regs (.loc 5))) 0).cellsOf) R κ else none) else none
theorem t_f144_l0_ok : ∀ st0 R κ r, t_f144_l0 (forget C 144 [0, 1, 0, 1, 1, 1] st0) R κ = some r → ∃ ee ss, κ ee ss = some r ∧ RunP C prim 144 [0, 1, 0, 1, 1, 1] (forget C 144 [0, 1, 0, 1, 1, 1] st0) ee ss := by
  intro st0 R κ r h
  obtain ⟨hs, h⟩ := cond_some h
  obtain ⟨hp, h⟩ := cond_some h
  rw [canon (ls := f144_l0_ls) (rs := f144_l0_rs) (by kernel_rfl) st0 hs]
  obtain ⟨n, hn⟩ := f144_s0_eq _ _ _ _ _ _ hp
  rw [← hn] at h
  exact f144_l0_ok n _ _ _ _ _ _ R κ r h

def K_f144 : CallK := kNil
theorem K_f144_ok : KOK C prim K_f144 := KOK.nil
def T_f144 : Tab := tCons [0, 1, 0, 1, 1, 1] t_f144_l0 <| tNil
theorem T_f144_ok : TOK C prim 144 T_f144 := TOK.cons t_f144_l0_ok <| TOK.nil
def f144 (line : ByteArray) (separator : ByteArray) : Option (V × List Rg) :=
  bif ((((line.size : Nat) : Int) == ((line.size : Nat) : Int)) && ((0 : Int) == 0) && ((0 : Int) == 0) && (([] : List V).length == 0) && decide (line.size ≤ 1000000000)) then
    bif (((roomy (((lenE 2 ((fldC line separator)).length) + 1) * 16)) && (roomy ((lenE 2 ((fldC line separator)).length) + 1))) && true) then
      some (.own 175 false ((fldC line separator) ++ [.sc (.int .i64 ((fldZ line separator : Nat) : Int)), .sc (.int .i64 ((line.size : Nat) : Int))]), [])
    else none
  else none
theorem f144_run (line : ByteArray) (separator : ByteArray) (z9 : V × List Rg) (h : f144 line separator = some z9) : CallR C prim 144 [.sc (.string line), .sc (.string separator)] [] z9 := by
  refine call_fn (K := K_f144) (T := T_f144) K_f144_ok T_f144_ok (by kernel_rfl) ?_
  refine Eq.trans ?_ h
  kernel_rfl

theorem fld_room (line sep : ByteArray) (hs : line.size ≤ 1000000000) : roomy ((lenE 2 (fldC line sep).length + 1) * 16) = true ∧ roomy (lenE 2 (fldC line sep).length + 1) = true := by
  obtain ⟨_, _, h⟩ := fldF_ok line sep line.size line.size 0 0 (by omega) (Nat.le_refl _)
  have e : lenE 2 (fldC line sep).length = (fldF line sep line.size 0 0).1.length / 2 := rfl
  exact ⟨dec_true (by omega), dec_true (by omega)⟩
theorem f144_eq (line : ByteArray) (separator : ByteArray) (hp : (decide (line.size ≤ 1000000000)) = true) : f144 line separator = some (.own 175 false (fieldsV line separator), []) := by
  have hq := hp
  simp only [decide_eq_true_eq] at hp
  obtain ⟨r1, r2⟩ := fld_room line separator hp
  unfold f144
  rw [hq, beq_self_eq_true, r1, r2]
  rfl
def k144 : PrimT := fun vs gs => match vs, gs with
  | [.sc (.string line), .sc (.string separator)], [] => ((decide (line.size ≤ 1000000000)), .own 175 false (fieldsV line separator), [])
  | _, _ => (false, .bad, [])
theorem k144_ok : ∀ vs gs x, k144 vs gs = (true, x) → CallR C prim 144 vs gs x := by
  intro vs gs x h
  unfold k144 at h
  split at h
  · simp only [Prod.mk.injEq] at h
    obtain ⟨hp, rfl⟩ := h
    exact f144_run _ _ _ (f144_eq _ _ hp)
  · cases h

def K_f91_l0 : CallK := kCons 70 k70 <| kNil
theorem K_f91_l0_ok : KOK C prim K_f91_l0 := KOK.cons k70_ok <| KOK.nil
def T_f91_l0 : Tab := tNil
theorem T_f91_l0_ok : TOK C prim 91 T_f91_l0 := TOK.nil
def f91_l0 : Nat → ByteArray → ByteArray → Int → Int → Int → List V → (R : Type) → (Ex → St → Option R) → Option R
  | 0, _, _, _, _, _, _, _, _ => none
  | n + 1, line, separator, from', v9, v10, l, R, κ =>
    bif (decide (v10 < v9)) then
      bif (strEq separator (⟨#[]⟩ : ByteArray)) then
        bif (decide (v10 > 0)) then
          bif (((decide ((0 : Int) ≤ v10)) && (decide (v10 < ((line.size : Nat) : Int)))) && true) then
            bif (blankI ((line.data.getD (v10).toNat 0).toNat : Int)) then
              bif (((decide ((0 : Int) ≤ (IntKind.wrap .i64 (v10 - 1)))) && (decide ((IntKind.wrap .i64 (v10 - 1)) < ((line.size : Nat) : Int)))) && true) then
                bif (!(blankI ((line.data.getD ((IntKind.wrap .i64 (v10 - 1))).toNat 0).toNat : Int))) then
                  bif (((roomy (((lenE 2 l.length) + 1) * 16)) && (roomy ((lenE 2 l.length) + 1))) && true) then
                    f91_l0 n line separator v10 v9 (IntKind.wrap .i64 (v10 + 1)) (l ++ [.sc (.int .i64 from'), .sc (.int .i64 v10)]) R κ
                  else none
                else
                  f91_l0 n line separator from' v9 (IntKind.wrap .i64 (v10 + 1)) l R κ
              else none
            else
              f91_l0 n line separator from' v9 (IntKind.wrap .i64 (v10 + 1)) l R κ
          else none
        else
          f91_l0 n line separator from' v9 (IntKind.wrap .i64 (v10 + 1)) l R κ
      else
        bif (((decide ((0 : Int) ≤ v10)) && (decide (v10 < ((line.size : Nat) : Int)))) && true) then
          bif ((decide ((0 : Int) < ((separator.size : Nat) : Int))) && true) then
            bif (((line.data.getD (v10).toNat 0).toNat : Int) == ((separator.data.getD 0 0).toNat : Int)) then
              bif (((roomy (((lenE 2 l.length) + 1) * 16)) && (roomy ((lenE 2 l.length) + 1))) && true) then
                f91_l0 n line separator (IntKind.wrap .i64 (v10 + 1)) v9 (IntKind.wrap .i64 (v10 + 1)) (l ++ [.sc (.int .i64 from'), .sc (.int .i64 v10)]) R κ
              else none
            else
              f91_l0 n line separator from' v9 (IntKind.wrap .i64 (v10 + 1)) l R κ
          else none
        else none
    else
      κ (.ex 0) (mkS [(0, .sc (.string line)), (4, .bad), (5, .ref ⟨.loc 5, 0, [], 124, false⟩), (6, .sc (.int .i64 from'))] [(.loc 5, some ⟨false, [.own 124 false l]⟩)])
def f91_l0_ls : List (Nat × Pat) := [(0, .s), (1, .s), (5, .is (.ref ⟨.loc 5, 0, [], 124, false⟩)), (6, .i .i64), (9, .i .i64), (10, .i .i64)]
def f91_l0_rs : List RPat := [⟨.loc 5, false, [.own 124 false]⟩]
theorem f91_l0_ok (n : Nat) : ∀ (line : ByteArray) (separator : ByteArray) (from' : Int) (v9 : Int) (v10 : Int) (l : List V) (R : Type) (κ : Ex → St → Option R) (r : R), f91_l0 n line separator from' v9 v10 l R κ = some r → ∃ ee ss, κ ee ss = some r ∧ RunP C prim 91 [0, 1, 0, 1, 1, 1] (mkS [(0, .sc (.string line)), (1, .sc (.string separator)), (5, .ref ⟨.loc 5, 0, [], 124, false⟩), (6, .sc (.int .i64 from')), (9, .sc (.int .i64 v9)), (10, .sc (.int .i64 v10))] [(.loc 5, some ⟨false, [.own 124 false l]⟩)]) ee ss := by
  induction n with
  | zero => intro line separator from' v9 v10 l R κ r h; cases h
  | succ n ih =>
    intro line separator from' v9 v10 l R κ r h
    refine loop_round (K := K_f91_l0) (T := T_f91_l0) K_f91_l0_ok T_f91_l0_ok (p := [0, 1, 0, 1, 1, 1]) (by kernel_rfl) (fun st => bif ckS f91_l0_ls f91_l0_rs st then f91_l0 n ((st.env 0).strOf) ((st.env 1).strOf) ((st.env 6).intOf) ((st.env 9).intOf) ((st.env 10).intOf) ((nthV (rowOf (st.regs (.loc 5))) 0).cellsOf) R κ else none) (fun st0 h0 => ?_) ?_
    · obtain ⟨hs, h0⟩ := cond_some h0
      rw [canon (ls := f91_l0_ls) (rs := f91_l0_rs) (by kernel_rfl) st0 hs]
      exact ih _ _ _ _ _ _ R κ r h0
    · refine Eq.trans ?_ h
      kernel_rfl

def f91_s0 (line : ByteArray) (separator : ByteArray) (from' : Int) (v9 : Int) (v10 : Int) (l : List V) (R : Type) (κ : Ex → St → Option R) : Option R :=
  κ (.ex 0) (mkS [(0, .sc (.string line)), (4, .bad), (5, .ref ⟨.loc 5, 0, [], 124, false⟩), (6, .sc (.int .i64 ((fldZ line separator : Nat) : Int)))] [(.loc 5, some ⟨false, [.own 124 false (fldC line separator)]⟩)])
theorem f91_step (n : Nat) (line sep : ByteArray) (fr i : Nat) (out : List V) (hi : i < line.size) (hs : line.size ≤ 1000000000) (ho : out.length ≤ 2000000000) (R : Type) (κ : Ex → St → Option R) :
    f91_l0 (n + 1) line sep ((fr : Nat) : Int) ((line.size : Nat) : Int) ((i : Nat) : Int) out R κ = bif cutAt line sep i then f91_l0 n line sep ((nxF sep i : Nat) : Int) ((line.size : Nat) : Int) ((i + 1 : Nat) : Int) (out ++ [celI fr, celI i]) R κ else f91_l0 n line sep ((fr : Nat) : Int) ((line.size : Nat) : Int) ((i + 1 : Nat) : Int) out R κ := by
  have r1 : roomy ((lenE 2 out.length + 1) * 16) = true := dec_true (by have : lenE 2 out.length = out.length / 2 := rfl; omega)
  have r2 : roomy (lenE 2 out.length + 1) = true := dec_true (by have : lenE 2 out.length = out.length / 2 := rfl; omega)
  have b : (((line.data.getD i 0).toNat : Nat) : Int) = byteI line i := rfl
  have b0 : (((sep.data.getD 0 0).toNat : Nat) : Int) = byteI sep 0 := rfl
  rw [f91_l0, dec_true (show ((i : Nat) : Int) < ((line.size : Nat) : Int) by omega), dec_true (show (0 : Int) ≤ ((i : Nat) : Int) by omega), Int.toNat_natCast, wrap_succ (by omega), r1, r2, b, b0]
  unfold cutAt nxF
  cases he : strEq sep (⟨#[]⟩ : ByteArray) with
  | true =>
    cases i with
    | zero =>
      rw [dec_false (show ¬ ((0 : Nat) : Int) > 0 by omega), dec_false (show ¬ (0 < 0) by omega)]
      rfl
    | succ j =>
      have hw : IntKind.wrap .i64 (((j + 1 : Nat) : Int) - 1) = ((j : Nat) : Int) := by rw [wrap_id (by omega) (by omega)]; omega
      have bj : (((line.data.getD j 0).toNat : Nat) : Int) = byteI line j := rfl
      rw [dec_true (show ((j + 1 : Nat) : Int) > 0 by omega), dec_true (show 0 < j + 1 by omega), hw, dec_true (show (0 : Int) ≤ ((j : Nat) : Int) by omega), dec_true (show ((j : Nat) : Int) < ((line.size : Nat) : Int) by omega), Int.toNat_natCast, bj, Nat.add_sub_cancel]
      cases blankI (byteI line (j + 1)) <;> cases blankI (byteI line j) <;> rfl
  | false =>
    have hz : 0 < sep.size := by
      rcases Nat.eq_zero_or_pos sep.size with h' | h'
      · have : sep = ⟨#[]⟩ := ba_ext (by rw [bl_size] at h'; exact List.eq_nil_of_length_eq_zero h')
        rw [this, strEq_self] at he; cases he
      · exact h'
    rw [dec_true (show (0 : Int) < ((sep.size : Nat) : Int) by omega)]
    cases byteI line i == byteI sep 0 <;> rfl
theorem f91_loop (line sep : ByteArray) (hs : line.size ≤ 1000000000) (R : Type) (κ : Ex → St → Option R) : ∀ (k i fr : Nat) (out : List V), i + k = line.size → out.length ≤ 2 * i →
    f91_l0 (k + 1) line sep ((fr : Nat) : Int) ((line.size : Nat) : Int) ((i : Nat) : Int) out R κ = κ (.ex 0) (mkS [(0, .sc (.string line)), (4, .bad), (5, .ref ⟨.loc 5, 0, [], 124, false⟩), (6, .sc (.int .i64 (((fldF line sep k i fr).2 : Nat) : Int)))] [(.loc 5, some ⟨false, [.own 124 false (out ++ (fldF line sep k i fr).1)]⟩)])
  | 0, i, fr, out, h, ho => by
    rw [f91_l0, dec_false (by omega), fldF, List.append_nil]
    rfl
  | k + 1, i, fr, out, h, ho => by
    rw [f91_step _ _ _ _ _ _ (by omega) hs (by omega), fldF]
    cases cutAt line sep i with
    | true =>
      simp only [cond_true]
      rw [f91_loop line sep hs R κ k (i + 1) (nxF sep i) _ (by omega) (by simp; omega)]
      simp only [List.append_assoc, List.cons_append, List.nil_append]
    | false =>
      simp only [cond_false]
      exact f91_loop line sep hs R κ k (i + 1) fr out (by omega) (by omega)
theorem f91_s0_eq (line : ByteArray) (separator : ByteArray) (from' : Int) (v9 : Int) (v10 : Int) (l : List V) (hp : ((v9 == ((line.size : Nat) : Int)) && (v10 == 0) && (from' == 0) && (l.length == 0) && decide (line.size ≤ 1000000000)) = true) : ∃ n, ∀ (R : Type) (κ : Ex → St → Option R), f91_l0 n line separator from' v9 v10 l R κ = f91_s0 line separator from' v9 v10 l R κ := by
  simp only [Bool.and_eq_true, decide_eq_true_eq, beq_iff_eq] at hp
  obtain ⟨⟨⟨⟨rfl, rfl⟩, rfl⟩, h4⟩, h5⟩ := hp
  obtain rfl : l = [] := List.eq_nil_of_length_eq_zero h4
  exact ⟨line.size + 1, fun R κ => f91_loop line separator h5 R κ line.size 0 0 [] (by omega) (Nat.le_refl _)⟩
def t_f91_l0 (st : St) (R : Type) (κ : Ex → St → Option R) : Option R := bif ckS f91_l0_ls f91_l0_rs st then (bif ((((st.env 9).intOf) == ((((st.env 0).strOf).size : Nat) : Int)) && (((st.env 10).intOf) == 0) && (((st.env 6).intOf) == 0) && (((nthV (rowOf (st.regs (.loc 5))) 0).cellsOf).length == 0) && decide (((st.env 0).strOf).size ≤ 1000000000)) then f91_s0 ((st.env 0).strOf) ((st.env 1).strOf) ((st.env 6).intOf) ((st.env 9).intOf) ((st.env 10).intOf) ((nthV (rowOf (st.regs (.loc 5))) 0).cellsOf) R κ else none) else none
theorem t_f91_l0_ok : ∀ st0 R κ r, t_f91_l0 (forget C 91 [0, 1, 0, 1, 1, 1] st0) R κ = some r → ∃ ee ss, κ ee ss = some r ∧ RunP C prim 91 [0, 1, 0, 1, 1, 1] (forget C 91 [0, 1, 0, 1, 1, 1] st0) ee ss := by
  intro st0 R κ r h
  obtain ⟨hs, h⟩ := cond_some h
  obtain ⟨hp, h⟩ := cond_some h
  rw [canon (ls := f91_l0_ls) (rs := f91_l0_rs) (by kernel_rfl) st0 hs]
  obtain ⟨n, hn⟩ := f91_s0_eq _ _ _ _ _ _ hp
  rw [← hn] at h
  exact f91_l0_ok n _ _ _ _ _ _ R κ r h

def K_f91 : CallK := kNil
theorem K_f91_ok : KOK C prim K_f91 := KOK.nil
def T_f91 : Tab := tCons [0, 1, 0, 1, 1, 1] t_f91_l0 <| tNil
theorem T_f91_ok : TOK C prim 91 T_f91 := TOK.cons t_f91_l0_ok <| TOK.nil
def f91 (line : ByteArray) (separator : ByteArray) : Option (V × List Rg) :=
  bif ((((line.size : Nat) : Int) == ((line.size : Nat) : Int)) && ((0 : Int) == 0) && ((0 : Int) == 0) && (([] : List V).length == 0) && decide (line.size ≤ 1000000000)) then
    bif (((roomy (((lenE 2 ((fldC line separator)).length) + 1) * 16)) && (roomy ((lenE 2 ((fldC line separator)).length) + 1))) && true) then
      some (.own 124 false ((fldC line separator) ++ [.sc (.int .i64 ((fldZ line separator : Nat) : Int)), .sc (.int .i64 ((line.size : Nat) : Int))]), [])
    else none
  else none
theorem f91_run (line : ByteArray) (separator : ByteArray) (z9 : V × List Rg) (h : f91 line separator = some z9) : CallR C prim 91 [.sc (.string line), .sc (.string separator)] [] z9 := by
  refine call_fn (K := K_f91) (T := T_f91) K_f91_ok T_f91_ok (by kernel_rfl) ?_
  refine Eq.trans ?_ h
  kernel_rfl

theorem f91_eq (line : ByteArray) (separator : ByteArray) (hp : (decide (line.size ≤ 1000000000)) = true) : f91 line separator = some (.own 124 false (fieldsV line separator), []) := by
  have hq := hp
  simp only [decide_eq_true_eq] at hp
  obtain ⟨r1, r2⟩ := fld_room line separator hp
  unfold f91
  rw [hq, beq_self_eq_true, r1, r2]
  rfl
def k91 : PrimT := fun vs gs => match vs, gs with
  | [.sc (.string line), .sc (.string separator)], [] => ((decide (line.size ≤ 1000000000)), .own 124 false (fieldsV line separator), [])
  | _, _ => (false, .bad, [])
theorem k91_ok : ∀ vs gs x, k91 vs gs = (true, x) → CallR C prim 91 vs gs x := by
  intro vs gs x h
  unfold k91 at h
  split at h
  · simp only [Prod.mk.injEq] at h
    obtain ⟨hp, rfl⟩ := h
    exact f91_run _ _ _ (f91_eq _ _ hp)
  · cases h

def K_f145_l0 : CallK := kCons 148 k148 <| kNil
theorem K_f145_l0_ok : KOK C prim K_f145_l0 := KOK.cons k148_ok <| KOK.nil
def T_f145_l0 : Tab := tNil
theorem T_f145_l0_ok : TOK C prim 145 T_f145_l0 := TOK.nil
def f145_l0 : Nat → ByteArray → Bool → Int → Int → Int → (R : Type) → (Ex → St → Option R) → Option R
  | 0, _, _, _, _, _, _, _ => none
  | n + 1, line, blanks, at', f0, f1, R, κ =>
    bif blanks then
      bif (decide (at' < f1)) then
        bif (((decide ((0 : Int) ≤ at')) && (decide (at' < ((line.size : Nat) : Int)))) && true) then
          bif (blankI ((line.data.getD (at').toNat 0).toNat : Int)) then
            f145_l0 n line blanks (IntKind.wrap .i64 (at' + 1)) f0 f1 R κ
          else
            κ (.ex 0) (mkS [(6, .bad), (7, .sc (.int .i64 at'))] [])
        else none
      else
        κ (.ex 0) (mkS [(6, .bad), (7, .sc (.int .i64 at'))] [])
    else
      κ (.ex 0) (mkS [(6, .bad), (7, .sc (.int .i64 at'))] [])
def f145_l0_ls : List (Nat × Pat) := [(0, .s), (2, .b), (4, .is (.ptrB (.loc 4) 0)), (7, .i .i64)]
def f145_l0_rs : List RPat := [⟨.loc 4, true, [.i .i64, .i .i64]⟩]
theorem f145_l0_ok (n : Nat) : ∀ (line : ByteArray) (blanks : Bool) (at' : Int) (f0 : Int) (f1 : Int) (R : Type) (κ : Ex → St → Option R) (r : R), f145_l0 n line blanks at' f0 f1 R κ = some r → ∃ ee ss, κ ee ss = some r ∧ RunP C prim 145 [0, 0, 1, 1] (mkS [(0, .sc (.string line)), (2, .sc (.bool blanks)), (4, .ptrB (.loc 4) 0), (7, .sc (.int .i64 at'))] [(.loc 4, some ⟨true, [.sc (.int .i64 f0), .sc (.int .i64 f1)]⟩)]) ee ss := by
  induction n with
  | zero => intro line blanks at' f0 f1 R κ r h; cases h
  | succ n ih =>
    intro line blanks at' f0 f1 R κ r h
    refine loop_round (K := K_f145_l0) (T := T_f145_l0) K_f145_l0_ok T_f145_l0_ok (p := [0, 0, 1, 1]) (by kernel_rfl) (fun st => bif ckS f145_l0_ls f145_l0_rs st then f145_l0 n ((st.env 0).strOf) ((st.env 2).boolOf) ((st.env 7).intOf) ((nthV (rowOf (st.regs (.loc 4))) 0).intOf) ((nthV (rowOf (st.regs (.loc 4))) 1).intOf) R κ else none) (fun st0 h0 => ?_) ?_
    · obtain ⟨hs, h0⟩ := cond_some h0
      rw [canon (ls := f145_l0_ls) (rs := f145_l0_rs) (by kernel_rfl) st0 hs]
      exact ih _ _ _ _ _ R κ r h0
    · refine Eq.trans ?_ h
      kernel_rfl

def f145_s0 (line : ByteArray) (blanks : Bool) (at' : Int) (f0 : Int) (f1 : Int) (R : Type) (κ : Ex → St → Option R) : Option R :=
  κ (.ex 0) (mkS [(6, .bad), (7, .sc (.int .i64 (begI line at' f1 blanks)))] [])
theorem f145_loop (line : ByteArray) (f0 : Int) (t : Nat) (ht : t ≤ line.size) (hs : line.size ≤ 1000000000) (R : Type) (κ : Ex → St → Option R) : ∀ (k i : Nat), i + k = t →
    f145_l0 (k + 1) line true ((i : Nat) : Int) f0 ((t : Nat) : Int) R κ = κ (.ex 0) (mkS [(6, .bad), (7, .sc (.int .i64 ((i + leadN blankU ((line.data.toList.take t).drop i) : Nat) : Int)))] [])
  | 0, i, h => by
    rw [f145_l0, dec_false (by omega), List.drop_of_length_le (by rw [List.length_take]; omega)]
    rfl
  | k + 1, i, h => by
    have hl := bl_size line
    have hlt : i < line.data.toList.length := by omega
    have hlt' : i < (line.data.toList.take t).length := by rw [List.length_take]; omega
    have e : (line.data.toList.take t)[i] = line.data.toList[i] := List.getElem_take
    have e2 : blankI (((line.data.toList[i]).toNat : Nat) : Int) = blankU line.data.toList[i] := rfl
    rw [f145_l0, dec_true (show ((i : Nat) : Int) < ((t : Nat) : Int) by omega), dec_true (show (0 : Int) ≤ ((i : Nat) : Int) by omega), dec_true (show ((i : Nat) : Int) < ((line.size : Nat) : Int) by omega), Int.toNat_natCast, dig_byte line hlt, wrap_succ (by omega), f145_loop line f0 t ht hs R κ k (i + 1) (by omega), List.drop_eq_getElem_cons hlt', leadN, e, e2]
    cases blankU line.data.toList[i] with
    | false => rfl
    | true =>
      simp only [Bool.and_self, cond_true]
      rw [Nat.add_assoc, Nat.add_comm 1]
theorem f145_s0_eq (line : ByteArray) (blanks : Bool) (at' : Int) (f0 : Int) (f1 : Int) (hp : (decide (0 ≤ at') && decide (at' ≤ f1) && decide (f1 ≤ ((line.size : Nat) : Int)) && decide (line.size ≤ 1000000000)) = true) : ∃ n, ∀ (R : Type) (κ : Ex → St → Option R), f145_l0 n line blanks at' f0 f1 R κ = f145_s0 line blanks at' f0 f1 R κ := by
  simp only [Bool.and_eq_true, decide_eq_true_eq] at hp
  obtain ⟨⟨⟨h1, h2⟩, h3⟩, h4⟩ := hp
  unfold f145_s0 begI
  cases blanks with
  | false => exact ⟨1, fun R κ => rfl⟩
  | true =>
    obtain ⟨i, rfl⟩ : ∃ i : Nat, at' = (i : Int) := ⟨at'.toNat, by omega⟩
    obtain ⟨t, rfl⟩ : ∃ t : Nat, f1 = (t : Int) := ⟨f1.toNat, by omega⟩
    exact ⟨t - i + 1, fun R κ => f145_loop line f0 t (by omega) h4 R κ (t - i) i (by omega)⟩
def t_f145_l0 (st : St) (R : Type) (κ : Ex → St → Option R) : Option R := bif ckS f145_l0_ls f145_l0_rs st then (bif (decide (0 ≤ ((st.env 7).intOf)) && decide (((st.env 7).intOf) ≤ ((nthV (rowOf (st.regs (.loc 4))) 1).intOf)) && decide (((nthV (rowOf (st.regs (.loc 4))) 1).intOf) ≤ ((((st.env 0).strOf).size : Nat) : Int)) && decide (((st.env 0).strOf).size ≤ 1000000000)) then f145_s0 ((st.env 0).strOf) ((st.env 2).boolOf) ((st.env 7).intOf) ((nthV (rowOf (st.regs (.loc 4))) 0).intOf) ((nthV (rowOf (st.regs (.loc 4))) 1).intOf) R κ else none) else none
theorem t_f145_l0_ok : ∀ st0 R κ r, t_f145_l0 (forget C 145 [0, 0, 1, 1] st0) R κ = some r → ∃ ee ss, κ ee ss = some r ∧ RunP C prim 145 [0, 0, 1, 1] (forget C 145 [0, 0, 1, 1] st0) ee ss := by
  intro st0 R κ r h
  obtain ⟨hs, h⟩ := cond_some h
  obtain ⟨hp, h⟩ := cond_some h
  rw [canon (ls := f145_l0_ls) (rs := f145_l0_rs) (by kernel_rfl) st0 hs]
  obtain ⟨n, hn⟩ := f145_s0_eq _ _ _ _ _ hp
  rw [← hn] at h
  exact f145_l0_ok n _ _ _ _ _ R κ r h

def K_f145 : CallK := kNil
theorem K_f145_ok : KOK C prim K_f145 := KOK.nil
def T_f145 : Tab := tCons [0, 0, 1, 1] t_f145_l0 <| tNil
theorem T_f145_ok : TOK C prim 145 T_f145 := TOK.cons t_f145_l0_ok <| TOK.nil
def f145 (line : ByteArray) (f0 : Int) (f1 : Int) (blanks : Bool) : Option (V × List Rg) :=
  bif (decide (0 ≤ f0) && decide (f0 ≤ f1) && decide (f1 ≤ ((line.size : Nat) : Int)) && decide (line.size ≤ 1000000000)) then
    some (.sc (.int .i64 (begI line f0 f1 blanks)), [])
  else none
theorem f145_run (line : ByteArray) (f0 : Int) (f1 : Int) (blanks : Bool) (z9 : V × List Rg) (h : f145 line f0 f1 blanks = some z9) : CallR C prim 145 [.sc (.string line), .ag [.sc (.int .i64 f0), .sc (.int .i64 f1)], .sc (.bool blanks)] [] z9 := by
  refine call_fn (K := K_f145) (T := T_f145) K_f145_ok T_f145_ok (by kernel_rfl) ?_
  refine Eq.trans ?_ h
  kernel_rfl

theorem f145_eq (line : ByteArray) (f0 : Int) (f1 : Int) (blanks : Bool) (hp : (decide (0 ≤ f0) && decide (f0 ≤ f1) && decide (f1 ≤ ((line.size : Nat) : Int)) && decide (line.size ≤ 1000000000)) = true) : f145 line f0 f1 blanks = some (.sc (.int .i64 (begI line f0 f1 blanks)), []) := by
  unfold f145
  rw [hp]
  rfl
def k145 : PrimT := fun vs gs => match vs, gs with
  | [.sc (.string line), .ag [.sc (.int .i64 f0), .sc (.int .i64 f1)], .sc (.bool blanks)], [] => ((decide (0 ≤ f0) && decide (f0 ≤ f1) && decide (f1 ≤ ((line.size : Nat) : Int)) && decide (line.size ≤ 1000000000)), .sc (.int .i64 (begI line f0 f1 blanks)), [])
  | _, _ => (false, .bad, [])
theorem k145_ok : ∀ vs gs x, k145 vs gs = (true, x) → CallR C prim 145 vs gs x := by
  intro vs gs x h
  unfold k145 at h
  split at h
  · simp only [Prod.mk.injEq] at h
    obtain ⟨hp, rfl⟩ := h
    exact f145_run _ _ _ _ _ (f145_eq _ _ _ _ hp)
  · cases h

def K_f44_l0 : CallK := kCons 55 k55 <| kNil
theorem K_f44_l0_ok : KOK C prim K_f44_l0 := KOK.cons k55_ok <| KOK.nil
def T_f44_l0 : Tab := tNil
theorem T_f44_l0_ok : TOK C prim 44 T_f44_l0 := TOK.nil
def f44_l0 : Nat → List V → Int → Int → (R : Type) → (Ex → St → Option R) → Option R
  | 0, _, _, _, _, _ => none
  | n + 1, v19, v20, v21, R, κ =>
    bif (decide (v21 < v20)) then
      bif (((decide ((0 : Int) ≤ v21)) && (decide (v21 < (((lenE 8 v19.length) : Nat) : Int)))) && true) then
        bif (((V.isInt .i64 (nthV v19 (((v21).toNat * 8) + 0))) && ((V.isInt .i64 (nthV v19 (((v21).toNat * 8) + 1))) && ((V.isInt .i64 (nthV v19 (((v21).toNat * 8) + 2))) && ((V.isInt .i64 (nthV v19 (((v21).toNat * 8) + 3))) && ((V.isBool (nthV v19 (((v21).toNat * 8) + 4))) && ((V.isBool (nthV v19 (((v21).toNat * 8) + 5))) && ((V.isBool (nthV v19 (((v21).toNat * 8) + 6))) && ((V.isBool (nthV v19 (((v21).toNat * 8) + 7))) && true)))))))) && true) then
          bif (!(decide ((V.intOf (nthV v19 (((v21).toNat * 8) + 0))) ≥ (1 : Int)) && decide ((V.intOf (nthV v19 (((v21).toNat * 8) + 0))) ≤ (4096 : Int)))) then
            κ .rt (mkS [(2, .sc (.int .i64 3))] [])
          else
            bif (!(decide ((V.intOf (nthV v19 (((v21).toNat * 8) + 1))) ≥ (1 : Int)) && decide ((V.intOf (nthV v19 (((v21).toNat * 8) + 1))) ≤ (4096 : Int)))) then
              κ .rt (mkS [(2, .sc (.int .i64 3))] [])
            else
              bif (!(decide ((V.intOf (nthV v19 (((v21).toNat * 8) + 2))) ≥ (0 : Int)) && decide ((V.intOf (nthV v19 (((v21).toNat * 8) + 2))) ≤ (4096 : Int)))) then
                κ .rt (mkS [(2, .sc (.int .i64 3))] [])
              else
                bif (!(decide ((V.intOf (nthV v19 (((v21).toNat * 8) + 3))) ≥ (0 : Int)) && decide ((V.intOf (nthV v19 (((v21).toNat * 8) + 3))) ≤ (4096 : Int)))) then
                  κ .rt (mkS [(2, .sc (.int .i64 3))] [])
                else
                  bif ((V.intOf (nthV v19 (((v21).toNat * 8) + 2))) == 0) then
                    bif ((V.intOf (nthV v19 (((v21).toNat * 8) + 3))) != 0) then
                      κ .rt (mkS [(2, .sc (.int .i64 3))] [])
                    else
                      f44_l0 n v19 v20 (IntKind.wrap .i64 (v21 + 1)) R κ
                  else
                    f44_l0 n v19 v20 (IntKind.wrap .i64 (v21 + 1)) R κ
        else none
      else none
    else
      κ (.ex 0) (mkS [(2, .bad)] [])
def f44_l0_ls : List (Nat × Pat) := [(19, .sl 8), (20, .i .i64), (21, .i .i64)]
def f44_l0_rs : List RPat := []
theorem f44_l0_ok (n : Nat) : ∀ (v19 : List V) (v20 : Int) (v21 : Int) (R : Type) (κ : Ex → St → Option R) (r : R), f44_l0 n v19 v20 v21 R κ = some r → ∃ ee ss, κ ee ss = some r ∧ RunP C prim 44 [0, 1, 0, 1, 1, 1] (mkS [(19, .sl 8 v19), (20, .sc (.int .i64 v20)), (21, .sc (.int .i64 v21))] []) ee ss := by
  induction n with
  | zero => intro v19 v20 v21 R κ r h; cases h
  | succ n ih =>
    intro v19 v20 v21 R κ r h
    refine loop_round (K := K_f44_l0) (T := T_f44_l0) K_f44_l0_ok T_f44_l0_ok (p := [0, 1, 0, 1, 1, 1]) (by kernel_rfl) (fun st => bif ckS f44_l0_ls f44_l0_rs st then f44_l0 n ((st.env 19).cellsOf) ((st.env 20).intOf) ((st.env 21).intOf) R κ else none) (fun st0 h0 => ?_) ?_
    · obtain ⟨hs, h0⟩ := cond_some h0
      rw [canon (ls := f44_l0_ls) (rs := f44_l0_rs) (by kernel_rfl) st0 hs]
      exact ih _ _ _ R κ r h0
    · refine Eq.trans ?_ h
      kernel_rfl

def f44_s0 (v19 : List V) (v20 : Int) (v21 : Int) (R : Type) (κ : Ex → St → Option R) : Option R :=
  bif (badKeys v19) then
    κ .rt (mkS [(2, .sc (.int .i64 3))] [])
  else
    κ (.ex 0) (mkS [(2, .bad)] [])
theorem okK_at {l : List V} (h : okKeys l = true) {i : Nat} (hi : i < lenE 8 l.length) : okK l i = true := allF_at h i (Nat.zero_le _) (by omega)
theorem f44_loop (l : List V) (hl : okKeys l = true) (hn : l.length ≤ 1000000000) (R : Type) (κ : Ex → St → Option R) : ∀ (k i : Nat), i + k = lenE 8 l.length →
    f44_l0 (k + 1) l ((lenE 8 l.length : Nat) : Int) ((i : Nat) : Int) R κ = bif !allF (goodK l) k i then κ .rt (mkS [(2, .sc (.int .i64 3))] []) else κ (.ex 0) (mkS [(2, .bad)] [])
  | 0, i, h => by
    rw [f44_l0, dec_false (by omega)]
    rfl
  | k + 1, i, h => by
    have hle : lenE 8 l.length = l.length / 8 := rfl
    have ok := okK_at hl (show i < lenE 8 l.length by omega)
    unfold okK at ok
    rw [f44_l0, dec_true (show ((i : Nat) : Int) < ((lenE 8 l.length : Nat) : Int) by omega), dec_true (show (0 : Int) ≤ ((i : Nat) : Int) by omega), Int.toNat_natCast, ok, wrap_succ (by omega), f44_loop l hl hn R κ k (i + 1) (by omega), allF]
    unfold goodK okKey kI
    cases (decide (V.intOf (nthV l (i * 8 + 0)) ≥ 1) && decide (V.intOf (nthV l (i * 8 + 0)) ≤ 4096)) with
    | false => rfl
    | true =>
    cases (decide (V.intOf (nthV l (i * 8 + 1)) ≥ 1) && decide (V.intOf (nthV l (i * 8 + 1)) ≤ 4096)) with
    | false => rfl
    | true =>
    cases (decide (V.intOf (nthV l (i * 8 + 2)) ≥ 0) && decide (V.intOf (nthV l (i * 8 + 2)) ≤ 4096)) with
    | false => rfl
    | true =>
    cases (decide (V.intOf (nthV l (i * 8 + 3)) ≥ 0) && decide (V.intOf (nthV l (i * 8 + 3)) ≤ 4096)) with
    | false => rfl
    | true =>
    cases V.intOf (nthV l (i * 8 + 2)) == 0 <;> cases V.intOf (nthV l (i * 8 + 3)) != 0 <;> rfl
theorem f44_s0_eq (v19 : List V) (v20 : Int) (v21 : Int) (hp : ((v20 == ((lenE 8 v19.length : Nat) : Int)) && (v21 == 0) && okKeys v19 && decide (v19.length ≤ 1000000000)) = true) : ∃ n, ∀ (R : Type) (κ : Ex → St → Option R), f44_l0 n v19 v20 v21 R κ = f44_s0 v19 v20 v21 R κ := by
  simp only [Bool.and_eq_true, decide_eq_true_eq, beq_iff_eq] at hp
  obtain ⟨⟨⟨rfl, rfl⟩, h3⟩, h4⟩ := hp
  exact ⟨lenE 8 v19.length + 1, fun R κ => f44_loop v19 h3 h4 R κ (lenE 8 v19.length) 0 (by omega)⟩
def t_f44_l0 (st : St) (R : Type) (κ : Ex → St → Option R) : Option R := bif ckS f44_l0_ls f44_l0_rs st then (bif ((((st.env 20).intOf) == ((lenE 8 ((st.env 19).cellsOf).length : Nat) : Int)) && (((st.env 21).intOf) == 0) && okKeys ((st.env 19).cellsOf) && decide (((st.env 19).cellsOf).length ≤ 1000000000)) then f44_s0 ((st.env 19).cellsOf) ((st.env 20).intOf) ((st.env 21).intOf) R κ else none) else none
theorem t_f44_l0_ok : ∀ st0 R κ r, t_f44_l0 (forget C 44 [0, 1, 0, 1, 1, 1] st0) R κ = some r → ∃ ee ss, κ ee ss = some r ∧ RunP C prim 44 [0, 1, 0, 1, 1, 1] (forget C 44 [0, 1, 0, 1, 1, 1] st0) ee ss := by
  intro st0 R κ r h
  obtain ⟨hs, h⟩ := cond_some h
  obtain ⟨hp, h⟩ := cond_some h
  rw [canon (ls := f44_l0_ls) (rs := f44_l0_rs) (by kernel_rfl) st0 hs]
  obtain ⟨n, hn⟩ := f44_s0_eq _ _ _ hp
  rw [← hn] at h
  exact f44_l0_ok n _ _ _ R κ r h

def K_f44 : CallK := kNil
theorem K_f44_ok : KOK C prim K_f44 := KOK.nil
def T_f44 : Tab := tCons [0, 1, 0, 1, 1, 1] t_f44_l0 <| tNil
theorem T_f44_ok : TOK C prim 44 T_f44 := TOK.cons t_f44_l0_ok <| TOK.nil
def f44 (o0 : ByteArray) (o1 : List V) (o2 : Bool) (o3 : Bool) (o4 : Bool) : Option (V × List Rg) :=
  bif (decide (((o0.size : Nat) : Int) > 1)) then
    some (.sc (.int .i64 5), [])
  else
    bif (strEq o0 (⟨#[10]⟩ : ByteArray)) then
      some (.sc (.int .i64 5), [])
    else
      bif (decide ((((lenE 8 o1.length) : Nat) : Int) > 8)) then
        some (.sc (.int .i64 2), [])
      else
        bif (((((lenE 8 o1.length) : Nat) : Int) == ((lenE 8 o1.length : Nat) : Int)) && ((0 : Int) == 0) && okKeys o1 && decide (o1.length ≤ 1000000000)) then
          bif (badKeys o1) then
            some (.sc (.int .i64 3), [])
          else
            some (.sc (.int .i64 0), [])
        else none
theorem f44_run (o0 : ByteArray) (o1 : List V) (o2 : Bool) (o3 : Bool) (o4 : Bool) (z9 : V × List Rg) (h : f44 o0 o1 o2 o3 o4 = some z9) : CallR C prim 44 [.ag [.sc (.string o0), .sl 8 o1, .sc (.bool o2), .sc (.bool o3), .sc (.bool o4)]] [] z9 := by
  refine call_fn (K := K_f44) (T := T_f44) K_f44_ok T_f44_ok (by kernel_rfl) ?_
  refine Eq.trans ?_ h
  kernel_rfl

theorem f44_eq (o0 : ByteArray) (o1 : List V) (o2 : Bool) (o3 : Bool) (o4 : Bool) (hp : (okKeys o1 && decide (o1.length ≤ 1000000000)) = true) : f44 o0 o1 o2 o3 o4 = some (.sc (.int .i64 (valE o0 o1)), []) := by
  simp only [Bool.and_eq_true] at hp
  unfold f44 valE
  rw [hp.1, hp.2, beq_self_eq_true]
  cases decide (((o0.size : Nat) : Int) > 1) with
  | true => rfl
  | false =>
  cases strEq o0 (⟨#[10]⟩ : ByteArray) with
  | true => rfl
  | false =>
  cases decide (((lenE 8 o1.length : Nat) : Int) > 8) with
  | true => rfl
  | false =>
  cases badKeys o1 <;> rfl
def k44 : PrimT := fun vs gs => match vs, gs with
  | [.ag [.sc (.string o0), .sl 8 o1, .sc (.bool o2), .sc (.bool o3), .sc (.bool o4)]], [] => ((okKeys o1 && decide (o1.length ≤ 1000000000)), .sc (.int .i64 (valE o0 o1)), [])
  | _, _ => (false, .bad, [])
theorem k44_ok : ∀ vs gs x, k44 vs gs = (true, x) → CallR C prim 44 vs gs x := by
  intro vs gs x h
  unfold k44 at h
  split at h
  · simp only [Prod.mk.injEq] at h
    obtain ⟨hp, rfl⟩ := h
    exact f44_run _ _ _ _ _ _ (f44_eq _ _ _ _ _ hp)
  · cases h

def K_f13_l0 : CallK := kNil
theorem K_f13_l0_ok : KOK C prim K_f13_l0 := KOK.nil
def T_f13_l0 : Tab := tNil
theorem T_f13_l0_ok : TOK C prim 13 T_f13_l0 := TOK.nil
def f13_l0 : Nat → List V → Int → Int → (R : Type) → (Ex → St → Option R) → Option R
  | 0, _, _, _, _, _ => none
  | n + 1, v19, v20, v21, R, κ =>
    bif (decide (v21 < v20)) then
      bif (((decide ((0 : Int) ≤ v21)) && (decide (v21 < (((lenE 8 v19.length) : Nat) : Int)))) && true) then
        bif (((V.isInt .i64 (nthV v19 (((v21).toNat * 8) + 0))) && ((V.isInt .i64 (nthV v19 (((v21).toNat * 8) + 1))) && ((V.isInt .i64 (nthV v19 (((v21).toNat * 8) + 2))) && ((V.isInt .i64 (nthV v19 (((v21).toNat * 8) + 3))) && ((V.isBool (nthV v19 (((v21).toNat * 8) + 4))) && ((V.isBool (nthV v19 (((v21).toNat * 8) + 5))) && ((V.isBool (nthV v19 (((v21).toNat * 8) + 6))) && ((V.isBool (nthV v19 (((v21).toNat * 8) + 7))) && true)))))))) && true) then
          bif (decide ((V.intOf (nthV v19 (((v21).toNat * 8) + 0))) < 1)) then
            κ .rt (mkS [(2, .sc (.int .i64 3))] [])
          else
            bif (decide ((V.intOf (nthV v19 (((v21).toNat * 8) + 0))) > 4096)) then
              κ .rt (mkS [(2, .sc (.int .i64 3))] [])
            else
              bif (decide ((V.intOf (nthV v19 (((v21).toNat * 8) + 1))) < 1)) then
                κ .rt (mkS [(2, .sc (.int .i64 3))] [])
              else
                bif (decide ((V.intOf (nthV v19 (((v21).toNat * 8) + 1))) > 4096)) then
                  κ .rt (mkS [(2, .sc (.int .i64 3))] [])
                else
                  bif (decide ((V.intOf (nthV v19 (((v21).toNat * 8) + 2))) < 0)) then
                    κ .rt (mkS [(2, .sc (.int .i64 3))] [])
                  else
                    bif (decide ((V.intOf (nthV v19 (((v21).toNat * 8) + 2))) > 4096)) then
                      κ .rt (mkS [(2, .sc (.int .i64 3))] [])
                    else
                      bif (decide ((V.intOf (nthV v19 (((v21).toNat * 8) + 3))) < 0)) then
                        κ .rt (mkS [(2, .sc (.int .i64 3))] [])
                      else
                        bif (decide ((V.intOf (nthV v19 (((v21).toNat * 8) + 3))) > 4096)) then
                          κ .rt (mkS [(2, .sc (.int .i64 3))] [])
                        else
                          bif ((V.intOf (nthV v19 (((v21).toNat * 8) + 2))) == 0) then
                            bif ((V.intOf (nthV v19 (((v21).toNat * 8) + 3))) != 0) then
                              κ .rt (mkS [(2, .sc (.int .i64 3))] [])
                            else
                              f13_l0 n v19 v20 (IntKind.wrap .i64 (v21 + 1)) R κ
                          else
                            f13_l0 n v19 v20 (IntKind.wrap .i64 (v21 + 1)) R κ
        else none
      else none
    else
      κ (.ex 0) (mkS [(2, .bad)] [])
def f13_l0_ls : List (Nat × Pat) := [(19, .sl 8), (20, .i .i64), (21, .i .i64)]
def f13_l0_rs : List RPat := []
theorem f13_l0_ok (n : Nat) : ∀ (v19 : List V) (v20 : Int) (v21 : Int) (R : Type) (κ : Ex → St → Option R) (r : R), f13_l0 n v19 v20 v21 R κ = some r → ∃ ee ss, κ ee ss = some r ∧ RunP C prim 13 [0, 1, 0, 1, 1, 1] (mkS [(19, .sl 8 v19), (20, .sc (.int .i64 v20)), (21, .sc (.int .i64 v21))] []) ee ss := by
  induction n with
  | zero => intro v19 v20 v21 R κ r h; cases h
  | succ n ih =>
    intro v19 v20 v21 R κ r h
    refine loop_round (K := K_f13_l0) (T := T_f13_l0) K_f13_l0_ok T_f13_l0_ok (p := [0, 1, 0, 1, 1, 1]) (by kernel_rfl) (fun st => bif ckS f13_l0_ls f13_l0_rs st then f13_l0 n ((st.env 19).cellsOf) ((st.env 20).intOf) ((st.env 21).intOf) R κ else none) (fun st0 h0 => ?_) ?_
    · obtain ⟨hs, h0⟩ := cond_some h0
      rw [canon (ls := f13_l0_ls) (rs := f13_l0_rs) (by kernel_rfl) st0 hs]
      exact ih _ _ _ R κ r h0
    · refine Eq.trans ?_ h
      kernel_rfl

def f13_s0 (v19 : List V) (v20 : Int) (v21 : Int) (R : Type) (κ : Ex → St → Option R) : Option R :=
  bif (badKeys v19) then
    κ .rt (mkS [(2, .sc (.int .i64 3))] [])
  else
    κ (.ex 0) (mkS [(2, .bad)] [])
theorem f13_loop (l : List V) (hl : okKeys l = true) (hn : l.length ≤ 1000000000) (R : Type) (κ : Ex → St → Option R) : ∀ (k i : Nat), i + k = lenE 8 l.length →
    f13_l0 (k + 1) l ((lenE 8 l.length : Nat) : Int) ((i : Nat) : Int) R κ = bif !allF (goodK l) k i then κ .rt (mkS [(2, .sc (.int .i64 3))] []) else κ (.ex 0) (mkS [(2, .bad)] [])
  | 0, i, h => by
    rw [f13_l0, dec_false (by omega)]
    rfl
  | k + 1, i, h => by
    have hle : lenE 8 l.length = l.length / 8 := rfl
    have ok := okK_at hl (show i < lenE 8 l.length by omega)
    unfold okK at ok
    rw [f13_l0, dec_true (show ((i : Nat) : Int) < ((lenE 8 l.length : Nat) : Int) by omega), dec_true (show (0 : Int) ≤ ((i : Nat) : Int) by omega), Int.toNat_natCast, ok, wrap_succ (by omega), f13_loop l hl hn R κ k (i + 1) (by omega), allF, dlt (V.intOf (nthV l (i * 8 + 0))), dgt (V.intOf (nthV l (i * 8 + 0))), dlt (V.intOf (nthV l (i * 8 + 1))), dgt (V.intOf (nthV l (i * 8 + 1))), dlt (V.intOf (nthV l (i * 8 + 2))), dgt (V.intOf (nthV l (i * 8 + 2))), dlt (V.intOf (nthV l (i * 8 + 3))), dgt (V.intOf (nthV l (i * 8 + 3)))]
    unfold goodK okKey kI
    cases decide (V.intOf (nthV l (i * 8 + 0)) ≥ 1) with
    | false => rfl
    | true =>
    cases decide (V.intOf (nthV l (i * 8 + 0)) ≤ 4096) with
    | false => rfl
    | true =>
    cases decide (V.intOf (nthV l (i * 8 + 1)) ≥ 1) with
    | false => rfl
    | true =>
    cases decide (V.intOf (nthV l (i * 8 + 1)) ≤ 4096) with
    | false => rfl
    | true =>
    cases decide (V.intOf (nthV l (i * 8 + 2)) ≥ 0) with
    | false => rfl
    | true =>
    cases decide (V.intOf (nthV l (i * 8 + 2)) ≤ 4096) with
    | false => rfl
    | true =>
    cases decide (V.intOf (nthV l (i * 8 + 3)) ≥ 0) with
    | false => rfl
    | true =>
    cases decide (V.intOf (nthV l (i * 8 + 3)) ≤ 4096) with
    | false => rfl
    | true =>
    cases V.intOf (nthV l (i * 8 + 2)) == 0 <;> cases V.intOf (nthV l (i * 8 + 3)) != 0 <;> rfl
theorem f13_s0_eq (v19 : List V) (v20 : Int) (v21 : Int) (hp : ((v20 == ((lenE 8 v19.length : Nat) : Int)) && (v21 == 0) && okKeys v19 && decide (v19.length ≤ 1000000000)) = true) : ∃ n, ∀ (R : Type) (κ : Ex → St → Option R), f13_l0 n v19 v20 v21 R κ = f13_s0 v19 v20 v21 R κ := by
  simp only [Bool.and_eq_true, decide_eq_true_eq, beq_iff_eq] at hp
  obtain ⟨⟨⟨rfl, rfl⟩, h3⟩, h4⟩ := hp
  exact ⟨lenE 8 v19.length + 1, fun R κ => f13_loop v19 h3 h4 R κ (lenE 8 v19.length) 0 (by omega)⟩
def t_f13_l0 (st : St) (R : Type) (κ : Ex → St → Option R) : Option R := bif ckS f13_l0_ls f13_l0_rs st then (bif ((((st.env 20).intOf) == ((lenE 8 ((st.env 19).cellsOf).length : Nat) : Int)) && (((st.env 21).intOf) == 0) && okKeys ((st.env 19).cellsOf) && decide (((st.env 19).cellsOf).length ≤ 1000000000)) then f13_s0 ((st.env 19).cellsOf) ((st.env 20).intOf) ((st.env 21).intOf) R κ else none) else none
theorem t_f13_l0_ok : ∀ st0 R κ r, t_f13_l0 (forget C 13 [0, 1, 0, 1, 1, 1] st0) R κ = some r → ∃ ee ss, κ ee ss = some r ∧ RunP C prim 13 [0, 1, 0, 1, 1, 1] (forget C 13 [0, 1, 0, 1, 1, 1] st0) ee ss := by
  intro st0 R κ r h
  obtain ⟨hs, h⟩ := cond_some h
  obtain ⟨hp, h⟩ := cond_some h
  rw [canon (ls := f13_l0_ls) (rs := f13_l0_rs) (by kernel_rfl) st0 hs]
  obtain ⟨n, hn⟩ := f13_s0_eq _ _ _ hp
  rw [← hn] at h
  exact f13_l0_ok n _ _ _ R κ r h

def K_f13 : CallK := kNil
theorem K_f13_ok : KOK C prim K_f13 := KOK.nil
def T_f13 : Tab := tCons [0, 1, 0, 1, 1, 1] t_f13_l0 <| tNil
theorem T_f13_ok : TOK C prim 13 T_f13 := TOK.cons t_f13_l0_ok <| TOK.nil
def f13 (o0 : ByteArray) (o1 : List V) (o2 : Bool) (o3 : Bool) (o4 : Bool) : Option (V × List Rg) :=
  bif (decide (((o0.size : Nat) : Int) > 1)) then
    some (.sc (.int .i64 5), [])
  else
    bif (strEq o0 (⟨#[10]⟩ : ByteArray)) then
      some (.sc (.int .i64 5), [])
    else
      bif (decide ((((lenE 8 o1.length) : Nat) : Int) > 8)) then
        some (.sc (.int .i64 2), [])
      else
        bif (((((lenE 8 o1.length) : Nat) : Int) == ((lenE 8 o1.length : Nat) : Int)) && ((0 : Int) == 0) && okKeys o1 && decide (o1.length ≤ 1000000000)) then
          bif (badKeys o1) then
            some (.sc (.int .i64 3), [])
          else
            some (.sc (.int .i64 0), [])
        else none
theorem f13_run (o0 : ByteArray) (o1 : List V) (o2 : Bool) (o3 : Bool) (o4 : Bool) (z9 : V × List Rg) (h : f13 o0 o1 o2 o3 o4 = some z9) : CallR C prim 13 [.ag [.sc (.string o0), .sl 8 o1, .sc (.bool o2), .sc (.bool o3), .sc (.bool o4)]] [] z9 := by
  refine call_fn (K := K_f13) (T := T_f13) K_f13_ok T_f13_ok (by kernel_rfl) ?_
  refine Eq.trans ?_ h
  kernel_rfl

theorem f13_eq (o0 : ByteArray) (o1 : List V) (o2 : Bool) (o3 : Bool) (o4 : Bool) (hp : (okKeys o1 && decide (o1.length ≤ 1000000000)) = true) : f13 o0 o1 o2 o3 o4 = some (.sc (.int .i64 (valE o0 o1)), []) := by
  simp only [Bool.and_eq_true] at hp
  unfold f13 valE
  rw [hp.1, hp.2, beq_self_eq_true]
  cases decide (((o0.size : Nat) : Int) > 1) with
  | true => rfl
  | false =>
  cases strEq o0 (⟨#[10]⟩ : ByteArray) with
  | true => rfl
  | false =>
  cases decide (((lenE 8 o1.length : Nat) : Int) > 8) with
  | true => rfl
  | false =>
  cases badKeys o1 <;> rfl
def k13 : PrimT := fun vs gs => match vs, gs with
  | [.ag [.sc (.string o0), .sl 8 o1, .sc (.bool o2), .sc (.bool o3), .sc (.bool o4)]], [] => ((okKeys o1 && decide (o1.length ≤ 1000000000)), .sc (.int .i64 (valE o0 o1)), [])
  | _, _ => (false, .bad, [])
theorem k13_ok : ∀ vs gs x, k13 vs gs = (true, x) → CallR C prim 13 vs gs x := by
  intro vs gs x h
  unfold k13 at h
  split at h
  · simp only [Prod.mk.injEq] at h
    obtain ⟨hp, rfl⟩ := h
    exact f13_run _ _ _ _ _ _ (f13_eq _ _ _ _ _ hp)
  · cases h

def K_f119_l0 : CallK := kNil
theorem K_f119_l0_ok : KOK C prim K_f119_l0 := KOK.nil
def T_f119_l0 : Tab := tNil
theorem T_f119_l0_ok : TOK C prim 119 T_f119_l0 := TOK.nil
def f119_l0 : Nat → Int → Int → List V → (R : Type) → (Ex → St → Option R) → Option R
  | 0, _, _, _, _, _ => none
  | n + 1, v9, v10, b, R, κ =>
    bif (decide (v10 < v9)) then
      bif (((decide ((0 : Int) ≤ v10)) && (decide (v10 < ((b.length : Nat) : Int)))) && true) then
        bif (((V.isInt .u8 (nthV b (((v10).toNat * 1) + 0))) && true) && true) then
          bif (decide ((V.intOf (nthV b (((v10).toNat * 1) + 0))) ≥ 97)) then
            bif (decide ((V.intOf (nthV b (((v10).toNat * 1) + 0))) ≤ 122)) then
              bif (((decide ((0 : Int) ≤ v10)) && (decide (v10 < ((b.length : Nat) : Int)))) && true) then
                f119_l0 n v9 (IntKind.wrap .i64 (v10 + 1)) (b.set (((v10).toNat * 1) + 0) (.sc (.int .u8 (IntKind.wrap .u8 ((IntKind.wrap .u8 ((V.intOf (nthV b (((v10).toNat * 1) + 0))) - 97)) + 65))))) R κ
              else none
            else
              f119_l0 n v9 (IntKind.wrap .i64 (v10 + 1)) b R κ
          else
            f119_l0 n v9 (IntKind.wrap .i64 (v10 + 1)) b R κ
        else none
      else none
    else
      κ (.ex 0) (mkS [(2, .bad), (3, .ref ⟨.loc 3, 0, [], 5, false⟩)] [(.loc 3, some ⟨false, [.own 5 false b]⟩)])
def f119_l0_ls : List (Nat × Pat) := [(3, .is (.ref ⟨.loc 3, 0, [], 5, false⟩)), (8, .is (.ref ⟨.loc 3, 0, [], 5, false⟩)), (9, .i .i64), (10, .i .i64)]
def f119_l0_rs : List RPat := [⟨.loc 3, false, [.own 5 false]⟩]
theorem f119_l0_ok (n : Nat) : ∀ (v9 : Int) (v10 : Int) (b : List V) (R : Type) (κ : Ex → St → Option R) (r : R), f119_l0 n v9 v10 b R κ = some r → ∃ ee ss, κ ee ss = some r ∧ RunP C prim 119 [0, 1, 0, 1, 1] (mkS [(3, .ref ⟨.loc 3, 0, [], 5, false⟩), (8, .ref ⟨.loc 3, 0, [], 5, false⟩), (9, .sc (.int .i64 v9)), (10, .sc (.int .i64 v10))] [(.loc 3, some ⟨false, [.own 5 false b]⟩)]) ee ss := by
  induction n with
  | zero => intro v9 v10 b R κ r h; cases h
  | succ n ih =>
    intro v9 v10 b R κ r h
    refine loop_round (K := K_f119_l0) (T := T_f119_l0) K_f119_l0_ok T_f119_l0_ok (p := [0, 1, 0, 1, 1]) (by kernel_rfl) (fun st => bif ckS f119_l0_ls f119_l0_rs st then f119_l0 n ((st.env 9).intOf) ((st.env 10).intOf) ((nthV (rowOf (st.regs (.loc 3))) 0).cellsOf) R κ else none) (fun st0 h0 => ?_) ?_
    · obtain ⟨hs, h0⟩ := cond_some h0
      rw [canon (ls := f119_l0_ls) (rs := f119_l0_rs) (by kernel_rfl) st0 hs]
      exact ih _ _ _ R κ r h0
    · refine Eq.trans ?_ h
      kernel_rfl

def f119_s0 (v9 : Int) (v10 : Int) (b : List V) (R : Type) (κ : Ex → St → Option R) : Option R :=
  κ (.ex 0) (mkS [(2, .bad), (3, .ref ⟨.loc 3, 0, [], 5, false⟩)] [(.loc 3, some ⟨false, [.own 5 false (b.map capV)]⟩)])
theorem set_take {b : List V} {i : Nat} (h : i < b.length) (c : V) : (b.set i c).take (i + 1) = b.take i ++ [c] := by
  rw [List.take_add_one, List.take_set_of_le (Nat.le_refl _), List.getElem?_set_self h]; rfl
theorem set_drop (b : List V) (i : Nat) (c : V) : (b.set i c).drop (i + 1) = b.drop (i + 1) := List.drop_set_of_lt (by omega)
theorem take_one {b : List V} {i : Nat} (h : i < b.length) : b.take (i + 1) = b.take i ++ [b[i]] := by
  rw [List.take_add_one, List.getElem?_eq_getElem h]; rfl
theorem okU8_at {x : V} (h : okU8 x = true) : ∃ n : Int, x = .sc (.int .u8 n) ∧ 0 ≤ n ∧ n < 256 := by
  unfold okU8 at h
  split at h
  · next n => simp only [Bool.and_eq_true, decide_eq_true_eq] at h; exact ⟨n, rfl, h.1, h.2⟩
  · cases h
theorem f119_loop (R : Type) (κ : Ex → St → Option R) : ∀ (k i : Nat) (b : List V), i + k = b.length → b.length ≤ 1000000000 → (b.drop i).all okU8 = true →
    f119_l0 (k + 1) ((b.length : Nat) : Int) ((i : Nat) : Int) b R κ = κ (.ex 0) (mkS [(2, .bad), (3, .ref ⟨.loc 3, 0, [], 5, false⟩)] [(.loc 3, some ⟨false, [.own 5 false (b.take i ++ (b.drop i).map capV)]⟩)])
  | 0, i, b, h, hn, hu => by
    rw [f119_l0, dec_false (by omega), List.drop_of_length_le (by omega), List.map_nil, List.append_nil, List.take_of_length_le (by omega)]
    rfl
  | k + 1, i, b, h, hn, hu => by
    have hi : i < b.length := by omega
    rw [List.drop_eq_getElem_cons hi, List.all_cons, Bool.and_eq_true] at hu
    obtain ⟨n, hx, n1, n2⟩ := okU8_at hu.1
    have i1 : V.isInt .u8 b[i] = true := by rw [hx]; rfl
    have i2 : V.intOf b[i] = n := by rw [hx]; rfl
    have IH0 := f119_loop R κ k (i + 1) b (by omega) hn hu.2
    rw [f119_l0, dec_true (show ((i : Nat) : Int) < ((b.length : Nat) : Int) by omega), dec_true (show (0 : Int) ≤ ((i : Nat) : Int) by omega), nth_at hi, i1, i2, wrap_succ (by omega), List.drop_eq_getElem_cons hi, List.map_cons]
    have same : (bif decide (n ≥ 97) && decide (n ≤ 122) then n - 32 else n) = n → capV b[i] = b[i] := by
      intro e
      unfold capV capI
      rw [i2, e, hx]
    by_cases c1 : n ≥ 97
    · by_cases c2 : n ≤ 122
      · have hw1 : IntKind.wrap .u8 (n - 97) = n - 97 := IntWalk.u8_in _ (by omega)
        have hw2 : IntKind.wrap .u8 (n - 97 + 65) = n - 32 := by rw [IntWalk.u8_in _ (by omega)]; omega
        have hc : capV b[i] = .sc (.int .u8 (n - 32)) := by
          unfold capV capI
          rw [i2, dec_true c1, dec_true c2]; rfl
        have IH := f119_loop R κ k (i + 1) (b.set i (.sc (.int .u8 (n - 32)))) (by rw [List.length_set]; omega) (by rw [List.length_set]; exact hn) (by rw [set_drop]; exact hu.2)
        rw [List.length_set, set_take hi, set_drop] at IH
        rw [dec_true c1, dec_true c2, hw1, hw2, hc]
        simp only [Int.toNat_natCast, Nat.mul_one, Nat.add_zero, Bool.and_self, cond_true]
        rw [IH, List.append_assoc]
        rfl
      · have hs := same (by rw [dec_false c2, Bool.and_false]; rfl)
        rw [dec_true c1, dec_false c2, hs]
        simp only [Bool.and_self, cond_true, cond_false]
        rw [IH0, take_one hi, List.append_assoc]
        rfl
    · have hs := same (by rw [dec_false c1, Bool.false_and]; rfl)
      rw [dec_false c1, hs]
      simp only [Bool.and_self, cond_true, cond_false]
      rw [IH0, take_one hi, List.append_assoc]
      rfl
theorem f119_s0_eq (v9 : Int) (v10 : Int) (b : List V) (hp : ((v9 == ((b.length : Nat) : Int)) && (v10 == 0) && b.all okU8 && decide (b.length ≤ 1000000000)) = true) : ∃ n, ∀ (R : Type) (κ : Ex → St → Option R), f119_l0 n v9 v10 b R κ = f119_s0 v9 v10 b R κ := by
  simp only [Bool.and_eq_true, decide_eq_true_eq, beq_iff_eq] at hp
  obtain ⟨⟨⟨rfl, rfl⟩, h3⟩, h4⟩ := hp
  exact ⟨b.length + 1, fun R κ => f119_loop R κ b.length 0 b (by omega) h4 h3⟩
def t_f119_l0 (st : St) (R : Type) (κ : Ex → St → Option R) : Option R := bif ckS f119_l0_ls f119_l0_rs st then (bif ((((st.env 9).intOf) == ((((nthV (rowOf (st.regs (.loc 3))) 0).cellsOf).length : Nat) : Int)) && (((st.env 10).intOf) == 0) && ((nthV (rowOf (st.regs (.loc 3))) 0).cellsOf).all okU8 && decide (((nthV (rowOf (st.regs (.loc 3))) 0).cellsOf).length ≤ 1000000000)) then f119_s0 ((st.env 9).intOf) ((st.env 10).intOf) ((nthV (rowOf (st.regs (.loc 3))) 0).cellsOf) R κ else none) else none
theorem t_f119_l0_ok : ∀ st0 R κ r, t_f119_l0 (forget C 119 [0, 1, 0, 1, 1] st0) R κ = some r → ∃ ee ss, κ ee ss = some r ∧ RunP C prim 119 [0, 1, 0, 1, 1] (forget C 119 [0, 1, 0, 1, 1] st0) ee ss := by
  intro st0 R κ r h
  obtain ⟨hs, h⟩ := cond_some h
  obtain ⟨hp, h⟩ := cond_some h
  rw [canon (ls := f119_l0_ls) (rs := f119_l0_rs) (by kernel_rfl) st0 hs]
  obtain ⟨n, hn⟩ := f119_s0_eq _ _ _ hp
  rw [← hn] at h
  exact f119_l0_ok n _ _ _ R κ r h

def K_f119 : CallK := kNil
theorem K_f119_ok : KOK C prim K_f119 := KOK.nil
def T_f119 : Tab := tCons [0, 1, 0, 1, 1] t_f119_l0 <| tNil
theorem T_f119_ok : TOK C prim 119 T_f119 := TOK.cons t_f119_l0_ok <| TOK.nil
def f119 (s : ByteArray) : Option (V × List Rg) :=
  bif (((roomy s.size) && true) && true) then
    bif ((((((bytesV s)).length : Nat) : Int) == (((bytesV s).length : Nat) : Int)) && ((0 : Int) == 0) && (bytesV s).all okU8 && decide ((bytesV s).length ≤ 1000000000)) then
      bif ((allU8 ((bytesV s).map capV)) && true) then
        some (.sc (.string (strOfCells ((bytesV s).map capV))), [])
      else none
    else none
  else none
theorem f119_run (s : ByteArray) (z9 : V × List Rg) (h : f119 s = some z9) : CallR C prim 119 [.sc (.string s)] [] z9 := by
  refine call_fn (K := K_f119) (T := T_f119) K_f119_ok T_f119_ok (by kernel_rfl) ?_
  refine Eq.trans ?_ h
  kernel_rfl

theorem allU8_cap : ∀ l : List V, allU8 (l.map capV) = true
  | [] => rfl
  | x :: l => by
    rw [List.map_cons]
    unfold allU8
    rw [allU8_cap l]
    rfl
theorem f119_eq (s : ByteArray) (hp : (decide (s.size ≤ 1000000000)) = true) : f119 s = some (.sc (.string (capB s)), []) := by
  simp only [decide_eq_true_eq] at hp
  have hl := bytesV_len s
  unfold f119
  rw [show roomy s.size = true from dec_true (by omega), okU8_bytesV, dec_true (show (bytesV s).length ≤ 1000000000 by omega), beq_self_eq_true, allU8_cap]
  rfl
def k119 : PrimT := fun vs gs => match vs, gs with
  | [.sc (.string s)], [] => ((decide (s.size ≤ 1000000000)), .sc (.string (capB s)), [])
  | _, _ => (false, .bad, [])
theorem k119_ok : ∀ vs gs x, k119 vs gs = (true, x) → CallR C prim 119 vs gs x := by
  intro vs gs x h
  unfold k119 at h
  split at h
  · simp only [Prod.mk.injEq] at h
    obtain ⟨hp, rfl⟩ := h
    exact f119_run _ _ (f119_eq _ hp)
  · cases h

def K_f51_l0 : CallK := kNil
theorem K_f51_l0_ok : KOK C prim K_f51_l0 := KOK.nil
def T_f51_l0 : Tab := tNil
theorem T_f51_l0_ok : TOK C prim 51 T_f51_l0 := TOK.nil
def f51_l0 : Nat → ByteArray → Int → Int → List V → (R : Type) → (Ex → St → Option R) → Option R
  | 0, _, _, _, _, _, _ => none
  | n + 1, s, v10, v11, out, R, κ =>
    bif (decide (v11 < v10)) then
      bif (((decide ((0 : Int) ≤ v11)) && (decide (v11 < ((s.size : Nat) : Int)))) && true) then
        bif (decide (((s.data.getD (v11).toNat 0).toNat : Int) ≥ 97)) then
          bif (decide (((s.data.getD (v11).toNat 0).toNat : Int) ≤ 122)) then
            bif (((decide ((0 : Int) ≤ v11)) && (decide (v11 < ((out.length : Nat) : Int)))) && true) then
              f51_l0 n s v10 (IntKind.wrap .i64 (v11 + 1)) (out.set (((v11).toNat * 1) + 0) (.sc (.int .u8 (IntKind.wrap .u8 (((s.data.getD (v11).toNat 0).toNat : Int) - 32))))) R κ
            else none
          else
            bif (((decide ((0 : Int) ≤ v11)) && (decide (v11 < ((out.length : Nat) : Int)))) && true) then
              f51_l0 n s v10 (IntKind.wrap .i64 (v11 + 1)) (out.set (((v11).toNat * 1) + 0) (.sc (.int .u8 ((s.data.getD (v11).toNat 0).toNat : Int)))) R κ
            else none
        else
          bif (((decide ((0 : Int) ≤ v11)) && (decide (v11 < ((out.length : Nat) : Int)))) && true) then
            f51_l0 n s v10 (IntKind.wrap .i64 (v11 + 1)) (out.set (((v11).toNat * 1) + 0) (.sc (.int .u8 ((s.data.getD (v11).toNat 0).toNat : Int)))) R κ
          else none
      else none
    else
      κ (.ex 0) (mkS [(2, .bad), (3, .ref ⟨.loc 3, 0, [], 5, false⟩)] [(.loc 3, some ⟨false, [.own 5 false out]⟩)])
def f51_l0_ls : List (Nat × Pat) := [(0, .s), (3, .is (.ref ⟨.loc 3, 0, [], 5, false⟩)), (10, .i .i64), (11, .i .i64)]
def f51_l0_rs : List RPat := [⟨.loc 3, false, [.own 5 false]⟩]
theorem f51_l0_ok (n : Nat) : ∀ (s : ByteArray) (v10 : Int) (v11 : Int) (out : List V) (R : Type) (κ : Ex → St → Option R) (r : R), f51_l0 n s v10 v11 out R κ = some r → ∃ ee ss, κ ee ss = some r ∧ RunP C prim 51 [0, 1, 0, 1, 1] (mkS [(0, .sc (.string s)), (3, .ref ⟨.loc 3, 0, [], 5, false⟩), (10, .sc (.int .i64 v10)), (11, .sc (.int .i64 v11))] [(.loc 3, some ⟨false, [.own 5 false out]⟩)]) ee ss := by
  induction n with
  | zero => intro s v10 v11 out R κ r h; cases h
  | succ n ih =>
    intro s v10 v11 out R κ r h
    refine loop_round (K := K_f51_l0) (T := T_f51_l0) K_f51_l0_ok T_f51_l0_ok (p := [0, 1, 0, 1, 1]) (by kernel_rfl) (fun st => bif ckS f51_l0_ls f51_l0_rs st then f51_l0 n ((st.env 0).strOf) ((st.env 10).intOf) ((st.env 11).intOf) ((nthV (rowOf (st.regs (.loc 3))) 0).cellsOf) R κ else none) (fun st0 h0 => ?_) ?_
    · obtain ⟨hs, h0⟩ := cond_some h0
      rw [canon (ls := f51_l0_ls) (rs := f51_l0_rs) (by kernel_rfl) st0 hs]
      exact ih _ _ _ _ R κ r h0
    · refine Eq.trans ?_ h
      kernel_rfl

def f51_s0 (s : ByteArray) (v10 : Int) (v11 : Int) (out : List V) (R : Type) (κ : Ex → St → Option R) : Option R :=
  κ (.ex 0) (mkS [(2, .bad), (3, .ref ⟨.loc 3, 0, [], 5, false⟩)] [(.loc 3, some ⟨false, [.own 5 false ((bytesV s).map capV)]⟩)])
theorem f51_loop (s : ByteArray) (hs : s.size ≤ 1000000000) (R : Type) (κ : Ex → St → Option R) : ∀ (k i : Nat) (b : List V), i + k = s.size → b.length = s.size →
    f51_l0 (k + 1) s ((s.size : Nat) : Int) ((i : Nat) : Int) b R κ = κ (.ex 0) (mkS [(2, .bad), (3, .ref ⟨.loc 3, 0, [], 5, false⟩)] [(.loc 3, some ⟨false, [.own 5 false (b.take i ++ ((bytesV s).drop i).map capV)]⟩)])
  | 0, i, b, h, hb => by
    have hl := bytesV_len s
    rw [f51_l0, dec_false (by omega), List.drop_of_length_le (l := bytesV s) (by omega), List.map_nil, List.append_nil, List.take_of_length_le (by omega)]
    rfl
  | k + 1, i, b, h, hb => by
    have hl := bytesV_len s
    have hsz := bl_size s
    have hi : i < b.length := by omega
    have hi2 : i < (bytesV s).length := by omega
    have hx : (((s.data.getD i 0).toNat : Nat) : Int) = V.intOf (bytesV s)[i] := by
      have hq : i < s.data.toList.length := by omega
      have e : (bytesV s)[i] = V.sc (.int .u8 (((s.data.toList[i]).toNat : Nat) : Int)) := by simp [bytesV]
      rw [getD_list' s i hq, e]; rfl
    have hu := List.all_eq_true.1 (okU8_bytesV s) _ (List.getElem_mem hi2)
    obtain ⟨n, hn, n1, n2⟩ := okU8_at hu
    have i2 : V.intOf (bytesV s)[i] = n := by rw [hn]; rfl
    have IH := fun c => f51_loop s hs R κ k (i + 1) (b.set i c) (by omega) (by rw [List.length_set]; exact hb)
    simp only [set_take hi] at IH
    rw [f51_l0, dec_true (show ((i : Nat) : Int) < ((s.size : Nat) : Int) by omega), dec_true (show (0 : Int) ≤ ((i : Nat) : Int) by omega), dec_true (show ((i : Nat) : Int) < ((b.length : Nat) : Int) by omega), Int.toNat_natCast, hx, i2, wrap_succ (by omega), List.drop_eq_getElem_cons hi2, List.map_cons]
    simp only [Nat.mul_one, Nat.add_zero]
    have hc : capV (bytesV s)[i] = .sc (.int .u8 (bif decide (n ≥ 97) && decide (n ≤ 122) then n - 32 else n)) := by unfold capV capI; rw [i2]
    rw [hc]
    by_cases c1 : n ≥ 97
    · by_cases c2 : n ≤ 122
      · rw [dec_true c1, dec_true c2, IntWalk.u8_in (n - 32) (by omega)]
        simp only [Bool.and_self, cond_true]
        rw [IH, List.append_assoc]
        rfl
      · rw [dec_true c1, dec_false c2]
        simp only [Bool.and_self, Bool.and_false, cond_true, cond_false]
        rw [IH, List.append_assoc]
        rfl
    · rw [dec_false c1]
      simp only [Bool.and_self, Bool.false_and, cond_true, cond_false]
      rw [IH, List.append_assoc]
      rfl
theorem f51_s0_eq (s : ByteArray) (v10 : Int) (v11 : Int) (out : List V) (hp : ((v10 == ((s.size : Nat) : Int)) && (v11 == 0) && (((out.length : Nat) : Int) == ((s.size : Nat) : Int)) && decide (s.size ≤ 1000000000)) = true) : ∃ n, ∀ (R : Type) (κ : Ex → St → Option R), f51_l0 n s v10 v11 out R κ = f51_s0 s v10 v11 out R κ := by
  simp only [Bool.and_eq_true, decide_eq_true_eq, beq_iff_eq] at hp
  obtain ⟨⟨⟨rfl, rfl⟩, h3⟩, h4⟩ := hp
  refine ⟨s.size + 1, fun R κ => ?_⟩
  exact f51_loop s h4 R κ s.size 0 out (by omega) (by omega)
def t_f51_l0 (st : St) (R : Type) (κ : Ex → St → Option R) : Option R := bif ckS f51_l0_ls f51_l0_rs st then (bif ((((st.env 10).intOf) == ((((st.env 0).strOf).size : Nat) : Int)) && (((st.env 11).intOf) == 0) && (((((nthV (rowOf (st.regs (.loc 3))) 0).cellsOf).length : Nat) : Int) == ((((st.env 0).strOf).size : Nat) : Int)) && decide (((st.env 0).strOf).size ≤ 1000000000)) then f51_s0 ((st.env 0).strOf) ((st.env 10).intOf) ((st.env 11).intOf) ((nthV (rowOf (st.regs (.loc 3))) 0).cellsOf) R κ else none) else none
theorem t_f51_l0_ok : ∀ st0 R κ r, t_f51_l0 (forget C 51 [0, 1, 0, 1, 1] st0) R κ = some r → ∃ ee ss, κ ee ss = some r ∧ RunP C prim 51 [0, 1, 0, 1, 1] (forget C 51 [0, 1, 0, 1, 1] st0) ee ss := by
  intro st0 R κ r h
  obtain ⟨hs, h⟩ := cond_some h
  obtain ⟨hp, h⟩ := cond_some h
  rw [canon (ls := f51_l0_ls) (rs := f51_l0_rs) (by kernel_rfl) st0 hs]
  obtain ⟨n, hn⟩ := f51_s0_eq _ _ _ _ hp
  rw [← hn] at h
  exact f51_l0_ok n _ _ _ _ R κ r h

def K_f51 : CallK := kNil
theorem K_f51_ok : KOK C prim K_f51 := KOK.nil
def T_f51 : Tab := tCons [0, 1, 0, 1, 1] t_f51_l0 <| tNil
theorem T_f51_ok : TOK C prim 51 T_f51 := TOK.cons t_f51_l0_ok <| TOK.nil
def f51 (s : ByteArray) : Option (V × List Rg) :=
  bif ((((((((((decide ((0 : Int) ≤ ((s.size : Nat) : Int))) && (decide (((s.size : Nat) : Int) ≤ ((s.size : Nat) : Int)))) && true) && true) && true) && true) && true) && (roomy ((((s.size : Nat) : Int)).toNat * 1))) && (roomy (((s.size : Nat) : Int)).toNat)) && true) then
    bif ((((s.size : Nat) : Int) == ((s.size : Nat) : Int)) && ((0 : Int) == 0) && (((((List.replicate (((s.size : Nat) : Int)).toNat ([.sc (.int .u8 0)] : List V)).flatten).length : Nat) : Int) == ((s.size : Nat) : Int)) && decide (s.size ≤ 1000000000)) then
      bif ((allU8 ((bytesV s).map capV)) && true) then
        some (.sc (.string (strOfCells ((bytesV s).map capV))), [])
      else none
    else none
  else none
theorem f51_run (s : ByteArray) (z9 : V × List Rg) (h : f51 s = some z9) : CallR C prim 51 [.sc (.string s)] [] z9 := by
  refine call_fn (K := K_f51) (T := T_f51) K_f51_ok T_f51_ok (by kernel_rfl) ?_
  refine Eq.trans ?_ h
  kernel_rfl

theorem rep_flat {α : Type} (n : Nat) (x : α) : (List.replicate n [x]).flatten = List.replicate n x := by
  induction n with
  | zero => rfl
  | succ n ih => rw [List.replicate_succ, List.flatten_cons, ih, List.replicate_succ]; rfl
theorem f51_eq (s : ByteArray) (hp : (decide (s.size ≤ 1000000000)) = true) : f51 s = some (.sc (.string (capB s)), []) := by
  have hq := hp
  simp only [decide_eq_true_eq] at hp
  have r1 : roomy (s.size * 1) = true := dec_true (by omega)
  have r2 : roomy s.size = true := dec_true (by omega)
  unfold f51
  rw [Int.toNat_natCast, rep_flat, List.length_replicate, hq, r1, r2, dec_true (show (0 : Int) ≤ ((s.size : Nat) : Int) by omega), dec_true (show ((s.size : Nat) : Int) ≤ ((s.size : Nat) : Int) by omega), allU8_cap]
  simp only [beq_self_eq_true]
  rfl
def k51 : PrimT := fun vs gs => match vs, gs with
  | [.sc (.string s)], [] => ((decide (s.size ≤ 1000000000)), .sc (.string (capB s)), [])
  | _, _ => (false, .bad, [])
theorem k51_ok : ∀ vs gs x, k51 vs gs = (true, x) → CallR C prim 51 vs gs x := by
  intro vs gs x h
  unfold k51 at h
  split at h
  · simp only [Prod.mk.injEq] at h
    obtain ⟨hp, rfl⟩ := h
    exact f51_run _ _ (f51_eq _ hp)
  · cases h

def K_f116 : CallK := kCons 144 k144 <| kCons 145 k145 <| kNil
theorem K_f116_ok : KOK C prim K_f116 := KOK.cons k144_ok <| KOK.cons k145_ok <| KOK.nil
def T_f116 : Tab := tNil
theorem T_f116_ok : TOK C prim 116 T_f116 := TOK.nil
def f116 (k0 : Int) (k1 : Int) (k2 : Int) (k3 : Int) (k4 : Bool) (k5 : Bool) (k6 : Bool) (k7 : Bool) (line : ByteArray) (separator : ByteArray) : Option (V × List Rg) :=
  bif ((decide (line.size ≤ 1000000000)) && true) then
    bif (decide (k0 ≤ (((lenE 2 ((fieldsV line separator)).length) : Nat) : Int))) then
      bif (((decide ((0 : Int) ≤ (IntKind.wrap .i64 (k0 - 1)))) && (decide ((IntKind.wrap .i64 (k0 - 1)) < (((lenE 2 ((fieldsV line separator)).length) : Nat) : Int)))) && true) then
        bif (((V.isInt .i64 (nthV (fieldsV line separator) ((((IntKind.wrap .i64 (k0 - 1))).toNat * 2) + 0))) && ((V.isInt .i64 (nthV (fieldsV line separator) (((((IntKind.wrap .i64 (k0 - 1))).toNat * 2) + 0) + 1))) && true)) && true) then
          bif ((decide (0 ≤ (V.intOf (nthV (fieldsV line separator) ((((IntKind.wrap .i64 (k0 - 1))).toNat * 2) + 0)))) && decide ((V.intOf (nthV (fieldsV line separator) ((((IntKind.wrap .i64 (k0 - 1))).toNat * 2) + 0))) ≤ (V.intOf (nthV (fieldsV line separator) (((((IntKind.wrap .i64 (k0 - 1))).toNat * 2) + 0) + 1)))) && decide ((V.intOf (nthV (fieldsV line separator) (((((IntKind.wrap .i64 (k0 - 1))).toNat * 2) + 0) + 1))) ≤ ((line.size : Nat) : Int)) && decide (line.size ≤ 1000000000)) && true) then
            bif (decide (k2 > 0)) then
              bif (decide (k2 ≤ (((lenE 2 ((fieldsV line separator)).length) : Nat) : Int))) then
                bif (((decide ((0 : Int) ≤ (IntKind.wrap .i64 (k2 - 1)))) && (decide ((IntKind.wrap .i64 (k2 - 1)) < (((lenE 2 ((fieldsV line separator)).length) : Nat) : Int)))) && true) then
                  bif (((V.isInt .i64 (nthV (fieldsV line separator) ((((IntKind.wrap .i64 (k2 - 1))).toNat * 2) + 0))) && ((V.isInt .i64 (nthV (fieldsV line separator) (((((IntKind.wrap .i64 (k2 - 1))).toNat * 2) + 0) + 1))) && true)) && true) then
                    bif (decide (k3 > 0)) then
                      bif ((decide (0 ≤ (V.intOf (nthV (fieldsV line separator) ((((IntKind.wrap .i64 (k2 - 1))).toNat * 2) + 0)))) && decide ((V.intOf (nthV (fieldsV line separator) ((((IntKind.wrap .i64 (k2 - 1))).toNat * 2) + 0))) ≤ (V.intOf (nthV (fieldsV line separator) (((((IntKind.wrap .i64 (k2 - 1))).toNat * 2) + 0) + 1)))) && decide ((V.intOf (nthV (fieldsV line separator) (((((IntKind.wrap .i64 (k2 - 1))).toNat * 2) + 0) + 1))) ≤ ((line.size : Nat) : Int)) && decide (line.size ≤ 1000000000)) && true) then
                        bif (decide ((bif (decide ((V.intOf (nthV (fieldsV line separator) (((((IntKind.wrap .i64 (k2 - 1))).toNat * 2) + 0) + 1))) < (IntKind.wrap .i64 ((begI line (V.intOf (nthV (fieldsV line separator) ((((IntKind.wrap .i64 (k2 - 1))).toNat * 2) + 0))) (V.intOf (nthV (fieldsV line separator) (((((IntKind.wrap .i64 (k2 - 1))).toNat * 2) + 0) + 1))) k7) + k3)))) then (V.intOf (nthV (fieldsV line separator) (((((IntKind.wrap .i64 (k2 - 1))).toNat * 2) + 0) + 1))) else (IntKind.wrap .i64 ((begI line (V.intOf (nthV (fieldsV line separator) ((((IntKind.wrap .i64 (k2 - 1))).toNat * 2) + 0))) (V.intOf (nthV (fieldsV line separator) (((((IntKind.wrap .i64 (k2 - 1))).toNat * 2) + 0) + 1))) k7) + k3))) < (bif (decide ((V.intOf (nthV (fieldsV line separator) (((((IntKind.wrap .i64 (k0 - 1))).toNat * 2) + 0) + 1))) < (IntKind.wrap .i64 ((IntKind.wrap .i64 ((begI line (V.intOf (nthV (fieldsV line separator) ((((IntKind.wrap .i64 (k0 - 1))).toNat * 2) + 0))) (V.intOf (nthV (fieldsV line separator) (((((IntKind.wrap .i64 (k0 - 1))).toNat * 2) + 0) + 1))) k7) + k1)) - 1)))) then (V.intOf (nthV (fieldsV line separator) (((((IntKind.wrap .i64 (k0 - 1))).toNat * 2) + 0) + 1))) else (IntKind.wrap .i64 ((IntKind.wrap .i64 ((begI line (V.intOf (nthV (fieldsV line separator) ((((IntKind.wrap .i64 (k0 - 1))).toNat * 2) + 0))) (V.intOf (nthV (fieldsV line separator) (((((IntKind.wrap .i64 (k0 - 1))).toNat * 2) + 0) + 1))) k7) + k1)) - 1))))) then
                          some (.sc (.string ⟨#[]⟩), [])
                        else
                          bif (((((decide ((0 : Int) ≤ (bif (decide ((V.intOf (nthV (fieldsV line separator) (((((IntKind.wrap .i64 (k0 - 1))).toNat * 2) + 0) + 1))) < (IntKind.wrap .i64 ((IntKind.wrap .i64 ((begI line (V.intOf (nthV (fieldsV line separator) ((((IntKind.wrap .i64 (k0 - 1))).toNat * 2) + 0))) (V.intOf (nthV (fieldsV line separator) (((((IntKind.wrap .i64 (k0 - 1))).toNat * 2) + 0) + 1))) k7) + k1)) - 1)))) then (V.intOf (nthV (fieldsV line separator) (((((IntKind.wrap .i64 (k0 - 1))).toNat * 2) + 0) + 1))) else (IntKind.wrap .i64 ((IntKind.wrap .i64 ((begI line (V.intOf (nthV (fieldsV line separator) ((((IntKind.wrap .i64 (k0 - 1))).toNat * 2) + 0))) (V.intOf (nthV (fieldsV line separator) (((((IntKind.wrap .i64 (k0 - 1))).toNat * 2) + 0) + 1))) k7) + k1)) - 1))))) && (decide ((bif (decide ((V.intOf (nthV (fieldsV line separator) (((((IntKind.wrap .i64 (k0 - 1))).toNat * 2) + 0) + 1))) < (IntKind.wrap .i64 ((IntKind.wrap .i64 ((begI line (V.intOf (nthV (fieldsV line separator) ((((IntKind.wrap .i64 (k0 - 1))).toNat * 2) + 0))) (V.intOf (nthV (fieldsV line separator) (((((IntKind.wrap .i64 (k0 - 1))).toNat * 2) + 0) + 1))) k7) + k1)) - 1)))) then (V.intOf (nthV (fieldsV line separator) (((((IntKind.wrap .i64 (k0 - 1))).toNat * 2) + 0) + 1))) else (IntKind.wrap .i64 ((IntKind.wrap .i64 ((begI line (V.intOf (nthV (fieldsV line separator) ((((IntKind.wrap .i64 (k0 - 1))).toNat * 2) + 0))) (V.intOf (nthV (fieldsV line separator) (((((IntKind.wrap .i64 (k0 - 1))).toNat * 2) + 0) + 1))) k7) + k1)) - 1))) ≤ (bif (decide ((V.intOf (nthV (fieldsV line separator) (((((IntKind.wrap .i64 (k2 - 1))).toNat * 2) + 0) + 1))) < (IntKind.wrap .i64 ((begI line (V.intOf (nthV (fieldsV line separator) ((((IntKind.wrap .i64 (k2 - 1))).toNat * 2) + 0))) (V.intOf (nthV (fieldsV line separator) (((((IntKind.wrap .i64 (k2 - 1))).toNat * 2) + 0) + 1))) k7) + k3)))) then (V.intOf (nthV (fieldsV line separator) (((((IntKind.wrap .i64 (k2 - 1))).toNat * 2) + 0) + 1))) else (IntKind.wrap .i64 ((begI line (V.intOf (nthV (fieldsV line separator) ((((IntKind.wrap .i64 (k2 - 1))).toNat * 2) + 0))) (V.intOf (nthV (fieldsV line separator) (((((IntKind.wrap .i64 (k2 - 1))).toNat * 2) + 0) + 1))) k7) + k3)))))) && (decide ((bif (decide ((V.intOf (nthV (fieldsV line separator) (((((IntKind.wrap .i64 (k2 - 1))).toNat * 2) + 0) + 1))) < (IntKind.wrap .i64 ((begI line (V.intOf (nthV (fieldsV line separator) ((((IntKind.wrap .i64 (k2 - 1))).toNat * 2) + 0))) (V.intOf (nthV (fieldsV line separator) (((((IntKind.wrap .i64 (k2 - 1))).toNat * 2) + 0) + 1))) k7) + k3)))) then (V.intOf (nthV (fieldsV line separator) (((((IntKind.wrap .i64 (k2 - 1))).toNat * 2) + 0) + 1))) else (IntKind.wrap .i64 ((begI line (V.intOf (nthV (fieldsV line separator) ((((IntKind.wrap .i64 (k2 - 1))).toNat * 2) + 0))) (V.intOf (nthV (fieldsV line separator) (((((IntKind.wrap .i64 (k2 - 1))).toNat * 2) + 0) + 1))) k7) + k3))) ≤ ((line.size : Nat) : Int)))) && true) && true) then
                            some (.sc (.string (line.extract ((bif (decide ((V.intOf (nthV (fieldsV line separator) (((((IntKind.wrap .i64 (k0 - 1))).toNat * 2) + 0) + 1))) < (IntKind.wrap .i64 ((IntKind.wrap .i64 ((begI line (V.intOf (nthV (fieldsV line separator) ((((IntKind.wrap .i64 (k0 - 1))).toNat * 2) + 0))) (V.intOf (nthV (fieldsV line separator) (((((IntKind.wrap .i64 (k0 - 1))).toNat * 2) + 0) + 1))) k7) + k1)) - 1)))) then (V.intOf (nthV (fieldsV line separator) (((((IntKind.wrap .i64 (k0 - 1))).toNat * 2) + 0) + 1))) else (IntKind.wrap .i64 ((IntKind.wrap .i64 ((begI line (V.intOf (nthV (fieldsV line separator) ((((IntKind.wrap .i64 (k0 - 1))).toNat * 2) + 0))) (V.intOf (nthV (fieldsV line separator) (((((IntKind.wrap .i64 (k0 - 1))).toNat * 2) + 0) + 1))) k7) + k1)) - 1)))).toNat ((bif (decide ((V.intOf (nthV (fieldsV line separator) (((((IntKind.wrap .i64 (k2 - 1))).toNat * 2) + 0) + 1))) < (IntKind.wrap .i64 ((begI line (V.intOf (nthV (fieldsV line separator) ((((IntKind.wrap .i64 (k2 - 1))).toNat * 2) + 0))) (V.intOf (nthV (fieldsV line separator) (((((IntKind.wrap .i64 (k2 - 1))).toNat * 2) + 0) + 1))) k7) + k3)))) then (V.intOf (nthV (fieldsV line separator) (((((IntKind.wrap .i64 (k2 - 1))).toNat * 2) + 0) + 1))) else (IntKind.wrap .i64 ((begI line (V.intOf (nthV (fieldsV line separator) ((((IntKind.wrap .i64 (k2 - 1))).toNat * 2) + 0))) (V.intOf (nthV (fieldsV line separator) (((((IntKind.wrap .i64 (k2 - 1))).toNat * 2) + 0) + 1))) k7) + k3)))).toNat)), [])
                          else none
                      else none
                    else
                      bif (decide ((V.intOf (nthV (fieldsV line separator) (((((IntKind.wrap .i64 (k2 - 1))).toNat * 2) + 0) + 1))) < (bif (decide ((V.intOf (nthV (fieldsV line separator) (((((IntKind.wrap .i64 (k0 - 1))).toNat * 2) + 0) + 1))) < (IntKind.wrap .i64 ((IntKind.wrap .i64 ((begI line (V.intOf (nthV (fieldsV line separator) ((((IntKind.wrap .i64 (k0 - 1))).toNat * 2) + 0))) (V.intOf (nthV (fieldsV line separator) (((((IntKind.wrap .i64 (k0 - 1))).toNat * 2) + 0) + 1))) k7) + k1)) - 1)))) then (V.intOf (nthV (fieldsV line separator) (((((IntKind.wrap .i64 (k0 - 1))).toNat * 2) + 0) + 1))) else (IntKind.wrap .i64 ((IntKind.wrap .i64 ((begI line (V.intOf (nthV (fieldsV line separator) ((((IntKind.wrap .i64 (k0 - 1))).toNat * 2) + 0))) (V.intOf (nthV (fieldsV line separator) (((((IntKind.wrap .i64 (k0 - 1))).toNat * 2) + 0) + 1))) k7) + k1)) - 1))))) then
                        some (.sc (.string ⟨#[]⟩), [])
                      else
                        bif (((((decide ((0 : Int) ≤ (bif (decide ((V.intOf (nthV (fieldsV line separator) (((((IntKind.wrap .i64 (k0 - 1))).toNat * 2) + 0) + 1))) < (IntKind.wrap .i64 ((IntKind.wrap .i64 ((begI line (V.intOf (nthV (fieldsV line separator) ((((IntKind.wrap .i64 (k0 - 1))).toNat * 2) + 0))) (V.intOf (nthV (fieldsV line separator) (((((IntKind.wrap .i64 (k0 - 1))).toNat * 2) + 0) + 1))) k7) + k1)) - 1)))) then (V.intOf (nthV (fieldsV line separator) (((((IntKind.wrap .i64 (k0 - 1))).toNat * 2) + 0) + 1))) else (IntKind.wrap .i64 ((IntKind.wrap .i64 ((begI line (V.intOf (nthV (fieldsV line separator) ((((IntKind.wrap .i64 (k0 - 1))).toNat * 2) + 0))) (V.intOf (nthV (fieldsV line separator) (((((IntKind.wrap .i64 (k0 - 1))).toNat * 2) + 0) + 1))) k7) + k1)) - 1))))) && (decide ((bif (decide ((V.intOf (nthV (fieldsV line separator) (((((IntKind.wrap .i64 (k0 - 1))).toNat * 2) + 0) + 1))) < (IntKind.wrap .i64 ((IntKind.wrap .i64 ((begI line (V.intOf (nthV (fieldsV line separator) ((((IntKind.wrap .i64 (k0 - 1))).toNat * 2) + 0))) (V.intOf (nthV (fieldsV line separator) (((((IntKind.wrap .i64 (k0 - 1))).toNat * 2) + 0) + 1))) k7) + k1)) - 1)))) then (V.intOf (nthV (fieldsV line separator) (((((IntKind.wrap .i64 (k0 - 1))).toNat * 2) + 0) + 1))) else (IntKind.wrap .i64 ((IntKind.wrap .i64 ((begI line (V.intOf (nthV (fieldsV line separator) ((((IntKind.wrap .i64 (k0 - 1))).toNat * 2) + 0))) (V.intOf (nthV (fieldsV line separator) (((((IntKind.wrap .i64 (k0 - 1))).toNat * 2) + 0) + 1))) k7) + k1)) - 1))) ≤ (V.intOf (nthV (fieldsV line separator) (((((IntKind.wrap .i64 (k2 - 1))).toNat * 2) + 0) + 1)))))) && (decide ((V.intOf (nthV (fieldsV line separator) (((((IntKind.wrap .i64 (k2 - 1))).toNat * 2) + 0) + 1))) ≤ ((line.size : Nat) : Int)))) && true) && true) then
                          some (.sc (.string (line.extract ((bif (decide ((V.intOf (nthV (fieldsV line separator) (((((IntKind.wrap .i64 (k0 - 1))).toNat * 2) + 0) + 1))) < (IntKind.wrap .i64 ((IntKind.wrap .i64 ((begI line (V.intOf (nthV (fieldsV line separator) ((((IntKind.wrap .i64 (k0 - 1))).toNat * 2) + 0))) (V.intOf (nthV (fieldsV line separator) (((((IntKind.wrap .i64 (k0 - 1))).toNat * 2) + 0) + 1))) k7) + k1)) - 1)))) then (V.intOf (nthV (fieldsV line separator) (((((IntKind.wrap .i64 (k0 - 1))).toNat * 2) + 0) + 1))) else (IntKind.wrap .i64 ((IntKind.wrap .i64 ((begI line (V.intOf (nthV (fieldsV line separator) ((((IntKind.wrap .i64 (k0 - 1))).toNat * 2) + 0))) (V.intOf (nthV (fieldsV line separator) (((((IntKind.wrap .i64 (k0 - 1))).toNat * 2) + 0) + 1))) k7) + k1)) - 1)))).toNat ((V.intOf (nthV (fieldsV line separator) (((((IntKind.wrap .i64 (k2 - 1))).toNat * 2) + 0) + 1)))).toNat)), [])
                        else none
                  else none
                else none
              else
                bif (decide (((line.size : Nat) : Int) < (bif (decide ((V.intOf (nthV (fieldsV line separator) (((((IntKind.wrap .i64 (k0 - 1))).toNat * 2) + 0) + 1))) < (IntKind.wrap .i64 ((IntKind.wrap .i64 ((begI line (V.intOf (nthV (fieldsV line separator) ((((IntKind.wrap .i64 (k0 - 1))).toNat * 2) + 0))) (V.intOf (nthV (fieldsV line separator) (((((IntKind.wrap .i64 (k0 - 1))).toNat * 2) + 0) + 1))) k7) + k1)) - 1)))) then (V.intOf (nthV (fieldsV line separator) (((((IntKind.wrap .i64 (k0 - 1))).toNat * 2) + 0) + 1))) else (IntKind.wrap .i64 ((IntKind.wrap .i64 ((begI line (V.intOf (nthV (fieldsV line separator) ((((IntKind.wrap .i64 (k0 - 1))).toNat * 2) + 0))) (V.intOf (nthV (fieldsV line separator) (((((IntKind.wrap .i64 (k0 - 1))).toNat * 2) + 0) + 1))) k7) + k1)) - 1))))) then
                  some (.sc (.string ⟨#[]⟩), [])
                else
                  bif (((((decide ((0 : Int) ≤ (bif (decide ((V.intOf (nthV (fieldsV line separator) (((((IntKind.wrap .i64 (k0 - 1))).toNat * 2) + 0) + 1))) < (IntKind.wrap .i64 ((IntKind.wrap .i64 ((begI line (V.intOf (nthV (fieldsV line separator) ((((IntKind.wrap .i64 (k0 - 1))).toNat * 2) + 0))) (V.intOf (nthV (fieldsV line separator) (((((IntKind.wrap .i64 (k0 - 1))).toNat * 2) + 0) + 1))) k7) + k1)) - 1)))) then (V.intOf (nthV (fieldsV line separator) (((((IntKind.wrap .i64 (k0 - 1))).toNat * 2) + 0) + 1))) else (IntKind.wrap .i64 ((IntKind.wrap .i64 ((begI line (V.intOf (nthV (fieldsV line separator) ((((IntKind.wrap .i64 (k0 - 1))).toNat * 2) + 0))) (V.intOf (nthV (fieldsV line separator) (((((IntKind.wrap .i64 (k0 - 1))).toNat * 2) + 0) + 1))) k7) + k1)) - 1))))) && (decide ((bif (decide ((V.intOf (nthV (fieldsV line separator) (((((IntKind.wrap .i64 (k0 - 1))).toNat * 2) + 0) + 1))) < (IntKind.wrap .i64 ((IntKind.wrap .i64 ((begI line (V.intOf (nthV (fieldsV line separator) ((((IntKind.wrap .i64 (k0 - 1))).toNat * 2) + 0))) (V.intOf (nthV (fieldsV line separator) (((((IntKind.wrap .i64 (k0 - 1))).toNat * 2) + 0) + 1))) k7) + k1)) - 1)))) then (V.intOf (nthV (fieldsV line separator) (((((IntKind.wrap .i64 (k0 - 1))).toNat * 2) + 0) + 1))) else (IntKind.wrap .i64 ((IntKind.wrap .i64 ((begI line (V.intOf (nthV (fieldsV line separator) ((((IntKind.wrap .i64 (k0 - 1))).toNat * 2) + 0))) (V.intOf (nthV (fieldsV line separator) (((((IntKind.wrap .i64 (k0 - 1))).toNat * 2) + 0) + 1))) k7) + k1)) - 1))) ≤ ((line.size : Nat) : Int)))) && (decide (((line.size : Nat) : Int) ≤ ((line.size : Nat) : Int)))) && true) && true) then
                    some (.sc (.string (line.extract ((bif (decide ((V.intOf (nthV (fieldsV line separator) (((((IntKind.wrap .i64 (k0 - 1))).toNat * 2) + 0) + 1))) < (IntKind.wrap .i64 ((IntKind.wrap .i64 ((begI line (V.intOf (nthV (fieldsV line separator) ((((IntKind.wrap .i64 (k0 - 1))).toNat * 2) + 0))) (V.intOf (nthV (fieldsV line separator) (((((IntKind.wrap .i64 (k0 - 1))).toNat * 2) + 0) + 1))) k7) + k1)) - 1)))) then (V.intOf (nthV (fieldsV line separator) (((((IntKind.wrap .i64 (k0 - 1))).toNat * 2) + 0) + 1))) else (IntKind.wrap .i64 ((IntKind.wrap .i64 ((begI line (V.intOf (nthV (fieldsV line separator) ((((IntKind.wrap .i64 (k0 - 1))).toNat * 2) + 0))) (V.intOf (nthV (fieldsV line separator) (((((IntKind.wrap .i64 (k0 - 1))).toNat * 2) + 0) + 1))) k7) + k1)) - 1)))).toNat (((line.size : Nat) : Int)).toNat)), [])
                  else none
            else
              bif (decide (((line.size : Nat) : Int) < (bif (decide ((V.intOf (nthV (fieldsV line separator) (((((IntKind.wrap .i64 (k0 - 1))).toNat * 2) + 0) + 1))) < (IntKind.wrap .i64 ((IntKind.wrap .i64 ((begI line (V.intOf (nthV (fieldsV line separator) ((((IntKind.wrap .i64 (k0 - 1))).toNat * 2) + 0))) (V.intOf (nthV (fieldsV line separator) (((((IntKind.wrap .i64 (k0 - 1))).toNat * 2) + 0) + 1))) k7) + k1)) - 1)))) then (V.intOf (nthV (fieldsV line separator) (((((IntKind.wrap .i64 (k0 - 1))).toNat * 2) + 0) + 1))) else (IntKind.wrap .i64 ((IntKind.wrap .i64 ((begI line (V.intOf (nthV (fieldsV line separator) ((((IntKind.wrap .i64 (k0 - 1))).toNat * 2) + 0))) (V.intOf (nthV (fieldsV line separator) (((((IntKind.wrap .i64 (k0 - 1))).toNat * 2) + 0) + 1))) k7) + k1)) - 1))))) then
                some (.sc (.string ⟨#[]⟩), [])
              else
                bif (((((decide ((0 : Int) ≤ (bif (decide ((V.intOf (nthV (fieldsV line separator) (((((IntKind.wrap .i64 (k0 - 1))).toNat * 2) + 0) + 1))) < (IntKind.wrap .i64 ((IntKind.wrap .i64 ((begI line (V.intOf (nthV (fieldsV line separator) ((((IntKind.wrap .i64 (k0 - 1))).toNat * 2) + 0))) (V.intOf (nthV (fieldsV line separator) (((((IntKind.wrap .i64 (k0 - 1))).toNat * 2) + 0) + 1))) k7) + k1)) - 1)))) then (V.intOf (nthV (fieldsV line separator) (((((IntKind.wrap .i64 (k0 - 1))).toNat * 2) + 0) + 1))) else (IntKind.wrap .i64 ((IntKind.wrap .i64 ((begI line (V.intOf (nthV (fieldsV line separator) ((((IntKind.wrap .i64 (k0 - 1))).toNat * 2) + 0))) (V.intOf (nthV (fieldsV line separator) (((((IntKind.wrap .i64 (k0 - 1))).toNat * 2) + 0) + 1))) k7) + k1)) - 1))))) && (decide ((bif (decide ((V.intOf (nthV (fieldsV line separator) (((((IntKind.wrap .i64 (k0 - 1))).toNat * 2) + 0) + 1))) < (IntKind.wrap .i64 ((IntKind.wrap .i64 ((begI line (V.intOf (nthV (fieldsV line separator) ((((IntKind.wrap .i64 (k0 - 1))).toNat * 2) + 0))) (V.intOf (nthV (fieldsV line separator) (((((IntKind.wrap .i64 (k0 - 1))).toNat * 2) + 0) + 1))) k7) + k1)) - 1)))) then (V.intOf (nthV (fieldsV line separator) (((((IntKind.wrap .i64 (k0 - 1))).toNat * 2) + 0) + 1))) else (IntKind.wrap .i64 ((IntKind.wrap .i64 ((begI line (V.intOf (nthV (fieldsV line separator) ((((IntKind.wrap .i64 (k0 - 1))).toNat * 2) + 0))) (V.intOf (nthV (fieldsV line separator) (((((IntKind.wrap .i64 (k0 - 1))).toNat * 2) + 0) + 1))) k7) + k1)) - 1))) ≤ ((line.size : Nat) : Int)))) && (decide (((line.size : Nat) : Int) ≤ ((line.size : Nat) : Int)))) && true) && true) then
                  some (.sc (.string (line.extract ((bif (decide ((V.intOf (nthV (fieldsV line separator) (((((IntKind.wrap .i64 (k0 - 1))).toNat * 2) + 0) + 1))) < (IntKind.wrap .i64 ((IntKind.wrap .i64 ((begI line (V.intOf (nthV (fieldsV line separator) ((((IntKind.wrap .i64 (k0 - 1))).toNat * 2) + 0))) (V.intOf (nthV (fieldsV line separator) (((((IntKind.wrap .i64 (k0 - 1))).toNat * 2) + 0) + 1))) k7) + k1)) - 1)))) then (V.intOf (nthV (fieldsV line separator) (((((IntKind.wrap .i64 (k0 - 1))).toNat * 2) + 0) + 1))) else (IntKind.wrap .i64 ((IntKind.wrap .i64 ((begI line (V.intOf (nthV (fieldsV line separator) ((((IntKind.wrap .i64 (k0 - 1))).toNat * 2) + 0))) (V.intOf (nthV (fieldsV line separator) (((((IntKind.wrap .i64 (k0 - 1))).toNat * 2) + 0) + 1))) k7) + k1)) - 1)))).toNat (((line.size : Nat) : Int)).toNat)), [])
                else none
          else none
        else none
      else none
    else
      bif (decide (k2 > 0)) then
        bif (decide (k2 ≤ (((lenE 2 ((fieldsV line separator)).length) : Nat) : Int))) then
          bif (((decide ((0 : Int) ≤ (IntKind.wrap .i64 (k2 - 1)))) && (decide ((IntKind.wrap .i64 (k2 - 1)) < (((lenE 2 ((fieldsV line separator)).length) : Nat) : Int)))) && true) then
            bif (((V.isInt .i64 (nthV (fieldsV line separator) ((((IntKind.wrap .i64 (k2 - 1))).toNat * 2) + 0))) && ((V.isInt .i64 (nthV (fieldsV line separator) (((((IntKind.wrap .i64 (k2 - 1))).toNat * 2) + 0) + 1))) && true)) && true) then
              bif (decide (k3 > 0)) then
                bif ((decide (0 ≤ (V.intOf (nthV (fieldsV line separator) ((((IntKind.wrap .i64 (k2 - 1))).toNat * 2) + 0)))) && decide ((V.intOf (nthV (fieldsV line separator) ((((IntKind.wrap .i64 (k2 - 1))).toNat * 2) + 0))) ≤ (V.intOf (nthV (fieldsV line separator) (((((IntKind.wrap .i64 (k2 - 1))).toNat * 2) + 0) + 1)))) && decide ((V.intOf (nthV (fieldsV line separator) (((((IntKind.wrap .i64 (k2 - 1))).toNat * 2) + 0) + 1))) ≤ ((line.size : Nat) : Int)) && decide (line.size ≤ 1000000000)) && true) then
                  bif (decide ((bif (decide ((V.intOf (nthV (fieldsV line separator) (((((IntKind.wrap .i64 (k2 - 1))).toNat * 2) + 0) + 1))) < (IntKind.wrap .i64 ((begI line (V.intOf (nthV (fieldsV line separator) ((((IntKind.wrap .i64 (k2 - 1))).toNat * 2) + 0))) (V.intOf (nthV (fieldsV line separator) (((((IntKind.wrap .i64 (k2 - 1))).toNat * 2) + 0) + 1))) k7) + k3)))) then (V.intOf (nthV (fieldsV line separator) (((((IntKind.wrap .i64 (k2 - 1))).toNat * 2) + 0) + 1))) else (IntKind.wrap .i64 ((begI line (V.intOf (nthV (fieldsV line separator) ((((IntKind.wrap .i64 (k2 - 1))).toNat * 2) + 0))) (V.intOf (nthV (fieldsV line separator) (((((IntKind.wrap .i64 (k2 - 1))).toNat * 2) + 0) + 1))) k7) + k3))) < ((line.size : Nat) : Int))) then
                    some (.sc (.string ⟨#[]⟩), [])
                  else
                    bif (((((decide ((0 : Int) ≤ ((line.size : Nat) : Int))) && (decide (((line.size : Nat) : Int) ≤ (bif (decide ((V.intOf (nthV (fieldsV line separator) (((((IntKind.wrap .i64 (k2 - 1))).toNat * 2) + 0) + 1))) < (IntKind.wrap .i64 ((begI line (V.intOf (nthV (fieldsV line separator) ((((IntKind.wrap .i64 (k2 - 1))).toNat * 2) + 0))) (V.intOf (nthV (fieldsV line separator) (((((IntKind.wrap .i64 (k2 - 1))).toNat * 2) + 0) + 1))) k7) + k3)))) then (V.intOf (nthV (fieldsV line separator) (((((IntKind.wrap .i64 (k2 - 1))).toNat * 2) + 0) + 1))) else (IntKind.wrap .i64 ((begI line (V.intOf (nthV (fieldsV line separator) ((((IntKind.wrap .i64 (k2 - 1))).toNat * 2) + 0))) (V.intOf (nthV (fieldsV line separator) (((((IntKind.wrap .i64 (k2 - 1))).toNat * 2) + 0) + 1))) k7) + k3)))))) && (decide ((bif (decide ((V.intOf (nthV (fieldsV line separator) (((((IntKind.wrap .i64 (k2 - 1))).toNat * 2) + 0) + 1))) < (IntKind.wrap .i64 ((begI line (V.intOf (nthV (fieldsV line separator) ((((IntKind.wrap .i64 (k2 - 1))).toNat * 2) + 0))) (V.intOf (nthV (fieldsV line separator) (((((IntKind.wrap .i64 (k2 - 1))).toNat * 2) + 0) + 1))) k7) + k3)))) then (V.intOf (nthV (fieldsV line separator) (((((IntKind.wrap .i64 (k2 - 1))).toNat * 2) + 0) + 1))) else (IntKind.wrap .i64 ((begI line (V.intOf (nthV (fieldsV line separator) ((((IntKind.wrap .i64 (k2 - 1))).toNat * 2) + 0))) (V.intOf (nthV (fieldsV line separator) (((((IntKind.wrap .i64 (k2 - 1))).toNat * 2) + 0) + 1))) k7) + k3))) ≤ ((line.size : Nat) : Int)))) && true) && true) then
                      some (.sc (.string (line.extract (((line.size : Nat) : Int)).toNat ((bif (decide ((V.intOf (nthV (fieldsV line separator) (((((IntKind.wrap .i64 (k2 - 1))).toNat * 2) + 0) + 1))) < (IntKind.wrap .i64 ((begI line (V.intOf (nthV (fieldsV line separator) ((((IntKind.wrap .i64 (k2 - 1))).toNat * 2) + 0))) (V.intOf (nthV (fieldsV line separator) (((((IntKind.wrap .i64 (k2 - 1))).toNat * 2) + 0) + 1))) k7) + k3)))) then (V.intOf (nthV (fieldsV line separator) (((((IntKind.wrap .i64 (k2 - 1))).toNat * 2) + 0) + 1))) else (IntKind.wrap .i64 ((begI line (V.intOf (nthV (fieldsV line separator) ((((IntKind.wrap .i64 (k2 - 1))).toNat * 2) + 0))) (V.intOf (nthV (fieldsV line separator) (((((IntKind.wrap .i64 (k2 - 1))).toNat * 2) + 0) + 1))) k7) + k3)))).toNat)), [])
                    else none
                else none
              else
                bif (decide ((V.intOf (nthV (fieldsV line separator) (((((IntKind.wrap .i64 (k2 - 1))).toNat * 2) + 0) + 1))) < ((line.size : Nat) : Int))) then
                  some (.sc (.string ⟨#[]⟩), [])
                else
                  bif (((((decide ((0 : Int) ≤ ((line.size : Nat) : Int))) && (decide (((line.size : Nat) : Int) ≤ (V.intOf (nthV (fieldsV line separator) (((((IntKind.wrap .i64 (k2 - 1))).toNat * 2) + 0) + 1)))))) && (decide ((V.intOf (nthV (fieldsV line separator) (((((IntKind.wrap .i64 (k2 - 1))).toNat * 2) + 0) + 1))) ≤ ((line.size : Nat) : Int)))) && true) && true) then
                    some (.sc (.string (line.extract (((line.size : Nat) : Int)).toNat ((V.intOf (nthV (fieldsV line separator) (((((IntKind.wrap .i64 (k2 - 1))).toNat * 2) + 0) + 1)))).toNat)), [])
                  else none
            else none
          else none
        else
          bif (decide (((line.size : Nat) : Int) < ((line.size : Nat) : Int))) then
            some (.sc (.string ⟨#[]⟩), [])
          else
            bif (((((decide ((0 : Int) ≤ ((line.size : Nat) : Int))) && (decide (((line.size : Nat) : Int) ≤ ((line.size : Nat) : Int)))) && (decide (((line.size : Nat) : Int) ≤ ((line.size : Nat) : Int)))) && true) && true) then
              some (.sc (.string (line.extract (((line.size : Nat) : Int)).toNat (((line.size : Nat) : Int)).toNat)), [])
            else none
      else
        bif (decide (((line.size : Nat) : Int) < ((line.size : Nat) : Int))) then
          some (.sc (.string ⟨#[]⟩), [])
        else
          bif (((((decide ((0 : Int) ≤ ((line.size : Nat) : Int))) && (decide (((line.size : Nat) : Int) ≤ ((line.size : Nat) : Int)))) && (decide (((line.size : Nat) : Int) ≤ ((line.size : Nat) : Int)))) && true) && true) then
            some (.sc (.string (line.extract (((line.size : Nat) : Int)).toNat (((line.size : Nat) : Int)).toNat)), [])
          else none
  else none
theorem f116_run (k0 : Int) (k1 : Int) (k2 : Int) (k3 : Int) (k4 : Bool) (k5 : Bool) (k6 : Bool) (k7 : Bool) (line : ByteArray) (separator : ByteArray) (z9 : V × List Rg) (h : f116 k0 k1 k2 k3 k4 k5 k6 k7 line separator = some z9) : CallR C prim 116 [.ag [.sc (.int .i64 k0), .sc (.int .i64 k1), .sc (.int .i64 k2), .sc (.int .i64 k3), .sc (.bool k4), .sc (.bool k5), .sc (.bool k6), .sc (.bool k7)], .sc (.string line), .sc (.string separator)] [] z9 := by
  refine call_fn (K := K_f116) (T := T_f116) K_f116_ok T_f116_ok (by kernel_rfl) ?_
  refine Eq.trans ?_ h
  kernel_rfl

theorem key_first {line sep : ByteArray} {k0 : Int} (h0 : 1 ≤ k0) (h1 : k0 ≤ ((lenE 2 (fieldsV line sep).length : Nat) : Int)) :
    V.isInt .i64 (nthV (fieldsV line sep) ((k0 - 1).toNat * 2 + 0)) = true ∧ V.isInt .i64 (nthV (fieldsV line sep) ((k0 - 1).toNat * 2 + 0 + 1)) = true ∧ 0 ≤ fstC (fieldsV line sep) (k0 - 1) ∧ fstC (fieldsV line sep) (k0 - 1) ≤ sndC (fieldsV line sep) (k0 - 1) ∧ sndC (fieldsV line sep) (k0 - 1) ≤ ((line.size : Nat) : Int) :=
  okSp_at line.size (fieldsV line sep) (k0 - 1).toNat (fieldsV_ok line sep) (by omega)
theorem key_tail {line : ByteArray} {f t : Int} (hf : 0 ≤ f) (ht : t ≤ ((line.size : Nat) : Int)) : (bif decide (t < f) then some (V.sc (.string ⟨#[]⟩), ([] : List Rg)) else bif (((((decide ((0 : Int) ≤ f)) && (decide (f ≤ t))) && (decide (t ≤ ((line.size : Nat) : Int)))) && true) && true) then some (.sc (.string (line.extract f.toNat t.toNat)), []) else none) = some (.sc (.string (bif decide (t < f) then ⟨#[]⟩ else line.extract f.toNat t.toNat)), []) := by
  by_cases h : t < f
  · rw [dec_true h]; rfl
  · rw [dec_false h, dec_true hf, dec_true (show f ≤ t by omega), dec_true ht]; rfl
theorem f116_eq (k0 : Int) (k1 : Int) (k2 : Int) (k3 : Int) (k4 : Bool) (k5 : Bool) (k6 : Bool) (k7 : Bool) (line : ByteArray) (separator : ByteArray) (hp : (okKey k0 k1 k2 k3 && decide (line.size ≤ 1000000000)) = true) : f116 k0 k1 k2 k3 k4 k5 k6 k7 line separator = some (.sc (.string (keyB line separator k0 k1 k2 k3 k7)), []) := by
  simp only [Bool.and_eq_true] at hp
  obtain ⟨hk, hs'⟩ := hp
  have hs : line.size ≤ 1000000000 := of_decide_eq_true hs'
  obtain ⟨⟨h0, h0'⟩, ⟨h1, h1'⟩, ⟨h2, h2'⟩, ⟨h3, h3'⟩⟩ := okKey_spec hk
  have hF := from_ok (line := line) (sep := separator) (bl := k7) h0 h1
  have hT := to_ok (line := line) (sep := separator) (k2 := k2) (bl := k7) h3
  unfold f116 keyB
  rw [hs', wrap_id (n := k0 - 1) (by omega) (by omega), wrap_id (n := k2 - 1) (by omega) (by omega)]
  have two : ∀ (f : Int), 0 ≤ f → (∀ t, t ≤ ((line.size : Nat) : Int) → True) → True := fun _ _ _ => trivial
  have e1 : ∀ k, V.intOf (nthV (fieldsV line separator) (k.toNat * 2 + 0)) = fstC (fieldsV line separator) k := fun _ => rfl
  have e2 : ∀ k, V.intOf (nthV (fieldsV line separator) (k.toNat * 2 + 0 + 1)) = sndC (fieldsV line separator) k := fun _ => rfl
  simp only [e1, e2]
  unfold fromK toK at *
  by_cases c0 : k0 ≤ ((lenE 2 (fieldsV line separator).length : Nat) : Int)
  · obtain ⟨a1, a2, a3, a4, a5⟩ := key_first h0 c0
    have hb := begI_ok k7 a3 a4 a5
    rw [dec_true c0] at hF
    simp only [cond_true] at hF
    rw [dec_true c0, dec_true (show (0 : Int) ≤ k0 - 1 by omega), dec_true (show k0 - 1 < ((lenE 2 (fieldsV line separator).length : Nat) : Int) by omega), a1, a2, dec_true a3, dec_true a4, dec_true a5, wrap_id (n := begI line (fstC (fieldsV line separator) (k0 - 1)) (sndC (fieldsV line separator) (k0 - 1)) k7 + k1) (by omega) (by omega), wrap_id (n := begI line (fstC (fieldsV line separator) (k0 - 1)) (sndC (fieldsV line separator) (k0 - 1)) k7 + k1 - 1) (by omega) (by omega)]
    by_cases c2 : k2 > 0
    · by_cases c3 : k2 ≤ ((lenE 2 (fieldsV line separator).length : Nat) : Int)
      · obtain ⟨d1, d2, d3, d4, d5⟩ := key_first (show 1 ≤ k2 by omega) c3
        have hd := begI_ok k7 d3 d4 d5
        rw [dec_true c2, dec_true c3] at hT
        simp only [Bool.and_self, cond_true] at hT
        rw [dec_true c2, dec_true c3, dec_true (show (0 : Int) ≤ k2 - 1 by omega), dec_true (show k2 - 1 < ((lenE 2 (fieldsV line separator).length : Nat) : Int) by omega), d1, d2, dec_true d3, dec_true d4, dec_true d5, wrap_id (n := begI line (fstC (fieldsV line separator) (k2 - 1)) (sndC (fieldsV line separator) (k2 - 1)) k7 + k3) (by omega) (by omega)]
        cases h : decide (k3 > 0) with
        | true =>
          rw [h] at hT
          exact key_tail hF.1 hT.2
        | false =>
          rw [h] at hT
          simp only [cond_false] at hT
          have g := key_tail hF.1 hT.2
          rw [dec_true d5] at g
          exact g
      · rw [dec_false c3, Bool.and_false] at hT
        rw [dec_true c2, dec_false c3]
        exact key_tail hF.1 hT.2
    · rw [dec_false c2, Bool.false_and] at hT
      rw [dec_false c2]
      exact key_tail hF.1 hT.2
  · rw [dec_false c0] at hF
    rw [dec_false c0]
    by_cases c2 : k2 > 0
    · by_cases c3 : k2 ≤ ((lenE 2 (fieldsV line separator).length : Nat) : Int)
      · obtain ⟨d1, d2, d3, d4, d5⟩ := key_first (show 1 ≤ k2 by omega) c3
        have hd := begI_ok k7 d3 d4 d5
        rw [dec_true c2, dec_true c3] at hT
        simp only [Bool.and_self, cond_true] at hT
        rw [dec_true c2, dec_true c3, dec_true (show (0 : Int) ≤ k2 - 1 by omega), dec_true (show k2 - 1 < ((lenE 2 (fieldsV line separator).length : Nat) : Int) by omega), d1, d2, dec_true d3, dec_true d4, dec_true d5, wrap_id (n := begI line (fstC (fieldsV line separator) (k2 - 1)) (sndC (fieldsV line separator) (k2 - 1)) k7 + k3) (by omega) (by omega)]
        cases h : decide (k3 > 0) with
        | true =>
          rw [h] at hT
          exact key_tail hF.1 hT.2
        | false =>
          rw [h] at hT
          simp only [cond_false] at hT
          have g := key_tail hF.1 hT.2
          rw [dec_true d5] at g
          exact g
      · rw [dec_false c3, Bool.and_false] at hT
        rw [dec_true c2, dec_false c3]
        exact key_tail hF.1 hT.2
    · rw [dec_false c2, Bool.false_and] at hT
      rw [dec_false c2]
      exact key_tail hF.1 hT.2
def k116 : PrimT := fun vs gs => match vs, gs with
  | [.ag [.sc (.int .i64 k0), .sc (.int .i64 k1), .sc (.int .i64 k2), .sc (.int .i64 k3), .sc (.bool k4), .sc (.bool k5), .sc (.bool k6), .sc (.bool k7)], .sc (.string line), .sc (.string separator)], [] => ((okKey k0 k1 k2 k3 && decide (line.size ≤ 1000000000)), .sc (.string (keyB line separator k0 k1 k2 k3 k7)), [])
  | _, _ => (false, .bad, [])
theorem k116_ok : ∀ vs gs x, k116 vs gs = (true, x) → CallR C prim 116 vs gs x := by
  intro vs gs x h
  unfold k116 at h
  split at h
  · simp only [Prod.mk.injEq] at h
    obtain ⟨hp, rfl⟩ := h
    exact f116_run _ _ _ _ _ _ _ _ _ _ _ (f116_eq _ _ _ _ _ _ _ _ _ _ hp)
  · cases h

def K_f92_l0 : CallK := kCons 70 k70 <| kNil
theorem K_f92_l0_ok : KOK C prim K_f92_l0 := KOK.cons k70_ok <| KOK.nil
def T_f92_l0 : Tab := tNil
theorem T_f92_l0_ok : TOK C prim 92 T_f92_l0 := TOK.nil
def f92_l0 : Nat → Int → Int → Int → Int → Bool → Bool → Bool → Bool → ByteArray → Int → Int → Int → (R : Type) → (Ex → St → Option R) → Option R
  | 0, _, _, _, _, _, _, _, _, _, _, _, _, _, _ => none
  | n + 1, v10, v11, v12, v13, v14, v15, v16, v17, v2, i, f0, f1, R, κ =>
    bif v17 then
      bif (decide (i < f1)) then
        bif (((decide ((0 : Int) ≤ i)) && (decide (i < ((v2.size : Nat) : Int)))) && true) then
          bif (blankI ((v2.data.getD (i).toNat 0).toNat : Int)) then
            f92_l0 n v10 v11 v12 v13 v14 v15 v16 v17 v2 (IntKind.wrap .i64 (i + 1)) f0 f1 R κ
          else
            κ (.ex 0) (mkS [(4, .bad), (5, .sc (.int .i64 i))] [])
        else none
      else
        κ (.ex 0) (mkS [(4, .bad), (5, .sc (.int .i64 i))] [])
    else
      κ (.ex 0) (mkS [(4, .bad), (5, .sc (.int .i64 i))] [])
def f92_l0_ls : List (Nat × Pat) := [(1, .pm 0 [.i .i64, .i .i64, .i .i64, .i .i64, .b, .b, .b, .b]), (2, .pm 0 [.s]), (3, .is (.ptrB (.loc 3) 0)), (5, .i .i64)]
def f92_l0_rs : List RPat := [⟨.loc 3, true, [.i .i64, .i .i64]⟩]
theorem f92_l0_ok (n : Nat) : ∀ (v10 : Int) (v11 : Int) (v12 : Int) (v13 : Int) (v14 : Bool) (v15 : Bool) (v16 : Bool) (v17 : Bool) (v2 : ByteArray) (i : Int) (f0 : Int) (f1 : Int) (R : Type) (κ : Ex → St → Option R) (r : R), f92_l0 n v10 v11 v12 v13 v14 v15 v16 v17 v2 i f0 f1 R κ = some r → ∃ ee ss, κ ee ss = some r ∧ RunP C prim 92 [0, 0, 1, 1] (mkS [(1, .pim 8 [.sc (.int .i64 v10), .sc (.int .i64 v11), .sc (.int .i64 v12), .sc (.int .i64 v13), .sc (.bool v14), .sc (.bool v15), .sc (.bool v16), .sc (.bool v17)] 0), (2, .pim 1 [.sc (.string v2)] 0), (3, .ptrB (.loc 3) 0), (5, .sc (.int .i64 i))] [(.loc 3, some ⟨true, [.sc (.int .i64 f0), .sc (.int .i64 f1)]⟩)]) ee ss := by
  induction n with
  | zero => intro v10 v11 v12 v13 v14 v15 v16 v17 v2 i f0 f1 R κ r h; cases h
  | succ n ih =>
    intro v10 v11 v12 v13 v14 v15 v16 v17 v2 i f0 f1 R κ r h
    refine loop_round (K := K_f92_l0) (T := T_f92_l0) K_f92_l0_ok T_f92_l0_ok (p := [0, 0, 1, 1]) (by kernel_rfl) (fun st => bif ckS f92_l0_ls f92_l0_rs st then f92_l0 n ((nthV (st.env 1).pimOf 0).intOf) ((nthV (st.env 1).pimOf 1).intOf) ((nthV (st.env 1).pimOf 2).intOf) ((nthV (st.env 1).pimOf 3).intOf) ((nthV (st.env 1).pimOf 4).boolOf) ((nthV (st.env 1).pimOf 5).boolOf) ((nthV (st.env 1).pimOf 6).boolOf) ((nthV (st.env 1).pimOf 7).boolOf) ((nthV (st.env 2).pimOf 0).strOf) ((st.env 5).intOf) ((nthV (rowOf (st.regs (.loc 3))) 0).intOf) ((nthV (rowOf (st.regs (.loc 3))) 1).intOf) R κ else none) (fun st0 h0 => ?_) ?_
    · obtain ⟨hs, h0⟩ := cond_some h0
      rw [canon (ls := f92_l0_ls) (rs := f92_l0_rs) (by kernel_rfl) st0 hs]
      exact ih _ _ _ _ _ _ _ _ _ _ _ _ R κ r h0
    · refine Eq.trans ?_ h
      kernel_rfl

def f92_s0 (v10 : Int) (v11 : Int) (v12 : Int) (v13 : Int) (v14 : Bool) (v15 : Bool) (v16 : Bool) (v17 : Bool) (v2 : ByteArray) (i : Int) (f0 : Int) (f1 : Int) (R : Type) (κ : Ex → St → Option R) : Option R :=
  κ (.ex 0) (mkS [(4, .bad), (5, .sc (.int .i64 (begI v2 i f1 v17)))] [])
theorem f92_loop (k0 k1 k2 k3 : Int) (k4 k5 k6 : Bool) (line : ByteArray) (f0 : Int) (t : Nat) (ht : t ≤ line.size) (hs : line.size ≤ 1000000000) (R : Type) (κ : Ex → St → Option R) : ∀ (k i : Nat), i + k = t →
    f92_l0 (k + 1) k0 k1 k2 k3 k4 k5 k6 true line ((i : Nat) : Int) f0 ((t : Nat) : Int) R κ = κ (.ex 0) (mkS [(4, .bad), (5, .sc (.int .i64 ((i + leadN blankU ((line.data.toList.take t).drop i) : Nat) : Int)))] [])
  | 0, i, h => by
    rw [f92_l0, dec_false (by omega), List.drop_of_length_le (by rw [List.length_take]; omega)]
    rfl
  | k + 1, i, h => by
    have hl := bl_size line
    have hlt : i < line.data.toList.length := by omega
    have hlt' : i < (line.data.toList.take t).length := by rw [List.length_take]; omega
    have e : (line.data.toList.take t)[i] = line.data.toList[i] := List.getElem_take
    have e2 : blankI (((line.data.toList[i]).toNat : Nat) : Int) = blankU line.data.toList[i] := rfl
    rw [f92_l0, dec_true (show ((i : Nat) : Int) < ((t : Nat) : Int) by omega), dec_true (show (0 : Int) ≤ ((i : Nat) : Int) by omega), dec_true (show ((i : Nat) : Int) < ((line.size : Nat) : Int) by omega), Int.toNat_natCast, dig_byte line hlt, wrap_succ (by omega), f92_loop k0 k1 k2 k3 k4 k5 k6 line f0 t ht hs R κ k (i + 1) (by omega), List.drop_eq_getElem_cons hlt', leadN, e, e2]
    cases blankU line.data.toList[i] with
    | false => rfl
    | true =>
      simp only [Bool.and_self, cond_true]
      rw [Nat.add_assoc, Nat.add_comm 1]
theorem f92_s0_eq (v10 : Int) (v11 : Int) (v12 : Int) (v13 : Int) (v14 : Bool) (v15 : Bool) (v16 : Bool) (v17 : Bool) (v2 : ByteArray) (i : Int) (f0 : Int) (f1 : Int) (hp : (decide (0 ≤ i) && decide (i ≤ f1) && decide (f1 ≤ ((v2.size : Nat) : Int)) && decide (v2.size ≤ 1000000000)) = true) : ∃ n, ∀ (R : Type) (κ : Ex → St → Option R), f92_l0 n v10 v11 v12 v13 v14 v15 v16 v17 v2 i f0 f1 R κ = f92_s0 v10 v11 v12 v13 v14 v15 v16 v17 v2 i f0 f1 R κ := by
  simp only [Bool.and_eq_true, decide_eq_true_eq] at hp
  obtain ⟨⟨⟨h1, h2⟩, h3⟩, h4⟩ := hp
  unfold f92_s0 begI
  cases v17 with
  | false => exact ⟨1, fun R κ => rfl⟩
  | true =>
    obtain ⟨j, rfl⟩ : ∃ j : Nat, i = (j : Int) := ⟨i.toNat, by omega⟩
    obtain ⟨t, rfl⟩ : ∃ t : Nat, f1 = (t : Int) := ⟨f1.toNat, by omega⟩
    exact ⟨t - j + 1, fun R κ => f92_loop v10 v11 v12 v13 v14 v15 v16 v2 f0 t (by omega) h4 R κ (t - j) j (by omega)⟩
def t_f92_l0 (st : St) (R : Type) (κ : Ex → St → Option R) : Option R := bif ckS f92_l0_ls f92_l0_rs st then (bif (decide (0 ≤ ((st.env 5).intOf)) && decide (((st.env 5).intOf) ≤ ((nthV (rowOf (st.regs (.loc 3))) 1).intOf)) && decide (((nthV (rowOf (st.regs (.loc 3))) 1).intOf) ≤ ((((nthV (st.env 2).pimOf 0).strOf).size : Nat) : Int)) && decide (((nthV (st.env 2).pimOf 0).strOf).size ≤ 1000000000)) then f92_s0 ((nthV (st.env 1).pimOf 0).intOf) ((nthV (st.env 1).pimOf 1).intOf) ((nthV (st.env 1).pimOf 2).intOf) ((nthV (st.env 1).pimOf 3).intOf) ((nthV (st.env 1).pimOf 4).boolOf) ((nthV (st.env 1).pimOf 5).boolOf) ((nthV (st.env 1).pimOf 6).boolOf) ((nthV (st.env 1).pimOf 7).boolOf) ((nthV (st.env 2).pimOf 0).strOf) ((st.env 5).intOf) ((nthV (rowOf (st.regs (.loc 3))) 0).intOf) ((nthV (rowOf (st.regs (.loc 3))) 1).intOf) R κ else none) else none
theorem t_f92_l0_ok : ∀ st0 R κ r, t_f92_l0 (forget C 92 [0, 0, 1, 1] st0) R κ = some r → ∃ ee ss, κ ee ss = some r ∧ RunP C prim 92 [0, 0, 1, 1] (forget C 92 [0, 0, 1, 1] st0) ee ss := by
  intro st0 R κ r h
  obtain ⟨hs, h⟩ := cond_some h
  obtain ⟨hp, h⟩ := cond_some h
  rw [canon (ls := f92_l0_ls) (rs := f92_l0_rs) (by kernel_rfl) st0 hs]
  obtain ⟨n, hn⟩ := f92_s0_eq _ _ _ _ _ _ _ _ _ _ _ _ hp
  rw [← hn] at h
  exact f92_l0_ok n _ _ _ _ _ _ _ _ _ _ _ _ R κ r h

def K_f92 : CallK := kNil
theorem K_f92_ok : KOK C prim K_f92 := KOK.nil
def T_f92 : Tab := tCons [0, 0, 1, 1] t_f92_l0 <| tNil
theorem T_f92_ok : TOK C prim 92 T_f92 := TOK.cons t_f92_l0_ok <| TOK.nil
def f92 (f0 : Int) (f1 : Int) (v10 : Int) (v11 : Int) (v12 : Int) (v13 : Int) (v14 : Bool) (v15 : Bool) (v16 : Bool) (v17 : Bool) (v2 : ByteArray) : Option (V × List Rg) :=
  bif (decide (0 ≤ f0) && decide (f0 ≤ f1) && decide (f1 ≤ ((v2.size : Nat) : Int)) && decide (v2.size ≤ 1000000000)) then
    some (.sc (.int .i64 (begI v2 f0 f1 v17)), [])
  else none
theorem f92_run (f0 : Int) (f1 : Int) (v10 : Int) (v11 : Int) (v12 : Int) (v13 : Int) (v14 : Bool) (v15 : Bool) (v16 : Bool) (v17 : Bool) (v2 : ByteArray) (z9 : V × List Rg) (h : f92 f0 f1 v10 v11 v12 v13 v14 v15 v16 v17 v2 = some z9) : CallR C prim 92 [.ag [.sc (.int .i64 f0), .sc (.int .i64 f1)], .pim 8 [.sc (.int .i64 v10), .sc (.int .i64 v11), .sc (.int .i64 v12), .sc (.int .i64 v13), .sc (.bool v14), .sc (.bool v15), .sc (.bool v16), .sc (.bool v17)] 0, .pim 1 [.sc (.string v2)] 0] [] z9 := by
  refine call_fn (K := K_f92) (T := T_f92) K_f92_ok T_f92_ok (by kernel_rfl) ?_
  refine Eq.trans ?_ h
  kernel_rfl

theorem f92_eq (f0 : Int) (f1 : Int) (v10 : Int) (v11 : Int) (v12 : Int) (v13 : Int) (v14 : Bool) (v15 : Bool) (v16 : Bool) (v17 : Bool) (v2 : ByteArray) (hp : (decide (0 ≤ f0) && decide (f0 ≤ f1) && decide (f1 ≤ ((v2.size : Nat) : Int)) && decide (v2.size ≤ 1000000000)) = true) : f92 f0 f1 v10 v11 v12 v13 v14 v15 v16 v17 v2 = some (.sc (.int .i64 (begI v2 f0 f1 v17)), []) := by
  unfold f92
  rw [hp]
  rfl
def k92 : PrimT := fun vs gs => match vs, gs with
  | [.ag [.sc (.int .i64 f0), .sc (.int .i64 f1)], .pim 8 [.sc (.int .i64 v10), .sc (.int .i64 v11), .sc (.int .i64 v12), .sc (.int .i64 v13), .sc (.bool v14), .sc (.bool v15), .sc (.bool v16), .sc (.bool v17)] 0, .pim 1 [.sc (.string v2)] 0], [] => ((decide (0 ≤ f0) && decide (f0 ≤ f1) && decide (f1 ≤ ((v2.size : Nat) : Int)) && decide (v2.size ≤ 1000000000)), .sc (.int .i64 (begI v2 f0 f1 v17)), [])
  | _, _ => (false, .bad, [])
theorem k92_ok : ∀ vs gs x, k92 vs gs = (true, x) → CallR C prim 92 vs gs x := by
  intro vs gs x h
  unfold k92 at h
  split at h
  · simp only [Prod.mk.injEq] at h
    obtain ⟨hp, rfl⟩ := h
    exact f92_run _ _ _ _ _ _ _ _ _ _ _ _ (f92_eq _ _ _ _ _ _ _ _ _ _ _ hp)
  · cases h

def K_f48 : CallK := kCons 91 k91 <| kCons 92 k92 <| kNil
theorem K_f48_ok : KOK C prim K_f48 := KOK.cons k91_ok <| KOK.cons k92_ok <| KOK.nil
def T_f48 : Tab := tNil
theorem T_f48_ok : TOK C prim 48 T_f48 := TOK.nil
def f48 (line : ByteArray) (separator : ByteArray) (k0 : Int) (k1 : Int) (k2 : Int) (k3 : Int) (k4 : Bool) (k5 : Bool) (k6 : Bool) (k7 : Bool) : Option (V × List Rg) :=
  bif ((decide (line.size ≤ 1000000000)) && true) then
    bif (decide (k0 ≤ (((lenE 2 ((fieldsV line separator)).length) : Nat) : Int))) then
      bif (((decide ((0 : Int) ≤ (IntKind.wrap .i64 (k0 - 1)))) && (decide ((IntKind.wrap .i64 (k0 - 1)) < (((lenE 2 ((fieldsV line separator)).length) : Nat) : Int)))) && true) then
        bif (((V.isInt .i64 (nthV (fieldsV line separator) ((((IntKind.wrap .i64 (k0 - 1))).toNat * 2) + 0))) && ((V.isInt .i64 (nthV (fieldsV line separator) (((((IntKind.wrap .i64 (k0 - 1))).toNat * 2) + 0) + 1))) && true)) && true) then
          bif ((decide (0 ≤ (V.intOf (nthV (fieldsV line separator) ((((IntKind.wrap .i64 (k0 - 1))).toNat * 2) + 0)))) && decide ((V.intOf (nthV (fieldsV line separator) ((((IntKind.wrap .i64 (k0 - 1))).toNat * 2) + 0))) ≤ (V.intOf (nthV (fieldsV line separator) (((((IntKind.wrap .i64 (k0 - 1))).toNat * 2) + 0) + 1)))) && decide ((V.intOf (nthV (fieldsV line separator) (((((IntKind.wrap .i64 (k0 - 1))).toNat * 2) + 0) + 1))) ≤ ((line.size : Nat) : Int)) && decide (line.size ≤ 1000000000)) && true) then
            bif (decide ((IntKind.wrap .i64 ((IntKind.wrap .i64 ((begI line (V.intOf (nthV (fieldsV line separator) ((((IntKind.wrap .i64 (k0 - 1))).toNat * 2) + 0))) (V.intOf (nthV (fieldsV line separator) (((((IntKind.wrap .i64 (k0 - 1))).toNat * 2) + 0) + 1))) k7) + k1)) - 1)) > (V.intOf (nthV (fieldsV line separator) (((((IntKind.wrap .i64 (k0 - 1))).toNat * 2) + 0) + 1))))) then
              bif (decide (k2 > 0)) then
                bif (decide (k2 ≤ (((lenE 2 ((fieldsV line separator)).length) : Nat) : Int))) then
                  bif (((decide ((0 : Int) ≤ (IntKind.wrap .i64 (k2 - 1)))) && (decide ((IntKind.wrap .i64 (k2 - 1)) < (((lenE 2 ((fieldsV line separator)).length) : Nat) : Int)))) && true) then
                    bif (((V.isInt .i64 (nthV (fieldsV line separator) ((((IntKind.wrap .i64 (k2 - 1))).toNat * 2) + 0))) && ((V.isInt .i64 (nthV (fieldsV line separator) (((((IntKind.wrap .i64 (k2 - 1))).toNat * 2) + 0) + 1))) && true)) && true) then
                      bif (decide (k3 > 0)) then
                        bif ((decide (0 ≤ (V.intOf (nthV (fieldsV line separator) ((((IntKind.wrap .i64 (k2 - 1))).toNat * 2) + 0)))) && decide ((V.intOf (nthV (fieldsV line separator) ((((IntKind.wrap .i64 (k2 - 1))).toNat * 2) + 0))) ≤ (V.intOf (nthV (fieldsV line separator) (((((IntKind.wrap .i64 (k2 - 1))).toNat * 2) + 0) + 1)))) && decide ((V.intOf (nthV (fieldsV line separator) (((((IntKind.wrap .i64 (k2 - 1))).toNat * 2) + 0) + 1))) ≤ ((line.size : Nat) : Int)) && decide (line.size ≤ 1000000000)) && true) then
                          bif (decide ((IntKind.wrap .i64 ((begI line (V.intOf (nthV (fieldsV line separator) ((((IntKind.wrap .i64 (k2 - 1))).toNat * 2) + 0))) (V.intOf (nthV (fieldsV line separator) (((((IntKind.wrap .i64 (k2 - 1))).toNat * 2) + 0) + 1))) k7) + k3)) < (V.intOf (nthV (fieldsV line separator) (((((IntKind.wrap .i64 (k2 - 1))).toNat * 2) + 0) + 1))))) then
                            bif ((decide (0 ≤ (V.intOf (nthV (fieldsV line separator) ((((IntKind.wrap .i64 (k2 - 1))).toNat * 2) + 0)))) && decide ((V.intOf (nthV (fieldsV line separator) ((((IntKind.wrap .i64 (k2 - 1))).toNat * 2) + 0))) ≤ (V.intOf (nthV (fieldsV line separator) (((((IntKind.wrap .i64 (k2 - 1))).toNat * 2) + 0) + 1)))) && decide ((V.intOf (nthV (fieldsV line separator) (((((IntKind.wrap .i64 (k2 - 1))).toNat * 2) + 0) + 1))) ≤ ((line.size : Nat) : Int)) && decide (line.size ≤ 1000000000)) && true) then
                              bif (decide ((IntKind.wrap .i64 ((begI line (V.intOf (nthV (fieldsV line separator) ((((IntKind.wrap .i64 (k2 - 1))).toNat * 2) + 0))) (V.intOf (nthV (fieldsV line separator) (((((IntKind.wrap .i64 (k2 - 1))).toNat * 2) + 0) + 1))) k7) + k3)) < (V.intOf (nthV (fieldsV line separator) (((((IntKind.wrap .i64 (k0 - 1))).toNat * 2) + 0) + 1))))) then
                                some (.sc (.string ⟨#[]⟩), [])
                              else
                                bif (((((decide ((0 : Int) ≤ (V.intOf (nthV (fieldsV line separator) (((((IntKind.wrap .i64 (k0 - 1))).toNat * 2) + 0) + 1))))) && (decide ((V.intOf (nthV (fieldsV line separator) (((((IntKind.wrap .i64 (k0 - 1))).toNat * 2) + 0) + 1))) ≤ (IntKind.wrap .i64 ((begI line (V.intOf (nthV (fieldsV line separator) ((((IntKind.wrap .i64 (k2 - 1))).toNat * 2) + 0))) (V.intOf (nthV (fieldsV line separator) (((((IntKind.wrap .i64 (k2 - 1))).toNat * 2) + 0) + 1))) k7) + k3))))) && (decide ((IntKind.wrap .i64 ((begI line (V.intOf (nthV (fieldsV line separator) ((((IntKind.wrap .i64 (k2 - 1))).toNat * 2) + 0))) (V.intOf (nthV (fieldsV line separator) (((((IntKind.wrap .i64 (k2 - 1))).toNat * 2) + 0) + 1))) k7) + k3)) ≤ ((line.size : Nat) : Int)))) && true) && true) then
                                  some (.sc (.string (line.extract ((V.intOf (nthV (fieldsV line separator) (((((IntKind.wrap .i64 (k0 - 1))).toNat * 2) + 0) + 1)))).toNat ((IntKind.wrap .i64 ((begI line (V.intOf (nthV (fieldsV line separator) ((((IntKind.wrap .i64 (k2 - 1))).toNat * 2) + 0))) (V.intOf (nthV (fieldsV line separator) (((((IntKind.wrap .i64 (k2 - 1))).toNat * 2) + 0) + 1))) k7) + k3))).toNat)), [])
                                else none
                            else none
                          else
                            bif (decide ((V.intOf (nthV (fieldsV line separator) (((((IntKind.wrap .i64 (k2 - 1))).toNat * 2) + 0) + 1))) < (V.intOf (nthV (fieldsV line separator) (((((IntKind.wrap .i64 (k0 - 1))).toNat * 2) + 0) + 1))))) then
                              some (.sc (.string ⟨#[]⟩), [])
                            else
                              bif (((((decide ((0 : Int) ≤ (V.intOf (nthV (fieldsV line separator) (((((IntKind.wrap .i64 (k0 - 1))).toNat * 2) + 0) + 1))))) && (decide ((V.intOf (nthV (fieldsV line separator) (((((IntKind.wrap .i64 (k0 - 1))).toNat * 2) + 0) + 1))) ≤ (V.intOf (nthV (fieldsV line separator) (((((IntKind.wrap .i64 (k2 - 1))).toNat * 2) + 0) + 1)))))) && (decide ((V.intOf (nthV (fieldsV line separator) (((((IntKind.wrap .i64 (k2 - 1))).toNat * 2) + 0) + 1))) ≤ ((line.size : Nat) : Int)))) && true) && true) then
                                some (.sc (.string (line.extract ((V.intOf (nthV (fieldsV line separator) (((((IntKind.wrap .i64 (k0 - 1))).toNat * 2) + 0) + 1)))).toNat ((V.intOf (nthV (fieldsV line separator) (((((IntKind.wrap .i64 (k2 - 1))).toNat * 2) + 0) + 1)))).toNat)), [])
                              else none
                        else none
                      else
                        bif (decide ((V.intOf (nthV (fieldsV line separator) (((((IntKind.wrap .i64 (k2 - 1))).toNat * 2) + 0) + 1))) < (V.intOf (nthV (fieldsV line separator) (((((IntKind.wrap .i64 (k0 - 1))).toNat * 2) + 0) + 1))))) then
                          some (.sc (.string ⟨#[]⟩), [])
                        else
                          bif (((((decide ((0 : Int) ≤ (V.intOf (nthV (fieldsV line separator) (((((IntKind.wrap .i64 (k0 - 1))).toNat * 2) + 0) + 1))))) && (decide ((V.intOf (nthV (fieldsV line separator) (((((IntKind.wrap .i64 (k0 - 1))).toNat * 2) + 0) + 1))) ≤ (V.intOf (nthV (fieldsV line separator) (((((IntKind.wrap .i64 (k2 - 1))).toNat * 2) + 0) + 1)))))) && (decide ((V.intOf (nthV (fieldsV line separator) (((((IntKind.wrap .i64 (k2 - 1))).toNat * 2) + 0) + 1))) ≤ ((line.size : Nat) : Int)))) && true) && true) then
                            some (.sc (.string (line.extract ((V.intOf (nthV (fieldsV line separator) (((((IntKind.wrap .i64 (k0 - 1))).toNat * 2) + 0) + 1)))).toNat ((V.intOf (nthV (fieldsV line separator) (((((IntKind.wrap .i64 (k2 - 1))).toNat * 2) + 0) + 1)))).toNat)), [])
                          else none
                    else none
                  else none
                else
                  bif (decide (((line.size : Nat) : Int) < (V.intOf (nthV (fieldsV line separator) (((((IntKind.wrap .i64 (k0 - 1))).toNat * 2) + 0) + 1))))) then
                    some (.sc (.string ⟨#[]⟩), [])
                  else
                    bif (((((decide ((0 : Int) ≤ (V.intOf (nthV (fieldsV line separator) (((((IntKind.wrap .i64 (k0 - 1))).toNat * 2) + 0) + 1))))) && (decide ((V.intOf (nthV (fieldsV line separator) (((((IntKind.wrap .i64 (k0 - 1))).toNat * 2) + 0) + 1))) ≤ ((line.size : Nat) : Int)))) && (decide (((line.size : Nat) : Int) ≤ ((line.size : Nat) : Int)))) && true) && true) then
                      some (.sc (.string (line.extract ((V.intOf (nthV (fieldsV line separator) (((((IntKind.wrap .i64 (k0 - 1))).toNat * 2) + 0) + 1)))).toNat (((line.size : Nat) : Int)).toNat)), [])
                    else none
              else
                bif (decide (((line.size : Nat) : Int) < (V.intOf (nthV (fieldsV line separator) (((((IntKind.wrap .i64 (k0 - 1))).toNat * 2) + 0) + 1))))) then
                  some (.sc (.string ⟨#[]⟩), [])
                else
                  bif (((((decide ((0 : Int) ≤ (V.intOf (nthV (fieldsV line separator) (((((IntKind.wrap .i64 (k0 - 1))).toNat * 2) + 0) + 1))))) && (decide ((V.intOf (nthV (fieldsV line separator) (((((IntKind.wrap .i64 (k0 - 1))).toNat * 2) + 0) + 1))) ≤ ((line.size : Nat) : Int)))) && (decide (((line.size : Nat) : Int) ≤ ((line.size : Nat) : Int)))) && true) && true) then
                    some (.sc (.string (line.extract ((V.intOf (nthV (fieldsV line separator) (((((IntKind.wrap .i64 (k0 - 1))).toNat * 2) + 0) + 1)))).toNat (((line.size : Nat) : Int)).toNat)), [])
                  else none
            else
              bif (decide (k2 > 0)) then
                bif (decide (k2 ≤ (((lenE 2 ((fieldsV line separator)).length) : Nat) : Int))) then
                  bif (((decide ((0 : Int) ≤ (IntKind.wrap .i64 (k2 - 1)))) && (decide ((IntKind.wrap .i64 (k2 - 1)) < (((lenE 2 ((fieldsV line separator)).length) : Nat) : Int)))) && true) then
                    bif (((V.isInt .i64 (nthV (fieldsV line separator) ((((IntKind.wrap .i64 (k2 - 1))).toNat * 2) + 0))) && ((V.isInt .i64 (nthV (fieldsV line separator) (((((IntKind.wrap .i64 (k2 - 1))).toNat * 2) + 0) + 1))) && true)) && true) then
                      bif (decide (k3 > 0)) then
                        bif ((decide (0 ≤ (V.intOf (nthV (fieldsV line separator) ((((IntKind.wrap .i64 (k2 - 1))).toNat * 2) + 0)))) && decide ((V.intOf (nthV (fieldsV line separator) ((((IntKind.wrap .i64 (k2 - 1))).toNat * 2) + 0))) ≤ (V.intOf (nthV (fieldsV line separator) (((((IntKind.wrap .i64 (k2 - 1))).toNat * 2) + 0) + 1)))) && decide ((V.intOf (nthV (fieldsV line separator) (((((IntKind.wrap .i64 (k2 - 1))).toNat * 2) + 0) + 1))) ≤ ((line.size : Nat) : Int)) && decide (line.size ≤ 1000000000)) && true) then
                          bif (decide ((IntKind.wrap .i64 ((begI line (V.intOf (nthV (fieldsV line separator) ((((IntKind.wrap .i64 (k2 - 1))).toNat * 2) + 0))) (V.intOf (nthV (fieldsV line separator) (((((IntKind.wrap .i64 (k2 - 1))).toNat * 2) + 0) + 1))) k7) + k3)) < (V.intOf (nthV (fieldsV line separator) (((((IntKind.wrap .i64 (k2 - 1))).toNat * 2) + 0) + 1))))) then
                            bif ((decide (0 ≤ (V.intOf (nthV (fieldsV line separator) ((((IntKind.wrap .i64 (k2 - 1))).toNat * 2) + 0)))) && decide ((V.intOf (nthV (fieldsV line separator) ((((IntKind.wrap .i64 (k2 - 1))).toNat * 2) + 0))) ≤ (V.intOf (nthV (fieldsV line separator) (((((IntKind.wrap .i64 (k2 - 1))).toNat * 2) + 0) + 1)))) && decide ((V.intOf (nthV (fieldsV line separator) (((((IntKind.wrap .i64 (k2 - 1))).toNat * 2) + 0) + 1))) ≤ ((line.size : Nat) : Int)) && decide (line.size ≤ 1000000000)) && true) then
                              bif (decide ((IntKind.wrap .i64 ((begI line (V.intOf (nthV (fieldsV line separator) ((((IntKind.wrap .i64 (k2 - 1))).toNat * 2) + 0))) (V.intOf (nthV (fieldsV line separator) (((((IntKind.wrap .i64 (k2 - 1))).toNat * 2) + 0) + 1))) k7) + k3)) < (IntKind.wrap .i64 ((IntKind.wrap .i64 ((begI line (V.intOf (nthV (fieldsV line separator) ((((IntKind.wrap .i64 (k0 - 1))).toNat * 2) + 0))) (V.intOf (nthV (fieldsV line separator) (((((IntKind.wrap .i64 (k0 - 1))).toNat * 2) + 0) + 1))) k7) + k1)) - 1)))) then
                                some (.sc (.string ⟨#[]⟩), [])
                              else
                                bif (((((decide ((0 : Int) ≤ (IntKind.wrap .i64 ((IntKind.wrap .i64 ((begI line (V.intOf (nthV (fieldsV line separator) ((((IntKind.wrap .i64 (k0 - 1))).toNat * 2) + 0))) (V.intOf (nthV (fieldsV line separator) (((((IntKind.wrap .i64 (k0 - 1))).toNat * 2) + 0) + 1))) k7) + k1)) - 1)))) && (decide ((IntKind.wrap .i64 ((IntKind.wrap .i64 ((begI line (V.intOf (nthV (fieldsV line separator) ((((IntKind.wrap .i64 (k0 - 1))).toNat * 2) + 0))) (V.intOf (nthV (fieldsV line separator) (((((IntKind.wrap .i64 (k0 - 1))).toNat * 2) + 0) + 1))) k7) + k1)) - 1)) ≤ (IntKind.wrap .i64 ((begI line (V.intOf (nthV (fieldsV line separator) ((((IntKind.wrap .i64 (k2 - 1))).toNat * 2) + 0))) (V.intOf (nthV (fieldsV line separator) (((((IntKind.wrap .i64 (k2 - 1))).toNat * 2) + 0) + 1))) k7) + k3))))) && (decide ((IntKind.wrap .i64 ((begI line (V.intOf (nthV (fieldsV line separator) ((((IntKind.wrap .i64 (k2 - 1))).toNat * 2) + 0))) (V.intOf (nthV (fieldsV line separator) (((((IntKind.wrap .i64 (k2 - 1))).toNat * 2) + 0) + 1))) k7) + k3)) ≤ ((line.size : Nat) : Int)))) && true) && true) then
                                  some (.sc (.string (line.extract ((IntKind.wrap .i64 ((IntKind.wrap .i64 ((begI line (V.intOf (nthV (fieldsV line separator) ((((IntKind.wrap .i64 (k0 - 1))).toNat * 2) + 0))) (V.intOf (nthV (fieldsV line separator) (((((IntKind.wrap .i64 (k0 - 1))).toNat * 2) + 0) + 1))) k7) + k1)) - 1))).toNat ((IntKind.wrap .i64 ((begI line (V.intOf (nthV (fieldsV line separator) ((((IntKind.wrap .i64 (k2 - 1))).toNat * 2) + 0))) (V.intOf (nthV (fieldsV line separator) (((((IntKind.wrap .i64 (k2 - 1))).toNat * 2) + 0) + 1))) k7) + k3))).toNat)), [])
                                else none
                            else none
                          else
                            bif (decide ((V.intOf (nthV (fieldsV line separator) (((((IntKind.wrap .i64 (k2 - 1))).toNat * 2) + 0) + 1))) < (IntKind.wrap .i64 ((IntKind.wrap .i64 ((begI line (V.intOf (nthV (fieldsV line separator) ((((IntKind.wrap .i64 (k0 - 1))).toNat * 2) + 0))) (V.intOf (nthV (fieldsV line separator) (((((IntKind.wrap .i64 (k0 - 1))).toNat * 2) + 0) + 1))) k7) + k1)) - 1)))) then
                              some (.sc (.string ⟨#[]⟩), [])
                            else
                              bif (((((decide ((0 : Int) ≤ (IntKind.wrap .i64 ((IntKind.wrap .i64 ((begI line (V.intOf (nthV (fieldsV line separator) ((((IntKind.wrap .i64 (k0 - 1))).toNat * 2) + 0))) (V.intOf (nthV (fieldsV line separator) (((((IntKind.wrap .i64 (k0 - 1))).toNat * 2) + 0) + 1))) k7) + k1)) - 1)))) && (decide ((IntKind.wrap .i64 ((IntKind.wrap .i64 ((begI line (V.intOf (nthV (fieldsV line separator) ((((IntKind.wrap .i64 (k0 - 1))).toNat * 2) + 0))) (V.intOf (nthV (fieldsV line separator) (((((IntKind.wrap .i64 (k0 - 1))).toNat * 2) + 0) + 1))) k7) + k1)) - 1)) ≤ (V.intOf (nthV (fieldsV line separator) (((((IntKind.wrap .i64 (k2 - 1))).toNat * 2) + 0) + 1)))))) && (decide ((V.intOf (nthV (fieldsV line separator) (((((IntKind.wrap .i64 (k2 - 1))).toNat * 2) + 0) + 1))) ≤ ((line.size : Nat) : Int)))) && true) && true) then
                                some (.sc (.string (line.extract ((IntKind.wrap .i64 ((IntKind.wrap .i64 ((begI line (V.intOf (nthV (fieldsV line separator) ((((IntKind.wrap .i64 (k0 - 1))).toNat * 2) + 0))) (V.intOf (nthV (fieldsV line separator) (((((IntKind.wrap .i64 (k0 - 1))).toNat * 2) + 0) + 1))) k7) + k1)) - 1))).toNat ((V.intOf (nthV (fieldsV line separator) (((((IntKind.wrap .i64 (k2 - 1))).toNat * 2) + 0) + 1)))).toNat)), [])
                              else none
                        else none
                      else
                        bif (decide ((V.intOf (nthV (fieldsV line separator) (((((IntKind.wrap .i64 (k2 - 1))).toNat * 2) + 0) + 1))) < (IntKind.wrap .i64 ((IntKind.wrap .i64 ((begI line (V.intOf (nthV (fieldsV line separator) ((((IntKind.wrap .i64 (k0 - 1))).toNat * 2) + 0))) (V.intOf (nthV (fieldsV line separator) (((((IntKind.wrap .i64 (k0 - 1))).toNat * 2) + 0) + 1))) k7) + k1)) - 1)))) then
                          some (.sc (.string ⟨#[]⟩), [])
                        else
                          bif (((((decide ((0 : Int) ≤ (IntKind.wrap .i64 ((IntKind.wrap .i64 ((begI line (V.intOf (nthV (fieldsV line separator) ((((IntKind.wrap .i64 (k0 - 1))).toNat * 2) + 0))) (V.intOf (nthV (fieldsV line separator) (((((IntKind.wrap .i64 (k0 - 1))).toNat * 2) + 0) + 1))) k7) + k1)) - 1)))) && (decide ((IntKind.wrap .i64 ((IntKind.wrap .i64 ((begI line (V.intOf (nthV (fieldsV line separator) ((((IntKind.wrap .i64 (k0 - 1))).toNat * 2) + 0))) (V.intOf (nthV (fieldsV line separator) (((((IntKind.wrap .i64 (k0 - 1))).toNat * 2) + 0) + 1))) k7) + k1)) - 1)) ≤ (V.intOf (nthV (fieldsV line separator) (((((IntKind.wrap .i64 (k2 - 1))).toNat * 2) + 0) + 1)))))) && (decide ((V.intOf (nthV (fieldsV line separator) (((((IntKind.wrap .i64 (k2 - 1))).toNat * 2) + 0) + 1))) ≤ ((line.size : Nat) : Int)))) && true) && true) then
                            some (.sc (.string (line.extract ((IntKind.wrap .i64 ((IntKind.wrap .i64 ((begI line (V.intOf (nthV (fieldsV line separator) ((((IntKind.wrap .i64 (k0 - 1))).toNat * 2) + 0))) (V.intOf (nthV (fieldsV line separator) (((((IntKind.wrap .i64 (k0 - 1))).toNat * 2) + 0) + 1))) k7) + k1)) - 1))).toNat ((V.intOf (nthV (fieldsV line separator) (((((IntKind.wrap .i64 (k2 - 1))).toNat * 2) + 0) + 1)))).toNat)), [])
                          else none
                    else none
                  else none
                else
                  bif (decide (((line.size : Nat) : Int) < (IntKind.wrap .i64 ((IntKind.wrap .i64 ((begI line (V.intOf (nthV (fieldsV line separator) ((((IntKind.wrap .i64 (k0 - 1))).toNat * 2) + 0))) (V.intOf (nthV (fieldsV line separator) (((((IntKind.wrap .i64 (k0 - 1))).toNat * 2) + 0) + 1))) k7) + k1)) - 1)))) then
                    some (.sc (.string ⟨#[]⟩), [])
                  else
                    bif (((((decide ((0 : Int) ≤ (IntKind.wrap .i64 ((IntKind.wrap .i64 ((begI line (V.intOf (nthV (fieldsV line separator) ((((IntKind.wrap .i64 (k0 - 1))).toNat * 2) + 0))) (V.intOf (nthV (fieldsV line separator) (((((IntKind.wrap .i64 (k0 - 1))).toNat * 2) + 0) + 1))) k7) + k1)) - 1)))) && (decide ((IntKind.wrap .i64 ((IntKind.wrap .i64 ((begI line (V.intOf (nthV (fieldsV line separator) ((((IntKind.wrap .i64 (k0 - 1))).toNat * 2) + 0))) (V.intOf (nthV (fieldsV line separator) (((((IntKind.wrap .i64 (k0 - 1))).toNat * 2) + 0) + 1))) k7) + k1)) - 1)) ≤ ((line.size : Nat) : Int)))) && (decide (((line.size : Nat) : Int) ≤ ((line.size : Nat) : Int)))) && true) && true) then
                      some (.sc (.string (line.extract ((IntKind.wrap .i64 ((IntKind.wrap .i64 ((begI line (V.intOf (nthV (fieldsV line separator) ((((IntKind.wrap .i64 (k0 - 1))).toNat * 2) + 0))) (V.intOf (nthV (fieldsV line separator) (((((IntKind.wrap .i64 (k0 - 1))).toNat * 2) + 0) + 1))) k7) + k1)) - 1))).toNat (((line.size : Nat) : Int)).toNat)), [])
                    else none
              else
                bif (decide (((line.size : Nat) : Int) < (IntKind.wrap .i64 ((IntKind.wrap .i64 ((begI line (V.intOf (nthV (fieldsV line separator) ((((IntKind.wrap .i64 (k0 - 1))).toNat * 2) + 0))) (V.intOf (nthV (fieldsV line separator) (((((IntKind.wrap .i64 (k0 - 1))).toNat * 2) + 0) + 1))) k7) + k1)) - 1)))) then
                  some (.sc (.string ⟨#[]⟩), [])
                else
                  bif (((((decide ((0 : Int) ≤ (IntKind.wrap .i64 ((IntKind.wrap .i64 ((begI line (V.intOf (nthV (fieldsV line separator) ((((IntKind.wrap .i64 (k0 - 1))).toNat * 2) + 0))) (V.intOf (nthV (fieldsV line separator) (((((IntKind.wrap .i64 (k0 - 1))).toNat * 2) + 0) + 1))) k7) + k1)) - 1)))) && (decide ((IntKind.wrap .i64 ((IntKind.wrap .i64 ((begI line (V.intOf (nthV (fieldsV line separator) ((((IntKind.wrap .i64 (k0 - 1))).toNat * 2) + 0))) (V.intOf (nthV (fieldsV line separator) (((((IntKind.wrap .i64 (k0 - 1))).toNat * 2) + 0) + 1))) k7) + k1)) - 1)) ≤ ((line.size : Nat) : Int)))) && (decide (((line.size : Nat) : Int) ≤ ((line.size : Nat) : Int)))) && true) && true) then
                    some (.sc (.string (line.extract ((IntKind.wrap .i64 ((IntKind.wrap .i64 ((begI line (V.intOf (nthV (fieldsV line separator) ((((IntKind.wrap .i64 (k0 - 1))).toNat * 2) + 0))) (V.intOf (nthV (fieldsV line separator) (((((IntKind.wrap .i64 (k0 - 1))).toNat * 2) + 0) + 1))) k7) + k1)) - 1))).toNat (((line.size : Nat) : Int)).toNat)), [])
                  else none
          else none
        else none
      else none
    else
      bif (decide (k2 > 0)) then
        bif (decide (k2 ≤ (((lenE 2 ((fieldsV line separator)).length) : Nat) : Int))) then
          bif (((decide ((0 : Int) ≤ (IntKind.wrap .i64 (k2 - 1)))) && (decide ((IntKind.wrap .i64 (k2 - 1)) < (((lenE 2 ((fieldsV line separator)).length) : Nat) : Int)))) && true) then
            bif (((V.isInt .i64 (nthV (fieldsV line separator) ((((IntKind.wrap .i64 (k2 - 1))).toNat * 2) + 0))) && ((V.isInt .i64 (nthV (fieldsV line separator) (((((IntKind.wrap .i64 (k2 - 1))).toNat * 2) + 0) + 1))) && true)) && true) then
              bif (decide (k3 > 0)) then
                bif ((decide (0 ≤ (V.intOf (nthV (fieldsV line separator) ((((IntKind.wrap .i64 (k2 - 1))).toNat * 2) + 0)))) && decide ((V.intOf (nthV (fieldsV line separator) ((((IntKind.wrap .i64 (k2 - 1))).toNat * 2) + 0))) ≤ (V.intOf (nthV (fieldsV line separator) (((((IntKind.wrap .i64 (k2 - 1))).toNat * 2) + 0) + 1)))) && decide ((V.intOf (nthV (fieldsV line separator) (((((IntKind.wrap .i64 (k2 - 1))).toNat * 2) + 0) + 1))) ≤ ((line.size : Nat) : Int)) && decide (line.size ≤ 1000000000)) && true) then
                  bif (decide ((IntKind.wrap .i64 ((begI line (V.intOf (nthV (fieldsV line separator) ((((IntKind.wrap .i64 (k2 - 1))).toNat * 2) + 0))) (V.intOf (nthV (fieldsV line separator) (((((IntKind.wrap .i64 (k2 - 1))).toNat * 2) + 0) + 1))) k7) + k3)) < (V.intOf (nthV (fieldsV line separator) (((((IntKind.wrap .i64 (k2 - 1))).toNat * 2) + 0) + 1))))) then
                    bif ((decide (0 ≤ (V.intOf (nthV (fieldsV line separator) ((((IntKind.wrap .i64 (k2 - 1))).toNat * 2) + 0)))) && decide ((V.intOf (nthV (fieldsV line separator) ((((IntKind.wrap .i64 (k2 - 1))).toNat * 2) + 0))) ≤ (V.intOf (nthV (fieldsV line separator) (((((IntKind.wrap .i64 (k2 - 1))).toNat * 2) + 0) + 1)))) && decide ((V.intOf (nthV (fieldsV line separator) (((((IntKind.wrap .i64 (k2 - 1))).toNat * 2) + 0) + 1))) ≤ ((line.size : Nat) : Int)) && decide (line.size ≤ 1000000000)) && true) then
                      bif (decide ((IntKind.wrap .i64 ((begI line (V.intOf (nthV (fieldsV line separator) ((((IntKind.wrap .i64 (k2 - 1))).toNat * 2) + 0))) (V.intOf (nthV (fieldsV line separator) (((((IntKind.wrap .i64 (k2 - 1))).toNat * 2) + 0) + 1))) k7) + k3)) < ((line.size : Nat) : Int))) then
                        some (.sc (.string ⟨#[]⟩), [])
                      else
                        bif (((((decide ((0 : Int) ≤ ((line.size : Nat) : Int))) && (decide (((line.size : Nat) : Int) ≤ (IntKind.wrap .i64 ((begI line (V.intOf (nthV (fieldsV line separator) ((((IntKind.wrap .i64 (k2 - 1))).toNat * 2) + 0))) (V.intOf (nthV (fieldsV line separator) (((((IntKind.wrap .i64 (k2 - 1))).toNat * 2) + 0) + 1))) k7) + k3))))) && (decide ((IntKind.wrap .i64 ((begI line (V.intOf (nthV (fieldsV line separator) ((((IntKind.wrap .i64 (k2 - 1))).toNat * 2) + 0))) (V.intOf (nthV (fieldsV line separator) (((((IntKind.wrap .i64 (k2 - 1))).toNat * 2) + 0) + 1))) k7) + k3)) ≤ ((line.size : Nat) : Int)))) && true) && true) then
                          some (.sc (.string (line.extract (((line.size : Nat) : Int)).toNat ((IntKind.wrap .i64 ((begI line (V.intOf (nthV (fieldsV line separator) ((((IntKind.wrap .i64 (k2 - 1))).toNat * 2) + 0))) (V.intOf (nthV (fieldsV line separator) (((((IntKind.wrap .i64 (k2 - 1))).toNat * 2) + 0) + 1))) k7) + k3))).toNat)), [])
                        else none
                    else none
                  else
                    bif (decide ((V.intOf (nthV (fieldsV line separator) (((((IntKind.wrap .i64 (k2 - 1))).toNat * 2) + 0) + 1))) < ((line.size : Nat) : Int))) then
                      some (.sc (.string ⟨#[]⟩), [])
                    else
                      bif (((((decide ((0 : Int) ≤ ((line.size : Nat) : Int))) && (decide (((line.size : Nat) : Int) ≤ (V.intOf (nthV (fieldsV line separator) (((((IntKind.wrap .i64 (k2 - 1))).toNat * 2) + 0) + 1)))))) && (decide ((V.intOf (nthV (fieldsV line separator) (((((IntKind.wrap .i64 (k2 - 1))).toNat * 2) + 0) + 1))) ≤ ((line.size : Nat) : Int)))) && true) && true) then
                        some (.sc (.string (line.extract (((line.size : Nat) : Int)).toNat ((V.intOf (nthV (fieldsV line separator) (((((IntKind.wrap .i64 (k2 - 1))).toNat * 2) + 0) + 1)))).toNat)), [])
                      else none
                else none
              else
                bif (decide ((V.intOf (nthV (fieldsV line separator) (((((IntKind.wrap .i64 (k2 - 1))).toNat * 2) + 0) + 1))) < ((line.size : Nat) : Int))) then
                  some (.sc (.string ⟨#[]⟩), [])
                else
                  bif (((((decide ((0 : Int) ≤ ((line.size : Nat) : Int))) && (decide (((line.size : Nat) : Int) ≤ (V.intOf (nthV (fieldsV line separator) (((((IntKind.wrap .i64 (k2 - 1))).toNat * 2) + 0) + 1)))))) && (decide ((V.intOf (nthV (fieldsV line separator) (((((IntKind.wrap .i64 (k2 - 1))).toNat * 2) + 0) + 1))) ≤ ((line.size : Nat) : Int)))) && true) && true) then
                    some (.sc (.string (line.extract (((line.size : Nat) : Int)).toNat ((V.intOf (nthV (fieldsV line separator) (((((IntKind.wrap .i64 (k2 - 1))).toNat * 2) + 0) + 1)))).toNat)), [])
                  else none
            else none
          else none
        else
          bif (decide (((line.size : Nat) : Int) < ((line.size : Nat) : Int))) then
            some (.sc (.string ⟨#[]⟩), [])
          else
            bif (((((decide ((0 : Int) ≤ ((line.size : Nat) : Int))) && (decide (((line.size : Nat) : Int) ≤ ((line.size : Nat) : Int)))) && (decide (((line.size : Nat) : Int) ≤ ((line.size : Nat) : Int)))) && true) && true) then
              some (.sc (.string (line.extract (((line.size : Nat) : Int)).toNat (((line.size : Nat) : Int)).toNat)), [])
            else none
      else
        bif (decide (((line.size : Nat) : Int) < ((line.size : Nat) : Int))) then
          some (.sc (.string ⟨#[]⟩), [])
        else
          bif (((((decide ((0 : Int) ≤ ((line.size : Nat) : Int))) && (decide (((line.size : Nat) : Int) ≤ ((line.size : Nat) : Int)))) && (decide (((line.size : Nat) : Int) ≤ ((line.size : Nat) : Int)))) && true) && true) then
            some (.sc (.string (line.extract (((line.size : Nat) : Int)).toNat (((line.size : Nat) : Int)).toNat)), [])
          else none
  else none
theorem f48_run (line : ByteArray) (separator : ByteArray) (k0 : Int) (k1 : Int) (k2 : Int) (k3 : Int) (k4 : Bool) (k5 : Bool) (k6 : Bool) (k7 : Bool) (z9 : V × List Rg) (h : f48 line separator k0 k1 k2 k3 k4 k5 k6 k7 = some z9) : CallR C prim 48 [.sc (.string line), .sc (.string separator), .ag [.sc (.int .i64 k0), .sc (.int .i64 k1), .sc (.int .i64 k2), .sc (.int .i64 k3), .sc (.bool k4), .sc (.bool k5), .sc (.bool k6), .sc (.bool k7)]] [] z9 := by
  refine call_fn (K := K_f48) (T := T_f48) K_f48_ok T_f48_ok (by kernel_rfl) ?_
  refine Eq.trans ?_ h
  kernel_rfl

theorem mn_one {a b : Int} (h : b > a) : mnI a b = a := by rw [mnI_eq]; omega
theorem mn_two {a b : Int} (h : ¬ b > a) : mnI a b = b := by rw [mnI_eq]; omega
theorem mn_three {a b : Int} (h : b < a) : mnI a b = b := by rw [mnI_eq]; omega
theorem mn_four {a b : Int} (h : ¬ b < a) : mnI a b = a := by rw [mnI_eq]; omega
theorem f48_eq (line : ByteArray) (separator : ByteArray) (k0 : Int) (k1 : Int) (k2 : Int) (k3 : Int) (k4 : Bool) (k5 : Bool) (k6 : Bool) (k7 : Bool) (hp : (okKey k0 k1 k2 k3 && decide (line.size ≤ 1000000000)) = true) : f48 line separator k0 k1 k2 k3 k4 k5 k6 k7 = some (.sc (.string (keyB line separator k0 k1 k2 k3 k7)), []) := by
  simp only [Bool.and_eq_true] at hp
  obtain ⟨hk, hs'⟩ := hp
  have hs : line.size ≤ 1000000000 := of_decide_eq_true hs'
  obtain ⟨⟨h0, h0'⟩, ⟨h1, h1'⟩, ⟨h2, h2'⟩, ⟨h3, h3'⟩⟩ := okKey_spec hk
  have hF := from_ok (line := line) (sep := separator) (bl := k7) h0 h1
  have hT := to_ok (line := line) (sep := separator) (k2 := k2) (bl := k7) h3
  unfold f48 keyB
  rw [hs', wrap_id (n := k0 - 1) (by omega) (by omega), wrap_id (n := k2 - 1) (by omega) (by omega)]
  have e1 : ∀ k, V.intOf (nthV (fieldsV line separator) (k.toNat * 2 + 0)) = fstC (fieldsV line separator) k := fun _ => rfl
  have e2 : ∀ k, V.intOf (nthV (fieldsV line separator) (k.toNat * 2 + 0 + 1)) = sndC (fieldsV line separator) k := fun _ => rfl
  simp only [e1, e2]
  unfold fromK toK at *
  -- what stands behind the beginning, for any beginning
  have tail : ∀ (F : Int), 0 ≤ F → F ≤ ((line.size : Nat) : Int) → ∀ X, X = (bif decide (k2 > 0) && decide (k2 ≤ ((lenE 2 (fieldsV line separator).length : Nat) : Int)) then (bif decide (k3 > 0) then mnI (sndC (fieldsV line separator) (k2 - 1)) (begI line (fstC (fieldsV line separator) (k2 - 1)) (sndC (fieldsV line separator) (k2 - 1)) k7 + k3) else sndC (fieldsV line separator) (k2 - 1)) else ((line.size : Nat) : Int)) →
      (bif (decide (k2 > 0)) then
        bif (decide (k2 ≤ (((lenE 2 ((fieldsV line separator)).length) : Nat) : Int))) then
          bif (((decide ((0 : Int) ≤ (k2 - 1))) && (decide ((k2 - 1) < (((lenE 2 ((fieldsV line separator)).length) : Nat) : Int)))) && true) then
            bif (((V.isInt .i64 (nthV (fieldsV line separator) ((((k2 - 1)).toNat * 2) + 0))) && ((V.isInt .i64 (nthV (fieldsV line separator) (((((k2 - 1)).toNat * 2) + 0) + 1))) && true)) && true) then
              bif (decide (k3 > 0)) then
                bif ((decide (0 ≤ fstC (fieldsV line separator) (k2 - 1)) && decide (fstC (fieldsV line separator) (k2 - 1) ≤ sndC (fieldsV line separator) (k2 - 1)) && decide (sndC (fieldsV line separator) (k2 - 1) ≤ ((line.size : Nat) : Int)) && decide (line.size ≤ 1000000000)) && true) then
                  bif (decide ((IntKind.wrap .i64 ((begI line (fstC (fieldsV line separator) (k2 - 1)) (sndC (fieldsV line separator) (k2 - 1)) k7) + k3)) < sndC (fieldsV line separator) (k2 - 1))) then
                    bif ((decide (0 ≤ fstC (fieldsV line separator) (k2 - 1)) && decide (fstC (fieldsV line separator) (k2 - 1) ≤ sndC (fieldsV line separator) (k2 - 1)) && decide (sndC (fieldsV line separator) (k2 - 1) ≤ ((line.size : Nat) : Int)) && decide (line.size ≤ 1000000000)) && true) then
                      bif decide (IntKind.wrap .i64 ((begI line (fstC (fieldsV line separator) (k2 - 1)) (sndC (fieldsV line separator) (k2 - 1)) k7) + k3) < F) then some (V.sc (.string ⟨#[]⟩), ([] : List Rg)) else bif (((((decide ((0 : Int) ≤ F)) && (decide (F ≤ IntKind.wrap .i64 ((begI line (fstC (fieldsV line separator) (k2 - 1)) (sndC (fieldsV line separator) (k2 - 1)) k7) + k3)))) && (decide (IntKind.wrap .i64 ((begI line (fstC (fieldsV line separator) (k2 - 1)) (sndC (fieldsV line separator) (k2 - 1)) k7) + k3) ≤ ((line.size : Nat) : Int)))) && true) && true) then some (.sc (.string (line.extract F.toNat (IntKind.wrap .i64 ((begI line (fstC (fieldsV line separator) (k2 - 1)) (sndC (fieldsV line separator) (k2 - 1)) k7) + k3)).toNat)), []) else none
                    else none
                  else
                    bif decide (sndC (fieldsV line separator) (k2 - 1) < F) then some (V.sc (.string ⟨#[]⟩), ([] : List Rg)) else bif (((((decide ((0 : Int) ≤ F)) && (decide (F ≤ sndC (fieldsV line separator) (k2 - 1)))) && (decide (sndC (fieldsV line separator) (k2 - 1) ≤ ((line.size : Nat) : Int)))) && true) && true) then some (.sc (.string (line.extract F.toNat (sndC (fieldsV line separator) (k2 - 1)).toNat)), []) else none
                else none
              else
                bif decide (sndC (fieldsV line separator) (k2 - 1) < F) then some (V.sc (.string ⟨#[]⟩), ([] : List Rg)) else bif (((((decide ((0 : Int) ≤ F)) && (decide (F ≤ sndC (fieldsV line separator) (k2 - 1)))) && (decide (sndC (fieldsV line separator) (k2 - 1) ≤ ((line.size : Nat) : Int)))) && true) && true) then some (.sc (.string (line.extract F.toNat (sndC (fieldsV line separator) (k2 - 1)).toNat)), []) else none
            else none
          else none
        else
          bif decide (((line.size : Nat) : Int) < F) then some (V.sc (.string ⟨#[]⟩), ([] : List Rg)) else bif (((((decide ((0 : Int) ≤ F)) && (decide (F ≤ ((line.size : Nat) : Int)))) && (decide (((line.size : Nat) : Int) ≤ ((line.size : Nat) : Int)))) && true) && true) then some (.sc (.string (line.extract F.toNat (((line.size : Nat) : Int)).toNat)), []) else none
      else
        bif decide (((line.size : Nat) : Int) < F) then some (V.sc (.string ⟨#[]⟩), ([] : List Rg)) else bif (((((decide ((0 : Int) ≤ F)) && (decide (F ≤ ((line.size : Nat) : Int)))) && (decide (((line.size : Nat) : Int) ≤ ((line.size : Nat) : Int)))) && true) && true) then some (.sc (.string (line.extract F.toNat (((line.size : Nat) : Int)).toNat)), []) else none) = some (.sc (.string (bif decide (X < F) then ⟨#[]⟩ else line.extract F.toNat X.toNat)), []) := by
    intro F f1 f2 X hX
    by_cases c2 : k2 > 0
    · by_cases c3 : k2 ≤ ((lenE 2 (fieldsV line separator).length : Nat) : Int)
      · obtain ⟨d1, d2, d3, d4, d5⟩ := key_first (show 1 ≤ k2 by omega) c3
        have hd := begI_ok k7 d3 d4 d5
        rw [dec_true c2, dec_true c3] at hX
        simp only [Bool.and_self, cond_true] at hX
        rw [dec_true c2, dec_true c3, dec_true (show (0 : Int) ≤ k2 - 1 by omega), dec_true (show k2 - 1 < ((lenE 2 (fieldsV line separator).length : Nat) : Int) by omega), d1, d2, hs', dec_true d3, dec_true d4, wrap_id (n := begI line (fstC (fieldsV line separator) (k2 - 1)) (sndC (fieldsV line separator) (k2 - 1)) k7 + k3) (by omega) (by omega)]
        cases h : decide (k3 > 0) with
        | true =>
          rw [h, cond_true] at hX
          by_cases hy : begI line (fstC (fieldsV line separator) (k2 - 1)) (sndC (fieldsV line separator) (k2 - 1)) k7 + k3 < sndC (fieldsV line separator) (k2 - 1)
          · rw [mn_three hy] at hX
            rw [dec_true hy, hX]
            have g := key_tail (t := begI line (fstC (fieldsV line separator) (k2 - 1)) (sndC (fieldsV line separator) (k2 - 1)) k7 + k3) f1 (show begI line (fstC (fieldsV line separator) (k2 - 1)) (sndC (fieldsV line separator) (k2 - 1)) k7 + k3 ≤ ((line.size : Nat) : Int) by omega)
            rw [dec_true d5]
            exact g
          · rw [mn_four hy] at hX
            rw [dec_false hy, hX]
            have g := key_tail f1 d5
            rw [dec_true d5] at g ⊢
            exact g
        | false =>
          rw [h, cond_false] at hX
          rw [hX]
          have g := key_tail f1 d5
          rw [dec_true d5] at g ⊢
          exact g
      · rw [dec_false c3, Bool.and_false, cond_false] at hX
        rw [dec_true c2, dec_false c3, hX]
        exact key_tail f1 (Int.le_refl _)
    · rw [dec_false c2, Bool.false_and, cond_false] at hX
      rw [dec_false c2, hX]
      exact key_tail f1 (Int.le_refl _)
  by_cases c0 : k0 ≤ ((lenE 2 (fieldsV line separator).length : Nat) : Int)
  · obtain ⟨a1, a2, a3, a4, a5⟩ := key_first h0 c0
    have hb := begI_ok k7 a3 a4 a5
    rw [dec_true c0] at hF
    simp only [cond_true] at hF
    have w1 : IntKind.wrap .i64 (begI line (fstC (fieldsV line separator) (k0 - 1)) (sndC (fieldsV line separator) (k0 - 1)) k7 + k1) = begI line (fstC (fieldsV line separator) (k0 - 1)) (sndC (fieldsV line separator) (k0 - 1)) k7 + k1 := wrap_id (by omega) (by omega)
    have w2 : IntKind.wrap .i64 (begI line (fstC (fieldsV line separator) (k0 - 1)) (sndC (fieldsV line separator) (k0 - 1)) k7 + k1 - 1) = begI line (fstC (fieldsV line separator) (k0 - 1)) (sndC (fieldsV line separator) (k0 - 1)) k7 + k1 - 1 := wrap_id (by omega) (by omega)
    have g := tail _ hF.1 hF.2 _ rfl
    rw [hs'] at g
    rw [dec_true c0]
    simp only [a1, a2, w1, w2, dec_true (show (0 : Int) ≤ k0 - 1 by omega), dec_true (show k0 - 1 < ((lenE 2 (fieldsV line separator).length : Nat) : Int) by omega)]
    have g0 : (decide (0 ≤ fstC (fieldsV line separator) (k0 - 1)) && decide (fstC (fieldsV line separator) (k0 - 1) ≤ sndC (fieldsV line separator) (k0 - 1)) && decide (sndC (fieldsV line separator) (k0 - 1) ≤ ((line.size : Nat) : Int)) && true) = true := by
      rw [dec_true a3, dec_true a4, dec_true a5]; rfl
    rw [g0]
    by_cases hx : begI line (fstC (fieldsV line separator) (k0 - 1)) (sndC (fieldsV line separator) (k0 - 1)) k7 + k1 - 1 > sndC (fieldsV line separator) (k0 - 1)
    · rw [mn_one hx] at g ⊢
      rw [dec_true hx]
      exact g
    · rw [mn_two hx] at g ⊢
      rw [dec_false hx]
      exact g
  · have g := tail ((line.size : Nat) : Int) (by omega) (Int.le_refl _) _ rfl
    rw [hs'] at g
    rw [dec_false c0]
    exact g
def k48 : PrimT := fun vs gs => match vs, gs with
  | [.sc (.string line), .sc (.string separator), .ag [.sc (.int .i64 k0), .sc (.int .i64 k1), .sc (.int .i64 k2), .sc (.int .i64 k3), .sc (.bool k4), .sc (.bool k5), .sc (.bool k6), .sc (.bool k7)]], [] => ((okKey k0 k1 k2 k3 && decide (line.size ≤ 1000000000)), .sc (.string (keyB line separator k0 k1 k2 k3 k7)), [])
  | _, _ => (false, .bad, [])
theorem k48_ok : ∀ vs gs x, k48 vs gs = (true, x) → CallR C prim 48 vs gs x := by
  intro vs gs x h
  unfold k48 at h
  split at h
  · simp only [Prod.mk.injEq] at h
    obtain ⟨hp, rfl⟩ := h
    exact f48_run _ _ _ _ _ _ _ _ _ _ _ (f48_eq _ _ _ _ _ _ _ _ _ _ hp)
  · cases h

def K_f163_l0 : CallK := kNil
theorem K_f163_l0_ok : KOK C prim K_f163_l0 := KOK.nil
def T_f163_l0 : Tab := tNil
theorem T_f163_l0_ok : TOK C prim 163 T_f163_l0 := TOK.nil
def f163_l0 : Nat → ByteArray → Int → (R : Type) → (Ex → St → Option R) → Option R
  | 0, _, _, _, _ => none
  | n + 1, s, c, R, κ =>
    bif (decide (((s.size : Nat) : Int) > 0)) then
      bif ((decide ((0 : Int) < ((s.size : Nat) : Int))) && true) then
        bif (((s.data.getD 0 0).toNat : Int) == c) then
          bif (((decide ((1 : Int) ≤ ((s.size : Nat) : Int))) && true) && true) then
            f163_l0 n (s.extract 1 (((s.size : Nat) : Int)).toNat) c R κ
          else none
        else
          κ (.ex 0) (mkS [(0, .sc (.string s)), (4, .bad)] [])
      else none
    else
      κ (.ex 0) (mkS [(0, .sc (.string s)), (4, .bad)] [])
def f163_l0_ls : List (Nat × Pat) := [(0, .s), (1, .i .u8)]
def f163_l0_rs : List RPat := []
theorem f163_l0_ok (n : Nat) : ∀ (s : ByteArray) (c : Int) (R : Type) (κ : Ex → St → Option R) (r : R), f163_l0 n s c R κ = some r → ∃ ee ss, κ ee ss = some r ∧ RunP C prim 163 [0, 0, 1] (mkS [(0, .sc (.string s)), (1, .sc (.int .u8 c))] []) ee ss := by
  induction n with
  | zero => intro s c R κ r h; cases h
  | succ n ih =>
    intro s c R κ r h
    refine loop_round (K := K_f163_l0) (T := T_f163_l0) K_f163_l0_ok T_f163_l0_ok (p := [0, 0, 1]) (by kernel_rfl) (fun st => bif ckS f163_l0_ls f163_l0_rs st then f163_l0 n ((st.env 0).strOf) ((st.env 1).intOf) R κ else none) (fun st0 h0 => ?_) ?_
    · obtain ⟨hs, h0⟩ := cond_some h0
      rw [canon (ls := f163_l0_ls) (rs := f163_l0_rs) (by kernel_rfl) st0 hs]
      exact ih _ _ R κ r h0
    · refine Eq.trans ?_ h
      kernel_rfl

def f163_s0 (s : ByteArray) (c : Int) (R : Type) (κ : Ex → St → Option R) : Option R :=
  κ (.ex 0) (mkS [(0, .sc (.string (trimLB s))), (4, .bad)] [])
theorem trimLB_cons {s : ByteArray} {b : UInt8} {r : List UInt8} (h : s.data.toList = b :: r) : trimLB s = bif zeroU b then trimLB (s.extract 1 s.size) else s := by
  have e : (s.extract 1 s.size).data.toList = r := by rw [ext_tail, h]; rfl
  unfold trimLB
  rw [e, h, dropP]
  cases zeroU b
  · rw [cond_false, cond_false, ← h]; exact ofL_self s
  · rfl
theorem ba_cases (s : ByteArray) : s.data.toList = [] ∨ ∃ b r, s.data.toList = b :: r := by
  cases s.data.toList with
  | nil => exact .inl rfl
  | cons b r => exact .inr ⟨b, r, rfl⟩
theorem nil_size {s : ByteArray} (h : s.data.toList = []) : s.size = 0 := by rw [bl_size, h]; rfl
theorem f163_loop (R : Type) (κ : Ex → St → Option R) : ∀ (k : Nat) (s : ByteArray), s.size ≤ k →
    f163_l0 (k + 1) s 48 R κ = κ (.ex 0) (mkS [(0, .sc (.string (trimLB s))), (4, .bad)] [])
  | k, s, h => by
    rcases ba_cases s with h0 | ⟨b, r, h0⟩
    · have hz := nil_size h0
      have e : trimLB s = s := by unfold trimLB; rw [h0]; exact ba_ext h0.symm
      rw [f163_l0, dec_false (by omega), e]
      rfl
    · have hc := cons_size h0
      have e : (((s.data.getD 0 0).toNat : Nat) : Int) = ((b.toNat : Nat) : Int) := by rw [getD_head h0]
      have e2 : (((b.toNat : Nat) : Int) == 48) = zeroU b := rfl
      rw [f163_l0, dec_true (show ((s.size : Nat) : Int) > 0 by omega), dec_true (show (1 : Int) ≤ ((s.size : Nat) : Int) by omega), e, e2, trimLB_cons h0, Int.toNat_natCast]
      cases zeroU b with
      | false => rfl
      | true =>
        obtain ⟨k, rfl⟩ : ∃ j, k = j + 1 := ⟨k - 1, by omega⟩
        simp only [Bool.and_self, cond_true]
        exact f163_loop R κ k (s.extract 1 s.size) (by rw [ext_tail, ofL_size, List.length_drop, ← bl_size]; omega)
theorem f163_s0_eq (s : ByteArray) (c : Int) (hp : ((c == 48) && decide (s.size ≤ 1000000000)) = true) : ∃ n, ∀ (R : Type) (κ : Ex → St → Option R), f163_l0 n s c R κ = f163_s0 s c R κ := by
  simp only [Bool.and_eq_true, decide_eq_true_eq, beq_iff_eq] at hp
  obtain ⟨rfl, h2⟩ := hp
  exact ⟨s.size + 1, fun R κ => f163_loop R κ s.size s (Nat.le_refl _)⟩
def t_f163_l0 (st : St) (R : Type) (κ : Ex → St → Option R) : Option R := bif ckS f163_l0_ls f163_l0_rs st then (bif ((((st.env 1).intOf) == 48) && decide (((st.env 0).strOf).size ≤ 1000000000)) then f163_s0 ((st.env 0).strOf) ((st.env 1).intOf) R κ else none) else none
theorem t_f163_l0_ok : ∀ st0 R κ r, t_f163_l0 (forget C 163 [0, 0, 1] st0) R κ = some r → ∃ ee ss, κ ee ss = some r ∧ RunP C prim 163 [0, 0, 1] (forget C 163 [0, 0, 1] st0) ee ss := by
  intro st0 R κ r h
  obtain ⟨hs, h⟩ := cond_some h
  obtain ⟨hp, h⟩ := cond_some h
  rw [canon (ls := f163_l0_ls) (rs := f163_l0_rs) (by kernel_rfl) st0 hs]
  obtain ⟨n, hn⟩ := f163_s0_eq _ _ hp
  rw [← hn] at h
  exact f163_l0_ok n _ _ R κ r h

def K_f163 : CallK := kNil
theorem K_f163_ok : KOK C prim K_f163 := KOK.nil
def T_f163 : Tab := tCons [0, 0, 1] t_f163_l0 <| tNil
theorem T_f163_ok : TOK C prim 163 T_f163 := TOK.cons t_f163_l0_ok <| TOK.nil
def f163 (s : ByteArray) : Option (V × List Rg) :=
  bif (((48 : Int) == 48) && decide (s.size ≤ 1000000000)) then
    some (.sc (.string (trimLB s)), [])
  else none
theorem f163_run (s : ByteArray) (z9 : V × List Rg) (h : f163 s = some z9) : CallR C prim 163 [.sc (.string s), .sc (.int .u8 48)] [] z9 := by
  refine call_fn (K := K_f163) (T := T_f163) K_f163_ok T_f163_ok (by kernel_rfl) ?_
  refine Eq.trans ?_ h
  kernel_rfl

theorem f163_eq (s : ByteArray) (hp : (decide (s.size ≤ 1000000000)) = true) : f163 s = some (.sc (.string (trimLB s)), []) := by
  unfold f163
  rw [hp]
  rfl
def k163 : PrimT := fun vs gs => match vs, gs with
  | [.sc (.string s), .sc (.int .u8 48)], [] => ((decide (s.size ≤ 1000000000)), .sc (.string (trimLB s)), [])
  | _, _ => (false, .bad, [])
theorem k163_ok : ∀ vs gs x, k163 vs gs = (true, x) → CallR C prim 163 vs gs x := by
  intro vs gs x h
  unfold k163 at h
  split at h
  · simp only [Prod.mk.injEq] at h
    obtain ⟨hp, rfl⟩ := h
    exact f163_run _ _ (f163_eq _ hp)
  · cases h

def K_f166_l0 : CallK := kNil
theorem K_f166_l0_ok : KOK C prim K_f166_l0 := KOK.nil
def T_f166_l0 : Tab := tNil
theorem T_f166_l0_ok : TOK C prim 166 T_f166_l0 := TOK.nil
def f166_l0 : Nat → ByteArray → Int → (R : Type) → (Ex → St → Option R) → Option R
  | 0, _, _, _, _ => none
  | n + 1, s, c, R, κ =>
    bif (decide (((s.size : Nat) : Int) > 0)) then
      bif (((decide ((0 : Int) ≤ (IntKind.wrap .i64 (((s.size : Nat) : Int) - 1)))) && (decide ((IntKind.wrap .i64 (((s.size : Nat) : Int) - 1)) < ((s.size : Nat) : Int)))) && true) then
        bif (((s.data.getD ((IntKind.wrap .i64 (((s.size : Nat) : Int) - 1))).toNat 0).toNat : Int) == c) then
          bif ((((decide ((0 : Int) ≤ (IntKind.wrap .i64 (((s.size : Nat) : Int) - 1)))) && (decide ((IntKind.wrap .i64 (((s.size : Nat) : Int) - 1)) ≤ ((s.size : Nat) : Int)))) && true) && true) then
            f166_l0 n (s.extract 0 ((IntKind.wrap .i64 (((s.size : Nat) : Int) - 1))).toNat) c R κ
          else none
        else
          κ (.ex 0) (mkS [(0, .sc (.string s)), (4, .bad)] [])
      else none
    else
      κ (.ex 0) (mkS [(0, .sc (.string s)), (4, .bad)] [])
def f166_l0_ls : List (Nat × Pat) := [(0, .s), (1, .i .u8)]
def f166_l0_rs : List RPat := []
theorem f166_l0_ok (n : Nat) : ∀ (s : ByteArray) (c : Int) (R : Type) (κ : Ex → St → Option R) (r : R), f166_l0 n s c R κ = some r → ∃ ee ss, κ ee ss = some r ∧ RunP C prim 166 [0, 0, 1] (mkS [(0, .sc (.string s)), (1, .sc (.int .u8 c))] []) ee ss := by
  induction n with
  | zero => intro s c R κ r h; cases h
  | succ n ih =>
    intro s c R κ r h
    refine loop_round (K := K_f166_l0) (T := T_f166_l0) K_f166_l0_ok T_f166_l0_ok (p := [0, 0, 1]) (by kernel_rfl) (fun st => bif ckS f166_l0_ls f166_l0_rs st then f166_l0 n ((st.env 0).strOf) ((st.env 1).intOf) R κ else none) (fun st0 h0 => ?_) ?_
    · obtain ⟨hs, h0⟩ := cond_some h0
      rw [canon (ls := f166_l0_ls) (rs := f166_l0_rs) (by kernel_rfl) st0 hs]
      exact ih _ _ R κ r h0
    · refine Eq.trans ?_ h
      kernel_rfl

def f166_s0 (s : ByteArray) (c : Int) (R : Type) (κ : Ex → St → Option R) : Option R :=
  κ (.ex 0) (mkS [(0, .sc (.string (trimRB s))), (4, .bad)] [])
theorem trimRB_snoc {s : ByteArray} {b : UInt8} {t : List UInt8} (h : s.data.toList = t ++ [b]) : trimRB s = bif zeroU b then trimRB (s.extract 0 (s.size - 1)) else s := by
  have hz : s.size = t.length + 1 := by rw [bl_size, h]; simp
  have e : (s.extract 0 (s.size - 1)).data.toList = t := by rw [ext_head, h, hz]; simp [ofL]
  unfold trimRB
  rw [e, h, List.reverse_append]
  show ofL (dropP zeroU (b :: t.reverse)).reverse = _
  rw [dropP]
  cases zeroU b
  · rw [cond_false, cond_false]
    show ofL (b :: t.reverse).reverse = s
    rw [List.reverse_cons, List.reverse_reverse, ← h]; exact ofL_self s
  · rfl
theorem f166_loop (R : Type) (κ : Ex → St → Option R) : ∀ (k : Nat) (s : ByteArray), s.size ≤ k → s.size ≤ 1000000000 →
    f166_l0 (k + 1) s 48 R κ = κ (.ex 0) (mkS [(0, .sc (.string (trimRB s))), (4, .bad)] [])
  | k, s, h, hs => by
    rcases snoc_cases s.data.toList with h0 | ⟨t, b, h0⟩
    · have hz := nil_size h0
      have e : trimRB s = s := by unfold trimRB; rw [h0]; exact ba_ext h0.symm
      rw [f166_l0, dec_false (by omega), e]
      rfl
    · have hz : s.size = t.length + 1 := by rw [bl_size, h0]; simp
      have hw : IntKind.wrap .i64 (((s.size : Nat) : Int) - 1) = ((s.size - 1 : Nat) : Int) := by rw [wrap_id (by omega) (by omega)]; omega
      have e : (((s.data.getD (s.size - 1) 0).toNat : Nat) : Int) = ((b.toNat : Nat) : Int) := by
        rw [getD_list' s (s.size - 1) (by rw [h0, hz]; simp)]
        simp [h0, hz]
      have e2 : (((b.toNat : Nat) : Int) == 48) = zeroU b := rfl
      rw [f166_l0, dec_true (show ((s.size : Nat) : Int) > 0 by omega), hw, dec_true (show (0 : Int) ≤ ((s.size - 1 : Nat) : Int) by omega), dec_true (show ((s.size - 1 : Nat) : Int) < ((s.size : Nat) : Int) by omega), dec_true (show ((s.size - 1 : Nat) : Int) ≤ ((s.size : Nat) : Int) by omega), Int.toNat_natCast, e, e2, trimRB_snoc h0]
      cases zeroU b with
      | false => rfl
      | true =>
        obtain ⟨k, rfl⟩ : ∃ j, k = j + 1 := ⟨k - 1, by omega⟩
        have hx : (s.extract 0 (s.size - 1)).size = s.size - 1 := by rw [ext_head, ofL_size, List.length_take, ← bl_size]; omega
        simp only [Bool.and_self, cond_true]
        exact f166_loop R κ k (s.extract 0 (s.size - 1)) (by omega) (by omega)
theorem f166_s0_eq (s : ByteArray) (c : Int) (hp : ((c == 48) && decide (s.size ≤ 1000000000)) = true) : ∃ n, ∀ (R : Type) (κ : Ex → St → Option R), f166_l0 n s c R κ = f166_s0 s c R κ := by
  simp only [Bool.and_eq_true, decide_eq_true_eq, beq_iff_eq] at hp
  obtain ⟨rfl, h2⟩ := hp
  exact ⟨s.size + 1, fun R κ => f166_loop R κ s.size s (Nat.le_refl _) h2⟩
def t_f166_l0 (st : St) (R : Type) (κ : Ex → St → Option R) : Option R := bif ckS f166_l0_ls f166_l0_rs st then (bif ((((st.env 1).intOf) == 48) && decide (((st.env 0).strOf).size ≤ 1000000000)) then f166_s0 ((st.env 0).strOf) ((st.env 1).intOf) R κ else none) else none
theorem t_f166_l0_ok : ∀ st0 R κ r, t_f166_l0 (forget C 166 [0, 0, 1] st0) R κ = some r → ∃ ee ss, κ ee ss = some r ∧ RunP C prim 166 [0, 0, 1] (forget C 166 [0, 0, 1] st0) ee ss := by
  intro st0 R κ r h
  obtain ⟨hs, h⟩ := cond_some h
  obtain ⟨hp, h⟩ := cond_some h
  rw [canon (ls := f166_l0_ls) (rs := f166_l0_rs) (by kernel_rfl) st0 hs]
  obtain ⟨n, hn⟩ := f166_s0_eq _ _ hp
  rw [← hn] at h
  exact f166_l0_ok n _ _ R κ r h

def K_f166 : CallK := kNil
theorem K_f166_ok : KOK C prim K_f166 := KOK.nil
def T_f166 : Tab := tCons [0, 0, 1] t_f166_l0 <| tNil
theorem T_f166_ok : TOK C prim 166 T_f166 := TOK.cons t_f166_l0_ok <| TOK.nil
def f166 (s : ByteArray) : Option (V × List Rg) :=
  bif (((48 : Int) == 48) && decide (s.size ≤ 1000000000)) then
    some (.sc (.string (trimRB s)), [])
  else none
theorem f166_run (s : ByteArray) (z9 : V × List Rg) (h : f166 s = some z9) : CallR C prim 166 [.sc (.string s), .sc (.int .u8 48)] [] z9 := by
  refine call_fn (K := K_f166) (T := T_f166) K_f166_ok T_f166_ok (by kernel_rfl) ?_
  refine Eq.trans ?_ h
  kernel_rfl

theorem f166_eq (s : ByteArray) (hp : (decide (s.size ≤ 1000000000)) = true) : f166 s = some (.sc (.string (trimRB s)), []) := by
  unfold f166
  rw [hp]
  rfl
def k166 : PrimT := fun vs gs => match vs, gs with
  | [.sc (.string s), .sc (.int .u8 48)], [] => ((decide (s.size ≤ 1000000000)), .sc (.string (trimRB s)), [])
  | _, _ => (false, .bad, [])
theorem k166_ok : ∀ vs gs x, k166 vs gs = (true, x) → CallR C prim 166 vs gs x := by
  intro vs gs x h
  unfold k166 at h
  split at h
  · simp only [Prod.mk.injEq] at h
    obtain ⟨hp, rfl⟩ := h
    exact f166_run _ _ (f166_eq _ hp)
  · cases h

def K_f150 : CallK := kCons 163 k163 <| kNil
theorem K_f150_ok : KOK C prim K_f150 := KOK.cons k163_ok <| KOK.nil
def T_f150 : Tab := tNil
theorem T_f150_ok : TOK C prim 150 T_f150 := TOK.nil
def f150 (s : ByteArray) : Option (V × List Rg) :=
  bif (strEq s (⟨#[]⟩ : ByteArray)) then
    some (.sc (.string s), [])
  else
    bif ((decide (s.size ≤ 1000000000)) && true) then
      some (.sc (.string (trimLB s)), [])
    else none
theorem f150_run (s : ByteArray) (z9 : V × List Rg) (h : f150 s = some z9) : CallR C prim 150 [.sc (.string s), .sc (.string ⟨#[48]⟩)] [] z9 := by
  refine call_fn (K := K_f150) (T := T_f150) K_f150_ok T_f150_ok (by kernel_rfl) ?_
  refine Eq.trans ?_ h
  kernel_rfl

theorem f150_eq (s : ByteArray) (hp : (decide (s.size ≤ 1000000000)) = true) : f150 s = some (.sc (.string (trimLB s)), []) := by
  unfold f150
  rw [hp]
  cases h : strEq s (⟨#[]⟩ : ByteArray) with
  | true =>
    obtain rfl := (strEq_iff _ _).1 h
    rfl
  | false => rfl
def k150 : PrimT := fun vs gs => match vs, gs with
  | [.sc (.string s), .sc (.string q1)], [] => ((strEq q1 (⟨#[48]⟩ : ByteArray) && (decide (s.size ≤ 1000000000))), .sc (.string (trimLB s)), [])
  | _, _ => (false, .bad, [])
theorem k150_ok : ∀ vs gs x, k150 vs gs = (true, x) → CallR C prim 150 vs gs x := by
  intro vs gs x h
  unfold k150 at h
  split at h
  · simp only [Prod.mk.injEq] at h
    obtain ⟨hp, rfl⟩ := h
    rw [Bool.and_eq_true] at hp
    obtain ⟨hq, hp⟩ := hp
    obtain rfl := (strEq_iff _ _).1 hq
    exact f150_run _ _ (f150_eq _ hp)
  · cases h

def K_f151 : CallK := kCons 166 k166 <| kNil
theorem K_f151_ok : KOK C prim K_f151 := KOK.cons k166_ok <| KOK.nil
def T_f151 : Tab := tNil
theorem T_f151_ok : TOK C prim 151 T_f151 := TOK.nil
def f151 (s : ByteArray) : Option (V × List Rg) :=
  bif (strEq s (⟨#[]⟩ : ByteArray)) then
    some (.sc (.string s), [])
  else
    bif ((decide (s.size ≤ 1000000000)) && true) then
      some (.sc (.string (trimRB s)), [])
    else none
theorem f151_run (s : ByteArray) (z9 : V × List Rg) (h : f151 s = some z9) : CallR C prim 151 [.sc (.string s), .sc (.string ⟨#[48]⟩)] [] z9 := by
  refine call_fn (K := K_f151) (T := T_f151) K_f151_ok T_f151_ok (by kernel_rfl) ?_
  refine Eq.trans ?_ h
  kernel_rfl

theorem f151_eq (s : ByteArray) (hp : (decide (s.size ≤ 1000000000)) = true) : f151 s = some (.sc (.string (trimRB s)), []) := by
  unfold f151
  rw [hp]
  cases h : strEq s (⟨#[]⟩ : ByteArray) with
  | true =>
    obtain rfl := (strEq_iff _ _).1 h
    rfl
  | false => rfl
def k151 : PrimT := fun vs gs => match vs, gs with
  | [.sc (.string s), .sc (.string q1)], [] => ((strEq q1 (⟨#[48]⟩ : ByteArray) && (decide (s.size ≤ 1000000000))), .sc (.string (trimRB s)), [])
  | _, _ => (false, .bad, [])
theorem k151_ok : ∀ vs gs x, k151 vs gs = (true, x) → CallR C prim 151 vs gs x := by
  intro vs gs x h
  unfold k151 at h
  split at h
  · simp only [Prod.mk.injEq] at h
    obtain ⟨hp, rfl⟩ := h
    rw [Bool.and_eq_true] at hp
    obtain ⟨hq, hp⟩ := hp
    obtain rfl := (strEq_iff _ _).1 hq
    exact f151_run _ _ (f151_eq _ hp)
  · cases h

def K_f170 : CallK := kNil
theorem K_f170_ok : KOK C prim K_f170 := KOK.nil
def T_f170 : Tab := tNil
theorem T_f170_ok : TOK C prim 170 T_f170 := TOK.nil
def f170 (s : ByteArray) : Option (V × List Rg) :=
  bif (decide (((s.size : Nat) : Int) ≥ 1)) then
    bif (((decide ((1 : Int) ≤ ((s.size : Nat) : Int))) && true) && true) then
      some (.sc (.bool (strEq (s.extract 0 1) (⟨#[45]⟩ : ByteArray))), [])
    else none
  else
    some (.sc (.bool false), [])
theorem f170_run (s : ByteArray) (z9 : V × List Rg) (h : f170 s = some z9) : CallR C prim 170 [.sc (.string s), .sc (.string ⟨#[45]⟩)] [] z9 := by
  refine call_fn (K := K_f170) (T := T_f170) K_f170_ok T_f170_ok (by kernel_rfl) ?_
  refine Eq.trans ?_ h
  kernel_rfl

theorem minus_eq (b : UInt8) : (((b.toNat : Nat) : Int) == 45) = (b == 45) := by
  rw [Bool.eq_iff_iff, beq_iff_eq, beq_iff_eq, ← UInt8.toNat_inj]
  show _ ↔ b.toNat = 45
  omega
theorem hasMinus_cons {s : ByteArray} {b : UInt8} {r : List UInt8} (h : s.data.toList = b :: r) : hasMinus s = (((b.toNat : Nat) : Int) == 45) := by unfold hasMinus; rw [h]
theorem hasMinus_nil {s : ByteArray} (h : s.data.toList = []) : hasMinus s = false := by unfold hasMinus; rw [h]
theorem f170_eq (s : ByteArray) : f170 s = some (.sc (.bool (hasMinus s)), []) := by
  unfold f170
  rcases ba_cases s with h0 | ⟨b, r, h0⟩
  · rw [hasMinus_nil h0, dec_false (by rw [nil_size h0]; omega)]; rfl
  · have hc := cons_size h0
    have e : strEq (s.extract 0 1) (⟨#[45]⟩ : ByteArray) = (b == 45) := by
      rw [Bool.eq_iff_iff, strEq_iff, beq_iff_eq]
      constructor
      · intro h
        have : (s.extract 0 1).data.toList = [45] := by rw [h]
        rw [ext_head, h0] at this
        simpa [ofL] using this
      · rintro rfl
        exact ba_ext (by rw [ext_head, h0]; rfl)
    rw [hasMinus_cons h0, minus_eq, dec_true (show ((s.size : Nat) : Int) ≥ 1 by omega), e]; rfl
def k170 : PrimT := fun vs gs => match vs, gs with
  | [.sc (.string s), .sc (.string q1)], [] => ((strEq q1 (⟨#[45]⟩ : ByteArray) && true), .sc (.bool (hasMinus s)), [])
  | _, _ => (false, .bad, [])
theorem k170_ok : ∀ vs gs x, k170 vs gs = (true, x) → CallR C prim 170 vs gs x := by
  intro vs gs x h
  unfold k170 at h
  split at h
  · simp only [Prod.mk.injEq] at h
    obtain ⟨hp, rfl⟩ := h
    rw [Bool.and_eq_true] at hp
    obtain ⟨hq, hp⟩ := hp
    obtain rfl := (strEq_iff _ _).1 hq
    exact f170_run _ _ (f170_eq _)
  · cases h

def K_f161 : CallK := kCons 170 k170 <| kNil
theorem K_f161_ok : KOK C prim K_f161 := KOK.cons k170_ok <| KOK.nil
def T_f161 : Tab := tNil
theorem T_f161_ok : TOK C prim 161 T_f161 := TOK.nil
def f161 (s : ByteArray) : Option (V × List Rg) :=
  bif (!(hasMinus s)) then
    some (.tp [.sc (.string s), .sc (.bool false)], [])
  else
    bif (((decide ((1 : Int) ≤ ((s.size : Nat) : Int))) && true) && true) then
      some (.tp [.sc (.string (s.extract 1 (((s.size : Nat) : Int)).toNat)), .sc (.bool true)], [])
    else none
theorem f161_run (s : ByteArray) (z9 : V × List Rg) (h : f161 s = some z9) : CallR C prim 161 [.sc (.string s), .sc (.string ⟨#[45]⟩)] [] z9 := by
  refine call_fn (K := K_f161) (T := T_f161) K_f161_ok T_f161_ok (by kernel_rfl) ?_
  refine Eq.trans ?_ h
  kernel_rfl

theorem f161_eq (s : ByteArray) : f161 s = some (.tp [.sc (.string (dropMinus s)), .sc (.bool (hasMinus s))], []) := by
  unfold f161 dropMinus
  cases h : hasMinus s with
  | false => rfl
  | true =>
    have hz : 1 ≤ s.size := by
      rcases ba_cases s with h0 | ⟨b, r, h0⟩
      · rw [hasMinus_nil h0] at h; cases h
      · rw [cons_size h0]; omega
    rw [← ext_tail, dec_true (show (1 : Int) ≤ ((s.size : Nat) : Int) by omega), Int.toNat_natCast]
    rfl
def k161 : PrimT := fun vs gs => match vs, gs with
  | [.sc (.string s), .sc (.string q1)], [] => ((strEq q1 (⟨#[45]⟩ : ByteArray) && true), .tp [.sc (.string (dropMinus s)), .sc (.bool (hasMinus s))], [])
  | _, _ => (false, .bad, [])
theorem k161_ok : ∀ vs gs x, k161 vs gs = (true, x) → CallR C prim 161 vs gs x := by
  intro vs gs x h
  unfold k161 at h
  split at h
  · simp only [Prod.mk.injEq] at h
    obtain ⟨hp, rfl⟩ := h
    rw [Bool.and_eq_true] at hp
    obtain ⟨hq, hp⟩ := hp
    obtain rfl := (strEq_iff _ _).1 hq
    exact f161_run _ _ (f161_eq _)
  · cases h

def K_f142 : CallK := kCons 161 k161 <| kNil
theorem K_f142_ok : KOK C prim K_f142 := KOK.cons k161_ok <| KOK.nil
def T_f142 : Tab := tNil
theorem T_f142_ok : TOK C prim 142 T_f142 := TOK.nil
def f142 (s : ByteArray) : Option (V × List Rg) :=
  some (.tp [.sc (.string (dropMinus s)), .sc (.bool (hasMinus s))], [])
theorem f142_run (s : ByteArray) (z9 : V × List Rg) (h : f142 s = some z9) : CallR C prim 142 [.sc (.string s), .sc (.string ⟨#[45]⟩)] [] z9 := by
  refine call_fn (K := K_f142) (T := T_f142) K_f142_ok T_f142_ok (by kernel_rfl) ?_
  refine Eq.trans ?_ h
  kernel_rfl

theorem f142_eq (s : ByteArray) : f142 s = some (.tp [.sc (.string (dropMinus s)), .sc (.bool (hasMinus s))], []) := by rfl
def k142 : PrimT := fun vs gs => match vs, gs with
  | [.sc (.string s), .sc (.string q1)], [] => ((strEq q1 (⟨#[45]⟩ : ByteArray) && true), .tp [.sc (.string (dropMinus s)), .sc (.bool (hasMinus s))], [])
  | _, _ => (false, .bad, [])
theorem k142_ok : ∀ vs gs x, k142 vs gs = (true, x) → CallR C prim 142 vs gs x := by
  intro vs gs x h
  unfold k142 at h
  split at h
  · simp only [Prod.mk.injEq] at h
    obtain ⟨hp, rfl⟩ := h
    rw [Bool.and_eq_true] at hp
    obtain ⟨hq, hp⟩ := hp
    obtain rfl := (strEq_iff _ _).1 hq
    exact f142_run _ _ (f142_eq _)
  · cases h

def K_f118_l0 : CallK := kCons 148 k148 <| kNil
theorem K_f118_l0_ok : KOK C prim K_f118_l0 := KOK.cons k148_ok <| KOK.nil
def T_f118_l0 : Tab := tNil
theorem T_f118_l0_ok : TOK C prim 118 T_f118_l0 := TOK.nil
def f118_l0 : Nat → ByteArray → Bool → ByteArray → ByteArray → (R : Type) → (Ex → St → Option R) → Option R
  | 0, _, _, _, _, _, _ => none
  | n + 1, s, r20, r21, r22, R, κ =>
    bif (!(strEq s (⟨#[]⟩ : ByteArray))) then
      bif ((decide ((0 : Int) < ((s.size : Nat) : Int))) && true) then
        bif (blankI ((s.data.getD 0 0).toNat : Int)) then
          bif (((decide ((1 : Int) ≤ ((s.size : Nat) : Int))) && true) && true) then
            f118_l0 n (s.extract 1 (((s.size : Nat) : Int)).toNat) r20 r21 r22 R κ
          else none
        else
          κ (.ex 0) (mkS [(0, .sc (.string s)), (2, .ptrB (.loc 2) 0)] [(.loc 2, some ⟨true, [.sc (.bool r20), .sc (.string r21), .sc (.string r22)]⟩)])
      else none
    else
      κ (.ex 0) (mkS [(0, .sc (.string s)), (2, .ptrB (.loc 2) 0)] [(.loc 2, some ⟨true, [.sc (.bool r20), .sc (.string r21), .sc (.string r22)]⟩)])
def f118_l0_ls : List (Nat × Pat) := [(0, .s), (2, .is (.ptrB (.loc 2) 0))]
def f118_l0_rs : List RPat := [⟨.loc 2, true, [.b, .s, .s]⟩]
theorem f118_l0_ok (n : Nat) : ∀ (s : ByteArray) (r20 : Bool) (r21 : ByteArray) (r22 : ByteArray) (R : Type) (κ : Ex → St → Option R) (r : R), f118_l0 n s r20 r21 r22 R κ = some r → ∃ ee ss, κ ee ss = some r ∧ RunP C prim 118 [0, 0, 1] (mkS [(0, .sc (.string s)), (2, .ptrB (.loc 2) 0)] [(.loc 2, some ⟨true, [.sc (.bool r20), .sc (.string r21), .sc (.string r22)]⟩)]) ee ss := by
  induction n with
  | zero => intro s r20 r21 r22 R κ r h; cases h
  | succ n ih =>
    intro s r20 r21 r22 R κ r h
    refine loop_round (K := K_f118_l0) (T := T_f118_l0) K_f118_l0_ok T_f118_l0_ok (p := [0, 0, 1]) (by kernel_rfl) (fun st => bif ckS f118_l0_ls f118_l0_rs st then f118_l0 n ((st.env 0).strOf) ((nthV (rowOf (st.regs (.loc 2))) 0).boolOf) ((nthV (rowOf (st.regs (.loc 2))) 1).strOf) ((nthV (rowOf (st.regs (.loc 2))) 2).strOf) R κ else none) (fun st0 h0 => ?_) ?_
    · obtain ⟨hs, h0⟩ := cond_some h0
      rw [canon (ls := f118_l0_ls) (rs := f118_l0_rs) (by kernel_rfl) st0 hs]
      exact ih _ _ _ _ R κ r h0
    · refine Eq.trans ?_ h
      kernel_rfl

def f118_s0 (s : ByteArray) (r20 : Bool) (r21 : ByteArray) (r22 : ByteArray) (R : Type) (κ : Ex → St → Option R) : Option R :=
  κ (.ex 0) (mkS [(0, .sc (.string (skipB s))), (2, .ptrB (.loc 2) 0)] [(.loc 2, some ⟨true, [.sc (.bool r20), .sc (.string r21), .sc (.string r22)]⟩)])
theorem skipB_cons {s : ByteArray} {b : UInt8} {r : List UInt8} (h : s.data.toList = b :: r) : skipB s = bif blankU b then skipB (s.extract 1 s.size) else s := by
  have e : (s.extract 1 s.size).data.toList = r := by rw [ext_tail, h]; rfl
  unfold skipB
  rw [e, h, dropP]
  cases blankU b
  · rw [cond_false, cond_false, ← h]; exact ofL_self s
  · rfl
theorem f118_loop (r20 : Bool) (r21 r22 : ByteArray) (R : Type) (κ : Ex → St → Option R) : ∀ (k : Nat) (s : ByteArray), s.size ≤ k →
    f118_l0 (k + 1) s r20 r21 r22 R κ = κ (.ex 0) (mkS [(0, .sc (.string (skipB s))), (2, .ptrB (.loc 2) 0)] [(.loc 2, some ⟨true, [.sc (.bool r20), .sc (.string r21), .sc (.string r22)]⟩)])
  | k, s, h => by
    rcases ba_cases s with h0 | ⟨b, r, h0⟩
    · have e : skipB s = s := by unfold skipB; rw [h0]; exact ba_ext h0.symm
      rw [f118_l0, strEq_nil, h0, e]
      rfl
    · have hc := cons_size h0
      have e : blankI (((s.data.getD 0 0).toNat : Nat) : Int) = blankU b := by rw [getD_head h0]; rfl
      rw [f118_l0, strEq_nil, h0, dec_true (show (0 : Int) < ((s.size : Nat) : Int) by omega), dec_true (show (1 : Int) ≤ ((s.size : Nat) : Int) by omega), e, skipB_cons h0, Int.toNat_natCast]
      cases blankU b with
      | false => rfl
      | true =>
        obtain ⟨k, rfl⟩ : ∃ j, k = j + 1 := ⟨k - 1, by omega⟩
        simp only [List.isEmpty_cons, Bool.not_false, Bool.and_self, cond_true]
        exact f118_loop r20 r21 r22 R κ k (s.extract 1 s.size) (by rw [ext_tail, ofL_size, List.length_drop, ← bl_size]; omega)
theorem f118_s0_eq (s : ByteArray) (r20 : Bool) (r21 : ByteArray) (r22 : ByteArray) (hp : (decide (s.size ≤ 1000000000)) = true) : ∃ n, ∀ (R : Type) (κ : Ex → St → Option R), f118_l0 n s r20 r21 r22 R κ = f118_s0 s r20 r21 r22 R κ := by
  exact ⟨s.size + 1, fun R κ => f118_loop r20 r21 r22 R κ s.size s (Nat.le_refl _)⟩
def t_f118_l0 (st : St) (R : Type) (κ : Ex → St → Option R) : Option R := bif ckS f118_l0_ls f118_l0_rs st then (bif (decide (((st.env 0).strOf).size ≤ 1000000000)) then f118_s0 ((st.env 0).strOf) ((nthV (rowOf (st.regs (.loc 2))) 0).boolOf) ((nthV (rowOf (st.regs (.loc 2))) 1).strOf) ((nthV (rowOf (st.regs (.loc 2))) 2).strOf) R κ else none) else none
theorem t_f118_l0_ok : ∀ st0 R κ r, t_f118_l0 (forget C 118 [0, 0, 1] st0) R κ = some r → ∃ ee ss, κ ee ss = some r ∧ RunP C prim 118 [0, 0, 1] (forget C 118 [0, 0, 1] st0) ee ss := by
  intro st0 R κ r h
  obtain ⟨hs, h⟩ := cond_some h
  obtain ⟨hp, h⟩ := cond_some h
  rw [canon (ls := f118_l0_ls) (rs := f118_l0_rs) (by kernel_rfl) st0 hs]
  obtain ⟨n, hn⟩ := f118_s0_eq _ _ _ _ hp
  rw [← hn] at h
  exact f118_l0_ok n _ _ _ _ R κ r h

def K_f118 : CallK := kCons 142 k142 <| kCons 149 k149 <| kCons 150 k150 <| kCons 151 k151 <| kNil
theorem K_f118_ok : KOK C prim K_f118 := KOK.cons k142_ok <| KOK.cons k149_ok <| KOK.cons k150_ok <| KOK.cons k151_ok <| KOK.nil
def T_f118 : Tab := tCons [0, 0, 1] t_f118_l0 <| tNil
theorem T_f118_ok : TOK C prim 118 T_f118 := TOK.cons t_f118_l0_ok <| TOK.nil
def f118 (s : ByteArray) : Option (V × List Rg) :=
  bif (decide (s.size ≤ 1000000000)) then
    bif ((decide ((dropMinus (skipB s)).size ≤ 1000000000)) && true) then
      bif ((((decide ((0 : Int) ≤ ((digN (dropMinus (skipB s)) : Nat) : Int))) && (decide (((digN (dropMinus (skipB s)) : Nat) : Int) ≤ (((dropMinus (skipB s)).size : Nat) : Int)))) && true) && true) then
        bif ((decide (((dropMinus (skipB s)).extract 0 (((digN (dropMinus (skipB s)) : Nat) : Int)).toNat).size ≤ 1000000000)) && true) then
          bif ((((decide ((0 : Int) ≤ ((digN (dropMinus (skipB s)) : Nat) : Int))) && (decide (((digN (dropMinus (skipB s)) : Nat) : Int) ≤ (((dropMinus (skipB s)).size : Nat) : Int)))) && true) && true) then
            bif (!(strEq ((dropMinus (skipB s)).extract (((digN (dropMinus (skipB s)) : Nat) : Int)).toNat ((((dropMinus (skipB s)).size : Nat) : Int)).toNat) (⟨#[]⟩ : ByteArray))) then
              bif ((decide ((0 : Int) < ((((dropMinus (skipB s)).extract (((digN (dropMinus (skipB s)) : Nat) : Int)).toNat ((((dropMinus (skipB s)).size : Nat) : Int)).toNat).size : Nat) : Int))) && true) then
                bif (((((dropMinus (skipB s)).extract (((digN (dropMinus (skipB s)) : Nat) : Int)).toNat ((((dropMinus (skipB s)).size : Nat) : Int)).toNat).data.getD 0 0).toNat : Int) == 46) then
                  bif (((decide ((1 : Int) ≤ ((((dropMinus (skipB s)).extract (((digN (dropMinus (skipB s)) : Nat) : Int)).toNat ((((dropMinus (skipB s)).size : Nat) : Int)).toNat).size : Nat) : Int))) && true) && true) then
                    bif ((decide ((((dropMinus (skipB s)).extract (((digN (dropMinus (skipB s)) : Nat) : Int)).toNat ((((dropMinus (skipB s)).size : Nat) : Int)).toNat).extract 1 (((((dropMinus (skipB s)).extract (((digN (dropMinus (skipB s)) : Nat) : Int)).toNat ((((dropMinus (skipB s)).size : Nat) : Int)).toNat).size : Nat) : Int)).toNat).size ≤ 1000000000)) && true) then
                      bif ((((decide ((1 : Int) ≤ (IntKind.wrap .i64 ((1 : Int) + ((digN (((dropMinus (skipB s)).extract (((digN (dropMinus (skipB s)) : Nat) : Int)).toNat ((((dropMinus (skipB s)).size : Nat) : Int)).toNat).extract 1 (((((dropMinus (skipB s)).extract (((digN (dropMinus (skipB s)) : Nat) : Int)).toNat ((((dropMinus (skipB s)).size : Nat) : Int)).toNat).size : Nat) : Int)).toNat) : Nat) : Int))))) && (decide ((IntKind.wrap .i64 ((1 : Int) + ((digN (((dropMinus (skipB s)).extract (((digN (dropMinus (skipB s)) : Nat) : Int)).toNat ((((dropMinus (skipB s)).size : Nat) : Int)).toNat).extract 1 (((((dropMinus (skipB s)).extract (((digN (dropMinus (skipB s)) : Nat) : Int)).toNat ((((dropMinus (skipB s)).size : Nat) : Int)).toNat).size : Nat) : Int)).toNat) : Nat) : Int))) ≤ ((((dropMinus (skipB s)).extract (((digN (dropMinus (skipB s)) : Nat) : Int)).toNat ((((dropMinus (skipB s)).size : Nat) : Int)).toNat).size : Nat) : Int)))) && true) && true) then
                        bif ((decide ((((dropMinus (skipB s)).extract (((digN (dropMinus (skipB s)) : Nat) : Int)).toNat ((((dropMinus (skipB s)).size : Nat) : Int)).toNat).extract 1 ((IntKind.wrap .i64 ((1 : Int) + ((digN (((dropMinus (skipB s)).extract (((digN (dropMinus (skipB s)) : Nat) : Int)).toNat ((((dropMinus (skipB s)).size : Nat) : Int)).toNat).extract 1 (((((dropMinus (skipB s)).extract (((digN (dropMinus (skipB s)) : Nat) : Int)).toNat ((((dropMinus (skipB s)).size : Nat) : Int)).toNat).size : Nat) : Int)).toNat) : Nat) : Int)))).toNat).size ≤ 1000000000)) && true) then
                          bif (hasMinus (skipB s)) then
                            bif ((decide (((trimLB ((dropMinus (skipB s)).extract 0 (((digN (dropMinus (skipB s)) : Nat) : Int)).toNat)).size + (trimRB (((dropMinus (skipB s)).extract (((digN (dropMinus (skipB s)) : Nat) : Int)).toNat ((((dropMinus (skipB s)).size : Nat) : Int)).toNat).extract 1 ((IntKind.wrap .i64 ((1 : Int) + ((digN (((dropMinus (skipB s)).extract (((digN (dropMinus (skipB s)) : Nat) : Int)).toNat ((((dropMinus (skipB s)).size : Nat) : Int)).toNat).extract 1 (((((dropMinus (skipB s)).extract (((digN (dropMinus (skipB s)) : Nat) : Int)).toNat ((((dropMinus (skipB s)).size : Nat) : Int)).toNat).size : Nat) : Int)).toNat) : Nat) : Int)))).toNat)).size) ≤ 9223372036854775807)) && true) then
                              some (.ag [.sc (.bool (!(strEq ((trimLB ((dropMinus (skipB s)).extract 0 (((digN (dropMinus (skipB s)) : Nat) : Int)).toNat)) ++ (trimRB (((dropMinus (skipB s)).extract (((digN (dropMinus (skipB s)) : Nat) : Int)).toNat ((((dropMinus (skipB s)).size : Nat) : Int)).toNat).extract 1 ((IntKind.wrap .i64 ((1 : Int) + ((digN (((dropMinus (skipB s)).extract (((digN (dropMinus (skipB s)) : Nat) : Int)).toNat ((((dropMinus (skipB s)).size : Nat) : Int)).toNat).extract 1 (((((dropMinus (skipB s)).extract (((digN (dropMinus (skipB s)) : Nat) : Int)).toNat ((((dropMinus (skipB s)).size : Nat) : Int)).toNat).size : Nat) : Int)).toNat) : Nat) : Int)))).toNat))) (⟨#[]⟩ : ByteArray)))), .sc (.string (trimLB ((dropMinus (skipB s)).extract 0 (((digN (dropMinus (skipB s)) : Nat) : Int)).toNat))), .sc (.string (trimRB (((dropMinus (skipB s)).extract (((digN (dropMinus (skipB s)) : Nat) : Int)).toNat ((((dropMinus (skipB s)).size : Nat) : Int)).toNat).extract 1 ((IntKind.wrap .i64 ((1 : Int) + ((digN (((dropMinus (skipB s)).extract (((digN (dropMinus (skipB s)) : Nat) : Int)).toNat ((((dropMinus (skipB s)).size : Nat) : Int)).toNat).extract 1 (((((dropMinus (skipB s)).extract (((digN (dropMinus (skipB s)) : Nat) : Int)).toNat ((((dropMinus (skipB s)).size : Nat) : Int)).toNat).size : Nat) : Int)).toNat) : Nat) : Int)))).toNat)))], [])
                            else none
                          else
                            some (.ag [.sc (.bool false), .sc (.string (trimLB ((dropMinus (skipB s)).extract 0 (((digN (dropMinus (skipB s)) : Nat) : Int)).toNat))), .sc (.string (trimRB (((dropMinus (skipB s)).extract (((digN (dropMinus (skipB s)) : Nat) : Int)).toNat ((((dropMinus (skipB s)).size : Nat) : Int)).toNat).extract 1 ((IntKind.wrap .i64 ((1 : Int) + ((digN (((dropMinus (skipB s)).extract (((digN (dropMinus (skipB s)) : Nat) : Int)).toNat ((((dropMinus (skipB s)).size : Nat) : Int)).toNat).extract 1 (((((dropMinus (skipB s)).extract (((digN (dropMinus (skipB s)) : Nat) : Int)).toNat ((((dropMinus (skipB s)).size : Nat) : Int)).toNat).size : Nat) : Int)).toNat) : Nat) : Int)))).toNat)))], [])
                        else none
                      else none
                    else none
                  else none
                else
                  bif (hasMinus (skipB s)) then
                    bif ((decide (((trimLB ((dropMinus (skipB s)).extract 0 (((digN (dropMinus (skipB s)) : Nat) : Int)).toNat)).size + 0) ≤ 9223372036854775807)) && true) then
                      some (.ag [.sc (.bool (!(strEq ((trimLB ((dropMinus (skipB s)).extract 0 (((digN (dropMinus (skipB s)) : Nat) : Int)).toNat)) ++ (⟨#[]⟩ : ByteArray)) (⟨#[]⟩ : ByteArray)))), .sc (.string (trimLB ((dropMinus (skipB s)).extract 0 (((digN (dropMinus (skipB s)) : Nat) : Int)).toNat))), .sc (.string ⟨#[]⟩)], [])
                    else none
                  else
                    some (.ag [.sc (.bool false), .sc (.string (trimLB ((dropMinus (skipB s)).extract 0 (((digN (dropMinus (skipB s)) : Nat) : Int)).toNat))), .sc (.string ⟨#[]⟩)], [])
              else none
            else
              bif (hasMinus (skipB s)) then
                bif ((decide (((trimLB ((dropMinus (skipB s)).extract 0 (((digN (dropMinus (skipB s)) : Nat) : Int)).toNat)).size + 0) ≤ 9223372036854775807)) && true) then
                  some (.ag [.sc (.bool (!(strEq ((trimLB ((dropMinus (skipB s)).extract 0 (((digN (dropMinus (skipB s)) : Nat) : Int)).toNat)) ++ (⟨#[]⟩ : ByteArray)) (⟨#[]⟩ : ByteArray)))), .sc (.string (trimLB ((dropMinus (skipB s)).extract 0 (((digN (dropMinus (skipB s)) : Nat) : Int)).toNat))), .sc (.string ⟨#[]⟩)], [])
                else none
              else
                some (.ag [.sc (.bool false), .sc (.string (trimLB ((dropMinus (skipB s)).extract 0 (((digN (dropMinus (skipB s)) : Nat) : Int)).toNat))), .sc (.string ⟨#[]⟩)], [])
          else none
        else none
      else none
    else none
  else none
theorem f118_run (s : ByteArray) (z9 : V × List Rg) (h : f118 s = some z9) : CallR C prim 118 [.sc (.string s)] [] z9 := by
  refine call_fn (K := K_f118) (T := T_f118) K_f118_ok T_f118_ok (by kernel_rfl) ?_
  refine Eq.trans ?_ h
  kernel_rfl

theorem aB_def (s : ByteArray) : dropMinus (skipB s) = aB s := by rw [aB]
theorem rB_ext (s : ByteArray) : (aB s).extract (digN (aB s)) (aB s).size = rB s := ext_tail _ _
theorem wB_ext (s : ByteArray) : trimLB ((aB s).extract 0 (digN (aB s))) = wB s := by rw [ext_head]; rfl
theorem one_add (n : Nat) (h : n ≤ 1000000000) : IntKind.wrap .i64 ((1 : Int) + ((n : Nat) : Int)) = ((1 + n : Nat) : Int) := by rw [wrap_id (by omega) (by omega)]; omega
theorem f118_eq (s : ByteArray) (hp : (decide (s.size ≤ 1000000000)) = true) : f118 s = some (.ag [.sc (.bool (nB s)), .sc (.string (wB s)), .sc (.string (pB s))], []) := by
  have hq := hp
  simp only [decide_eq_true_eq] at hp
  have l1 := aB_le s
  have l2 := digN_le (aB s)
  have l3 := wB_le s
  have l4 := rB_le s
  have l5 := pB_le s
  have x1 : ((aB s).extract 0 (digN (aB s))).size ≤ 1000000000 := by rw [ext_head, ofL_size, List.length_take, ← bl_size]; omega
  unfold f118
  simp only [aB_def, Int.toNat_natCast, rB_ext, wB_ext]
  rw [hq, dec_true (show (aB s).size ≤ 1000000000 by omega), dec_true (show (0 : Int) ≤ ((digN (aB s) : Nat) : Int) by omega), dec_true (show ((digN (aB s) : Nat) : Int) ≤ (((aB s).size : Nat) : Int) by omega), dec_true x1, strEq_nil]
  have nd : dotB s = false → pB s = ⟨#[]⟩ := fun h => by unfold pB; rw [h]; rfl
  have fin0 : dotB s = false → (bif hasMinus (skipB s) then
      bif (decide ((wB s).size + 0 ≤ 9223372036854775807) && true) then some (V.ag [.sc (.bool (!strEq (wB s ++ ⟨#[]⟩) (⟨#[]⟩ : ByteArray))), .sc (.string (wB s)), .sc (.string ⟨#[]⟩)], ([] : List Rg)) else none
      else some (V.ag [.sc (.bool false), .sc (.string (wB s)), .sc (.string ⟨#[]⟩)], [])) = some (.ag [.sc (.bool (nB s)), .sc (.string (wB s)), .sc (.string (pB s))], []) := by
    intro h
    unfold nB
    rw [nd h, dec_true (show (wB s).size + 0 ≤ 9223372036854775807 by omega)]
    cases hasMinus (skipB s) <;> rfl
  rcases ba_cases (rB s) with h0 | ⟨b, r, h0⟩
  · rw [h0]
    exact fin0 (by unfold dotB; rw [h0])
  · have hc := cons_size h0
    have e : (((rB s).data.getD 0 0).toNat : Int) = ((b.toNat : Nat) : Int) := by rw [getD_head h0]
    have hd : dotB s = (((b.toNat : Nat) : Int) == 46) := by unfold dotB; rw [h0]
    have hr : (rB s).extract 1 (rB s).size = ofL r := by rw [ext_tail, h0]; rfl
    have hlr := leadN_le digU r
    have hdr : digN (ofL r) = leadN digU r := rfl
    have hp1 : dotB s = true → trimRB ((rB s).extract 1 (1 + leadN digU r)) = pB s := by
      intro h
      unfold pB
      rw [h, h0, cond_true, ext_mid, h0]
      show trimRB (ofL (((b :: r).take (1 + leadN digU r)).drop 1)) = trimRB (ofL (r.take (leadN digU r)))
      rw [Nat.add_comm 1, List.take_succ_cons]; rfl
    have x2 : ((rB s).extract 1 (1 + leadN digU r)).size ≤ 1000000000 := by rw [ext_mid, ofL_size, List.length_drop, List.length_take, ← bl_size]; omega
    rw [h0, e, hr, hdr, one_add _ (by omega), Int.toNat_natCast]
    simp only [ofL_size]
    rw [dec_true (show (0 : Int) < (((rB s).size : Nat) : Int) by omega), dec_true (show (1 : Int) ≤ (((rB s).size : Nat) : Int) by omega), dec_true (show r.length ≤ 1000000000 by omega), dec_true (show (1 : Int) ≤ ((1 + leadN digU r : Nat) : Int) by omega), dec_true (show ((1 + leadN digU r : Nat) : Int) ≤ (((rB s).size : Nat) : Int) by omega), dec_true x2, ← hd]
    cases hdot : dotB s with
    | false => exact fin0 hdot
    | true =>
      rw [hp1 hdot, dec_true (show (wB s).size + (pB s).size ≤ 9223372036854775807 by omega)]
      unfold nB
      cases hasMinus (skipB s) <;> rfl
def k118 : PrimT := fun vs gs => match vs, gs with
  | [.sc (.string s)], [] => ((decide (s.size ≤ 1000000000)), .ag [.sc (.bool (nB s)), .sc (.string (wB s)), .sc (.string (pB s))], [])
  | _, _ => (false, .bad, [])
theorem k118_ok : ∀ vs gs x, k118 vs gs = (true, x) → CallR C prim 118 vs gs x := by
  intro vs gs x h
  unfold k118 at h
  split at h
  · simp only [Prod.mk.injEq] at h
    obtain ⟨hp, rfl⟩ := h
    exact f118_run _ _ (f118_eq _ hp)
  · cases h

end Go.Ab
