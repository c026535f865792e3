/- Functions of a law, as the machine runs them. -/
import Derived.Test.YtbeemjiaohaamaaDoorDPS
import Derived.Test.YtbeemjiaohaamaaDoorZPS
namespace Go.Ab
open Go Go.Proofs Go.RowKit
set_option linter.unusedSimpArgs false
set_option linter.unusedVariables false

def K_f157 : CallK := kNil
theorem K_f157_ok : KOK C prim K_f157 := KOK.nil
def T_f157 : Tab := tNil
theorem T_f157_ok : TOK C prim 157 T_f157 := TOK.nil
def f157 (s : ByteArray) : Option (V × List Rg) :=
  bif (decide (((s.size : Nat) : Int) ≥ 1)) then
    bif ((((decide ((0 : Int) ≤ (IntKind.wrap .i64 (((s.size : Nat) : Int) - 1)))) && (decide ((IntKind.wrap .i64 (((s.size : Nat) : Int) - 1)) ≤ ((s.size : Nat) : Int)))) && true) && true) then
      some (.sc (.bool (strEq (s.extract ((IntKind.wrap .i64 (((s.size : Nat) : Int) - 1))).toNat (((s.size : Nat) : Int)).toNat) (⟨#[10]⟩ : ByteArray))), [])
    else none
  else
    some (.sc (.bool false), [])
theorem f157_run (s : ByteArray) (z9 : V × List Rg) (h : f157 s = some z9) : CallR C prim 157 [.sc (.string s), .sc (.string ⟨#[10]⟩)] [] z9 := by
  refine call_fn (K := K_f157) (T := T_f157) K_f157_ok T_f157_ok (by kernel_rfl) ?_
  refine Eq.trans ?_ h
  kernel_rfl

theorem f157_eq (s : ByteArray) (hp : (decide (s.size ≤ 1000000000)) = true) : f157 s = some (.sc (.bool (endNl s)), []) := by
  simp only [decide_eq_true_eq] at hp
  unfold f157
  rcases snoc_cases s.data.toList with h | ⟨t, b, h⟩
  · have hs : s.size = 0 := by rw [bl_size, h]; rfl
    rw [end_nil s h, hs]; rfl
  · have hs : s.size = t.length + 1 := by rw [bl_size, h]; simp
    have e1 : IntKind.wrap .i64 (((s.size : Nat) : Int) - 1) = ((t.length : Nat) : Int) := by rw [wrap_id (by omega) (by omega)]; omega
    have e : s.extract t.length (t.length + 1) = ⟨#[b]⟩ := ba_ext (by rw [bl_extract, h, List.take_of_length_le (by simp)]; simp)
    rw [end_snoc s h, e1, dec_true (show ((s.size : Nat) : Int) ≥ 1 by omega), dec_true (show (0 : Int) ≤ ((t.length : Nat) : Int) by omega), dec_true (show ((t.length : Nat) : Int) ≤ ((s.size : Nat) : Int) by omega), Int.toNat_natCast, Int.toNat_natCast, hs, e]
    have : strEq (⟨#[b]⟩ : ByteArray) ⟨#[10]⟩ = (b == 10) := by
      rw [Bool.eq_iff_iff, strEq_iff]
      constructor
      · intro h'
        have := congrArg (fun x : ByteArray => x.data.toList) h'
        simpa using this
      · intro h'
        rw [beq_iff_eq] at h'
        rw [h']
    rw [this]
    rfl
def k157 : PrimT := fun vs gs => match vs, gs with
  | [.sc (.string s), .sc (.string q1)], [] => ((strEq q1 (⟨#[10]⟩ : ByteArray) && (decide (s.size ≤ 1000000000))), .sc (.bool (endNl s)), [])
  | _, _ => (false, .bad, [])
theorem k157_ok : ∀ vs gs x, k157 vs gs = (true, x) → CallR C prim 157 vs gs x := by
  intro vs gs x h
  unfold k157 at h
  split at h
  · simp only [Prod.mk.injEq] at h
    obtain ⟨hp, rfl⟩ := h
    rw [Bool.and_eq_true] at hp
    obtain ⟨hq, hp⟩ := hp
    obtain rfl := (strEq_iff _ _).1 hq
    exact f157_run _ _ (f157_eq _ hp)
  · cases h

def K_f131 : CallK := kCons 157 k157 <| kNil
theorem K_f131_ok : KOK C prim K_f131 := KOK.cons k157_ok <| KOK.nil
def T_f131 : Tab := tNil
theorem T_f131_ok : TOK C prim 131 T_f131 := TOK.nil
def f131 (s : ByteArray) : Option (V × List Rg) :=
  bif ((decide (s.size ≤ 1000000000)) && true) then
    bif (endNl s) then
      bif ((((decide ((0 : Int) ≤ (IntKind.wrap .i64 (((s.size : Nat) : Int) - 1)))) && (decide ((IntKind.wrap .i64 (((s.size : Nat) : Int) - 1)) ≤ ((s.size : Nat) : Int)))) && true) && true) then
        some (.sc (.string (s.extract 0 ((IntKind.wrap .i64 (((s.size : Nat) : Int) - 1))).toNat)), [])
      else none
    else
      some (.sc (.string s), [])
  else none
theorem f131_run (s : ByteArray) (z9 : V × List Rg) (h : f131 s = some z9) : CallR C prim 131 [.sc (.string s), .sc (.string ⟨#[10]⟩)] [] z9 := by
  refine call_fn (K := K_f131) (T := T_f131) K_f131_ok T_f131_ok (by kernel_rfl) ?_
  refine Eq.trans ?_ h
  kernel_rfl

theorem endNl_pos (s : ByteArray) (h : endNl s = true) : 1 ≤ s.size := by
  rcases snoc_cases s.data.toList with h' | ⟨t, b, h'⟩
  · rw [end_nil s h'] at h; cases h
  · rw [bl_size, h']; simp
theorem f131_eq (s : ByteArray) (hp : (decide (s.size ≤ 1000000000)) = true) : f131 s = some (.sc (.string (trimNl s)), []) := by
  have hq := hp
  simp only [decide_eq_true_eq] at hp
  unfold f131 trimNl
  rw [hq]
  cases h : endNl s with
  | false => rfl
  | true =>
    have h1 := endNl_pos s h
    rw [wrap_id (n := ((s.size : Nat) : Int) - 1) (by omega) (by omega), dec_true (show (0 : Int) ≤ ((s.size : Nat) : Int) - 1 by omega), dec_true (show ((s.size : Nat) : Int) - 1 ≤ ((s.size : Nat) : Int) by omega), show ((s.size : Int) - 1).toNat = s.size - 1 by omega]
    rfl
def k131 : PrimT := fun vs gs => match vs, gs with
  | [.sc (.string s), .sc (.string q1)], [] => ((strEq q1 (⟨#[10]⟩ : ByteArray) && (decide (s.size ≤ 1000000000))), .sc (.string (trimNl s)), [])
  | _, _ => (false, .bad, [])
theorem k131_ok : ∀ vs gs x, k131 vs gs = (true, x) → CallR C prim 131 vs gs x := by
  intro vs gs x h
  unfold k131 at h
  split at h
  · simp only [Prod.mk.injEq] at h
    obtain ⟨hp, rfl⟩ := h
    rw [Bool.and_eq_true] at hp
    obtain ⟨hq, hp⟩ := hp
    obtain rfl := (strEq_iff _ _).1 hq
    exact f131_run _ _ (f131_eq _ hp)
  · cases h

def K_f95 : CallK := kCons 131 k131 <| kNil
theorem K_f95_ok : KOK C prim K_f95 := KOK.cons k131_ok <| KOK.nil
def T_f95 : Tab := tNil
theorem T_f95_ok : TOK C prim 95 T_f95 := TOK.nil
def f95 (s : ByteArray) : Option (V × List Rg) :=
  bif ((decide (s.size ≤ 1000000000)) && true) then
    some (.sc (.string (trimNl s)), [])
  else none
theorem f95_run (s : ByteArray) (z9 : V × List Rg) (h : f95 s = some z9) : CallR C prim 95 [.sc (.string s), .sc (.string ⟨#[10]⟩)] [] z9 := by
  refine call_fn (K := K_f95) (T := T_f95) K_f95_ok T_f95_ok (by kernel_rfl) ?_
  refine Eq.trans ?_ h
  kernel_rfl

theorem f95_eq (s : ByteArray) (hp : (decide (s.size ≤ 1000000000)) = true) : f95 s = some (.sc (.string (trimNl s)), []) := by
  unfold f95
  rw [hp]
  rfl
def k95 : PrimT := fun vs gs => match vs, gs with
  | [.sc (.string s), .sc (.string q1)], [] => ((strEq q1 (⟨#[10]⟩ : ByteArray) && (decide (s.size ≤ 1000000000))), .sc (.string (trimNl s)), [])
  | _, _ => (false, .bad, [])
theorem k95_ok : ∀ vs gs x, k95 vs gs = (true, x) → CallR C prim 95 vs gs x := by
  intro vs gs x h
  unfold k95 at h
  split at h
  · simp only [Prod.mk.injEq] at h
    obtain ⟨hp, rfl⟩ := h
    rw [Bool.and_eq_true] at hp
    obtain ⟨hq, hp⟩ := hp
    obtain rfl := (strEq_iff _ _).1 hq
    exact f95_run _ _ (f95_eq _ hp)
  · cases h

def K_f88 : CallK := kCons 121 k121 <| kNil
theorem K_f88_ok : KOK C prim K_f88 := KOK.cons k121_ok <| KOK.nil
def T_f88 : Tab := tNil
theorem T_f88_ok : TOK C prim 88 T_f88 := TOK.nil
def f88 (s : ByteArray) : Option (V × List Rg) :=
  bif (strEq (⟨#[10]⟩ : ByteArray) s) then
    some (.sc (.int .i64 0), [])
  else
    some (.sc (.int .i64 (idxB s 10)), [])
theorem f88_run (s : ByteArray) (z9 : V × List Rg) (h : f88 s = some z9) : CallR C prim 88 [.sc (.string s), .sc (.string ⟨#[10]⟩)] [] z9 := by
  refine call_fn (K := K_f88) (T := T_f88) K_f88_ok T_f88_ok (by kernel_rfl) ?_
  refine Eq.trans ?_ h
  kernel_rfl

theorem f88_eq (s : ByteArray) : f88 s = some (.sc (.int .i64 (idxB s 10)), []) := by
  unfold f88
  cases h : strEq (⟨#[10]⟩ : ByteArray) s with
  | false => rfl
  | true =>
    rw [strEq_iff] at h
    subst h
    rfl
def k88 : PrimT := fun vs gs => match vs, gs with
  | [.sc (.string s), .sc (.string q1)], [] => ((strEq q1 (⟨#[10]⟩ : ByteArray) && true), .sc (.int .i64 (idxB s 10)), [])
  | _, _ => (false, .bad, [])
theorem k88_ok : ∀ vs gs x, k88 vs gs = (true, x) → CallR C prim 88 vs gs x := by
  intro vs gs x h
  unfold k88 at h
  split at h
  · simp only [Prod.mk.injEq] at h
    obtain ⟨hp, rfl⟩ := h
    rw [Bool.and_eq_true] at hp
    obtain ⟨hq, hp⟩ := hp
    obtain rfl := (strEq_iff _ _).1 hq
    exact f88_run _ _ (f88_eq _)
  · cases h

def K_f46 : CallK := kCons 88 k88 <| kNil
theorem K_f46_ok : KOK C prim K_f46 := KOK.cons k88_ok <| KOK.nil
def T_f46 : Tab := tNil
theorem T_f46_ok : TOK C prim 46 T_f46 := TOK.nil
def f46 (s : ByteArray) : Option (V × List Rg) :=
  some (.sc (.int .i64 (idxB s 10)), [])
theorem f46_run (s : ByteArray) (z9 : V × List Rg) (h : f46 s = some z9) : CallR C prim 46 [.sc (.string s), .sc (.string ⟨#[10]⟩)] [] z9 := by
  refine call_fn (K := K_f46) (T := T_f46) K_f46_ok T_f46_ok (by kernel_rfl) ?_
  refine Eq.trans ?_ h
  kernel_rfl

def k46 : PrimT := fun vs gs => match vs, gs with
  | [.sc (.string s), .sc (.string sep)], [] => (isNl sep, .sc (.int .i64 (idxB s 10)), [])
  | _, _ => (false, .bad, [])
theorem k46_ok : ∀ vs gs x, k46 vs gs = (true, x) → CallR C prim 46 vs gs x := by
  intro vs gs x h
  unfold k46 at h
  split at h
  · next s sep =>
    simp only [Prod.mk.injEq] at h
    obtain ⟨hp, rfl⟩ := h
    rw [isNl_eq hp]
    exact f46_run s _ rfl
  · cases h

def K_f130_l0 : CallK := kCons 46 k46 <| kNil
theorem K_f130_l0_ok : KOK C prim K_f130_l0 := KOK.cons k46_ok <| KOK.nil
def T_f130_l0 : Tab := tNil
theorem T_f130_l0_ok : TOK C prim 130 T_f130_l0 := TOK.nil
def f130_l0 : Nat → ByteArray → ByteArray → Int → Int → Int → List V → (R : Type) → (Ex → St → Option R) → Option R
  | 0, _, _, _, _, _, _, _, _ => none
  | n + 1, s, sep, sepSave, n', i, a, R, κ =>
    bif (decide (i < n')) then
      bif ((isNl sep) && true) then
        bif (decide ((idxB s 10) < 0)) then
          κ (.ex 0) (mkS [(0, .sc (.string s)), (8, .bad), (9, .ref ⟨.loc 9, 0, [], 9, false⟩), (10, .sc (.int .i64 i))] [(.loc 9, some ⟨false, [.own 9 false a]⟩)])
        else
          bif ((((decide ((0 : Int) ≤ (IntKind.wrap .i64 ((idxB s 10) + sepSave)))) && (decide ((IntKind.wrap .i64 ((idxB s 10) + sepSave)) ≤ ((s.size : Nat) : Int)))) && true) && true) then
            bif (((decide ((0 : Int) ≤ i)) && (decide (i < ((a.length : Nat) : Int)))) && true) then
              bif ((((decide ((0 : Int) ≤ (IntKind.wrap .i64 ((idxB s 10) + ((sep.size : Nat) : Int))))) && (decide ((IntKind.wrap .i64 ((idxB s 10) + ((sep.size : Nat) : Int))) ≤ ((s.size : Nat) : Int)))) && true) && true) then
                f130_l0 n (s.extract ((IntKind.wrap .i64 ((idxB s 10) + ((sep.size : Nat) : Int)))).toNat (((s.size : Nat) : Int)).toNat) sep sepSave n' (IntKind.wrap .i64 (i + 1)) (a.set (((i).toNat * 1) + 0) (.sc (.string (s.extract 0 ((IntKind.wrap .i64 ((idxB s 10) + sepSave))).toNat)))) R κ
              else none
            else none
          else none
      else none
    else
      κ (.ex 0) (mkS [(0, .sc (.string s)), (8, .bad), (9, .ref ⟨.loc 9, 0, [], 9, false⟩), (10, .sc (.int .i64 i))] [(.loc 9, some ⟨false, [.own 9 false a]⟩)])
def f130_l0_ls : List (Nat × Pat) := [(0, .s), (1, .s), (2, .i .i64), (3, .i .i64), (9, .is (.ref ⟨.loc 9, 0, [], 9, false⟩)), (10, .i .i64)]
def f130_l0_rs : List RPat := [⟨.loc 9, false, [.own 9 false]⟩]
theorem f130_l0_ok (n : Nat) : ∀ (s : ByteArray) (sep : ByteArray) (sepSave : Int) (n' : Int) (i : Int) (a : List V) (R : Type) (κ : Ex → St → Option R) (r : R), f130_l0 n s sep sepSave n' i a R κ = some r → ∃ ee ss, κ ee ss = some r ∧ RunP C prim 130 [0, 0, 1, 1, 1, 1, 1, 1, 1, 1] (mkS [(0, .sc (.string s)), (1, .sc (.string sep)), (2, .sc (.int .i64 sepSave)), (3, .sc (.int .i64 n')), (9, .ref ⟨.loc 9, 0, [], 9, false⟩), (10, .sc (.int .i64 i))] [(.loc 9, some ⟨false, [.own 9 false a]⟩)]) ee ss := by
  induction n with
  | zero => intro s sep sepSave n' i a R κ r h; cases h
  | succ n ih =>
    intro s sep sepSave n' i a R κ r h
    refine loop_round (K := K_f130_l0) (T := T_f130_l0) K_f130_l0_ok T_f130_l0_ok (p := [0, 0, 1, 1, 1, 1, 1, 1, 1, 1]) (by kernel_rfl) (fun st => bif ckS f130_l0_ls f130_l0_rs st then f130_l0 n ((st.env 0).strOf) ((st.env 1).strOf) ((st.env 2).intOf) ((st.env 3).intOf) ((st.env 10).intOf) ((nthV (rowOf (st.regs (.loc 9))) 0).cellsOf) R κ else none) (fun st0 h0 => ?_) ?_
    · obtain ⟨hs, h0⟩ := cond_some h0
      rw [canon (ls := f130_l0_ls) (rs := f130_l0_rs) (by kernel_rfl) st0 hs]
      exact ih _ _ _ _ _ _ R κ r h0
    · refine Eq.trans ?_ h
      kernel_rfl

def f130_s0 (s : ByteArray) (sep : ByteArray) (sepSave : Int) (n' : Int) (i : Int) (a : List V) (R : Type) (κ : Ex → St → Option R) : Option R :=
  κ (.ex 0) (mkS [(0, .sc (.string (lastP s))), (8, .bad), (9, .ref ⟨.loc 9, 0, [], 9, false⟩), (10, .sc (.int .i64 n'))] [(.loc 9, some ⟨false, [.own 9 false (headP s ++ a.drop n'.toNat)]⟩)])
theorem idx_len (s : ByteArray) : ((headP s).length = 0 → idxB s 10 < 0) ∧ (0 < (headP s).length → ∃ m : Nat, idxB s 10 = (m : Int) ∧ m < s.size ∧ headP s = strV (s.data.toList.take m) :: headP (s.extract (m + 1) s.size) ∧ lastP s = lastP (s.extract (m + 1) s.size)) := by
  have hd : ∀ m : Nat, (s.extract (m + 1) s.size).data.toList = s.data.toList.drop (m + 1) := by
    intro m
    rw [bl_extract, List.take_of_length_le (by rw [bl_size]; exact Nat.le_refl _)]
  have hx : idxB s 10 = Lib.indexByte s.data.toList 10 := rfl
  constructor
  · intro h
    rw [hx]
    rcases (show Lib.indexByte s.data.toList 10 < 0 ∨ 0 ≤ Lib.indexByte s.data.toList 10 by omega) with h' | h'
    · exact h'
    · obtain ⟨h1, _, _⟩ := head_idx s.data.toList [] (Lib.indexByte s.data.toList 10).toNat (by omega)
      unfold headP at h
      rw [h1] at h
      cases h
  · intro h
    obtain ⟨m, hm⟩ := head_pos s.data.toList [] h
    obtain ⟨h1, h2, h3⟩ := head_idx s.data.toList [] m hm
    refine ⟨m, by rw [hx]; exact hm, by rw [bl_size]; exact h3, ?_, ?_⟩
    · unfold headP
      rw [h1, hd]
      rfl
    · unfold lastP
      rw [h2, hd]
theorem last_neg (s : ByteArray) (h : (headP s).length = 0) : headP s = [] ∧ lastP s = s := by
  have h1 : Lib.indexByte s.data.toList 10 < 0 := (idx_len s).1 h
  obtain ⟨h2, h3⟩ := head_neg s.data.toList [] h1
  refine ⟨h2, ba_ext ?_⟩
  unfold lastP
  rw [h3]
  simp
theorem f130_loop (sep : ByteArray) (hsep : isNl sep = true) (N : Nat) (hN : N ≤ 1000000000) (R : Type) (κ : Ex → St → Option R) : ∀ (k : Nat) (s : ByteArray) (i : Nat) (a : List V), (headP s).length = k → i + k = N → a.length = N + 1 → s.size ≤ 1000000000 →
    f130_l0 (k + 1) s sep 0 ((N : Nat) : Int) ((i : Nat) : Int) a R κ = κ (.ex 0) (mkS [(0, .sc (.string (lastP s))), (8, .bad), (9, .ref ⟨.loc 9, 0, [], 9, false⟩), (10, .sc (.int .i64 ((N : Nat) : Int)))] [(.loc 9, some ⟨false, [.own 9 false (a.take i ++ (headP s ++ a.drop N))]⟩)])
  | 0, s, i, a, h, h1, h2, h3 => by
    obtain ⟨h4, h5⟩ := last_neg s h
    obtain rfl : i = N := by omega
    rw [f130_l0, dec_false (by omega), cond_false, h4, h5, List.nil_append, List.take_append_drop]
  | k + 1, s, i, a, h, h1, h2, h3 => by
    obtain ⟨m, g1, g2, g3, g4⟩ := (idx_len s).2 (by omega)
    have hz : (sep.size : Nat) = 1 := by rw [isNl_eq hsep]; rfl
    have hk : (headP (s.extract (m + 1) s.size)).length = k := by rw [g3] at h; simpa using h
    have hs : (s.extract (m + 1) s.size).size ≤ 1000000000 := by rw [bl_size, bl_extract, List.length_drop, List.length_take]; rw [bl_size] at h3; omega
    have IH := f130_loop sep hsep N hN R κ k (s.extract (m + 1) s.size) (i + 1) (a.set i (strV (s.data.toList.take m))) hk (by omega) (by rw [List.length_set]; exact h2) hs
    rw [f130_l0, dec_true (show ((i : Nat) : Int) < ((N : Nat) : Int) by omega), hsep, g1, dec_false (show ¬ ((m : Nat) : Int) < 0 by omega), Int.add_zero, wrap_id (n := ((m : Nat) : Int)) (by omega) (by omega), hz, wrap_id (n := ((m : Nat) : Int) + ((1 : Nat) : Int)) (by omega) (by omega), wrap_succ (by omega), dec_true (show (0 : Int) ≤ ((m : Nat) : Int) by omega), dec_true (show ((m : Nat) : Int) ≤ ((s.size : Nat) : Int) by omega), dec_true (show (0 : Int) ≤ ((i : Nat) : Int) by omega), dec_true (show ((i : Nat) : Int) < ((a.length : Nat) : Int) by omega), dec_true (show (0 : Int) ≤ ((m : Nat) : Int) + ((1 : Nat) : Int) by omega), dec_true (show ((m : Nat) : Int) + ((1 : Nat) : Int) ≤ ((s.size : Nat) : Int) by omega)]
    simp only [Bool.and_self, cond_true, cond_false, Int.toNat_natCast, Nat.mul_one, Nat.add_zero, strV_extract s 0 m, List.drop_zero, show (((m : Nat) : Int) + ((1 : Nat) : Int)).toNat = m + 1 by omega, IH, g4]
    have : (a.set i (strV (s.data.toList.take m))).take (i + 1) ++ (headP (s.extract (m + 1) s.size) ++ (a.set i (strV (s.data.toList.take m))).drop N) = a.take i ++ (headP s ++ a.drop N) := by
      rw [g3, List.take_add_one, List.take_set_of_le (by omega), List.getElem?_set_self (by omega), List.drop_set_of_lt (by omega)]
      simp
    rw [this]
theorem f130_s0_eq (s : ByteArray) (sep : ByteArray) (sepSave : Int) (n' : Int) (i : Int) (a : List V) (hp : (isNl sep && (sepSave == 0) && (i == 0) && (n' == cntN s) && decide ((a.length : Int) = n' + 1) && decide (s.size ≤ 1000000000)) = true) : ∃ n, ∀ (R : Type) (κ : Ex → St → Option R), f130_l0 n s sep sepSave n' i a R κ = f130_s0 s sep sepSave n' i a R κ := by
  simp only [Bool.and_eq_true, decide_eq_true_eq, beq_iff_eq] at hp
  obtain ⟨⟨⟨⟨⟨g1, rfl⟩, rfl⟩, rfl⟩, g5⟩, g6⟩ := hp
  have hN := headP_le s
  refine ⟨(headP s).length + 1, fun R κ => ?_⟩
  unfold cntN at *
  have := f130_loop sep g1 (headP s).length (by omega) R κ (headP s).length s 0 a rfl (by omega) (by omega) g6
  rw [f130_s0, Int.toNat_natCast]
  exact this
def t_f130_l0 (st : St) (R : Type) (κ : Ex → St → Option R) : Option R := bif ckS f130_l0_ls f130_l0_rs st then (bif (isNl ((st.env 1).strOf) && (((st.env 2).intOf) == 0) && (((st.env 10).intOf) == 0) && (((st.env 3).intOf) == cntN ((st.env 0).strOf)) && decide ((((nthV (rowOf (st.regs (.loc 9))) 0).cellsOf).length : Int) = ((st.env 3).intOf) + 1) && decide (((st.env 0).strOf).size ≤ 1000000000)) then f130_s0 ((st.env 0).strOf) ((st.env 1).strOf) ((st.env 2).intOf) ((st.env 3).intOf) ((st.env 10).intOf) ((nthV (rowOf (st.regs (.loc 9))) 0).cellsOf) R κ else none) else none
theorem t_f130_l0_ok : ∀ st0 R κ r, t_f130_l0 (forget C 130 [0, 0, 1, 1, 1, 1, 1, 1, 1, 1] st0) R κ = some r → ∃ ee ss, κ ee ss = some r ∧ RunP C prim 130 [0, 0, 1, 1, 1, 1, 1, 1, 1, 1] (forget C 130 [0, 0, 1, 1, 1, 1, 1, 1, 1, 1] st0) ee ss := by
  intro st0 R κ r h
  obtain ⟨hs, h⟩ := cond_some h
  obtain ⟨hp, h⟩ := cond_some h
  rw [canon (ls := f130_l0_ls) (rs := f130_l0_rs) (by kernel_rfl) st0 hs]
  obtain ⟨n, hn⟩ := f130_s0_eq _ _ _ _ _ _ hp
  rw [← hn] at h
  exact f130_l0_ok n _ _ _ _ _ _ R κ r h

def K_f130 : CallK := kCons 73 k73 <| kNil
theorem K_f130_ok : KOK C prim K_f130 := KOK.cons k73_ok <| KOK.nil
def T_f130 : Tab := tCons [0, 0, 1, 1, 1, 1, 1, 1, 1, 1] t_f130_l0 <| tNil
theorem T_f130_ok : TOK C prim 130 T_f130 := TOK.cons t_f130_l0_ok <| TOK.nil
def f130 (s : ByteArray) : Option (V × List Rg) :=
  bif ((((((((((decide ((0 : Int) ≤ (bif (decide ((IntKind.wrap .i64 (((s.size : Nat) : Int) + 1)) < (IntKind.wrap .i64 ((cntB s (⟨#[10]⟩ : ByteArray)) + 1)))) then (IntKind.wrap .i64 (((s.size : Nat) : Int) + 1)) else (IntKind.wrap .i64 ((cntB s (⟨#[10]⟩ : ByteArray)) + 1))))) && (decide ((bif (decide ((IntKind.wrap .i64 (((s.size : Nat) : Int) + 1)) < (IntKind.wrap .i64 ((cntB s (⟨#[10]⟩ : ByteArray)) + 1)))) then (IntKind.wrap .i64 (((s.size : Nat) : Int) + 1)) else (IntKind.wrap .i64 ((cntB s (⟨#[10]⟩ : ByteArray)) + 1))) ≤ (bif (decide ((IntKind.wrap .i64 (((s.size : Nat) : Int) + 1)) < (IntKind.wrap .i64 ((cntB s (⟨#[10]⟩ : ByteArray)) + 1)))) then (IntKind.wrap .i64 (((s.size : Nat) : Int) + 1)) else (IntKind.wrap .i64 ((cntB s (⟨#[10]⟩ : ByteArray)) + 1)))))) && true) && true) && true) && true) && true) && (roomy (((bif (decide ((IntKind.wrap .i64 (((s.size : Nat) : Int) + 1)) < (IntKind.wrap .i64 ((cntB s (⟨#[10]⟩ : ByteArray)) + 1)))) then (IntKind.wrap .i64 (((s.size : Nat) : Int) + 1)) else (IntKind.wrap .i64 ((cntB s (⟨#[10]⟩ : ByteArray)) + 1)))).toNat * 16))) && (roomy ((bif (decide ((IntKind.wrap .i64 (((s.size : Nat) : Int) + 1)) < (IntKind.wrap .i64 ((cntB s (⟨#[10]⟩ : ByteArray)) + 1)))) then (IntKind.wrap .i64 (((s.size : Nat) : Int) + 1)) else (IntKind.wrap .i64 ((cntB s (⟨#[10]⟩ : ByteArray)) + 1)))).toNat)) && true) then
    bif (isNl (⟨#[10]⟩ : ByteArray) && ((0 : Int) == 0) && ((0 : Int) == 0) && ((IntKind.wrap .i64 ((bif (decide ((IntKind.wrap .i64 (((s.size : Nat) : Int) + 1)) < (IntKind.wrap .i64 ((cntB s (⟨#[10]⟩ : ByteArray)) + 1)))) then (IntKind.wrap .i64 (((s.size : Nat) : Int) + 1)) else (IntKind.wrap .i64 ((cntB s (⟨#[10]⟩ : ByteArray)) + 1))) - 1)) == cntN s) && decide ((((List.replicate ((bif (decide ((IntKind.wrap .i64 (((s.size : Nat) : Int) + 1)) < (IntKind.wrap .i64 ((cntB s (⟨#[10]⟩ : ByteArray)) + 1)))) then (IntKind.wrap .i64 (((s.size : Nat) : Int) + 1)) else (IntKind.wrap .i64 ((cntB s (⟨#[10]⟩ : ByteArray)) + 1)))).toNat ([.sc (.string ⟨#[]⟩)] : List V)).flatten).length : Int) = (IntKind.wrap .i64 ((bif (decide ((IntKind.wrap .i64 (((s.size : Nat) : Int) + 1)) < (IntKind.wrap .i64 ((cntB s (⟨#[10]⟩ : ByteArray)) + 1)))) then (IntKind.wrap .i64 (((s.size : Nat) : Int) + 1)) else (IntKind.wrap .i64 ((cntB s (⟨#[10]⟩ : ByteArray)) + 1))) - 1)) + 1) && decide (s.size ≤ 1000000000)) then
      bif (((decide ((0 : Int) ≤ (IntKind.wrap .i64 ((bif (decide ((IntKind.wrap .i64 (((s.size : Nat) : Int) + 1)) < (IntKind.wrap .i64 ((cntB s (⟨#[10]⟩ : ByteArray)) + 1)))) then (IntKind.wrap .i64 (((s.size : Nat) : Int) + 1)) else (IntKind.wrap .i64 ((cntB s (⟨#[10]⟩ : ByteArray)) + 1))) - 1)))) && (decide ((IntKind.wrap .i64 ((bif (decide ((IntKind.wrap .i64 (((s.size : Nat) : Int) + 1)) < (IntKind.wrap .i64 ((cntB s (⟨#[10]⟩ : ByteArray)) + 1)))) then (IntKind.wrap .i64 (((s.size : Nat) : Int) + 1)) else (IntKind.wrap .i64 ((cntB s (⟨#[10]⟩ : ByteArray)) + 1))) - 1)) < ((((headP s ++ ((List.replicate ((bif (decide ((IntKind.wrap .i64 (((s.size : Nat) : Int) + 1)) < (IntKind.wrap .i64 ((cntB s (⟨#[10]⟩ : ByteArray)) + 1)))) then (IntKind.wrap .i64 (((s.size : Nat) : Int) + 1)) else (IntKind.wrap .i64 ((cntB s (⟨#[10]⟩ : ByteArray)) + 1)))).toNat ([.sc (.string ⟨#[]⟩)] : List V)).flatten).drop (IntKind.wrap .i64 ((bif (decide ((IntKind.wrap .i64 (((s.size : Nat) : Int) + 1)) < (IntKind.wrap .i64 ((cntB s (⟨#[10]⟩ : ByteArray)) + 1)))) then (IntKind.wrap .i64 (((s.size : Nat) : Int) + 1)) else (IntKind.wrap .i64 ((cntB s (⟨#[10]⟩ : ByteArray)) + 1))) - 1)).toNat)).length : Nat) : Int)))) && true) then
        bif (((((decide ((0 : Int) ≤ (IntKind.wrap .i64 ((IntKind.wrap .i64 ((bif (decide ((IntKind.wrap .i64 (((s.size : Nat) : Int) + 1)) < (IntKind.wrap .i64 ((cntB s (⟨#[10]⟩ : ByteArray)) + 1)))) then (IntKind.wrap .i64 (((s.size : Nat) : Int) + 1)) else (IntKind.wrap .i64 ((cntB s (⟨#[10]⟩ : ByteArray)) + 1))) - 1)) + 1)))) && (decide ((IntKind.wrap .i64 ((IntKind.wrap .i64 ((bif (decide ((IntKind.wrap .i64 (((s.size : Nat) : Int) + 1)) < (IntKind.wrap .i64 ((cntB s (⟨#[10]⟩ : ByteArray)) + 1)))) then (IntKind.wrap .i64 (((s.size : Nat) : Int) + 1)) else (IntKind.wrap .i64 ((cntB s (⟨#[10]⟩ : ByteArray)) + 1))) - 1)) + 1)) ≤ (((((headP s ++ ((List.replicate ((bif (decide ((IntKind.wrap .i64 (((s.size : Nat) : Int) + 1)) < (IntKind.wrap .i64 ((cntB s (⟨#[10]⟩ : ByteArray)) + 1)))) then (IntKind.wrap .i64 (((s.size : Nat) : Int) + 1)) else (IntKind.wrap .i64 ((cntB s (⟨#[10]⟩ : ByteArray)) + 1)))).toNat ([.sc (.string ⟨#[]⟩)] : List V)).flatten).drop (IntKind.wrap .i64 ((bif (decide ((IntKind.wrap .i64 (((s.size : Nat) : Int) + 1)) < (IntKind.wrap .i64 ((cntB s (⟨#[10]⟩ : ByteArray)) + 1)))) then (IntKind.wrap .i64 (((s.size : Nat) : Int) + 1)) else (IntKind.wrap .i64 ((cntB s (⟨#[10]⟩ : ByteArray)) + 1))) - 1)).toNat).set ((((IntKind.wrap .i64 ((bif (decide ((IntKind.wrap .i64 (((s.size : Nat) : Int) + 1)) < (IntKind.wrap .i64 ((cntB s (⟨#[10]⟩ : ByteArray)) + 1)))) then (IntKind.wrap .i64 (((s.size : Nat) : Int) + 1)) else (IntKind.wrap .i64 ((cntB s (⟨#[10]⟩ : ByteArray)) + 1))) - 1))).toNat * 1) + 0) (.sc (.string (lastP s))))).length : Nat) : Int)))) && true) && true) && true) then
          some (.own 9 false (((headP s ++ ((List.replicate ((bif (decide ((IntKind.wrap .i64 (((s.size : Nat) : Int) + 1)) < (IntKind.wrap .i64 ((cntB s (⟨#[10]⟩ : ByteArray)) + 1)))) then (IntKind.wrap .i64 (((s.size : Nat) : Int) + 1)) else (IntKind.wrap .i64 ((cntB s (⟨#[10]⟩ : ByteArray)) + 1)))).toNat ([.sc (.string ⟨#[]⟩)] : List V)).flatten).drop (IntKind.wrap .i64 ((bif (decide ((IntKind.wrap .i64 (((s.size : Nat) : Int) + 1)) < (IntKind.wrap .i64 ((cntB s (⟨#[10]⟩ : ByteArray)) + 1)))) then (IntKind.wrap .i64 (((s.size : Nat) : Int) + 1)) else (IntKind.wrap .i64 ((cntB s (⟨#[10]⟩ : ByteArray)) + 1))) - 1)).toNat).set ((((IntKind.wrap .i64 ((bif (decide ((IntKind.wrap .i64 (((s.size : Nat) : Int) + 1)) < (IntKind.wrap .i64 ((cntB s (⟨#[10]⟩ : ByteArray)) + 1)))) then (IntKind.wrap .i64 (((s.size : Nat) : Int) + 1)) else (IntKind.wrap .i64 ((cntB s (⟨#[10]⟩ : ByteArray)) + 1))) - 1))).toNat * 1) + 0) (.sc (.string (lastP s)))).take (((IntKind.wrap .i64 ((IntKind.wrap .i64 ((bif (decide ((IntKind.wrap .i64 (((s.size : Nat) : Int) + 1)) < (IntKind.wrap .i64 ((cntB s (⟨#[10]⟩ : ByteArray)) + 1)))) then (IntKind.wrap .i64 (((s.size : Nat) : Int) + 1)) else (IntKind.wrap .i64 ((cntB s (⟨#[10]⟩ : ByteArray)) + 1))) - 1)) + 1))).toNat * 1)), [])
        else none
      else none
    else none
  else none
theorem f130_run (s : ByteArray) (z9 : V × List Rg) (h : f130 s = some z9) : CallR C prim 130 [.sc (.string s), .sc (.string ⟨#[10]⟩), .sc (.int .i64 0), .sc (.int .i64 (-1))] [] z9 := by
  refine call_fn (K := K_f130) (T := T_f130) K_f130_ok T_f130_ok (by kernel_rfl) ?_
  refine Eq.trans ?_ h
  kernel_rfl

theorem cntB_nl (s : ByteArray) : cntB s (⟨#[10]⟩ : ByteArray) = (((headP s).length : Nat) : Int) := by
  unfold headP
  rw [head_len]
  rfl
theorem rep_flat {α : Type} (n : Nat) (x : α) : (List.replicate n [x]).flatten = List.replicate n x := by
  induction n with
  | zero => rfl
  | succ n ih => rw [List.replicate_succ, List.flatten_cons, ih, List.replicate_succ]; rfl
theorem f130_eq (s : ByteArray) (hp : (decide (s.size ≤ 1000000000)) = true) : f130 s = some (.own 9 false (splitV s), []) := by
  simp only [decide_eq_true_eq] at hp
  have hN := headP_le s
  have hw2 : IntKind.wrap .i64 (((s.size : Nat) : Int) + 1) = ((s.size + 1 : Nat) : Int) := wrap_succ (by omega)
  have hw1 : IntKind.wrap .i64 ((((headP s).length : Nat) : Int) + 1) = (((headP s).length + 1 : Nat) : Int) := wrap_succ (by omega)
  have hlt : decide (((s.size + 1 : Nat) : Int) < (((headP s).length + 1 : Nat) : Int)) = false := dec_false (by omega)
  have hw3 : IntKind.wrap .i64 ((((headP s).length + 1 : Nat) : Int) - 1) = (((headP s).length : Nat) : Int) := by rw [wrap_id (by omega) (by omega)]; omega
  unfold f130
  simp only [cntB_nl, hw1, hw2, hlt, cond_false, hw3, Int.toNat_natCast, rep_flat, List.length_replicate, List.drop_replicate, Nat.mul_one, Nat.add_zero]
  have e1 : (headP s).length + 1 - (headP s).length = 1 := by omega
  have e2 : (headP s ++ List.replicate 1 (V.sc (.string ⟨#[]⟩))).set (headP s).length (.sc (.string (lastP s))) = splitV s := by
    rw [List.set_append_right _ _ (Nat.le_refl _), Nat.sub_self]
    rfl
  have e3 : (splitV s).length = (headP s).length + 1 := by unfold splitV; simp
  have e4 : (headP s ++ List.replicate 1 (V.sc (.string ⟨#[]⟩))).length = (headP s).length + 1 := by simp
  rw [e1, e2, e4, e3, List.take_of_length_le (by omega)]
  have r1 : roomy (((headP s).length + 1) * 16) = true := dec_true (by omega)
  have r2 : roomy ((headP s).length + 1) = true := dec_true (by omega)
  have d1 : decide ((0 : Int) ≤ (((headP s).length + 1 : Nat) : Int)) = true := dec_true (by omega)
  have d2 : decide ((((headP s).length + 1 : Nat) : Int) ≤ (((headP s).length + 1 : Nat) : Int)) = true := dec_true (by omega)
  have d3 : decide ((0 : Int) ≤ (((headP s).length : Nat) : Int)) = true := dec_true (by omega)
  have d4 : decide ((((headP s).length : Nat) : Int) < (((headP s).length + 1 : Nat) : Int)) = true := dec_true (by omega)
  have d5 : decide ((((headP s).length + 1 : Nat) : Int) = (((headP s).length : Nat) : Int) + 1) = true := dec_true (by omega)
  have d6 : ((((headP s).length : Nat) : Int) == cntN s) = true := beq_self_eq_true _
  rw [r1, r2, d1, d2, d3, d4, d5, d6, dec_true hp]
  rfl
def k130 : PrimT := fun vs gs => match vs, gs with
  | [.sc (.string s), .sc (.string q1), .sc (.int .i64 0), .sc (.int .i64 (-1))], [] => ((strEq q1 (⟨#[10]⟩ : ByteArray) && (decide (s.size ≤ 1000000000))), .own 9 false (splitV s), [])
  | _, _ => (false, .bad, [])
theorem k130_ok : ∀ vs gs x, k130 vs gs = (true, x) → CallR C prim 130 vs gs x := by
  intro vs gs x h
  unfold k130 at h
  split at h
  · simp only [Prod.mk.injEq] at h
    obtain ⟨hp, rfl⟩ := h
    rw [Bool.and_eq_true] at hp
    obtain ⟨hq, hp⟩ := hp
    obtain rfl := (strEq_iff _ _).1 hq
    exact f130_run _ _ (f130_eq _ hp)
  · cases h

def K_f94 : CallK := kCons 130 k130 <| kNil
theorem K_f94_ok : KOK C prim K_f94 := KOK.cons k130_ok <| KOK.nil
def T_f94 : Tab := tNil
theorem T_f94_ok : TOK C prim 94 T_f94 := TOK.nil
def f94 (s : ByteArray) : Option (V × List Rg) :=
  bif ((decide (s.size ≤ 1000000000)) && true) then
    some (.own 9 false (splitV s), [])
  else none
theorem f94_run (s : ByteArray) (z9 : V × List Rg) (h : f94 s = some z9) : CallR C prim 94 [.sc (.string s), .sc (.string ⟨#[10]⟩)] [] z9 := by
  refine call_fn (K := K_f94) (T := T_f94) K_f94_ok T_f94_ok (by kernel_rfl) ?_
  refine Eq.trans ?_ h
  kernel_rfl

theorem f94_eq (s : ByteArray) (hp : (decide (s.size ≤ 1000000000)) = true) : f94 s = some (.own 9 false (splitV s), []) := by
  unfold f94
  rw [hp]
  rfl
def k94 : PrimT := fun vs gs => match vs, gs with
  | [.sc (.string s), .sc (.string q1)], [] => ((strEq q1 (⟨#[10]⟩ : ByteArray) && (decide (s.size ≤ 1000000000))), .own 9 false (splitV s), [])
  | _, _ => (false, .bad, [])
theorem k94_ok : ∀ vs gs x, k94 vs gs = (true, x) → CallR C prim 94 vs gs x := by
  intro vs gs x h
  unfold k94 at h
  split at h
  · simp only [Prod.mk.injEq] at h
    obtain ⟨hp, rfl⟩ := h
    rw [Bool.and_eq_true] at hp
    obtain ⟨hq, hp⟩ := hp
    obtain rfl := (strEq_iff _ _).1 hq
    exact f94_run _ _ (f94_eq _ hp)
  · cases h

def K_f54 : CallK := kCons 94 k94 <| kCons 95 k95 <| kNil
theorem K_f54_ok : KOK C prim K_f54 := KOK.cons k94_ok <| KOK.cons k95_ok <| KOK.nil
def T_f54 : Tab := tNil
theorem T_f54_ok : TOK C prim 54 T_f54 := TOK.nil
def f54 (text : ByteArray) : Option (V × List Rg) :=
  bif (strEq text (⟨#[]⟩ : ByteArray)) then
    some (.sl 1 [], [])
  else
    bif ((decide (text.size ≤ 1000000000)) && true) then
      bif ((decide ((trimNl text).size ≤ 1000000000)) && true) then
        some (.sl 1 (splitV (trimNl text)), [])
      else none
    else none
theorem f54_run (text : ByteArray) (z9 : V × List Rg) (h : f54 text = some z9) : CallR C prim 54 [.sc (.string text)] [] z9 := by
  refine call_fn (K := K_f54) (T := T_f54) K_f54_ok T_f54_ok (by kernel_rfl) ?_
  refine Eq.trans ?_ h
  kernel_rfl

theorem f54_eq (text : ByteArray) (hp : (decide (text.size ≤ 1000000000)) = true) : f54 text = some (.sl 1 (linesV text), []) := by
  have hq := hp
  simp only [decide_eq_true_eq] at hp
  unfold f54
  cases h : strEq text (⟨#[]⟩ : ByteArray) with
  | true =>
    rw [strEq_iff] at h
    rw [linesV_nil text (by rw [h])]
    rfl
  | false =>
    have hne : text.data.toList ≠ [] := by
      intro h'
      have : text = ⟨#[]⟩ := ba_ext (by rw [h'])
      rw [this, strEq_self] at h
      cases h
    have ht : (trimNl text).size ≤ 1000000000 := by
      unfold trimNl
      cases endNl text
      · exact hp
      · rw [cond_true, bl_size, bl_extract, List.length_drop, List.length_take]; rw [bl_size] at hp; omega
    rw [linesV_trim text hne, dec_true ht, hq]
    rfl
def k54 : PrimT := fun vs gs => match vs, gs with
  | [.sc (.string text)], [] => ((decide (text.size ≤ 1000000000)), .sl 1 (linesV text), [])
  | _, _ => (false, .bad, [])
theorem k54_ok : ∀ vs gs x, k54 vs gs = (true, x) → CallR C prim 54 vs gs x := by
  intro vs gs x h
  unfold k54 at h
  split at h
  · simp only [Prod.mk.injEq] at h
    obtain ⟨hp, rfl⟩ := h
    exact f54_run _ _ (f54_eq _ hp)
  · cases h

def K_f68 : CallK := kCons 54 k54 <| kNil
theorem K_f68_ok : KOK C prim K_f68 := KOK.cons k54_ok <| KOK.nil
def T_f68 : Tab := tNil
theorem T_f68_ok : TOK C prim 68 T_f68 := TOK.nil
def f68 (text : ByteArray) : Option (V × List Rg) :=
  bif (decide (((text.size : Nat) : Int) > 65536)) then
    some (.sc (.bool true), [])
  else
    bif ((decide (text.size ≤ 1000000000)) && true) then
      some (.sc (.bool (decide (((((linesV text)).length : Nat) : Int) > 4096))), [])
    else none
theorem f68_run (text : ByteArray) (z9 : V × List Rg) (h : f68 text = some z9) : CallR C prim 68 [.sc (.string text)] [] z9 := by
  refine call_fn (K := K_f68) (T := T_f68) K_f68_ok T_f68_ok (by kernel_rfl) ?_
  refine Eq.trans ?_ h
  kernel_rfl

theorem f68_eq (text : ByteArray) (hp : (decide (text.size ≤ 1000000000)) = true) : f68 text = some (.sc (.bool (largeB text)), []) := by
  unfold f68 largeB
  rw [hp]
  cases decide (((text.size : Nat) : Int) > 65536) <;> rfl
def k68 : PrimT := fun vs gs => match vs, gs with
  | [.sc (.string text)], [] => ((decide (text.size ≤ 1000000000)), .sc (.bool (largeB text)), [])
  | _, _ => (false, .bad, [])
theorem k68_ok : ∀ vs gs x, k68 vs gs = (true, x) → CallR C prim 68 vs gs x := by
  intro vs gs x h
  unfold k68 at h
  split at h
  · simp only [Prod.mk.injEq] at h
    obtain ⟨hp, rfl⟩ := h
    exact f68_run _ _ (f68_eq _ hp)
  · cases h

def K_f21_l0 : CallK := kNil
theorem K_f21_l0_ok : KOK C prim K_f21_l0 := KOK.nil
def T_f21_l0 : Tab := tNil
theorem T_f21_l0_ok : TOK C prim 21 T_f21_l0 := TOK.nil
def f21_l0 : Nat → ByteArray → Int → Int → Int → List V → (R : Type) → (Ex → St → Option R) → Option R
  | 0, _, _, _, _, _, _, _ => none
  | n + 1, text, from', v7, v8, l, R, κ =>
    bif (decide (v8 < v7)) then
      bif (((decide ((0 : Int) ≤ v8)) && (decide (v8 < ((text.size : Nat) : Int)))) && true) then
        bif (((text.data.getD (v8).toNat 0).toNat : Int) == 10) then
          bif (((((decide ((0 : Int) ≤ from')) && (decide (from' ≤ v8))) && (decide (v8 ≤ ((text.size : Nat) : Int)))) && true) && true) then
            bif (((roomy ((l.length + 1) * 16)) && (roomy (l.length + 1))) && true) then
              f21_l0 n text (IntKind.wrap .i64 (v8 + 1)) v7 (IntKind.wrap .i64 (v8 + 1)) (l ++ [.sc (.string (text.extract (from').toNat (v8).toNat))]) R κ
            else none
          else none
        else
          f21_l0 n text from' v7 (IntKind.wrap .i64 (v8 + 1)) l R κ
      else none
    else
      κ (.ex 0) (mkS [(0, .sc (.string text)), (2, .bad), (3, .ref ⟨.loc 3, 0, [], 9, false⟩), (4, .sc (.int .i64 from'))] [(.loc 3, some ⟨false, [.own 9 false l]⟩)])
def f21_l0_ls : List (Nat × Pat) := [(0, .s), (3, .is (.ref ⟨.loc 3, 0, [], 9, false⟩)), (4, .i .i64), (7, .i .i64), (8, .i .i64)]
def f21_l0_rs : List RPat := [⟨.loc 3, false, [.own 9 false]⟩]
theorem f21_l0_ok (n : Nat) : ∀ (text : ByteArray) (from' : Int) (v7 : Int) (v8 : Int) (l : List V) (R : Type) (κ : Ex → St → Option R) (r : R), f21_l0 n text from' v7 v8 l R κ = some r → ∃ ee ss, κ ee ss = some r ∧ RunP C prim 21 [0, 1, 0, 1, 1, 1] (mkS [(0, .sc (.string text)), (3, .ref ⟨.loc 3, 0, [], 9, false⟩), (4, .sc (.int .i64 from')), (7, .sc (.int .i64 v7)), (8, .sc (.int .i64 v8))] [(.loc 3, some ⟨false, [.own 9 false l]⟩)]) ee ss := by
  induction n with
  | zero => intro text from' v7 v8 l R κ r h; cases h
  | succ n ih =>
    intro text from' v7 v8 l R κ r h
    refine loop_round (K := K_f21_l0) (T := T_f21_l0) K_f21_l0_ok T_f21_l0_ok (p := [0, 1, 0, 1, 1, 1]) (by kernel_rfl) (fun st => bif ckS f21_l0_ls f21_l0_rs st then f21_l0 n ((st.env 0).strOf) ((st.env 4).intOf) ((st.env 7).intOf) ((st.env 8).intOf) ((nthV (rowOf (st.regs (.loc 3))) 0).cellsOf) R κ else none) (fun st0 h0 => ?_) ?_
    · obtain ⟨hs, h0⟩ := cond_some h0
      rw [canon (ls := f21_l0_ls) (rs := f21_l0_rs) (by kernel_rfl) st0 hs]
      exact ih _ _ _ _ _ R κ r h0
    · refine Eq.trans ?_ h
      kernel_rfl

def f21_s0 (text : ByteArray) (from' : Int) (v7 : Int) (v8 : Int) (l : List V) (R : Type) (κ : Ex → St → Option R) : Option R :=
  κ (.ex 0) (mkS [(0, .sc (.string text)), (2, .bad), (3, .ref ⟨.loc 3, 0, [], 9, false⟩), (4, .sc (.int .i64 (fromP text)))] [(.loc 3, some ⟨false, [.own 9 false (headP text)]⟩)])
theorem f21_loop (text : ByteArray) (ht : text.size ≤ 1000000000) (R : Type) (κ : Ex → St → Option R) : ∀ (k i fr : Nat) (l : List V), i + k = text.size → fr ≤ i → l.length ≤ i →
    f21_l0 (k + 1) text ((fr : Nat) : Int) ((text.size : Nat) : Int) ((i : Nat) : Int) l R κ = κ (.ex 0) (mkS [(0, .sc (.string text)), (2, .bad), (3, .ref ⟨.loc 3, 0, [], 9, false⟩), (4, .sc (.int .i64 (((text.size : Nat) : Int) - (((lastL ((text.data.toList.take i).drop fr) (text.data.toList.drop i)).length : Nat) : Int))))] [(.loc 3, some ⟨false, [.own 9 false (l ++ headL ((text.data.toList.take i).drop fr) (text.data.toList.drop i))]⟩)])
  | 0, i, fr, l, h, h1, h2 => by
    have hl := bl_size text
    obtain rfl : i = text.size := by omega
    rw [f21_l0, dec_false (by omega), cond_false, List.drop_of_length_le (l := text.data.toList) (i := text.size) (by omega), headL, lastL, List.append_nil, List.length_drop, List.length_take, show ((min text.size text.data.toList.length - fr : Nat) : Int) = ((text.size : Nat) : Int) - (fr : Int) by omega, show ((text.size : Nat) : Int) - (((text.size : Nat) : Int) - (fr : Int)) = (fr : Int) by omega]
  | k + 1, i, fr, l, h, h1, h2 => by
    have hl := bl_size text
    have hlt : i < text.data.toList.length := by omega
    have hb : ((text.data.getD i 0).toNat : Int) = ((text.data.toList[i]).toNat : Int) := by rw [getD_list' text i hlt]
    have hc : ((((text.data.toList[i]).toNat : Nat) : Int) == 10) = (text.data.toList[i] == 10) := by
      rw [Bool.eq_iff_iff, beq_iff_eq, beq_iff_eq, ← UInt8.toNat_inj]
      show _ ↔ (text.data.toList[i]).toNat = 10
      omega
    have r1 : roomy ((l.length + 1) * 16) = true := dec_true (by omega)
    have r2 : roomy (l.length + 1) = true := dec_true (by omega)
    rw [f21_l0, dec_true (show ((i : Nat) : Int) < ((text.size : Nat) : Int) by omega), dec_true (show (0 : Int) ≤ ((i : Nat) : Int) by omega), Int.toNat_natCast, hb, hc, dec_true (show (0 : Int) ≤ ((fr : Nat) : Int) by omega), dec_true (show ((fr : Nat) : Int) ≤ ((i : Nat) : Int) by omega), dec_true (show ((i : Nat) : Int) ≤ ((text.size : Nat) : Int) by omega), r1, r2, Int.toNat_natCast, strV_extract, wrap_succ (by omega), List.drop_eq_getElem_cons hlt, headL_cons, lastL_cons]
    cases hx : text.data.toList[i] == 10 with
    | true =>
      have IH := f21_loop text ht R κ k (i + 1) (i + 1) (l ++ [strV ((text.data.toList.take i).drop fr)]) (by omega) (Nat.le_refl _) (by simp; omega)
      rw [List.drop_of_length_le (l := text.data.toList.take (i + 1)) (by rw [List.length_take]; omega), List.append_assoc] at IH
      simp only [Bool.and_self, cond_true]
      exact IH
    | false =>
      have IH := f21_loop text ht R κ k (i + 1) fr l (by omega) (by omega) (by omega)
      rw [List.take_add_one, List.getElem?_eq_getElem hlt, Option.toList_some, List.drop_append_of_le_length (by rw [List.length_take]; omega)] at IH
      simp only [Bool.and_self, cond_true, cond_false]
      exact IH
theorem f21_s0_eq (text : ByteArray) (from' : Int) (v7 : Int) (v8 : Int) (l : List V) (hp : ((v7 == ((text.size : Nat) : Int)) && (v8 == 0) && (from' == 0) && (l.length == 0) && decide (text.size ≤ 1000000000)) = true) : ∃ n, ∀ (R : Type) (κ : Ex → St → Option R), f21_l0 n text from' v7 v8 l R κ = f21_s0 text from' v7 v8 l R κ := by
  simp only [Bool.and_eq_true, decide_eq_true_eq, beq_iff_eq] at hp
  obtain ⟨⟨⟨⟨rfl, rfl⟩, rfl⟩, g4⟩, g5⟩ := hp
  obtain rfl : l = [] := List.eq_nil_of_length_eq_zero g4
  refine ⟨text.size + 1, fun R κ => ?_⟩
  have := f21_loop text g5 R κ text.size 0 0 [] (by omega) (Nat.le_refl _) (Nat.le_refl _)
  have e : fromP text = ((text.size : Nat) : Int) - (((lastL ((text.data.toList.take 0).drop 0) (text.data.toList.drop 0)).length : Nat) : Int) := by
    unfold fromP; rw [lastP_size]; rfl
  rw [f21_s0, e]
  exact this
def t_f21_l0 (st : St) (R : Type) (κ : Ex → St → Option R) : Option R := bif ckS f21_l0_ls f21_l0_rs st then (bif ((((st.env 7).intOf) == ((((st.env 0).strOf).size : Nat) : Int)) && (((st.env 8).intOf) == 0) && (((st.env 4).intOf) == 0) && (((nthV (rowOf (st.regs (.loc 3))) 0).cellsOf).length == 0) && decide (((st.env 0).strOf).size ≤ 1000000000)) then f21_s0 ((st.env 0).strOf) ((st.env 4).intOf) ((st.env 7).intOf) ((st.env 8).intOf) ((nthV (rowOf (st.regs (.loc 3))) 0).cellsOf) R κ else none) else none
theorem t_f21_l0_ok : ∀ st0 R κ r, t_f21_l0 (forget C 21 [0, 1, 0, 1, 1, 1] st0) R κ = some r → ∃ ee ss, κ ee ss = some r ∧ RunP C prim 21 [0, 1, 0, 1, 1, 1] (forget C 21 [0, 1, 0, 1, 1, 1] st0) ee ss := by
  intro st0 R κ r h
  obtain ⟨hs, h⟩ := cond_some h
  obtain ⟨hp, h⟩ := cond_some h
  rw [canon (ls := f21_l0_ls) (rs := f21_l0_rs) (by kernel_rfl) st0 hs]
  obtain ⟨n, hn⟩ := f21_s0_eq _ _ _ _ _ hp
  rw [← hn] at h
  exact f21_l0_ok n _ _ _ _ _ R κ r h

def K_f21 : CallK := kNil
theorem K_f21_ok : KOK C prim K_f21 := KOK.nil
def T_f21 : Tab := tCons [0, 1, 0, 1, 1, 1] t_f21_l0 <| tNil
theorem T_f21_ok : TOK C prim 21 T_f21 := TOK.cons t_f21_l0_ok <| TOK.nil
def f21 (text : ByteArray) : Option (V × List Rg) :=
  bif ((((text.size : Nat) : Int) == ((text.size : Nat) : Int)) && ((0 : Int) == 0) && ((0 : Int) == 0) && (([] : List V).length == 0) && decide (text.size ≤ 1000000000)) then
    bif (decide ((fromP text) < ((text.size : Nat) : Int))) then
      bif ((((decide ((0 : Int) ≤ (fromP text))) && (decide ((fromP text) ≤ ((text.size : Nat) : Int)))) && true) && true) then
        bif (((roomy ((((headP text)).length + 1) * 16)) && (roomy (((headP text)).length + 1))) && true) then
          some (.sl 1 ((headP text) ++ [.sc (.string (text.extract ((fromP text)).toNat (((text.size : Nat) : Int)).toNat))]), [])
        else none
      else none
    else
      some (.sl 1 (headP text), [])
  else none
theorem f21_run (text : ByteArray) (z9 : V × List Rg) (h : f21 text = some z9) : CallR C prim 21 [.sc (.string text)] [] z9 := by
  refine call_fn (K := K_f21) (T := T_f21) K_f21_ok T_f21_ok (by kernel_rfl) ?_
  refine Eq.trans ?_ h
  kernel_rfl

theorem from_last (s : ByteArray) : V.sc (.string (s.extract (fromP s).toNat s.size)) = .sc (.string (lastP s)) := by
  have key : ∀ (l cur : List UInt8), (cur ++ l).drop (cur.length + l.length - (lastL cur l).length) = lastL cur l := by
    intro l
    induction l with
    | nil => intro cur; simp [lastL]
    | cons b r ih =>
      intro cur
      have h1 := ih []
      have h2 := ih (cur ++ [b])
      rw [lastL_cons]
      cases b == 10 with
      | false =>
        simp only [cond_false]
        rw [List.append_assoc, List.singleton_append, List.length_append] at h2
        rw [List.length_cons, show cur.length + (r.length + 1) = cur.length + [b].length + r.length by simp; omega]
        exact h2
      | true =>
        simp only [cond_true]
        have hle := last_le r []
        simp only [List.length_nil, Nat.zero_add, List.nil_append] at h1 hle
        rw [List.length_cons, show cur.length + (r.length + 1) - (lastL [] r).length = (cur ++ [b]).length + (r.length - (lastL [] r).length) by simp; omega, show cur ++ b :: r = (cur ++ [b]) ++ r by simp, List.drop_length_add_append]
        exact h1
  have hle := lastP_le s
  have h := key s.data.toList []
  simp only [List.length_nil, Nat.zero_add, List.nil_append] at h
  congr 1
  congr 1
  refine ba_ext ?_
  have hf : (fromP s).toNat = s.data.toList.length - (lastL [] s.data.toList).length := by
    unfold fromP; rw [← lastP_size, ← bl_size]; omega
  rw [bl_extract, List.take_of_length_le (by rw [bl_size]; exact Nat.le_refl _), hf, h]
  rfl
theorem f21_eq (text : ByteArray) (hp : (decide (text.size ≤ 1000000000)) = true) : f21 text = some (.sl 1 (linesV text), []) := by
  have hq := hp
  simp only [decide_eq_true_eq] at hp
  have hl := lastP_le text
  have hh := headP_le text
  have r1 : roomy (((headP text).length + 1) * 16) = true := dec_true (by omega)
  have r2 : roomy ((headP text).length + 1) = true := dec_true (by omega)
  unfold f21 linesV splitV
  rw [hq, beq_self_eq_true, Int.toNat_natCast, from_last, r1, r2]
  by_cases hz : (lastP text).size = 0
  · rw [dec_false (show ¬ fromP text < ((text.size : Nat) : Int) by unfold fromP; omega), hz]
    rfl
  · have hz2 : ((lastP text).size == 0) = false := by simpa using hz
    rw [dec_true (show fromP text < ((text.size : Nat) : Int) by unfold fromP; omega), dec_true (show (0 : Int) ≤ fromP text by unfold fromP; omega), dec_true (show fromP text ≤ ((text.size : Nat) : Int) by unfold fromP; omega), hz2]
    rfl
def k21 : PrimT := fun vs gs => match vs, gs with
  | [.sc (.string text)], [] => ((decide (text.size ≤ 1000000000)), .sl 1 (linesV text), [])
  | _, _ => (false, .bad, [])
theorem k21_ok : ∀ vs gs x, k21 vs gs = (true, x) → CallR C prim 21 vs gs x := by
  intro vs gs x h
  unfold k21 at h
  split at h
  · simp only [Prod.mk.injEq] at h
    obtain ⟨hp, rfl⟩ := h
    exact f21_run _ _ (f21_eq _ hp)
  · cases h

def K_f19 : CallK := kCons 21 k21 <| kNil
theorem K_f19_ok : KOK C prim K_f19 := KOK.cons k21_ok <| KOK.nil
def T_f19 : Tab := tNil
theorem T_f19_ok : TOK C prim 19 T_f19 := TOK.nil
def f19 (text : ByteArray) : Option (V × List Rg) :=
  bif (decide (((text.size : Nat) : Int) > 65536)) then
    some (.sc (.bool true), [])
  else
    bif ((decide (text.size ≤ 1000000000)) && true) then
      some (.sc (.bool (decide (((((linesV text)).length : Nat) : Int) > 4096))), [])
    else none
theorem f19_run (text : ByteArray) (z9 : V × List Rg) (h : f19 text = some z9) : CallR C prim 19 [.sc (.string text)] [] z9 := by
  refine call_fn (K := K_f19) (T := T_f19) K_f19_ok T_f19_ok (by kernel_rfl) ?_
  refine Eq.trans ?_ h
  kernel_rfl

theorem f19_eq (text : ByteArray) (hp : (decide (text.size ≤ 1000000000)) = true) : f19 text = some (.sc (.bool (largeB text)), []) := by
  unfold f19 largeB
  rw [hp]
  cases decide (((text.size : Nat) : Int) > 65536) <;> rfl
def k19 : PrimT := fun vs gs => match vs, gs with
  | [.sc (.string text)], [] => ((decide (text.size ≤ 1000000000)), .sc (.bool (largeB text)), [])
  | _, _ => (false, .bad, [])
theorem k19_ok : ∀ vs gs x, k19 vs gs = (true, x) → CallR C prim 19 vs gs x := by
  intro vs gs x h
  unfold k19 at h
  split at h
  · simp only [Prod.mk.injEq] at h
    obtain ⟨hp, rfl⟩ := h
    exact f19_run _ _ (f19_eq _ hp)
  · cases h

def K_f97a_l0 : CallK := kCons 68 k68 <| kNil
theorem K_f97a_l0_ok : KOK C prim K_f97a_l0 := KOK.cons k68_ok <| KOK.nil
def T_f97a_l0 : Tab := tNil
theorem T_f97a_l0_ok : TOK C prim 97 T_f97a_l0 := TOK.nil
def f97a_l0 : Nat → List V → Int → Int → (R : Type) → (Ex → St → Option R) → Option R
  | 0, _, _, _, _, _ => none
  | n + 1, s, v7, v8, R, κ =>
    bif (decide (v8 < v7)) then
      bif (((decide ((0 : Int) ≤ v8)) && (decide (v8 < ((s.length : Nat) : Int)))) && true) then
        bif (((V.isStr (nthV s (((v8).toNat * 1) + 0))) && true) && true) then
          bif ((decide ((V.strOf (nthV s (((v8).toNat * 1) + 0))).size ≤ 1000000000)) && true) then
            bif (largeB (V.strOf (nthV s (((v8).toNat * 1) + 0)))) then
              κ .rt (mkS [(4, .sc (.int .i64 v8))] [])
            else
              f97a_l0 n s v7 (IntKind.wrap .i64 (v8 + 1)) R κ
          else none
        else none
      else none
    else
      κ (.ex 0) (mkS [(4, .bad)] [])
def f97a_l0_ls : List (Nat × Pat) := [(0, .sl 1), (1, .is (.fn 68 [] [])), (7, .i .i64), (8, .i .i64)]
def f97a_l0_rs : List RPat := []
theorem f97a_l0_ok (n : Nat) : ∀ (s : List V) (v7 : Int) (v8 : Int) (R : Type) (κ : Ex → St → Option R) (r : R), f97a_l0 n s v7 v8 R κ = some r → ∃ ee ss, κ ee ss = some r ∧ RunP C prim 97 [0, 1, 0, 1] (mkS [(0, .sl 1 s), (1, .fn 68 [] []), (7, .sc (.int .i64 v7)), (8, .sc (.int .i64 v8))] []) ee ss := by
  induction n with
  | zero => intro s v7 v8 R κ r h; cases h
  | succ n ih =>
    intro s v7 v8 R κ r h
    refine loop_round (K := K_f97a_l0) (T := T_f97a_l0) K_f97a_l0_ok T_f97a_l0_ok (p := [0, 1, 0, 1]) (by kernel_rfl) (fun st => bif ckS f97a_l0_ls f97a_l0_rs st then f97a_l0 n ((st.env 0).cellsOf) ((st.env 7).intOf) ((st.env 8).intOf) R κ else none) (fun st0 h0 => ?_) ?_
    · obtain ⟨hs, h0⟩ := cond_some h0
      rw [canon (ls := f97a_l0_ls) (rs := f97a_l0_rs) (by kernel_rfl) st0 hs]
      exact ih _ _ _ R κ r h0
    · refine Eq.trans ?_ h
      kernel_rfl

def f97a_s0 (s : List V) (v7 : Int) (v8 : Int) (R : Type) (κ : Ex → St → Option R) : Option R :=
  bif (s.any largeV) then
    κ .rt (mkS [(4, .sc (.int .i64 ((fstN largeV s : Nat) : Int)))] [])
  else
    κ (.ex 0) (mkS [(4, .bad)] [])
theorem f97a_loop (s : List V) (hs : s.all shortS = true) (hl : s.length ≤ 1000000000) (R : Type) (κ : Ex → St → Option R) : ∀ (k i : Nat), i + k = s.length →
    f97a_l0 (k + 1) s ((s.length : Nat) : Int) ((i : Nat) : Int) R κ = bif (s.drop i).any largeV then κ .rt (mkS [(4, .sc (.int .i64 ((i + fstN largeV (s.drop i) : Nat) : Int)))] []) else κ (.ex 0) (mkS [(4, .bad)] [])
  | 0, i, h => by
    rw [f97a_l0, dec_false (by omega), cond_false, List.drop_of_length_le (by omega)]
    rfl
  | k + 1, i, h => by
    have hlt : i < s.length := by omega
    obtain ⟨g1, g2⟩ := shortS_spec (List.all_eq_true.1 hs _ (List.getElem_mem hlt))
    have IH := f97a_loop s hs hl R κ k (i + 1) (by omega)
    rw [f97a_l0, dec_true (show ((i : Nat) : Int) < ((s.length : Nat) : Int) by omega), dec_true (show (0 : Int) ≤ ((i : Nat) : Int) by omega), nth_at hlt, g1, dec_true g2, wrap_succ (by omega), IH, any_drop hlt, fstN_drop hlt]
    cases hb : largeV s[i] with
    | true =>
      have hb' : largeB s[i].strOf = true := hb
      rw [hb']
      simp only [Bool.and_self, cond_true, Bool.true_or, Nat.add_zero]
    | false =>
      have hb' : largeB s[i].strOf = false := hb
      rw [hb']
      simp only [Bool.and_self, cond_true, cond_false, Bool.false_or]
      rw [show i + 1 + fstN largeV (s.drop (i + 1)) = i + (fstN largeV (s.drop (i + 1)) + 1) by omega]
theorem f97a_s0_eq (s : List V) (v7 : Int) (v8 : Int) (hp : ((v7 == ((s.length : Nat) : Int)) && (v8 == 0) && s.all shortS && decide (s.length ≤ 1000000000)) = true) : ∃ n, ∀ (R : Type) (κ : Ex → St → Option R), f97a_l0 n s v7 v8 R κ = f97a_s0 s v7 v8 R κ := by
  simp only [Bool.and_eq_true, decide_eq_true_eq, beq_iff_eq] at hp
  obtain ⟨⟨⟨rfl, rfl⟩, g3⟩, g4⟩ := hp
  refine ⟨s.length + 1, fun R κ => ?_⟩
  have := f97a_loop s g3 g4 R κ s.length 0 (by omega)
  rw [List.drop_zero, Nat.zero_add] at this
  exact this
def t_f97a_l0 (st : St) (R : Type) (κ : Ex → St → Option R) : Option R := bif ckS f97a_l0_ls f97a_l0_rs st then (bif ((((st.env 7).intOf) == ((((st.env 0).cellsOf).length : Nat) : Int)) && (((st.env 8).intOf) == 0) && ((st.env 0).cellsOf).all shortS && decide (((st.env 0).cellsOf).length ≤ 1000000000)) then f97a_s0 ((st.env 0).cellsOf) ((st.env 7).intOf) ((st.env 8).intOf) R κ else none) else none
theorem t_f97a_l0_ok : ∀ st0 R κ r, t_f97a_l0 (forget C 97 [0, 1, 0, 1] st0) R κ = some r → ∃ ee ss, κ ee ss = some r ∧ RunP C prim 97 [0, 1, 0, 1] (forget C 97 [0, 1, 0, 1] st0) ee ss := by
  intro st0 R κ r h
  obtain ⟨hs, h⟩ := cond_some h
  obtain ⟨hp, h⟩ := cond_some h
  rw [canon (ls := f97a_l0_ls) (rs := f97a_l0_rs) (by kernel_rfl) st0 hs]
  obtain ⟨n, hn⟩ := f97a_s0_eq _ _ _ hp
  rw [← hn] at h
  exact f97a_l0_ok n _ _ _ R κ r h

def K_f97a : CallK := kNil
theorem K_f97a_ok : KOK C prim K_f97a := KOK.nil
def T_f97a : Tab := tCons [0, 1, 0, 1] t_f97a_l0 <| tNil
theorem T_f97a_ok : TOK C prim 97 T_f97a := TOK.cons t_f97a_l0_ok <| TOK.nil
def f97a (s : List V) : Option (V × List Rg) :=
  bif ((((s.length : Nat) : Int) == ((s.length : Nat) : Int)) && ((0 : Int) == 0) && s.all shortS && decide (s.length ≤ 1000000000)) then
    bif (s.any largeV) then
      some (.sc (.int .i64 ((fstN largeV s : Nat) : Int)), [])
    else
      some (.sc (.int .i64 (-1)), [])
  else none
theorem f97a_run (s : List V) (z9 : V × List Rg) (h : f97a s = some z9) : CallR C prim 97 [.sl 1 s, .fn 68 [] []] [] z9 := by
  refine call_fn (K := K_f97a) (T := T_f97a) K_f97a_ok T_f97a_ok (by kernel_rfl) ?_
  refine Eq.trans ?_ h
  kernel_rfl

theorem f97a_eq (s : List V) (hp : (s.all shortS && decide (s.length ≤ 1000000000)) = true) : f97a s = some (.sc (.int .i64 (idxV largeV s)), []) := by
  simp only [Bool.and_eq_true, decide_eq_true_eq] at hp
  unfold f97a idxV
  rw [beq_self_eq_true, hp.1, dec_true hp.2]
  cases s.any largeV <;> rfl
def k97a : PrimT := fun vs gs => match vs, gs with
  | [.sl 1 s, .fn 68 [] []], [] => ((s.all shortS && decide (s.length ≤ 1000000000)), .sc (.int .i64 (idxV largeV s)), [])
  | _, _ => (false, .bad, [])
theorem k97a_ok : ∀ vs gs x, k97a vs gs = (true, x) → CallR C prim 97 vs gs x := by
  intro vs gs x h
  unfold k97a at h
  split at h
  · simp only [Prod.mk.injEq] at h
    obtain ⟨hp, rfl⟩ := h
    exact f97a_run _ _ (f97a_eq _ hp)
  · cases h

def K_f97b_l0 : CallK := kCons 19 k19 <| kNil
theorem K_f97b_l0_ok : KOK C prim K_f97b_l0 := KOK.cons k19_ok <| KOK.nil
def T_f97b_l0 : Tab := tNil
theorem T_f97b_l0_ok : TOK C prim 97 T_f97b_l0 := TOK.nil
def f97b_l0 : Nat → List V → Int → Int → (R : Type) → (Ex → St → Option R) → Option R
  | 0, _, _, _, _, _ => none
  | n + 1, s, v7, v8, R, κ =>
    bif (decide (v8 < v7)) then
      bif (((decide ((0 : Int) ≤ v8)) && (decide (v8 < ((s.length : Nat) : Int)))) && true) then
        bif (((V.isStr (nthV s (((v8).toNat * 1) + 0))) && true) && true) then
          bif ((decide ((V.strOf (nthV s (((v8).toNat * 1) + 0))).size ≤ 1000000000)) && true) then
            bif (largeB (V.strOf (nthV s (((v8).toNat * 1) + 0)))) then
              κ .rt (mkS [(4, .sc (.int .i64 v8))] [])
            else
              f97b_l0 n s v7 (IntKind.wrap .i64 (v8 + 1)) R κ
          else none
        else none
      else none
    else
      κ (.ex 0) (mkS [(4, .bad)] [])
def f97b_l0_ls : List (Nat × Pat) := [(0, .sl 1), (1, .is (.fn 19 [] [])), (7, .i .i64), (8, .i .i64)]
def f97b_l0_rs : List RPat := []
theorem f97b_l0_ok (n : Nat) : ∀ (s : List V) (v7 : Int) (v8 : Int) (R : Type) (κ : Ex → St → Option R) (r : R), f97b_l0 n s v7 v8 R κ = some r → ∃ ee ss, κ ee ss = some r ∧ RunP C prim 97 [0, 1, 0, 1] (mkS [(0, .sl 1 s), (1, .fn 19 [] []), (7, .sc (.int .i64 v7)), (8, .sc (.int .i64 v8))] []) ee ss := by
  induction n with
  | zero => intro s v7 v8 R κ r h; cases h
  | succ n ih =>
    intro s v7 v8 R κ r h
    refine loop_round (K := K_f97b_l0) (T := T_f97b_l0) K_f97b_l0_ok T_f97b_l0_ok (p := [0, 1, 0, 1]) (by kernel_rfl) (fun st => bif ckS f97b_l0_ls f97b_l0_rs st then f97b_l0 n ((st.env 0).cellsOf) ((st.env 7).intOf) ((st.env 8).intOf) R κ else none) (fun st0 h0 => ?_) ?_
    · obtain ⟨hs, h0⟩ := cond_some h0
      rw [canon (ls := f97b_l0_ls) (rs := f97b_l0_rs) (by kernel_rfl) st0 hs]
      exact ih _ _ _ R κ r h0
    · refine Eq.trans ?_ h
      kernel_rfl

def f97b_s0 (s : List V) (v7 : Int) (v8 : Int) (R : Type) (κ : Ex → St → Option R) : Option R :=
  bif (s.any largeV) then
    κ .rt (mkS [(4, .sc (.int .i64 ((fstN largeV s : Nat) : Int)))] [])
  else
    κ (.ex 0) (mkS [(4, .bad)] [])
theorem f97b_loop (s : List V) (hs : s.all shortS = true) (hl : s.length ≤ 1000000000) (R : Type) (κ : Ex → St → Option R) : ∀ (k i : Nat), i + k = s.length →
    f97b_l0 (k + 1) s ((s.length : Nat) : Int) ((i : Nat) : Int) R κ = bif (s.drop i).any largeV then κ .rt (mkS [(4, .sc (.int .i64 ((i + fstN largeV (s.drop i) : Nat) : Int)))] []) else κ (.ex 0) (mkS [(4, .bad)] [])
  | 0, i, h => by
    rw [f97b_l0, dec_false (by omega), cond_false, List.drop_of_length_le (by omega)]
    rfl
  | k + 1, i, h => by
    have hlt : i < s.length := by omega
    obtain ⟨g1, g2⟩ := shortS_spec (List.all_eq_true.1 hs _ (List.getElem_mem hlt))
    have IH := f97b_loop s hs hl R κ k (i + 1) (by omega)
    rw [f97b_l0, dec_true (show ((i : Nat) : Int) < ((s.length : Nat) : Int) by omega), dec_true (show (0 : Int) ≤ ((i : Nat) : Int) by omega), nth_at hlt, g1, dec_true g2, wrap_succ (by omega), IH, any_drop hlt, fstN_drop hlt]
    cases hb : largeV s[i] with
    | true =>
      have hb' : largeB s[i].strOf = true := hb
      rw [hb']
      simp only [Bool.and_self, cond_true, Bool.true_or, Nat.add_zero]
    | false =>
      have hb' : largeB s[i].strOf = false := hb
      rw [hb']
      simp only [Bool.and_self, cond_true, cond_false, Bool.false_or]
      rw [show i + 1 + fstN largeV (s.drop (i + 1)) = i + (fstN largeV (s.drop (i + 1)) + 1) by omega]
theorem f97b_s0_eq (s : List V) (v7 : Int) (v8 : Int) (hp : ((v7 == ((s.length : Nat) : Int)) && (v8 == 0) && s.all shortS && decide (s.length ≤ 1000000000)) = true) : ∃ n, ∀ (R : Type) (κ : Ex → St → Option R), f97b_l0 n s v7 v8 R κ = f97b_s0 s v7 v8 R κ := by
  simp only [Bool.and_eq_true, decide_eq_true_eq, beq_iff_eq] at hp
  obtain ⟨⟨⟨rfl, rfl⟩, g3⟩, g4⟩ := hp
  refine ⟨s.length + 1, fun R κ => ?_⟩
  have := f97b_loop s g3 g4 R κ s.length 0 (by omega)
  rw [List.drop_zero, Nat.zero_add] at this
  exact this
def t_f97b_l0 (st : St) (R : Type) (κ : Ex → St → Option R) : Option R := bif ckS f97b_l0_ls f97b_l0_rs st then (bif ((((st.env 7).intOf) == ((((st.env 0).cellsOf).length : Nat) : Int)) && (((st.env 8).intOf) == 0) && ((st.env 0).cellsOf).all shortS && decide (((st.env 0).cellsOf).length ≤ 1000000000)) then f97b_s0 ((st.env 0).cellsOf) ((st.env 7).intOf) ((st.env 8).intOf) R κ else none) else none
theorem t_f97b_l0_ok : ∀ st0 R κ r, t_f97b_l0 (forget C 97 [0, 1, 0, 1] st0) R κ = some r → ∃ ee ss, κ ee ss = some r ∧ RunP C prim 97 [0, 1, 0, 1] (forget C 97 [0, 1, 0, 1] st0) ee ss := by
  intro st0 R κ r h
  obtain ⟨hs, h⟩ := cond_some h
  obtain ⟨hp, h⟩ := cond_some h
  rw [canon (ls := f97b_l0_ls) (rs := f97b_l0_rs) (by kernel_rfl) st0 hs]
  obtain ⟨n, hn⟩ := f97b_s0_eq _ _ _ hp
  rw [← hn] at h
  exact f97b_l0_ok n _ _ _ R κ r h

def K_f97b : CallK := kNil
theorem K_f97b_ok : KOK C prim K_f97b := KOK.nil
def T_f97b : Tab := tCons [0, 1, 0, 1] t_f97b_l0 <| tNil
theorem T_f97b_ok : TOK C prim 97 T_f97b := TOK.cons t_f97b_l0_ok <| TOK.nil
def f97b (s : List V) : Option (V × List Rg) :=
  bif ((((s.length : Nat) : Int) == ((s.length : Nat) : Int)) && ((0 : Int) == 0) && s.all shortS && decide (s.length ≤ 1000000000)) then
    bif (s.any largeV) then
      some (.sc (.int .i64 ((fstN largeV s : Nat) : Int)), [])
    else
      some (.sc (.int .i64 (-1)), [])
  else none
theorem f97b_run (s : List V) (z9 : V × List Rg) (h : f97b s = some z9) : CallR C prim 97 [.sl 1 s, .fn 19 [] []] [] z9 := by
  refine call_fn (K := K_f97b) (T := T_f97b) K_f97b_ok T_f97b_ok (by kernel_rfl) ?_
  refine Eq.trans ?_ h
  kernel_rfl

theorem f97b_eq (s : List V) (hp : (s.all shortS && decide (s.length ≤ 1000000000)) = true) : f97b s = some (.sc (.int .i64 (idxV largeV s)), []) := by
  simp only [Bool.and_eq_true, decide_eq_true_eq] at hp
  unfold f97b idxV
  rw [beq_self_eq_true, hp.1, dec_true hp.2]
  cases s.any largeV <;> rfl
def k97b : PrimT := fun vs gs => match vs, gs with
  | [.sl 1 s, .fn 19 [] []], [] => ((s.all shortS && decide (s.length ≤ 1000000000)), .sc (.int .i64 (idxV largeV s)), [])
  | _, _ => (false, .bad, [])
theorem k97b_ok : ∀ vs gs x, k97b vs gs = (true, x) → CallR C prim 97 vs gs x := by
  intro vs gs x h
  unfold k97b at h
  split at h
  · simp only [Prod.mk.injEq] at h
    obtain ⟨hp, rfl⟩ := h
    exact f97b_run _ _ (f97b_eq _ hp)
  · cases h

def k97 : PrimT := fun vs gs => bif isFn 68 vs then k97a vs gs else k97b vs gs
theorem k97_ok : ∀ vs gs x, k97 vs gs = (true, x) → CallR C prim 97 vs gs x := by
  intro vs gs x h
  unfold k97 at h
  cases hb0 : isFn 68 vs with
  | true => rw [hb0] at h; exact k97a_ok vs gs x h
  | false =>
  rw [hb0] at h
  exact k97b_ok vs gs x h

def K_f59a : CallK := kCons 97 k97 <| kNil
theorem K_f59a_ok : KOK C prim K_f59a := KOK.cons k97_ok <| KOK.nil
def T_f59a : Tab := tNil
theorem T_f59a_ok : TOK C prim 59 T_f59a := TOK.nil
def f59a (s : List V) : Option (V × List Rg) :=
  bif ((s.all shortS && decide (s.length ≤ 1000000000)) && true) then
    some (.sc (.bool (decide ((idxV largeV s) ≥ 0))), [])
  else none
theorem f59a_run (s : List V) (z9 : V × List Rg) (h : f59a s = some z9) : CallR C prim 59 [.sl 1 s, .fn 68 [] []] [] z9 := by
  refine call_fn (K := K_f59a) (T := T_f59a) K_f59a_ok T_f59a_ok (by kernel_rfl) ?_
  refine Eq.trans ?_ h
  kernel_rfl

theorem f59a_eq (s : List V) (hp : (s.all shortS && decide (s.length ≤ 1000000000)) = true) : f59a s = some (.sc (.bool (s.any largeV)), []) := by
  unfold f59a
  rw [hp, idxV_ge]
  rfl
def k59a : PrimT := fun vs gs => match vs, gs with
  | [.sl 1 s, .fn 68 [] []], [] => ((s.all shortS && decide (s.length ≤ 1000000000)), .sc (.bool (s.any largeV)), [])
  | _, _ => (false, .bad, [])
theorem k59a_ok : ∀ vs gs x, k59a vs gs = (true, x) → CallR C prim 59 vs gs x := by
  intro vs gs x h
  unfold k59a at h
  split at h
  · simp only [Prod.mk.injEq] at h
    obtain ⟨hp, rfl⟩ := h
    exact f59a_run _ _ (f59a_eq _ hp)
  · cases h

def K_f59b : CallK := kCons 97 k97 <| kNil
theorem K_f59b_ok : KOK C prim K_f59b := KOK.cons k97_ok <| KOK.nil
def T_f59b : Tab := tNil
theorem T_f59b_ok : TOK C prim 59 T_f59b := TOK.nil
def f59b (s : List V) : Option (V × List Rg) :=
  bif ((s.all shortS && decide (s.length ≤ 1000000000)) && true) then
    some (.sc (.bool (decide ((idxV largeV s) ≥ 0))), [])
  else none
theorem f59b_run (s : List V) (z9 : V × List Rg) (h : f59b s = some z9) : CallR C prim 59 [.sl 1 s, .fn 19 [] []] [] z9 := by
  refine call_fn (K := K_f59b) (T := T_f59b) K_f59b_ok T_f59b_ok (by kernel_rfl) ?_
  refine Eq.trans ?_ h
  kernel_rfl

theorem f59b_eq (s : List V) (hp : (s.all shortS && decide (s.length ≤ 1000000000)) = true) : f59b s = some (.sc (.bool (s.any largeV)), []) := by
  unfold f59b
  rw [hp, idxV_ge]
  rfl
def k59b : PrimT := fun vs gs => match vs, gs with
  | [.sl 1 s, .fn 19 [] []], [] => ((s.all shortS && decide (s.length ≤ 1000000000)), .sc (.bool (s.any largeV)), [])
  | _, _ => (false, .bad, [])
theorem k59b_ok : ∀ vs gs x, k59b vs gs = (true, x) → CallR C prim 59 vs gs x := by
  intro vs gs x h
  unfold k59b at h
  split at h
  · simp only [Prod.mk.injEq] at h
    obtain ⟨hp, rfl⟩ := h
    exact f59b_run _ _ (f59b_eq _ hp)
  · cases h

def k59 : PrimT := fun vs gs => bif isFn 68 vs then k59a vs gs else k59b vs gs
theorem k59_ok : ∀ vs gs x, k59 vs gs = (true, x) → CallR C prim 59 vs gs x := by
  intro vs gs x h
  unfold k59 at h
  cases hb0 : isFn 68 vs with
  | true => rw [hb0] at h; exact k59a_ok vs gs x h
  | false =>
  rw [hb0] at h
  exact k59b_ok vs gs x h

def K_f52 : CallK := kCons 59 k59 <| kNil
theorem K_f52_ok : KOK C prim K_f52 := KOK.cons k59_ok <| KOK.nil
def T_f52 : Tab := tNil
theorem T_f52_ok : TOK C prim 52 T_f52 := TOK.nil
def f52 (texts : List V) : Option (V × List Rg) :=
  bif ((texts.all shortS && decide (texts.length ≤ 1000000000)) && true) then
    bif (texts.any largeV) then
      some (.sc (.int .i64 2), [])
    else
      some (.sc (.int .i64 0), [])
  else none
theorem f52_run (texts : List V) (z9 : V × List Rg) (h : f52 texts = some z9) : CallR C prim 52 [.sl 1 texts] [] z9 := by
  refine call_fn (K := K_f52) (T := T_f52) K_f52_ok T_f52_ok (by kernel_rfl) ?_
  refine Eq.trans ?_ h
  kernel_rfl

theorem f52_eq (texts : List V) (hp : (texts.all shortS && decide (texts.length ≤ 1000000000)) = true) : f52 texts = some (.sc (.int .i64 (bif texts.any largeV then (2 : Int) else 0)), []) := by
  unfold f52
  rw [hp]
  cases texts.any largeV <;> rfl
def k52 : PrimT := fun vs gs => match vs, gs with
  | [.sl 1 texts], [] => ((texts.all shortS && decide (texts.length ≤ 1000000000)), .sc (.int .i64 (bif texts.any largeV then (2 : Int) else 0)), [])
  | _, _ => (false, .bad, [])
theorem k52_ok : ∀ vs gs x, k52 vs gs = (true, x) → CallR C prim 52 vs gs x := by
  intro vs gs x h
  unfold k52 at h
  split at h
  · simp only [Prod.mk.injEq] at h
    obtain ⟨hp, rfl⟩ := h
    exact f52_run _ _ (f52_eq _ hp)
  · cases h

def K_f24 : CallK := kCons 59 k59 <| kNil
theorem K_f24_ok : KOK C prim K_f24 := KOK.cons k59_ok <| KOK.nil
def T_f24 : Tab := tNil
theorem T_f24_ok : TOK C prim 24 T_f24 := TOK.nil
def f24 (texts : List V) : Option (V × List Rg) :=
  bif ((texts.all shortS && decide (texts.length ≤ 1000000000)) && true) then
    bif (texts.any largeV) then
      some (.sc (.int .i64 2), [])
    else
      some (.sc (.int .i64 0), [])
  else none
theorem f24_run (texts : List V) (z9 : V × List Rg) (h : f24 texts = some z9) : CallR C prim 24 [.sl 1 texts] [] z9 := by
  refine call_fn (K := K_f24) (T := T_f24) K_f24_ok T_f24_ok (by kernel_rfl) ?_
  refine Eq.trans ?_ h
  kernel_rfl

theorem f24_eq (texts : List V) (hp : (texts.all shortS && decide (texts.length ≤ 1000000000)) = true) : f24 texts = some (.sc (.int .i64 (bif texts.any largeV then (2 : Int) else 0)), []) := by
  unfold f24
  rw [hp]
  cases texts.any largeV <;> rfl
def k24 : PrimT := fun vs gs => match vs, gs with
  | [.sl 1 texts], [] => ((texts.all shortS && decide (texts.length ≤ 1000000000)), .sc (.int .i64 (bif texts.any largeV then (2 : Int) else 0)), [])
  | _, _ => (false, .bad, [])
theorem k24_ok : ∀ vs gs x, k24 vs gs = (true, x) → CallR C prim 24 vs gs x := by
  intro vs gs x h
  unfold k24 at h
  split at h
  · simp only [Prod.mk.injEq] at h
    obtain ⟨hp, rfl⟩ := h
    exact f24_run _ _ (f24_eq _ hp)
  · cases h

def K_f55 : CallK := kNil
theorem K_f55_ok : KOK C prim K_f55 := KOK.nil
def T_f55 : Tab := tNil
theorem T_f55_ok : TOK C prim 55 T_f55 := TOK.nil
def f55 (n' : Int) (low : Int) (high : Int) : Option (V × List Rg) :=
  bif (decide (n' ≥ low)) then
    some (.sc (.bool (decide (n' ≤ high))), [])
  else
    some (.sc (.bool false), [])
theorem f55_run (n' : Int) (low : Int) (high : Int) (z9 : V × List Rg) (h : f55 n' low high = some z9) : CallR C prim 55 [.sc (.int .i64 n'), .sc (.int .i64 low), .sc (.int .i64 high)] [] z9 := by
  refine call_fn (K := K_f55) (T := T_f55) K_f55_ok T_f55_ok (by kernel_rfl) ?_
  refine Eq.trans ?_ h
  kernel_rfl

theorem f55_eq (n' : Int) (low : Int) (high : Int) : f55 n' low high = some (.sc (.bool (decide (n' ≥ low) && decide (n' ≤ high))), []) := by
  unfold f55
  cases decide (n' ≥ low) <;> rfl
def k55 : PrimT := fun vs gs => match vs, gs with
  | [.sc (.int .i64 n'), .sc (.int .i64 low), .sc (.int .i64 high)], [] => (true, .sc (.bool (decide (n' ≥ low) && decide (n' ≤ high))), [])
  | _, _ => (false, .bad, [])
theorem k55_ok : ∀ vs gs x, k55 vs gs = (true, x) → CallR C prim 55 vs gs x := by
  intro vs gs x h
  unfold k55 at h
  split at h
  · simp only [Prod.mk.injEq, true_and] at h
    subst h
    exact f55_run _ _ _ _ (f55_eq _ _ _)
  · cases h

def K_f23 : CallK := kNil
theorem K_f23_ok : KOK C prim K_f23 := KOK.nil
def T_f23 : Tab := tNil
theorem T_f23_ok : TOK C prim 23 T_f23 := TOK.nil
def f23 (n' : Int) (low : Int) (high : Int) : Option (V × List Rg) :=
  bif (decide (n' ≥ low)) then
    some (.sc (.bool (decide (n' ≤ high))), [])
  else
    some (.sc (.bool false), [])
theorem f23_run (n' : Int) (low : Int) (high : Int) (z9 : V × List Rg) (h : f23 n' low high = some z9) : CallR C prim 23 [.sc (.int .i64 n'), .sc (.int .i64 low), .sc (.int .i64 high)] [] z9 := by
  refine call_fn (K := K_f23) (T := T_f23) K_f23_ok T_f23_ok (by kernel_rfl) ?_
  refine Eq.trans ?_ h
  kernel_rfl

theorem f23_eq (n' : Int) (low : Int) (high : Int) : f23 n' low high = some (.sc (.bool (decide (n' ≥ low) && decide (n' ≤ high))), []) := by
  unfold f23
  cases decide (n' ≥ low) <;> rfl
def k23 : PrimT := fun vs gs => match vs, gs with
  | [.sc (.int .i64 n'), .sc (.int .i64 low), .sc (.int .i64 high)], [] => (true, .sc (.bool (decide (n' ≥ low) && decide (n' ≤ high))), [])
  | _, _ => (false, .bad, [])
theorem k23_ok : ∀ vs gs x, k23 vs gs = (true, x) → CallR C prim 23 vs gs x := by
  intro vs gs x h
  unfold k23 at h
  split at h
  · simp only [Prod.mk.injEq, true_and] at h
    subst h
    exact f23_run _ _ _ _ (f23_eq _ _ _)
  · cases h

def K_f14 : CallK := kNil
theorem K_f14_ok : KOK C prim K_f14 := KOK.nil
def T_f14 : Tab := tNil
theorem T_f14_ok : TOK C prim 14 T_f14 := TOK.nil
def f14 (is : Bool) (e : Int) : Option (V × List Rg) :=
  bif is then
    some (.sc (.int .i64 e), [])
  else
    some (.sc (.int .i64 0), [])
theorem f14_run (is : Bool) (e : Int) (z9 : V × List Rg) (h : f14 is e = some z9) : CallR C prim 14 [.sc (.bool is), .sc (.int .i64 e)] [] z9 := by
  refine call_fn (K := K_f14) (T := T_f14) K_f14_ok T_f14_ok (by kernel_rfl) ?_
  refine Eq.trans ?_ h
  kernel_rfl

theorem f14_eq (is : Bool) (e : Int) : f14 is e = some (.sc (.int .i64 (bif is then e else 0)), []) := by cases is <;> rfl
def k14 : PrimT := fun vs gs => match vs, gs with
  | [.sc (.bool is), .sc (.int .i64 e)], [] => (true, .sc (.int .i64 (bif is then e else 0)), [])
  | _, _ => (false, .bad, [])
theorem k14_ok : ∀ vs gs x, k14 vs gs = (true, x) → CallR C prim 14 vs gs x := by
  intro vs gs x h
  unfold k14 at h
  split at h
  · simp only [Prod.mk.injEq, true_and] at h
    subst h
    exact f14_run _ _ _ (f14_eq _ _)
  · cases h

def K_f25 : CallK := kNil
theorem K_f25_ok : KOK C prim K_f25 := KOK.nil
def T_f25 : Tab := tNil
theorem T_f25_ok : TOK C prim 25 T_f25 := TOK.nil
def f25 (s : ByteArray) (e : Int) (want : ByteArray) (f : Int) : Option (V × List Rg) :=
  bif (f != 0) then
    bif (strEq s (⟨#[]⟩ : ByteArray)) then
      some (.sc (.bool (e == f)), [])
    else
      some (.sc (.bool false), [])
  else
    bif (strEq s want) then
      some (.sc (.bool (e == 0)), [])
    else
      some (.sc (.bool false), [])
theorem f25_run (s : ByteArray) (e : Int) (want : ByteArray) (f : Int) (z9 : V × List Rg) (h : f25 s e want f = some z9) : CallR C prim 25 [.sc (.string s), .sc (.int .i64 e), .sc (.string want), .sc (.int .i64 f)] [] z9 := by
  refine call_fn (K := K_f25) (T := T_f25) K_f25_ok T_f25_ok (by kernel_rfl) ?_
  refine Eq.trans ?_ h
  kernel_rfl

theorem f25_eq (s : ByteArray) (e : Int) (want : ByteArray) (f : Int) : f25 s e want f = some (.sc (.bool (outc s e want f)), []) := by
  unfold f25 outc
  cases f != 0
  · cases strEq s want <;> rfl
  · cases strEq s ⟨#[]⟩ <;> rfl
def k25 : PrimT := fun vs gs => match vs, gs with
  | [.sc (.string s), .sc (.int .i64 e), .sc (.string want), .sc (.int .i64 f)], [] => (true, .sc (.bool (outc s e want f)), [])
  | _, _ => (false, .bad, [])
theorem k25_ok : ∀ vs gs x, k25 vs gs = (true, x) → CallR C prim 25 vs gs x := by
  intro vs gs x h
  unfold k25 at h
  split at h
  · simp only [Prod.mk.injEq, true_and] at h
    subst h
    exact f25_run _ _ _ _ _ (f25_eq _ _ _ _)
  · cases h

def K_f12_l0 : CallK := kNil
theorem K_f12_l0_ok : KOK C prim K_f12_l0 := KOK.nil
def T_f12_l0 : Tab := tNil
theorem T_f12_l0_ok : TOK C prim 12 T_f12_l0 := TOK.nil
def f12_l0 : Nat → List V → Int → Int → (R : Type) → (Ex → St → Option R) → Option R
  | 0, _, _, _, _, _ => none
  | n + 1, v5, v6, v7, R, κ =>
    bif (decide (v7 < v6)) then
      bif (((decide ((0 : Int) ≤ v7)) && (decide (v7 < ((v5.length : Nat) : Int)))) && true) then
        bif (((V.isInt .i64 (nthV v5 (((v7).toNat * 1) + 0))) && true) && true) then
          bif ((V.intOf (nthV v5 (((v7).toNat * 1) + 0))) != 0) then
            κ .rt (mkS [(2, .sc (.int .i64 (V.intOf (nthV v5 (((v7).toNat * 1) + 0)))))] [])
          else
            f12_l0 n v5 v6 (IntKind.wrap .i64 (v7 + 1)) R κ
        else none
      else none
    else
      κ (.ex 0) (mkS [(2, .bad)] [])
def f12_l0_ls : List (Nat × Pat) := [(5, .sl 1), (6, .i .i64), (7, .i .i64)]
def f12_l0_rs : List RPat := []
theorem f12_l0_ok (n : Nat) : ∀ (v5 : List V) (v6 : Int) (v7 : Int) (R : Type) (κ : Ex → St → Option R) (r : R), f12_l0 n v5 v6 v7 R κ = some r → ∃ ee ss, κ ee ss = some r ∧ RunP C prim 12 [0, 1, 0, 1] (mkS [(5, .sl 1 v5), (6, .sc (.int .i64 v6)), (7, .sc (.int .i64 v7))] []) ee ss := by
  induction n with
  | zero => intro v5 v6 v7 R κ r h; cases h
  | succ n ih =>
    intro v5 v6 v7 R κ r h
    refine loop_round (K := K_f12_l0) (T := T_f12_l0) K_f12_l0_ok T_f12_l0_ok (p := [0, 1, 0, 1]) (by kernel_rfl) (fun st => bif ckS f12_l0_ls f12_l0_rs st then f12_l0 n ((st.env 5).cellsOf) ((st.env 6).intOf) ((st.env 7).intOf) R κ else none) (fun st0 h0 => ?_) ?_
    · obtain ⟨hs, h0⟩ := cond_some h0
      rw [canon (ls := f12_l0_ls) (rs := f12_l0_rs) (by kernel_rfl) st0 hs]
      exact ih _ _ _ R κ r h0
    · refine Eq.trans ?_ h
      kernel_rfl

def f12_s0 (v5 : List V) (v6 : Int) (v7 : Int) (R : Type) (κ : Ex → St → Option R) : Option R :=
  bif (firstBy V.intOf v5 != 0) then
    κ .rt (mkS [(2, .sc (.int .i64 (firstBy V.intOf v5)))] [])
  else
    κ (.ex 0) (mkS [(2, .bad)] [])
theorem f12_s0_eq (v5 : List V) (v6 : Int) (v7 : Int) (hp : ((v6 == ((v5.length : Nat) : Int)) && (v7 == 0) && v5.all (V.isInt .i64) && decide (v5.length ≤ 1000000000)) = true) : ∃ n, ∀ (R : Type) (κ : Ex → St → Option R), f12_l0 n v5 v6 v7 R κ = f12_s0 v5 v6 v7 R κ := by
  simp only [Bool.and_eq_true, decide_eq_true_eq, beq_iff_eq] at hp
  obtain ⟨⟨⟨rfl, rfl⟩, h3⟩, h4⟩ := hp
  refine ⟨v5.length + 1, fun R κ => ?_⟩
  refine errLoop (fun n k => f12_l0 n v5 ((v5.length : Nat) : Int) k R κ) v5 V.intOf (fun e => κ .rt (mkS [(2, .sc (.int .i64 e))] [])) (κ (.ex 0) (mkS [(2, .bad)] [])) ?_ ?_ v5.length 0 (by omega) _ (by omega)
  · intro n k hk
    have hs : V.isInt .i64 v5[k] = true := List.all_eq_true.1 h3 _ (List.getElem_mem hk)
    show f12_l0 (n + 1) v5 ((v5.length : Nat) : Int) (k : Int) R κ = _
    rw [f12_l0, dec_true (show (k : Int) < ((v5.length : Nat) : Int) by omega), dec_true (show (0 : Int) ≤ (k : Int) by omega), nth_at hk, hs, wrap_succ (by omega)]
    rfl
  · intro n
    show f12_l0 (n + 1) v5 ((v5.length : Nat) : Int) ((v5.length : Nat) : Int) R κ = _
    rw [f12_l0, dec_false (by omega)]
    rfl
def t_f12_l0 (st : St) (R : Type) (κ : Ex → St → Option R) : Option R := bif ckS f12_l0_ls f12_l0_rs st then (bif ((((st.env 6).intOf) == ((((st.env 5).cellsOf).length : Nat) : Int)) && (((st.env 7).intOf) == 0) && ((st.env 5).cellsOf).all (V.isInt .i64) && decide (((st.env 5).cellsOf).length ≤ 1000000000)) then f12_s0 ((st.env 5).cellsOf) ((st.env 6).intOf) ((st.env 7).intOf) R κ else none) else none
theorem t_f12_l0_ok : ∀ st0 R κ r, t_f12_l0 (forget C 12 [0, 1, 0, 1] st0) R κ = some r → ∃ ee ss, κ ee ss = some r ∧ RunP C prim 12 [0, 1, 0, 1] (forget C 12 [0, 1, 0, 1] st0) ee ss := by
  intro st0 R κ r h
  obtain ⟨hs, h⟩ := cond_some h
  obtain ⟨hp, h⟩ := cond_some h
  rw [canon (ls := f12_l0_ls) (rs := f12_l0_rs) (by kernel_rfl) st0 hs]
  obtain ⟨n, hn⟩ := f12_s0_eq _ _ _ hp
  rw [← hn] at h
  exact f12_l0_ok n _ _ _ R κ r h

def K_f12 : CallK := kNil
theorem K_f12_ok : KOK C prim K_f12 := KOK.nil
def T_f12 : Tab := tCons [0, 1, 0, 1] t_f12_l0 <| tNil
theorem T_f12_ok : TOK C prim 12 T_f12 := TOK.cons t_f12_l0_ok <| TOK.nil
def f12 (l : List V) : Option (V × List Rg) :=
  bif ((((l.length : Nat) : Int) == ((l.length : Nat) : Int)) && ((0 : Int) == 0) && l.all (V.isInt .i64) && decide (l.length ≤ 1000000000)) then
    bif (firstBy V.intOf l != 0) then
      some (.sc (.int .i64 (firstBy V.intOf l)), [])
    else
      some (.sc (.int .i64 0), [])
  else none
theorem f12_run (l : List V) (z9 : V × List Rg) (h : f12 l = some z9) : CallR C prim 12 [.sl 1 l] [] z9 := by
  refine call_fn (K := K_f12) (T := T_f12) K_f12_ok T_f12_ok (by kernel_rfl) ?_
  refine Eq.trans ?_ h
  kernel_rfl

theorem f12_eq (l : List V) (hp : (l.all (V.isInt .i64) && decide (l.length ≤ 1000000000)) = true) : f12 l = some (.sc (.int .i64 (firstBy V.intOf l)), []) := by
  simp only [Bool.and_eq_true, decide_eq_true_eq] at hp
  unfold f12
  rw [hp.1, dec_true hp.2]
  simp only [beq_self_eq_true, Bool.and_true, cond_true]
  exact zero_or (x := firstBy V.intOf l) (fun e => some (V.sc (.int .i64 e), []))
def k12 : PrimT := fun vs gs => match vs, gs with
  | [.sl 1 l], [] => ((l.all (V.isInt .i64) && decide (l.length ≤ 1000000000)), .sc (.int .i64 (firstBy V.intOf l)), [])
  | _, _ => (false, .bad, [])
theorem k12_ok : ∀ vs gs x, k12 vs gs = (true, x) → CallR C prim 12 vs gs x := by
  intro vs gs x h
  unfold k12 at h
  split at h
  · simp only [Prod.mk.injEq] at h
    obtain ⟨hp, rfl⟩ := h
    exact f12_run _ _ (f12_eq _ hp)
  · cases h

def K_f120 : CallK := kNil
theorem K_f120_ok : KOK C prim K_f120 := KOK.nil
def T_f120 : Tab := tNil
theorem T_f120_ok : TOK C prim 120 T_f120 := TOK.nil
def f120 (x : ByteArray) : Option (V × List Rg) :=
  some (.sc (.bool (!(strEq x x))), [])
theorem f120_run (x : ByteArray) (z9 : V × List Rg) (h : f120 x = some z9) : CallR C prim 120 [.sc (.string x)] [] z9 := by
  refine call_fn (K := K_f120) (T := T_f120) K_f120_ok T_f120_ok (by kernel_rfl) ?_
  refine Eq.trans ?_ h
  kernel_rfl

theorem f120_eq (x : ByteArray) : f120 x = some (.sc (.bool false), []) := by
  unfold f120
  rw [strEq_self]
  rfl
def k120 : PrimT := fun vs gs => match vs, gs with
  | [.sc (.string x)], [] => (true, .sc (.bool false), [])
  | _, _ => (false, .bad, [])
theorem k120_ok : ∀ vs gs x, k120 vs gs = (true, x) → CallR C prim 120 vs gs x := by
  intro vs gs x h
  unfold k120 at h
  split at h
  · simp only [Prod.mk.injEq, true_and] at h
    subst h
    exact f120_run _ _ (f120_eq _)
  · cases h

def K_f78 : CallK := kCons 110 k110 <| kNil
theorem K_f78_ok : KOK C prim K_f78 := KOK.cons k110_ok <| KOK.nil
def T_f78 : Tab := tNil
theorem T_f78_ok : TOK C prim 78 T_f78 := TOK.nil
def f78 (s : ByteArray) (r01 : List V) : Option (V × List Rg) :=
  bif (((roomy ((r01.length + ((bytesV s)).length) * 1)) && (roomy (r01.length + ((bytesV s)).length))) && true) then
    some (.tp [.sc (.int .i64 ((s.size : Nat) : Int)), .sc .nilIface], [⟨true, [.slf, .own 5 false (r01 ++ (bytesV s))]⟩])
  else none
theorem f78_run (s : ByteArray) (r01 : List V) (z9 : V × List Rg) (h : f78 s r01 = some z9) : CallR C prim 78 [.ptrB (.par 0) 0, .sc (.string s)] [⟨true, [.slf, .own 5 false r01]⟩] z9 := by
  refine call_fn (K := K_f78) (T := T_f78) K_f78_ok T_f78_ok (by kernel_rfl) ?_
  refine Eq.trans ?_ h
  kernel_rfl

theorem f78_eq (s : ByteArray) (r01 : List V) (hp : (roomB r01 s) = true) : f78 s r01 = some (.tp [.sc (.int .i64 ((s.size : Nat) : Int)), .sc .nilIface], [⟨true, [.slf, .own 5 false (r01 ++ bytesV s)]⟩]) := by
  unfold roomB at hp
  have h := of_decide_eq_true hp
  unfold f78 roomy
  rw [bytesV_len, dec_true (by omega), dec_true (by omega)]
  rfl
def k78 : PrimT := fun vs gs => match vs, gs with
  | [.ptrB (.par 0) 0, .sc (.string s)], [⟨true, [.slf, .own 5 false r01]⟩] => ((roomB r01 s), .tp [.sc (.int .i64 ((s.size : Nat) : Int)), .sc .nilIface], [⟨true, [.slf, .own 5 false (r01 ++ bytesV s)]⟩])
  | _, _ => (false, .bad, [])
theorem k78_ok : ∀ vs gs x, k78 vs gs = (true, x) → CallR C prim 78 vs gs x := by
  intro vs gs x h
  unfold k78 at h
  split at h
  · simp only [Prod.mk.injEq] at h
    obtain ⟨hp, rfl⟩ := h
    exact f78_run _ _ _ (f78_eq _ _ hp)
  · cases h

def K_f58_l0 : CallK := kCons 78 k78 <| kNil
theorem K_f58_l0_ok : KOK C prim K_f58_l0 := KOK.cons k78_ok <| KOK.nil
def T_f58_l0 : Tab := tNil
theorem T_f58_l0_ok : TOK C prim 58 T_f58_l0 := TOK.nil
def f58_l0 : Nat → List V → Int → Int → List V → (R : Type) → (Ex → St → Option R) → Option R
  | 0, _, _, _, _, _, _ => none
  | n + 1, v6, v7, v8, b1, R, κ =>
    bif (decide (v8 < v7)) then
      bif (((decide ((0 : Int) ≤ v8)) && (decide (v8 < ((v6.length : Nat) : Int)))) && true) then
        bif (((V.isStr (nthV v6 (((v8).toNat * 1) + 0))) && true) && true) then
          bif ((decide (((V.strOf (nthV v6 (((v8).toNat * 1) + 0))).size + 1) ≤ 9223372036854775807)) && true) then
            bif ((roomB b1 ((V.strOf (nthV v6 (((v8).toNat * 1) + 0))) ++ (⟨#[10]⟩ : ByteArray))) && true) then
              f58_l0 n v6 v7 (IntKind.wrap .i64 (v8 + 1)) (b1 ++ bytesV ((V.strOf (nthV v6 (((v8).toNat * 1) + 0))) ++ (⟨#[10]⟩ : ByteArray))) R κ
            else none
          else none
        else none
      else none
    else
      κ (.ex 0) (mkS [(2, .bad), (3, .ptrB (.loc 3) 0)] [(.loc 3, some ⟨true, [.slf, .own 5 false b1]⟩)])
def f58_l0_ls : List (Nat × Pat) := [(3, .is (.ptrB (.loc 3) 0)), (6, .sl 1), (7, .i .i64), (8, .i .i64)]
def f58_l0_rs : List RPat := [⟨.loc 3, true, [.is (.slf), .own 5 false]⟩]
theorem f58_l0_ok (n : Nat) : ∀ (v6 : List V) (v7 : Int) (v8 : Int) (b1 : List V) (R : Type) (κ : Ex → St → Option R) (r : R), f58_l0 n v6 v7 v8 b1 R κ = some r → ∃ ee ss, κ ee ss = some r ∧ RunP C prim 58 [0, 1, 0, 1, 1] (mkS [(3, .ptrB (.loc 3) 0), (6, .sl 1 v6), (7, .sc (.int .i64 v7)), (8, .sc (.int .i64 v8))] [(.loc 3, some ⟨true, [.slf, .own 5 false b1]⟩)]) ee ss := by
  induction n with
  | zero => intro v6 v7 v8 b1 R κ r h; cases h
  | succ n ih =>
    intro v6 v7 v8 b1 R κ r h
    refine loop_round (K := K_f58_l0) (T := T_f58_l0) K_f58_l0_ok T_f58_l0_ok (p := [0, 1, 0, 1, 1]) (by kernel_rfl) (fun st => bif ckS f58_l0_ls f58_l0_rs st then f58_l0 n ((st.env 6).cellsOf) ((st.env 7).intOf) ((st.env 8).intOf) ((nthV (rowOf (st.regs (.loc 3))) 1).cellsOf) R κ else none) (fun st0 h0 => ?_) ?_
    · obtain ⟨hs, h0⟩ := cond_some h0
      rw [canon (ls := f58_l0_ls) (rs := f58_l0_rs) (by kernel_rfl) st0 hs]
      exact ih _ _ _ _ R κ r h0
    · refine Eq.trans ?_ h
      kernel_rfl

def f58_s0 (v6 : List V) (v7 : Int) (v8 : Int) (b1 : List V) (R : Type) (κ : Ex → St → Option R) : Option R :=
  κ (.ex 0) (mkS [(2, .bad), (3, .ptrB (.loc 3) 0)] [(.loc 3, some ⟨true, [.slf, .own 5 false (b1 ++ bytesV (resB v6))]⟩)])
theorem f58_l0_c (v6 : List V) (hu : v6.all V.isStr = true) (hl : v6.length ≤ 1000000000) : ∀ (m k : Nat) (r : List V), k + m = v6.length → r.length + (resB (v6.drop k)).size ≤ 100000000000 → ∀ n, m < n → ∀ (R : Type) (κ : Ex → St → Option R), f58_l0 n v6 ((v6.length : Nat) : Int) (k : Int) r R κ = κ (.ex 0) (mkS [(2, .bad), (3, .ptrB (.loc 3) 0)] [(.loc 3, some ⟨true, [.slf, .own 5 false (r ++ bytesV (resB (v6.drop k)))]⟩)]) := by
  intro m
  induction m with
  | zero =>
    intro k r hk hs n hn R κ
    obtain ⟨n, rfl⟩ : ∃ j, n = j + 1 := ⟨n - 1, by omega⟩
    rw [List.drop_of_length_le (by omega), f58_l0, dec_false (by omega)]
    unfold resB
    rw [bytesV_nil, List.append_nil]
    rfl
  | succ m ih =>
    intro k r hk hs n hn R κ
    obtain ⟨n, rfl⟩ : ∃ j, n = j + 1 := ⟨n - 1, by omega⟩
    have hlt : k < v6.length := by omega
    have hx : V.isStr v6[k] = true := List.all_eq_true.1 hu _ (List.getElem_mem hlt)
    rw [List.drop_eq_getElem_cons hlt] at hs ⊢
    unfold resB at hs ⊢
    have e10 : (⟨#[10]⟩ : ByteArray).size = 1 := rfl
    simp only [ba_size_append, e10] at hs
    have hroom : roomB r (v6[k].strOf ++ (⟨#[10]⟩ : ByteArray)) = true := by
      unfold roomB
      rw [ba_size_append, e10]
      exact dec_true (by omega)
    rw [f58_l0, dec_true (show (k : Int) < ((v6.length : Nat) : Int) by omega), dec_true (show (0 : Int) ≤ (k : Int) by omega), nth_at hlt, hx, dec_true (show v6[k].strOf.size + 1 ≤ 9223372036854775807 by omega), hroom, wrap_succ (by omega),
      ih (k + 1) _ (by omega) (by rw [List.length_append, bytesV_len, ba_size_append, e10]; omega) n (by omega) R κ, bytesV_app _ (resB _), List.append_assoc]
    rfl
theorem f58_s0_eq (v6 : List V) (v7 : Int) (v8 : Int) (b1 : List V) (hp : ((v7 == ((v6.length : Nat) : Int)) && (v8 == 0) && v6.all V.isStr && decide (v6.length ≤ 1000000000) && decide (b1.length + (resB v6).size ≤ 100000000000)) = true) : ∃ n, ∀ (R : Type) (κ : Ex → St → Option R), f58_l0 n v6 v7 v8 b1 R κ = f58_s0 v6 v7 v8 b1 R κ := by
  simp only [Bool.and_eq_true, decide_eq_true_eq, beq_iff_eq] at hp
  obtain ⟨⟨⟨⟨rfl, rfl⟩, h3⟩, h4⟩, h5⟩ := hp
  exact ⟨v6.length + 1, fun R κ => f58_l0_c v6 h3 h4 v6.length 0 b1 (by omega) h5 _ (by omega) R κ⟩
def t_f58_l0 (st : St) (R : Type) (κ : Ex → St → Option R) : Option R := bif ckS f58_l0_ls f58_l0_rs st then (bif ((((st.env 7).intOf) == ((((st.env 6).cellsOf).length : Nat) : Int)) && (((st.env 8).intOf) == 0) && ((st.env 6).cellsOf).all V.isStr && decide (((st.env 6).cellsOf).length ≤ 1000000000) && decide (((nthV (rowOf (st.regs (.loc 3))) 1).cellsOf).length + (resB ((st.env 6).cellsOf)).size ≤ 100000000000)) then f58_s0 ((st.env 6).cellsOf) ((st.env 7).intOf) ((st.env 8).intOf) ((nthV (rowOf (st.regs (.loc 3))) 1).cellsOf) R κ else none) else none
theorem t_f58_l0_ok : ∀ st0 R κ r, t_f58_l0 (forget C 58 [0, 1, 0, 1, 1] st0) R κ = some r → ∃ ee ss, κ ee ss = some r ∧ RunP C prim 58 [0, 1, 0, 1, 1] (forget C 58 [0, 1, 0, 1, 1] st0) ee ss := by
  intro st0 R κ r h
  obtain ⟨hs, h⟩ := cond_some h
  obtain ⟨hp, h⟩ := cond_some h
  rw [canon (ls := f58_l0_ls) (rs := f58_l0_rs) (by kernel_rfl) st0 hs]
  obtain ⟨n, hn⟩ := f58_s0_eq _ _ _ _ hp
  rw [← hn] at h
  exact f58_l0_ok n _ _ _ _ R κ r h

def K_f58 : CallK := kCons 79 k79 <| kNil
theorem K_f58_ok : KOK C prim K_f58 := KOK.cons k79_ok <| KOK.nil
def T_f58 : Tab := tCons [0, 1, 0, 1, 1] t_f58_l0 <| tNil
theorem T_f58_ok : TOK C prim 58 T_f58 := TOK.cons t_f58_l0_ok <| TOK.nil
def f58 (l : List V) : Option (V × List Rg) :=
  bif ((((l.length : Nat) : Int) == ((l.length : Nat) : Int)) && ((0 : Int) == 0) && l.all V.isStr && decide (l.length ≤ 1000000000) && decide (([] : List V).length + (resB l).size ≤ 100000000000)) then
    bif ((((([] : List V) ++ bytesV (resB l))).all okU8) && true) then
      some (.sc (.string (strOfCells (([] : List V) ++ bytesV (resB l)))), [])
    else none
  else none
theorem f58_run (l : List V) (z9 : V × List Rg) (h : f58 l = some z9) : CallR C prim 58 [.sl 1 l] [] z9 := by
  refine call_fn (K := K_f58) (T := T_f58) K_f58_ok T_f58_ok (by kernel_rfl) ?_
  refine Eq.trans ?_ h
  kernel_rfl

theorem f58_eq (l : List V) (hp : (l.all V.isStr && decide (l.length ≤ 1000000000) && decide ((resB l).size ≤ 100000000000)) = true) : f58 l = some (.sc (.string (resB l)), []) := by
  simp only [Bool.and_eq_true, decide_eq_true_eq] at hp
  unfold f58
  rw [hp.1.1, dec_true hp.1.2, dec_true (show ([] : List V).length + (resB l).size ≤ 100000000000 by simp; omega), List.nil_append, okU8_bytesV, strOf_bytesV]
  simp only [beq_self_eq_true, Bool.and_true, cond_true]
def k58 : PrimT := fun vs gs => match vs, gs with
  | [.sl 1 l], [] => ((l.all V.isStr && decide (l.length ≤ 1000000000) && decide ((resB l).size ≤ 100000000000)), .sc (.string (resB l)), [])
  | _, _ => (false, .bad, [])
theorem k58_ok : ∀ vs gs x, k58 vs gs = (true, x) → CallR C prim 58 vs gs x := by
  intro vs gs x h
  unfold k58 at h
  split at h
  · simp only [Prod.mk.injEq] at h
    obtain ⟨hp, rfl⟩ := h
    exact f58_run _ _ (f58_eq _ hp)
  · cases h

def K_f27_l0 : CallK := kNil
theorem K_f27_l0_ok : KOK C prim K_f27_l0 := KOK.nil
def T_f27_l0 : Tab := tNil
theorem T_f27_l0_ok : TOK C prim 27 T_f27_l0 := TOK.nil
def f27_l0 : Nat → ByteArray → List V → Int → Int → (R : Type) → (Ex → St → Option R) → Option R
  | 0, _, _, _, _, _, _ => none
  | n + 1, s, v6, v7, v8, R, κ =>
    bif (decide (v8 < v7)) then
      bif (((decide ((0 : Int) ≤ v8)) && (decide (v8 < ((v6.length : Nat) : Int)))) && true) then
        bif (((V.isStr (nthV v6 (((v8).toNat * 1) + 0))) && true) && true) then
          bif ((decide (((V.strOf (nthV v6 (((v8).toNat * 1) + 0))).size + 1) ≤ 9223372036854775807)) && true) then
            bif ((decide ((s.size + ((V.strOf (nthV v6 (((v8).toNat * 1) + 0))) ++ (⟨#[10]⟩ : ByteArray)).size) ≤ 9223372036854775807)) && true) then
              f27_l0 n (s ++ ((V.strOf (nthV v6 (((v8).toNat * 1) + 0))) ++ (⟨#[10]⟩ : ByteArray))) v6 v7 (IntKind.wrap .i64 (v8 + 1)) R κ
            else none
          else none
        else none
      else none
    else
      κ (.ex 0) (mkS [(2, .bad), (3, .sc (.string s))] [])
def f27_l0_ls : List (Nat × Pat) := [(3, .s), (6, .sl 1), (7, .i .i64), (8, .i .i64)]
def f27_l0_rs : List RPat := []
theorem f27_l0_ok (n : Nat) : ∀ (s : ByteArray) (v6 : List V) (v7 : Int) (v8 : Int) (R : Type) (κ : Ex → St → Option R) (r : R), f27_l0 n s v6 v7 v8 R κ = some r → ∃ ee ss, κ ee ss = some r ∧ RunP C prim 27 [0, 1, 0, 1, 1] (mkS [(3, .sc (.string s)), (6, .sl 1 v6), (7, .sc (.int .i64 v7)), (8, .sc (.int .i64 v8))] []) ee ss := by
  induction n with
  | zero => intro s v6 v7 v8 R κ r h; cases h
  | succ n ih =>
    intro s v6 v7 v8 R κ r h
    refine loop_round (K := K_f27_l0) (T := T_f27_l0) K_f27_l0_ok T_f27_l0_ok (p := [0, 1, 0, 1, 1]) (by kernel_rfl) (fun st => bif ckS f27_l0_ls f27_l0_rs st then f27_l0 n ((st.env 3).strOf) ((st.env 6).cellsOf) ((st.env 7).intOf) ((st.env 8).intOf) R κ else none) (fun st0 h0 => ?_) ?_
    · obtain ⟨hs, h0⟩ := cond_some h0
      rw [canon (ls := f27_l0_ls) (rs := f27_l0_rs) (by kernel_rfl) st0 hs]
      exact ih _ _ _ _ R κ r h0
    · refine Eq.trans ?_ h
      kernel_rfl

def f27_s0 (s : ByteArray) (v6 : List V) (v7 : Int) (v8 : Int) (R : Type) (κ : Ex → St → Option R) : Option R :=
  κ (.ex 0) (mkS [(2, .bad), (3, .sc (.string (s ++ resB v6)))] [])
theorem f27_l0_c (v6 : List V) (hu : v6.all V.isStr = true) (hl : v6.length ≤ 1000000000) : ∀ (m k : Nat) (s : ByteArray), k + m = v6.length → s.size + (resB (v6.drop k)).size ≤ 100000000000 → ∀ n, m < n → ∀ (R : Type) (κ : Ex → St → Option R), f27_l0 n s v6 ((v6.length : Nat) : Int) (k : Int) R κ = κ (.ex 0) (mkS [(2, .bad), (3, .sc (.string (s ++ resB (v6.drop k))))] []) := by
  intro m
  induction m with
  | zero =>
    intro k s hk hs n hn R κ
    obtain ⟨n, rfl⟩ : ∃ j, n = j + 1 := ⟨n - 1, by omega⟩
    rw [List.drop_of_length_le (by omega), f27_l0, dec_false (by omega)]
    unfold resB
    rw [ba_nil']
    rfl
  | succ m ih =>
    intro k s hk hs n hn R κ
    obtain ⟨n, rfl⟩ : ∃ j, n = j + 1 := ⟨n - 1, by omega⟩
    have hlt : k < v6.length := by omega
    have hx : V.isStr v6[k] = true := List.all_eq_true.1 hu _ (List.getElem_mem hlt)
    rw [List.drop_eq_getElem_cons hlt] at hs ⊢
    unfold resB at hs ⊢
    have e10 : (⟨#[10]⟩ : ByteArray).size = 1 := rfl
    simp only [ba_size_append, e10] at hs
    rw [f27_l0, dec_true (show (k : Int) < ((v6.length : Nat) : Int) by omega), dec_true (show (0 : Int) ≤ (k : Int) by omega), nth_at hlt, hx, ba_size_append, e10, dec_true (show v6[k].strOf.size + 1 ≤ 9223372036854775807 by omega), dec_true (show s.size + (v6[k].strOf.size + 1) ≤ 9223372036854775807 by omega), wrap_succ (by omega),
      ih (k + 1) _ (by omega) (by simp only [ba_size_append, e10]; omega) n (by omega) R κ, ba_assoc s]
    rfl
theorem f27_s0_eq (s : ByteArray) (v6 : List V) (v7 : Int) (v8 : Int) (hp : ((v7 == ((v6.length : Nat) : Int)) && (v8 == 0) && v6.all V.isStr && decide (v6.length ≤ 1000000000) && decide (s.size + (resB v6).size ≤ 100000000000)) = true) : ∃ n, ∀ (R : Type) (κ : Ex → St → Option R), f27_l0 n s v6 v7 v8 R κ = f27_s0 s v6 v7 v8 R κ := by
  simp only [Bool.and_eq_true, decide_eq_true_eq, beq_iff_eq] at hp
  obtain ⟨⟨⟨⟨rfl, rfl⟩, h3⟩, h4⟩, h5⟩ := hp
  exact ⟨v6.length + 1, fun R κ => f27_l0_c v6 h3 h4 v6.length 0 s (by omega) h5 _ (by omega) R κ⟩
def t_f27_l0 (st : St) (R : Type) (κ : Ex → St → Option R) : Option R := bif ckS f27_l0_ls f27_l0_rs st then (bif ((((st.env 7).intOf) == ((((st.env 6).cellsOf).length : Nat) : Int)) && (((st.env 8).intOf) == 0) && ((st.env 6).cellsOf).all V.isStr && decide (((st.env 6).cellsOf).length ≤ 1000000000) && decide (((st.env 3).strOf).size + (resB ((st.env 6).cellsOf)).size ≤ 100000000000)) then f27_s0 ((st.env 3).strOf) ((st.env 6).cellsOf) ((st.env 7).intOf) ((st.env 8).intOf) R κ else none) else none
theorem t_f27_l0_ok : ∀ st0 R κ r, t_f27_l0 (forget C 27 [0, 1, 0, 1, 1] st0) R κ = some r → ∃ ee ss, κ ee ss = some r ∧ RunP C prim 27 [0, 1, 0, 1, 1] (forget C 27 [0, 1, 0, 1, 1] st0) ee ss := by
  intro st0 R κ r h
  obtain ⟨hs, h⟩ := cond_some h
  obtain ⟨hp, h⟩ := cond_some h
  rw [canon (ls := f27_l0_ls) (rs := f27_l0_rs) (by kernel_rfl) st0 hs]
  obtain ⟨n, hn⟩ := f27_s0_eq _ _ _ _ hp
  rw [← hn] at h
  exact f27_l0_ok n _ _ _ _ R κ r h

def K_f27 : CallK := kNil
theorem K_f27_ok : KOK C prim K_f27 := KOK.nil
def T_f27 : Tab := tCons [0, 1, 0, 1, 1] t_f27_l0 <| tNil
theorem T_f27_ok : TOK C prim 27 T_f27 := TOK.cons t_f27_l0_ok <| TOK.nil
def f27 (l : List V) : Option (V × List Rg) :=
  bif ((((l.length : Nat) : Int) == ((l.length : Nat) : Int)) && ((0 : Int) == 0) && l.all V.isStr && decide (l.length ≤ 1000000000) && decide ((⟨#[]⟩ : ByteArray).size + (resB l).size ≤ 100000000000)) then
    some (.sc (.string ((⟨#[]⟩ : ByteArray) ++ resB l)), [])
  else none
theorem f27_run (l : List V) (z9 : V × List Rg) (h : f27 l = some z9) : CallR C prim 27 [.sl 1 l] [] z9 := by
  refine call_fn (K := K_f27) (T := T_f27) K_f27_ok T_f27_ok (by kernel_rfl) ?_
  refine Eq.trans ?_ h
  kernel_rfl

theorem f27_eq (l : List V) (hp : (l.all V.isStr && decide (l.length ≤ 1000000000) && decide ((resB l).size ≤ 100000000000)) = true) : f27 l = some (.sc (.string (resB l)), []) := by
  simp only [Bool.and_eq_true, decide_eq_true_eq] at hp
  have e0 : (⟨#[]⟩ : ByteArray).size = 0 := rfl
  unfold f27
  rw [hp.1.1, dec_true hp.1.2, e0, dec_true (by omega), ba_nil]
  simp only [beq_self_eq_true, Bool.and_true, cond_true]
def k27 : PrimT := fun vs gs => match vs, gs with
  | [.sl 1 l], [] => ((l.all V.isStr && decide (l.length ≤ 1000000000) && decide ((resB l).size ≤ 100000000000)), .sc (.string (resB l)), [])
  | _, _ => (false, .bad, [])
theorem k27_ok : ∀ vs gs x, k27 vs gs = (true, x) → CallR C prim 27 vs gs x := by
  intro vs gs x h
  unfold k27 at h
  split at h
  · simp only [Prod.mk.injEq] at h
    obtain ⟨hp, rfl⟩ := h
    exact f27_run _ _ (f27_eq _ hp)
  · cases h

def K_f15 : CallK := kCons 46 k46 <| kNil
theorem K_f15_ok : KOK C prim K_f15 := KOK.cons k46_ok <| KOK.nil
def T_f15 : Tab := tNil
theorem T_f15_ok : TOK C prim 15 T_f15 := TOK.nil
def f15 (s : ByteArray) : Option (V × List Rg) :=
  some (.sc (.bool (decide ((idxB s 10) ≥ 0))), [])
theorem f15_run (s : ByteArray) (z9 : V × List Rg) (h : f15 s = some z9) : CallR C prim 15 [.sc (.string s), .sc (.string ⟨#[10]⟩)] [] z9 := by
  refine call_fn (K := K_f15) (T := T_f15) K_f15_ok T_f15_ok (by kernel_rfl) ?_
  refine Eq.trans ?_ h
  kernel_rfl

theorem f15_eq (s : ByteArray) : f15 s = some (.sc (.bool (hasB s 10)), []) := by
  unfold f15
  rw [hasNl]
def k15 : PrimT := fun vs gs => match vs, gs with
  | [.sc (.string s), .sc (.string q1)], [] => ((strEq q1 (⟨#[10]⟩ : ByteArray) && true), .sc (.bool (hasB s 10)), [])
  | _, _ => (false, .bad, [])
theorem k15_ok : ∀ vs gs x, k15 vs gs = (true, x) → CallR C prim 15 vs gs x := by
  intro vs gs x h
  unfold k15 at h
  split at h
  · simp only [Prod.mk.injEq] at h
    obtain ⟨hp, rfl⟩ := h
    rw [Bool.and_eq_true] at hp
    obtain ⟨hq, hp⟩ := hp
    obtain rfl := (strEq_iff _ _).1 hq
    exact f15_run _ _ (f15_eq _)
  · cases h

def K_f33 : CallK := kNil
theorem K_f33_ok : KOK C prim K_f33 := KOK.nil
def T_f33 : Tab := tNil
theorem T_f33_ok : TOK C prim 33 T_f33 := TOK.nil
def f33 (s : ByteArray) : Option (V × List Rg) :=
  some (.sc (.bool (decide (((s.size : Nat) : Int) ≤ 3000))), [])
theorem f33_run (s : ByteArray) (z9 : V × List Rg) (h : f33 s = some z9) : CallR C prim 33 [.sc (.string s)] [] z9 := by
  refine call_fn (K := K_f33) (T := T_f33) K_f33_ok T_f33_ok (by kernel_rfl) ?_
  refine Eq.trans ?_ h
  kernel_rfl

theorem f33_eq (s : ByteArray) : f33 s = some (.sc (.bool (decide (((s.size : Nat) : Int) ≤ 3000))), []) := by rfl
def k33 : PrimT := fun vs gs => match vs, gs with
  | [.sc (.string s)], [] => (true, .sc (.bool (decide (((s.size : Nat) : Int) ≤ 3000))), [])
  | _, _ => (false, .bad, [])
theorem k33_ok : ∀ vs gs x, k33 vs gs = (true, x) → CallR C prim 33 vs gs x := by
  intro vs gs x h
  unfold k33 at h
  split at h
  · simp only [Prod.mk.injEq, true_and] at h
    subst h
    exact f33_run _ _ (f33_eq _)
  · cases h

def K_f109 : CallK := kCons 110 k110 <| kNil
theorem K_f109_ok : KOK C prim K_f109 := KOK.cons k110_ok <| KOK.nil
def T_f109 : Tab := tNil
theorem T_f109_ok : TOK C prim 109 T_f109 := TOK.nil
def f109 (c : Int) (r01 : List V) : Option (V × List Rg) :=
  bif (((roomy ((r01.length + 1) * 1)) && (roomy (r01.length + 1))) && true) then
    some (.sc .nilIface, [⟨true, [.slf, .own 5 false (r01 ++ [.sc (.int .u8 c)])]⟩])
  else none
theorem f109_run (c : Int) (r01 : List V) (z9 : V × List Rg) (h : f109 c r01 = some z9) : CallR C prim 109 [.ptrB (.par 0) 0, .sc (.int .u8 c)] [⟨true, [.slf, .own 5 false r01]⟩] z9 := by
  refine call_fn (K := K_f109) (T := T_f109) K_f109_ok T_f109_ok (by kernel_rfl) ?_
  refine Eq.trans ?_ h
  kernel_rfl

theorem f109_eq (c : Int) (r01 : List V) (hp : (decide (r01.length ≤ 100000000000)) = true) : f109 c r01 = some (.sc .nilIface, [⟨true, [.slf, .own 5 false (r01 ++ [.sc (.int .u8 c)])]⟩]) := by
  simp only [decide_eq_true_eq] at hp
  have r1 : roomy ((r01.length + 1) * 1) = true := dec_true (by omega)
  have r2 : roomy (r01.length + 1) = true := dec_true (by omega)
  unfold f109
  rw [r1, r2]
  rfl
def k109 : PrimT := fun vs gs => match vs, gs with
  | [.ptrB (.par 0) 0, .sc (.int .u8 c)], [⟨true, [.slf, .own 5 false r01]⟩] => ((decide (r01.length ≤ 100000000000)), .sc .nilIface, [⟨true, [.slf, .own 5 false (r01 ++ [.sc (.int .u8 c)])]⟩])
  | _, _ => (false, .bad, [])
theorem k109_ok : ∀ vs gs x, k109 vs gs = (true, x) → CallR C prim 109 vs gs x := by
  intro vs gs x h
  unfold k109 at h
  split at h
  · simp only [Prod.mk.injEq] at h
    obtain ⟨hp, rfl⟩ := h
    exact f109_run _ _ _ (f109_eq _ _ hp)
  · cases h

def K_f76_l0 : CallK := kCons 78 k78 <| kCons 109 k109 <| kNil
theorem K_f76_l0_ok : KOK C prim K_f76_l0 := KOK.cons k78_ok <| KOK.cons k109_ok <| KOK.nil
def T_f76_l0 : Tab := tNil
theorem T_f76_l0_ok : TOK C prim 76 T_f76_l0 := TOK.nil
def f76_l0 : Nat → ByteArray → List V → Int → Int → List V → (R : Type) → (Ex → St → Option R) → Option R
  | 0, _, _, _, _, _, _, _ => none
  | n + 1, between, v8, v9, v10, b1, R, κ =>
    bif (decide (v10 < v9)) then
      bif (((decide ((0 : Int) ≤ v10)) && (decide (v10 < ((v8.length : Nat) : Int)))) && true) then
        bif (((V.isStr (nthV v8 (((v10).toNat * 1) + 0))) && true) && true) then
          bif (decide (v10 > 0)) then
            bif (!(strEq between (⟨#[]⟩ : ByteArray))) then
              bif ((((between.size : Nat) : Int) != 0) && true) then
                bif (((decide ((0 : Int) ≤ (Int.tmod (IntKind.wrap .i64 (v10 - 1)) ((between.size : Nat) : Int)))) && (decide ((Int.tmod (IntKind.wrap .i64 (v10 - 1)) ((between.size : Nat) : Int)) < ((between.size : Nat) : Int)))) && true) then
                  bif ((decide (b1.length ≤ 100000000000)) && true) then
                    bif ((roomB (b1 ++ [.sc (.int .u8 ((between.data.getD ((Int.tmod (IntKind.wrap .i64 (v10 - 1)) ((between.size : Nat) : Int))).toNat 0).toNat : Int))]) (V.strOf (nthV v8 (((v10).toNat * 1) + 0)))) && true) then
                      f76_l0 n between v8 v9 (IntKind.wrap .i64 (v10 + 1)) ((b1 ++ [.sc (.int .u8 ((between.data.getD ((Int.tmod (IntKind.wrap .i64 (v10 - 1)) ((between.size : Nat) : Int))).toNat 0).toNat : Int))]) ++ bytesV (V.strOf (nthV v8 (((v10).toNat * 1) + 0)))) R κ
                    else none
                  else none
                else none
              else none
            else
              bif ((roomB b1 (V.strOf (nthV v8 (((v10).toNat * 1) + 0)))) && true) then
                f76_l0 n between v8 v9 (IntKind.wrap .i64 (v10 + 1)) (b1 ++ bytesV (V.strOf (nthV v8 (((v10).toNat * 1) + 0)))) R κ
              else none
          else
            bif ((roomB b1 (V.strOf (nthV v8 (((v10).toNat * 1) + 0)))) && true) then
              f76_l0 n between v8 v9 (IntKind.wrap .i64 (v10 + 1)) (b1 ++ bytesV (V.strOf (nthV v8 (((v10).toNat * 1) + 0)))) R κ
            else none
        else none
      else none
    else
      κ (.ex 0) (mkS [(4, .bad), (5, .ptrB (.loc 5) 0)] [(.loc 5, some ⟨true, [.slf, .own 5 false b1]⟩)])
def f76_l0_ls : List (Nat × Pat) := [(1, .s), (5, .is (.ptrB (.loc 5) 0)), (8, .sl 1), (9, .i .i64), (10, .i .i64)]
def f76_l0_rs : List RPat := [⟨.loc 5, true, [.is (.slf), .own 5 false]⟩]
theorem f76_l0_ok (n : Nat) : ∀ (between : ByteArray) (v8 : List V) (v9 : Int) (v10 : Int) (b1 : List V) (R : Type) (κ : Ex → St → Option R) (r : R), f76_l0 n between v8 v9 v10 b1 R κ = some r → ∃ ee ss, κ ee ss = some r ∧ RunP C prim 76 [0, 1, 0, 1, 1] (mkS [(1, .sc (.string between)), (5, .ptrB (.loc 5) 0), (8, .sl 1 v8), (9, .sc (.int .i64 v9)), (10, .sc (.int .i64 v10))] [(.loc 5, some ⟨true, [.slf, .own 5 false b1]⟩)]) ee ss := by
  induction n with
  | zero => intro between v8 v9 v10 b1 R κ r h; cases h
  | succ n ih =>
    intro between v8 v9 v10 b1 R κ r h
    refine loop_round (K := K_f76_l0) (T := T_f76_l0) K_f76_l0_ok T_f76_l0_ok (p := [0, 1, 0, 1, 1]) (by kernel_rfl) (fun st => bif ckS f76_l0_ls f76_l0_rs st then f76_l0 n ((st.env 1).strOf) ((st.env 8).cellsOf) ((st.env 9).intOf) ((st.env 10).intOf) ((nthV (rowOf (st.regs (.loc 5))) 1).cellsOf) R κ else none) (fun st0 h0 => ?_) ?_
    · obtain ⟨hs, h0⟩ := cond_some h0
      rw [canon (ls := f76_l0_ls) (rs := f76_l0_rs) (by kernel_rfl) st0 hs]
      exact ih _ _ _ _ _ R κ r h0
    · refine Eq.trans ?_ h
      kernel_rfl

def f76_s0 (between : ByteArray) (v8 : List V) (v9 : Int) (v10 : Int) (b1 : List V) (R : Type) (κ : Ex → St → Option R) : Option R :=
  κ (.ex 0) (mkS [(4, .bad), (5, .ptrB (.loc 5) 0)] [(.loc 5, some ⟨true, [.slf, .own 5 false (bytesV (altB v8 between))]⟩)])
theorem sep_zero (bt : ByteArray) : sepB bt 0 = ⟨#[]⟩ := rfl
theorem sep_none {bt : ByteArray} (h : strEq bt ⟨#[]⟩ = true) (i : Nat) : sepB bt i = ⟨#[]⟩ := by unfold sepB; rw [h, Bool.not_true, Bool.and_false]; rfl
theorem sep_some {bt : ByteArray} (h : strEq bt ⟨#[]⟩ = false) (i : Nat) : sepB bt (i + 1) = ⟨#[bt.data.getD (i % bt.size) 0]⟩ := by unfold sepB; rw [h, dec_true (by omega)]; rfl
theorem bt_pos {bt : ByteArray} (h : strEq bt ⟨#[]⟩ = false) : 0 < bt.size := by
  rcases Nat.eq_zero_or_pos bt.size with h' | h'
  · rw [ba_zero h', strEq_self] at h; cases h
  · exact h'
theorem byteV_one (b : UInt8) : [V.sc (.int .u8 ((b.toNat : Nat) : Int))] = bytesV ⟨#[b]⟩ := rfl
theorem f76_loop (bt : ByteArray) (l : List V) (hl : l.all V.isStr = true) (hn : l.length ≤ 1000000000) (R : Type) (κ : Ex → St → Option R) : ∀ (k i : Nat) (b1 : List V), i + k = l.length → b1.length + (altF bt i (l.drop i)).size ≤ 10000000000 →
    f76_l0 (k + 1) bt l ((l.length : Nat) : Int) ((i : Nat) : Int) b1 R κ = κ (.ex 0) (mkS [(4, .bad), (5, .ptrB (.loc 5) 0)] [(.loc 5, some ⟨true, [.slf, .own 5 false (b1 ++ bytesV (altF bt i (l.drop i)))]⟩)])
  | 0, i, b1, h, hb => by
    rw [f76_l0, dec_false (by omega), List.drop_of_length_le (by omega), altF, bytesV_nil, List.append_nil]
    rfl
  | k + 1, i, b1, h, hb => by
    have hi : i < l.length := by omega
    have i1 : V.isStr l[i] = true := List.all_eq_true.1 hl _ (List.getElem_mem hi)
    rw [List.drop_eq_getElem_cons hi, altF, ba_size_append, ba_size_append] at hb
    rw [List.drop_eq_getElem_cons hi, altF]
    have plain : sepB bt i = ⟨#[]⟩ → f76_l0 (k + 1) bt l ((l.length : Nat) : Int) ((i + 1 : Nat) : Int) (b1 ++ bytesV l[i].strOf) R κ = κ (.ex 0) (mkS [(4, .bad), (5, .ptrB (.loc 5) 0)] [(.loc 5, some ⟨true, [.slf, .own 5 false (b1 ++ bytesV (sepB bt i ++ l[i].strOf ++ altF bt (i + 1) (l.drop (i + 1))))]⟩)]) := by
      intro hs
      rw [f76_loop bt l hl hn R κ k (i + 1) (b1 ++ bytesV l[i].strOf) (by omega) (by rw [List.length_append, bytesV_len]; omega), hs, ba_nil, bytesV_app, List.append_assoc]
    have room : roomB b1 l[i].strOf = true := by unfold roomB; exact dec_true (by omega)
    rw [f76_l0, dec_true (show ((i : Nat) : Int) < ((l.length : Nat) : Int) by omega), dec_true (show (0 : Int) ≤ ((i : Nat) : Int) by omega), nth_at hi, i1, wrap_succ (by omega), room]
    cases i with
    | zero =>
      rw [dec_false (by omega)]
      simp only [Bool.and_self, cond_true, cond_false]
      exact plain (sep_zero bt)
    | succ j =>
      rw [dec_true (show ((j + 1 : Nat) : Int) > 0 by omega)]
      cases hs : strEq bt ⟨#[]⟩ with
      | true =>
        simp only [Bool.and_self, Bool.not_true, cond_true, cond_false]
        exact plain (sep_none hs _)
      | false =>
        have hp := bt_pos hs
        have hm : j % bt.size < bt.size := Nat.mod_lt _ hp
        have hw : IntKind.wrap .i64 (((j + 1 : Nat) : Int) - 1) = ((j : Nat) : Int) := by rw [wrap_id (by omega) (by omega)]; omega
        have ht : Int.tmod ((j : Nat) : Int) ((bt.size : Nat) : Int) = ((j % bt.size : Nat) : Int) := by rw [Int.tmod_eq_emod_of_nonneg (by omega)]; rfl
        have hz : (((bt.size : Nat) : Int) != 0) = true := bne_iff_ne.2 (by omega)
        have hx : sepB bt (j + 1) = ⟨#[bt.data.getD (j % bt.size) 0]⟩ := sep_some hs j
        have hsz : (sepB bt (j + 1)).size = 1 := by rw [hx]; rfl
        have room2 : roomB (b1 ++ bytesV ⟨#[bt.data.getD (j % bt.size) 0]⟩) l[j + 1].strOf = true := by
          unfold roomB
          rw [List.length_append, bytesV_len, ← hx]
          exact dec_true (by omega)
        have IH := f76_loop bt l hl hn R κ k (j + 1 + 1) ((b1 ++ bytesV ⟨#[bt.data.getD (j % bt.size) 0]⟩) ++ bytesV l[j + 1].strOf) (by omega) (by rw [List.length_append, List.length_append, bytesV_len, bytesV_len, ← hx]; omega)
        rw [hw, ht, hz, dec_true (show (0 : Int) ≤ ((j % bt.size : Nat) : Int) by omega), dec_true (show ((j % bt.size : Nat) : Int) < ((bt.size : Nat) : Int) by omega), Int.toNat_natCast, dec_true (show b1.length ≤ 100000000000 by omega), byteV_one, room2]
        simp only [Bool.and_self, Bool.not_false, cond_true, IH]
        rw [hx, bytesV_app, bytesV_app, List.append_assoc, List.append_assoc, List.append_assoc]
theorem f76_s0_eq (between : ByteArray) (v8 : List V) (v9 : Int) (v10 : Int) (b1 : List V) (hp : ((v9 == ((v8.length : Nat) : Int)) && (v10 == 0) && (b1.length == 0) && v8.all V.isStr && decide (v8.length ≤ 1000000000) && decide ((altB v8 between).size ≤ 10000000000)) = true) : ∃ n, ∀ (R : Type) (κ : Ex → St → Option R), f76_l0 n between v8 v9 v10 b1 R κ = f76_s0 between v8 v9 v10 b1 R κ := by
  simp only [Bool.and_eq_true, decide_eq_true_eq, beq_iff_eq] at hp
  obtain ⟨⟨⟨⟨⟨rfl, rfl⟩, h3⟩, h4⟩, h5⟩, h6⟩ := hp
  obtain rfl : b1 = [] := List.eq_nil_of_length_eq_zero h3
  refine ⟨v8.length + 1, fun R κ => ?_⟩
  have := f76_loop between v8 h4 h5 R κ v8.length 0 [] (by omega) (by simpa [altB] using h6)
  rw [List.drop_zero, List.nil_append] at this
  exact this
def t_f76_l0 (st : St) (R : Type) (κ : Ex → St → Option R) : Option R := bif ckS f76_l0_ls f76_l0_rs st then (bif ((((st.env 9).intOf) == ((((st.env 8).cellsOf).length : Nat) : Int)) && (((st.env 10).intOf) == 0) && (((nthV (rowOf (st.regs (.loc 5))) 1).cellsOf).length == 0) && ((st.env 8).cellsOf).all V.isStr && decide (((st.env 8).cellsOf).length ≤ 1000000000) && decide ((altB ((st.env 8).cellsOf) ((st.env 1).strOf)).size ≤ 10000000000)) then f76_s0 ((st.env 1).strOf) ((st.env 8).cellsOf) ((st.env 9).intOf) ((st.env 10).intOf) ((nthV (rowOf (st.regs (.loc 5))) 1).cellsOf) R κ else none) else none
theorem t_f76_l0_ok : ∀ st0 R κ r, t_f76_l0 (forget C 76 [0, 1, 0, 1, 1] st0) R κ = some r → ∃ ee ss, κ ee ss = some r ∧ RunP C prim 76 [0, 1, 0, 1, 1] (forget C 76 [0, 1, 0, 1, 1] st0) ee ss := by
  intro st0 R κ r h
  obtain ⟨hs, h⟩ := cond_some h
  obtain ⟨hp, h⟩ := cond_some h
  rw [canon (ls := f76_l0_ls) (rs := f76_l0_rs) (by kernel_rfl) st0 hs]
  obtain ⟨n, hn⟩ := f76_s0_eq _ _ _ _ _ hp
  rw [← hn] at h
  exact f76_l0_ok n _ _ _ _ _ R κ r h

def K_f76 : CallK := kCons 79 k79 <| kNil
theorem K_f76_ok : KOK C prim K_f76 := KOK.cons k79_ok <| KOK.nil
def T_f76 : Tab := tCons [0, 1, 0, 1, 1] t_f76_l0 <| tNil
theorem T_f76_ok : TOK C prim 76 T_f76 := TOK.cons t_f76_l0_ok <| TOK.nil
def f76 (words : List V) (between : ByteArray) : Option (V × List Rg) :=
  bif ((((words.length : Nat) : Int) == ((words.length : Nat) : Int)) && ((0 : Int) == 0) && (([] : List V).length == 0) && words.all V.isStr && decide (words.length ≤ 1000000000) && decide ((altB words between).size ≤ 10000000000)) then
    bif ((((bytesV (altB words between))).all okU8) && true) then
      some (.sc (.string (strOfCells (bytesV (altB words between)))), [])
    else none
  else none
theorem f76_run (words : List V) (between : ByteArray) (z9 : V × List Rg) (h : f76 words between = some z9) : CallR C prim 76 [.sl 1 words, .sc (.string between)] [] z9 := by
  refine call_fn (K := K_f76) (T := T_f76) K_f76_ok T_f76_ok (by kernel_rfl) ?_
  refine Eq.trans ?_ h
  kernel_rfl

theorem f76_eq (words : List V) (between : ByteArray) (hp : (words.all V.isStr && decide (words.length ≤ 1000000000) && decide ((altB words between).size ≤ 10000000000)) = true) : f76 words between = some (.sc (.string (altB words between)), []) := by
  simp only [Bool.and_eq_true, decide_eq_true_eq] at hp
  unfold f76
  rw [hp.1.1, dec_true hp.1.2, dec_true hp.2, okU8_bytesV, strOf_bytesV, beq_self_eq_true]
  rfl
def k76 : PrimT := fun vs gs => match vs, gs with
  | [.sl 1 words, .sc (.string between)], [] => ((words.all V.isStr && decide (words.length ≤ 1000000000) && decide ((altB words between).size ≤ 10000000000)), .sc (.string (altB words between)), [])
  | _, _ => (false, .bad, [])
theorem k76_ok : ∀ vs gs x, k76 vs gs = (true, x) → CallR C prim 76 vs gs x := by
  intro vs gs x h
  unfold k76 at h
  split at h
  · simp only [Prod.mk.injEq] at h
    obtain ⟨hp, rfl⟩ := h
    exact f76_run _ _ _ (f76_eq _ _ hp)
  · cases h

def K_f80_l0 : CallK := kNil
theorem K_f80_l0_ok : KOK C prim K_f80_l0 := KOK.nil
def T_f80_l0 : Tab := tNil
theorem T_f80_l0_ok : TOK C prim 80 T_f80_l0 := TOK.nil
def f80_l0 : Nat → ByteArray → List V → Int → Int → ByteArray → (R : Type) → (Ex → St → Option R) → Option R
  | 0, _, _, _, _, _, _, _ => none
  | n + 1, s, v8, v9, v10, r0, R, κ =>
    bif (decide (v10 < v9)) then
      bif (((decide ((0 : Int) ≤ v10)) && (decide (v10 < ((v8.length : Nat) : Int)))) && true) then
        bif (((V.isStr (nthV v8 (((v10).toNat * 1) + 0))) && true) && true) then
          bif (decide (v10 > 0)) then
            bif (!(strEq r0 (⟨#[]⟩ : ByteArray))) then
              bif ((((r0.size : Nat) : Int) != 0) && true) then
                bif (((((decide ((0 : Int) ≤ (Int.tmod (IntKind.wrap .i64 (v10 - 1)) ((r0.size : Nat) : Int)))) && (decide ((Int.tmod (IntKind.wrap .i64 (v10 - 1)) ((r0.size : Nat) : Int)) ≤ (IntKind.wrap .i64 ((Int.tmod (IntKind.wrap .i64 (v10 - 1)) ((r0.size : Nat) : Int)) + 1))))) && (decide ((IntKind.wrap .i64 ((Int.tmod (IntKind.wrap .i64 (v10 - 1)) ((r0.size : Nat) : Int)) + 1)) ≤ ((r0.size : Nat) : Int)))) && true) && true) then
                  bif ((decide ((s.size + (r0.extract ((Int.tmod (IntKind.wrap .i64 (v10 - 1)) ((r0.size : Nat) : Int))).toNat ((IntKind.wrap .i64 ((Int.tmod (IntKind.wrap .i64 (v10 - 1)) ((r0.size : Nat) : Int)) + 1))).toNat).size) ≤ 9223372036854775807)) && true) then
                    bif ((decide (((s ++ (r0.extract ((Int.tmod (IntKind.wrap .i64 (v10 - 1)) ((r0.size : Nat) : Int))).toNat ((IntKind.wrap .i64 ((Int.tmod (IntKind.wrap .i64 (v10 - 1)) ((r0.size : Nat) : Int)) + 1))).toNat)).size + (V.strOf (nthV v8 (((v10).toNat * 1) + 0))).size) ≤ 9223372036854775807)) && true) then
                      f80_l0 n ((s ++ (r0.extract ((Int.tmod (IntKind.wrap .i64 (v10 - 1)) ((r0.size : Nat) : Int))).toNat ((IntKind.wrap .i64 ((Int.tmod (IntKind.wrap .i64 (v10 - 1)) ((r0.size : Nat) : Int)) + 1))).toNat)) ++ (V.strOf (nthV v8 (((v10).toNat * 1) + 0)))) v8 v9 (IntKind.wrap .i64 (v10 + 1)) r0 R κ
                    else none
                  else none
                else none
              else none
            else
              bif ((decide ((s.size + (V.strOf (nthV v8 (((v10).toNat * 1) + 0))).size) ≤ 9223372036854775807)) && true) then
                f80_l0 n (s ++ (V.strOf (nthV v8 (((v10).toNat * 1) + 0)))) v8 v9 (IntKind.wrap .i64 (v10 + 1)) r0 R κ
              else none
          else
            bif ((decide ((s.size + (V.strOf (nthV v8 (((v10).toNat * 1) + 0))).size) ≤ 9223372036854775807)) && true) then
              f80_l0 n (s ++ (V.strOf (nthV v8 (((v10).toNat * 1) + 0)))) v8 v9 (IntKind.wrap .i64 (v10 + 1)) r0 R κ
            else none
        else none
      else none
    else
      κ (.ex 0) (mkS [(3, .bad), (4, .sc (.string s))] [(.par 0, some ⟨true, [.sc (.string r0)]⟩)])
def f80_l0_ls : List (Nat × Pat) := [(1, .is (.ptrB (.par 0) 0)), (4, .s), (8, .sl 1), (9, .i .i64), (10, .i .i64)]
def f80_l0_rs : List RPat := [⟨.par 0, true, [.s]⟩]
theorem f80_l0_ok (n : Nat) : ∀ (s : ByteArray) (v8 : List V) (v9 : Int) (v10 : Int) (r0 : ByteArray) (R : Type) (κ : Ex → St → Option R) (r : R), f80_l0 n s v8 v9 v10 r0 R κ = some r → ∃ ee ss, κ ee ss = some r ∧ RunP C prim 80 [0, 1, 0, 1, 1] (mkS [(1, .ptrB (.par 0) 0), (4, .sc (.string s)), (8, .sl 1 v8), (9, .sc (.int .i64 v9)), (10, .sc (.int .i64 v10))] [(.par 0, some ⟨true, [.sc (.string r0)]⟩)]) ee ss := by
  induction n with
  | zero => intro s v8 v9 v10 r0 R κ r h; cases h
  | succ n ih =>
    intro s v8 v9 v10 r0 R κ r h
    refine loop_round (K := K_f80_l0) (T := T_f80_l0) K_f80_l0_ok T_f80_l0_ok (p := [0, 1, 0, 1, 1]) (by kernel_rfl) (fun st => bif ckS f80_l0_ls f80_l0_rs st then f80_l0 n ((st.env 4).strOf) ((st.env 8).cellsOf) ((st.env 9).intOf) ((st.env 10).intOf) ((nthV (rowOf (st.regs (.par 0))) 0).strOf) R κ else none) (fun st0 h0 => ?_) ?_
    · obtain ⟨hs, h0⟩ := cond_some h0
      rw [canon (ls := f80_l0_ls) (rs := f80_l0_rs) (by kernel_rfl) st0 hs]
      exact ih _ _ _ _ _ R κ r h0
    · refine Eq.trans ?_ h
      kernel_rfl

def f80_s0 (s : ByteArray) (v8 : List V) (v9 : Int) (v10 : Int) (r0 : ByteArray) (R : Type) (κ : Ex → St → Option R) : Option R :=
  κ (.ex 0) (mkS [(3, .bad), (4, .sc (.string (altB v8 r0)))] [(.par 0, some ⟨true, [.sc (.string r0)]⟩)])
theorem ext_one (bt : ByteArray) (m : Nat) (h : m < bt.size) : bt.extract m (m + 1) = ⟨#[bt.data.getD m 0]⟩ := by
  have hl : m < bt.data.toList.length := by rw [ba_size]; exact h
  refine ba_ext ?_
  rw [bl_extract, getD_list' bt m hl, List.drop_take, show m + 1 - m = 1 by omega, List.drop_eq_getElem_cons hl]
  rfl
theorem f80_loop (bt : ByteArray) (l : List V) (hl : l.all V.isStr = true) (hn : l.length ≤ 1000000000) (R : Type) (κ : Ex → St → Option R) : ∀ (k i : Nat) (s : ByteArray), i + k = l.length → s.size + (altF bt i (l.drop i)).size ≤ 10000000000 →
    f80_l0 (k + 1) s l ((l.length : Nat) : Int) ((i : Nat) : Int) bt R κ = κ (.ex 0) (mkS [(3, .bad), (4, .sc (.string (s ++ altF bt i (l.drop i))))] [(.par 0, some ⟨true, [.sc (.string bt)]⟩)])
  | 0, i, s, h, hb => by
    rw [f80_l0, dec_false (by omega), List.drop_of_length_le (by omega), altF, ba_nil']
    rfl
  | k + 1, i, s, h, hb => by
    have hi : i < l.length := by omega
    have i1 : V.isStr l[i] = true := List.all_eq_true.1 hl _ (List.getElem_mem hi)
    rw [List.drop_eq_getElem_cons hi, altF, ba_size_append, ba_size_append] at hb
    rw [List.drop_eq_getElem_cons hi, altF]
    have plain : sepB bt i = ⟨#[]⟩ → f80_l0 (k + 1) (s ++ l[i].strOf) l ((l.length : Nat) : Int) ((i + 1 : Nat) : Int) bt R κ = κ (.ex 0) (mkS [(3, .bad), (4, .sc (.string (s ++ (sepB bt i ++ l[i].strOf ++ altF bt (i + 1) (l.drop (i + 1))))))] [(.par 0, some ⟨true, [.sc (.string bt)]⟩)]) := by
      intro hs
      rw [f80_loop bt l hl hn R κ k (i + 1) (s ++ l[i].strOf) (by omega) (by rw [ba_size_append]; omega), hs, ba_nil, ba_assoc]
    rw [f80_l0, dec_true (show ((i : Nat) : Int) < ((l.length : Nat) : Int) by omega), dec_true (show (0 : Int) ≤ ((i : Nat) : Int) by omega), nth_at hi, i1, wrap_succ (show i < 9223372036854775807 by omega), dec_true (show s.size + l[i].strOf.size ≤ 9223372036854775807 by omega)]
    cases i with
    | zero =>
      rw [dec_false (by omega)]
      simp only [Bool.and_self, cond_true, cond_false]
      exact plain (sep_zero bt)
    | succ j =>
      rw [dec_true (show ((j + 1 : Nat) : Int) > 0 by omega)]
      cases hs : strEq bt ⟨#[]⟩ with
      | true =>
        simp only [Bool.and_self, Bool.not_true, cond_true, cond_false]
        exact plain (sep_none hs _)
      | false =>
        have hp := bt_pos hs
        have hm : j % bt.size < bt.size := Nat.mod_lt _ hp
        have hj : j % bt.size ≤ j := Nat.mod_le _ _
        have hw : IntKind.wrap .i64 (((j + 1 : Nat) : Int) - 1) = ((j : Nat) : Int) := by rw [wrap_id (by omega) (by omega)]; omega
        have ht : Int.tmod ((j : Nat) : Int) ((bt.size : Nat) : Int) = ((j % bt.size : Nat) : Int) := by rw [Int.tmod_eq_emod_of_nonneg (by omega)]; rfl
        have hz : (((bt.size : Nat) : Int) != 0) = true := bne_iff_ne.2 (by omega)
        have hw2 : IntKind.wrap .i64 (((j % bt.size : Nat) : Int) + 1) = ((j % bt.size + 1 : Nat) : Int) := wrap_succ (by omega)
        have hx : sepB bt (j + 1) = ⟨#[bt.data.getD (j % bt.size) 0]⟩ := sep_some hs j
        have he : bt.extract (j % bt.size) (j % bt.size + 1) = sepB bt (j + 1) := by rw [hx]; exact ext_one bt _ hm
        have IH := f80_loop bt l hl hn R κ k (j + 1 + 1) ((s ++ sepB bt (j + 1)) ++ l[j + 1].strOf) (by omega) (by rw [ba_size_append, ba_size_append]; omega)
        rw [hw, ht, hz, hw2, dec_true (show (0 : Int) ≤ ((j % bt.size : Nat) : Int) by omega), dec_true (show ((j % bt.size : Nat) : Int) ≤ ((j % bt.size + 1 : Nat) : Int) by omega), dec_true (show ((j % bt.size + 1 : Nat) : Int) ≤ ((bt.size : Nat) : Int) by omega), Int.toNat_natCast, Int.toNat_natCast, he, ba_size_append, dec_true (show s.size + (sepB bt (j + 1)).size ≤ 9223372036854775807 by omega), dec_true (show s.size + (sepB bt (j + 1)).size + l[j + 1].strOf.size ≤ 9223372036854775807 by omega)]
        simp only [Bool.and_self, Bool.not_false, cond_true]
        rw [IH]
        simp only [ba_assoc]
theorem f80_s0_eq (s : ByteArray) (v8 : List V) (v9 : Int) (v10 : Int) (r0 : ByteArray) (hp : ((v9 == ((v8.length : Nat) : Int)) && (v10 == 0) && (s.size == 0) && v8.all V.isStr && decide (v8.length ≤ 1000000000) && decide ((altB v8 r0).size ≤ 10000000000)) = true) : ∃ n, ∀ (R : Type) (κ : Ex → St → Option R), f80_l0 n s v8 v9 v10 r0 R κ = f80_s0 s v8 v9 v10 r0 R κ := by
  simp only [Bool.and_eq_true, decide_eq_true_eq, beq_iff_eq] at hp
  obtain ⟨⟨⟨⟨⟨rfl, rfl⟩, h3⟩, h4⟩, h5⟩, h6⟩ := hp
  obtain rfl := ba_zero h3
  refine ⟨v8.length + 1, fun R κ => ?_⟩
  have := f80_loop r0 v8 h4 h5 R κ v8.length 0 ⟨#[]⟩ (by omega) (by unfold altB at h6; show 0 + (altF r0 0 v8).size ≤ _; omega)
  rw [List.drop_zero, ba_nil] at this
  exact this
def t_f80_l0 (st : St) (R : Type) (κ : Ex → St → Option R) : Option R := bif ckS f80_l0_ls f80_l0_rs st then (bif ((((st.env 9).intOf) == ((((st.env 8).cellsOf).length : Nat) : Int)) && (((st.env 10).intOf) == 0) && (((st.env 4).strOf).size == 0) && ((st.env 8).cellsOf).all V.isStr && decide (((st.env 8).cellsOf).length ≤ 1000000000) && decide ((altB ((st.env 8).cellsOf) ((nthV (rowOf (st.regs (.par 0))) 0).strOf)).size ≤ 10000000000)) then f80_s0 ((st.env 4).strOf) ((st.env 8).cellsOf) ((st.env 9).intOf) ((st.env 10).intOf) ((nthV (rowOf (st.regs (.par 0))) 0).strOf) R κ else none) else none
theorem t_f80_l0_ok : ∀ st0 R κ r, t_f80_l0 (forget C 80 [0, 1, 0, 1, 1] st0) R κ = some r → ∃ ee ss, κ ee ss = some r ∧ RunP C prim 80 [0, 1, 0, 1, 1] (forget C 80 [0, 1, 0, 1, 1] st0) ee ss := by
  intro st0 R κ r h
  obtain ⟨hs, h⟩ := cond_some h
  obtain ⟨hp, h⟩ := cond_some h
  rw [canon (ls := f80_l0_ls) (rs := f80_l0_rs) (by kernel_rfl) st0 hs]
  obtain ⟨n, hn⟩ := f80_s0_eq _ _ _ _ _ hp
  rw [← hn] at h
  exact f80_l0_ok n _ _ _ _ _ R κ r h

def K_f80 : CallK := kNil
theorem K_f80_ok : KOK C prim K_f80 := KOK.nil
def T_f80 : Tab := tCons [0, 1, 0, 1, 1] t_f80_l0 <| tNil
theorem T_f80_ok : TOK C prim 80 T_f80 := TOK.cons t_f80_l0_ok <| TOK.nil
def f80 (l : List V) (r0 : ByteArray) : Option (V × List Rg) :=
  bif ((((l.length : Nat) : Int) == ((l.length : Nat) : Int)) && ((0 : Int) == 0) && ((⟨#[]⟩ : ByteArray).size == 0) && l.all V.isStr && decide (l.length ≤ 1000000000) && decide ((altB l r0).size ≤ 10000000000)) then
    some (.sc (.string (altB l r0)), [⟨true, [.sc (.string r0)]⟩])
  else none
theorem f80_run (l : List V) (r0 : ByteArray) (z9 : V × List Rg) (h : f80 l r0 = some z9) : CallR C prim 80 [.sl 1 l, .ptrB (.par 0) 0] [⟨true, [.sc (.string r0)]⟩] z9 := by
  refine call_fn (K := K_f80) (T := T_f80) K_f80_ok T_f80_ok (by kernel_rfl) ?_
  refine Eq.trans ?_ h
  kernel_rfl

theorem f80_eq (l : List V) (r0 : ByteArray) (hp : (l.all V.isStr && decide (l.length ≤ 1000000000) && decide ((altB l r0).size ≤ 10000000000)) = true) : f80 l r0 = some (.sc (.string (altB l r0)), [⟨true, [.sc (.string r0)]⟩]) := by
  simp only [Bool.and_eq_true, decide_eq_true_eq] at hp
  unfold f80
  rw [hp.1.1, dec_true hp.1.2, dec_true hp.2, beq_self_eq_true]
  rfl
def k80 : PrimT := fun vs gs => match vs, gs with
  | [.sl 1 l, .ptrB (.par 0) 0], [⟨true, [.sc (.string r0)]⟩] => ((l.all V.isStr && decide (l.length ≤ 1000000000) && decide ((altB l r0).size ≤ 10000000000)), .sc (.string (altB l r0)), [⟨true, [.sc (.string r0)]⟩])
  | _, _ => (false, .bad, [])
theorem k80_ok : ∀ vs gs x, k80 vs gs = (true, x) → CallR C prim 80 vs gs x := by
  intro vs gs x h
  unfold k80 at h
  split at h
  · simp only [Prod.mk.injEq] at h
    obtain ⟨hp, rfl⟩ := h
    exact f80_run _ _ _ (f80_eq _ _ hp)
  · cases h

def K_f41_l0 : CallK := kCons 80 k80 <| kNil
theorem K_f41_l0_ok : KOK C prim K_f41_l0 := KOK.cons k80_ok <| KOK.nil
def T_f41_l0 : Tab := tNil
theorem T_f41_l0_ok : TOK C prim 41 T_f41_l0 := TOK.nil
def f41_l0 : Nat → List V → Int → Int → List V → ByteArray → (R : Type) → (Ex → St → Option R) → Option R
  | 0, _, _, _, _, _, _, _ => none
  | n + 1, v19, v20, v21, out, between, R, κ =>
    bif (decide (v21 < v20)) then
      bif (((decide ((0 : Int) ≤ v21)) && (decide (v21 < ((v19.length : Nat) : Int)))) && true) then
        bif (((V.isSl 1 (nthV v19 (((v21).toNat * 1) + 0))) && true) && true) then
          bif (((V.cellsOf (nthV v19 (((v21).toNat * 1) + 0))).all V.isStr && decide ((V.cellsOf (nthV v19 (((v21).toNat * 1) + 0))).length ≤ 1000000000) && decide ((altB (V.cellsOf (nthV v19 (((v21).toNat * 1) + 0))) between).size ≤ 10000000000)) && true) then
            bif (((roomy ((out.length + 1) * 16)) && (roomy (out.length + 1))) && true) then
              f41_l0 n v19 v20 (IntKind.wrap .i64 (v21 + 1)) (out ++ [.sc (.string (altB (V.cellsOf (nthV v19 (((v21).toNat * 1) + 0))) between))]) between R κ
            else none
          else none
        else none
      else none
    else
      κ (.ex 0) (mkS [(6, .bad), (7, .ref ⟨.loc 7, 0, [], 9, false⟩)] [(.loc 7, some ⟨false, [.own 9 false out]⟩)])
def f41_l0_ls : List (Nat × Pat) := [(7, .is (.ref ⟨.loc 7, 0, [], 9, false⟩)), (8, .is (.fn 80 [] [.ptrB (.loc 4) 0])), (19, .sl 1), (20, .i .i64), (21, .i .i64)]
def f41_l0_rs : List RPat := [⟨.loc 7, false, [.own 9 false]⟩, ⟨.loc 4, true, [.s]⟩]
theorem f41_l0_ok (n : Nat) : ∀ (v19 : List V) (v20 : Int) (v21 : Int) (out : List V) (between : ByteArray) (R : Type) (κ : Ex → St → Option R) (r : R), f41_l0 n v19 v20 v21 out between R κ = some r → ∃ ee ss, κ ee ss = some r ∧ RunP C prim 41 [0, 1, 0, 0, 1, 0, 1, 1, 1] (mkS [(7, .ref ⟨.loc 7, 0, [], 9, false⟩), (8, .fn 80 [] [.ptrB (.loc 4) 0]), (19, .sl 1 v19), (20, .sc (.int .i64 v20)), (21, .sc (.int .i64 v21))] [(.loc 7, some ⟨false, [.own 9 false out]⟩), (.loc 4, some ⟨true, [.sc (.string between)]⟩)]) ee ss := by
  induction n with
  | zero => intro v19 v20 v21 out between R κ r h; cases h
  | succ n ih =>
    intro v19 v20 v21 out between R κ r h
    refine loop_round (K := K_f41_l0) (T := T_f41_l0) K_f41_l0_ok T_f41_l0_ok (p := [0, 1, 0, 0, 1, 0, 1, 1, 1]) (by kernel_rfl) (fun st => bif ckS f41_l0_ls f41_l0_rs st then f41_l0 n ((st.env 19).cellsOf) ((st.env 20).intOf) ((st.env 21).intOf) ((nthV (rowOf (st.regs (.loc 7))) 0).cellsOf) ((nthV (rowOf (st.regs (.loc 4))) 0).strOf) R κ else none) (fun st0 h0 => ?_) ?_
    · obtain ⟨hs, h0⟩ := cond_some h0
      rw [canon (ls := f41_l0_ls) (rs := f41_l0_rs) (by kernel_rfl) st0 hs]
      exact ih _ _ _ _ _ R κ r h0
    · refine Eq.trans ?_ h
      kernel_rfl

def f41_s0 (v19 : List V) (v20 : Int) (v21 : Int) (out : List V) (between : ByteArray) (R : Type) (κ : Ex → St → Option R) : Option R :=
  κ (.ex 0) (mkS [(6, .bad), (7, .ref ⟨.loc 7, 0, [], 9, false⟩)] [(.loc 7, some ⟨false, [.own 9 false (serV v19 between)]⟩)])
theorem f41_loop0 (bt : ByteArray) (l : List V) (hl : l.all (okAlt bt) = true) (hn : l.length ≤ 1000000) (R : Type) (κ : Ex → St → Option R) : ∀ (k i : Nat) (out : List V), i + k = l.length → out.length = i →
    f41_l0 (k + 1) l ((l.length : Nat) : Int) ((i : Nat) : Int) out bt R κ = κ (.ex 0) (mkS [(6, .bad), (7, .ref ⟨.loc 7, 0, [], 9, false⟩)] [(.loc 7, some ⟨false, [.own 9 false (out ++ serV (l.drop i) bt)]⟩)])
  | 0, i, out, h, ho => by
    rw [f41_l0, dec_false (by omega), List.drop_of_length_le (by omega)]
    show κ _ _ = κ _ (mkS _ [(_, some ⟨false, [.own 9 false (out ++ [])]⟩)])
    rw [List.append_nil]
  | k + 1, i, out, h, ho => by
    have hi : i < l.length := by omega
    obtain ⟨a1, a2⟩ := okAlt_spec (List.all_eq_true.1 hl _ (List.getElem_mem hi))
    have r1 : roomy ((out.length + 1) * 16) = true := dec_true (by omega)
    have r2 : roomy (out.length + 1) = true := dec_true (by omega)
    rw [f41_l0, dec_true (show ((i : Nat) : Int) < ((l.length : Nat) : Int) by omega), dec_true (show (0 : Int) ≤ ((i : Nat) : Int) by omega), nth_at hi, a1, a2, r1, r2, wrap_succ (by omega), f41_loop0 bt l hl hn R κ k (i + 1) _ (by omega) (by simp [ho]), ser_drop hi, List.append_assoc]
    rfl
theorem f41_s0_eq (v19 : List V) (v20 : Int) (v21 : Int) (out : List V) (between : ByteArray) (hp : ((v20 == ((v19.length : Nat) : Int)) && (v21 == 0) && (out.length == 0) && v19.all (okAlt between) && decide (v19.length ≤ 1000000)) = true) : ∃ n, ∀ (R : Type) (κ : Ex → St → Option R), f41_l0 n v19 v20 v21 out between R κ = f41_s0 v19 v20 v21 out between R κ := by
  simp only [Bool.and_eq_true, decide_eq_true_eq, beq_iff_eq] at hp
  obtain ⟨⟨⟨⟨rfl, rfl⟩, h3⟩, h4⟩, h5⟩ := hp
  obtain rfl : out = [] := List.eq_nil_of_length_eq_zero h3
  exact ⟨v19.length + 1, fun R κ => f41_loop0 between v19 h4 h5 R κ v19.length 0 [] (by omega) rfl⟩
def t_f41_l0 (st : St) (R : Type) (κ : Ex → St → Option R) : Option R := bif ckS f41_l0_ls f41_l0_rs st then (bif ((((st.env 20).intOf) == ((((st.env 19).cellsOf).length : Nat) : Int)) && (((st.env 21).intOf) == 0) && (((nthV (rowOf (st.regs (.loc 7))) 0).cellsOf).length == 0) && ((st.env 19).cellsOf).all (okAlt ((nthV (rowOf (st.regs (.loc 4))) 0).strOf)) && decide (((st.env 19).cellsOf).length ≤ 1000000)) then f41_s0 ((st.env 19).cellsOf) ((st.env 20).intOf) ((st.env 21).intOf) ((nthV (rowOf (st.regs (.loc 7))) 0).cellsOf) ((nthV (rowOf (st.regs (.loc 4))) 0).strOf) R κ else none) else none
theorem t_f41_l0_ok : ∀ st0 R κ r, t_f41_l0 (forget C 41 [0, 1, 0, 0, 1, 0, 1, 1, 1] st0) R κ = some r → ∃ ee ss, κ ee ss = some r ∧ RunP C prim 41 [0, 1, 0, 0, 1, 0, 1, 1, 1] (forget C 41 [0, 1, 0, 0, 1, 0, 1, 1, 1] st0) ee ss := by
  intro st0 R κ r h
  obtain ⟨hs, h⟩ := cond_some h
  obtain ⟨hp, h⟩ := cond_some h
  rw [canon (ls := f41_l0_ls) (rs := f41_l0_rs) (by kernel_rfl) st0 hs]
  obtain ⟨n, hn⟩ := f41_s0_eq _ _ _ _ _ hp
  rw [← hn] at h
  exact f41_l0_ok n _ _ _ _ _ R κ r h

def K_f41_l2 : CallK := kNil
theorem K_f41_l2_ok : KOK C prim K_f41_l2 := KOK.nil
def T_f41_l2 : Tab := tNil
theorem T_f41_l2_ok : TOK C prim 41 T_f41_l2 := TOK.nil
def f41_l2 : Nat → List V → Int → Bool → List V → Int → Int → List V → ByteArray → List V → (R : Type) → (Ex → St → Option R) → Option R
  | 0, _, _, _, _, _, _, _, _, _, _, _ => none
  | n + 1, texts, n', some', v35, v36, v37, out, between, row, R, κ =>
    bif (decide (v37 < v36)) then
      bif (((decide ((0 : Int) ≤ v37)) && (decide (v37 < ((v35.length : Nat) : Int)))) && true) then
        bif (((V.isSl 1 (nthV v35 (((v37).toNat * 1) + 0))) && true) && true) then
          bif (decide (n' < ((((V.cellsOf (nthV v35 (((v37).toNat * 1) + 0)))).length : Nat) : Int))) then
            bif (((decide ((0 : Int) ≤ n')) && (decide (n' < ((((V.cellsOf (nthV v35 (((v37).toNat * 1) + 0)))).length : Nat) : Int)))) && true) then
              bif (((V.isStr (nthV (V.cellsOf (nthV v35 (((v37).toNat * 1) + 0))) (((n').toNat * 1) + 0))) && true) && true) then
                bif (((roomy ((row.length + 1) * 16)) && (roomy (row.length + 1))) && true) then
                  f41_l2 n texts n' true v35 v36 (IntKind.wrap .i64 (v37 + 1)) out between (row ++ [.sc (.string (V.strOf (nthV (V.cellsOf (nthV v35 (((v37).toNat * 1) + 0))) (((n').toNat * 1) + 0))))]) R κ
                else none
              else none
            else none
          else
            bif (((roomy ((row.length + 1) * 16)) && (roomy (row.length + 1))) && true) then
              f41_l2 n texts n' some' v35 v36 (IntKind.wrap .i64 (v37 + 1)) out between (row ++ [.sc (.string ⟨#[]⟩)]) R κ
            else none
        else none
      else none
    else
      κ (.ex 4) (mkS [(0, .sl 1 texts), (6, .bad), (7, .ref ⟨.loc 7, 0, [], 9, false⟩), (8, .fn 80 [] [.ptrB (.loc 4) 0]), (11, .sc (.int .i64 n')), (12, .ref ⟨.loc 12, 0, [], 9, false⟩), (13, .sc (.bool some'))] [(.loc 7, some ⟨false, [.own 9 false out]⟩), (.loc 4, some ⟨true, [.sc (.string between)]⟩), (.loc 12, some ⟨false, [.own 9 false row]⟩)])
def f41_l2_ls : List (Nat × Pat) := [(0, .sl 1), (7, .is (.ref ⟨.loc 7, 0, [], 9, false⟩)), (8, .is (.fn 80 [] [.ptrB (.loc 4) 0])), (11, .i .i64), (12, .is (.ref ⟨.loc 12, 0, [], 9, false⟩)), (13, .b), (35, .sl 1), (36, .i .i64), (37, .i .i64)]
def f41_l2_rs : List RPat := [⟨.loc 7, false, [.own 9 false]⟩, ⟨.loc 4, true, [.s]⟩, ⟨.loc 12, false, [.own 9 false]⟩]
theorem f41_l2_ok (n : Nat) : ∀ (texts : List V) (n' : Int) (some' : Bool) (v35 : List V) (v36 : Int) (v37 : Int) (out : List V) (between : ByteArray) (row : List V) (R : Type) (κ : Ex → St → Option R) (r : R), f41_l2 n texts n' some' v35 v36 v37 out between row R κ = some r → ∃ ee ss, κ ee ss = some r ∧ RunP C prim 41 [0, 1, 0, 1, 1, 0, 0, 0, 0, 1, 1, 1, 1, 1] (mkS [(0, .sl 1 texts), (7, .ref ⟨.loc 7, 0, [], 9, false⟩), (8, .fn 80 [] [.ptrB (.loc 4) 0]), (11, .sc (.int .i64 n')), (12, .ref ⟨.loc 12, 0, [], 9, false⟩), (13, .sc (.bool some')), (35, .sl 1 v35), (36, .sc (.int .i64 v36)), (37, .sc (.int .i64 v37))] [(.loc 7, some ⟨false, [.own 9 false out]⟩), (.loc 4, some ⟨true, [.sc (.string between)]⟩), (.loc 12, some ⟨false, [.own 9 false row]⟩)]) ee ss := by
  induction n with
  | zero => intro texts n' some' v35 v36 v37 out between row R κ r h; cases h
  | succ n ih =>
    intro texts n' some' v35 v36 v37 out between row R κ r h
    refine loop_round (K := K_f41_l2) (T := T_f41_l2) K_f41_l2_ok T_f41_l2_ok (p := [0, 1, 0, 1, 1, 0, 0, 0, 0, 1, 1, 1, 1, 1]) (by kernel_rfl) (fun st => bif ckS f41_l2_ls f41_l2_rs st then f41_l2 n ((st.env 0).cellsOf) ((st.env 11).intOf) ((st.env 13).boolOf) ((st.env 35).cellsOf) ((st.env 36).intOf) ((st.env 37).intOf) ((nthV (rowOf (st.regs (.loc 7))) 0).cellsOf) ((nthV (rowOf (st.regs (.loc 4))) 0).strOf) ((nthV (rowOf (st.regs (.loc 12))) 0).cellsOf) R κ else none) (fun st0 h0 => ?_) ?_
    · obtain ⟨hs, h0⟩ := cond_some h0
      rw [canon (ls := f41_l2_ls) (rs := f41_l2_rs) (by kernel_rfl) st0 hs]
      exact ih _ _ _ _ _ _ _ _ _ R κ r h0
    · refine Eq.trans ?_ h
      kernel_rfl

def f41_s2 (texts : List V) (n' : Int) (some' : Bool) (v35 : List V) (v36 : Int) (v37 : Int) (out : List V) (between : ByteArray) (row : List V) (R : Type) (κ : Ex → St → Option R) : Option R :=
  κ (.ex 4) (mkS [(0, .sl 1 texts), (6, .bad), (7, .ref ⟨.loc 7, 0, [], 9, false⟩), (8, .fn 80 [] [.ptrB (.loc 4) 0]), (11, .sc (.int .i64 n')), (12, .ref ⟨.loc 12, 0, [], 9, false⟩), (13, .sc (.bool (some' || moreV v35 n')))] [(.loc 7, some ⟨false, [.own 9 false out]⟩), (.loc 4, some ⟨true, [.sc (.string between)]⟩), (.loc 12, some ⟨false, [.own 9 false (rowV v35 n')]⟩)])
theorem f41_loop2 (texts l out : List V) (bt : ByteArray) (m : Nat) (hm : m ≤ 100000000) (hl : l.all okStrs = true) (hn : l.length ≤ 1000000) (R : Type) (κ : Ex → St → Option R) : ∀ (k i : Nat) (b : Bool) (row : List V), i + k = l.length → row.length = i →
    f41_l2 (k + 1) texts ((m : Nat) : Int) b l ((l.length : Nat) : Int) ((i : Nat) : Int) out bt row R κ = κ (.ex 4) (mkS [(0, .sl 1 texts), (6, .bad), (7, .ref ⟨.loc 7, 0, [], 9, false⟩), (8, .fn 80 [] [.ptrB (.loc 4) 0]), (11, .sc (.int .i64 ((m : Nat) : Int))), (12, .ref ⟨.loc 12, 0, [], 9, false⟩), (13, .sc (.bool (b || moreV (l.drop i) ((m : Nat) : Int))))] [(.loc 7, some ⟨false, [.own 9 false out]⟩), (.loc 4, some ⟨true, [.sc (.string bt)]⟩), (.loc 12, some ⟨false, [.own 9 false (row ++ rowV (l.drop i) ((m : Nat) : Int))]⟩)])
  | 0, i, b, row, h, ho => by
    rw [f41_l2, dec_false (by omega), List.drop_of_length_le (by omega)]
    have e1 : moreV [] ((m : Nat) : Int) = false := rfl
    have e2 : rowV [] ((m : Nat) : Int) = [] := rfl
    rw [e1, e2, Bool.or_false, List.append_nil]
    rfl
  | k + 1, i, b, row, h, ho => by
    have hi : i < l.length := by omega
    obtain ⟨a1, a2, a3⟩ := okStrs_spec (List.all_eq_true.1 hl _ (List.getElem_mem hi))
    have r1 : roomy ((row.length + 1) * 16) = true := dec_true (by omega)
    have r2 : roomy (row.length + 1) = true := dec_true (by omega)
    rw [f41_l2, dec_true (show ((i : Nat) : Int) < ((l.length : Nat) : Int) by omega), dec_true (show (0 : Int) ≤ ((i : Nat) : Int) by omega), nth_at hi, a1, r1, r2, wrap_succ (by omega), row_drop hi, more_drop hi]
    by_cases hk : ((m : Nat) : Int) < ((l[i].cellsOf.length : Nat) : Int)
    · have hk' : m < l[i].cellsOf.length := by omega
      have i1 : V.isStr l[i].cellsOf[m] = true := List.all_eq_true.1 a2 _ (List.getElem_mem hk')
      have e : atS l[i] ((m : Nat) : Int) = l[i].cellsOf[m].strOf := by
        unfold atS
        rw [dec_true hk, cond_true, Int.toNat_natCast, nthV_lt hk']
      rw [dec_true hk, dec_true (show (0 : Int) ≤ ((m : Nat) : Int) by omega), nth_at hk', i1, f41_loop2 texts l out bt m hm hl hn R κ k (i + 1) true _ (by omega) (by simp [ho]), e]
      simp only [Bool.and_self, cond_true, Bool.true_or, Bool.or_true, List.append_assoc, List.singleton_append]
    · have e : atS l[i] ((m : Nat) : Int) = ⟨#[]⟩ := by
        unfold atS
        rw [dec_false hk]; rfl
      rw [dec_false hk, f41_loop2 texts l out bt m hm hl hn R κ k (i + 1) b _ (by omega) (by simp [ho]), e]
      simp only [Bool.and_self, cond_true, cond_false, Bool.false_or, List.append_assoc, List.singleton_append]
theorem f41_s2_eq (texts : List V) (n' : Int) (some' : Bool) (v35 : List V) (v36 : Int) (v37 : Int) (out : List V) (between : ByteArray) (row : List V) (hp : ((v36 == ((v35.length : Nat) : Int)) && (v37 == 0) && (row.length == 0) && decide (0 ≤ n') && decide (n' ≤ 100000000) && v35.all okStrs && decide (v35.length ≤ 1000000)) = true) : ∃ n, ∀ (R : Type) (κ : Ex → St → Option R), f41_l2 n texts n' some' v35 v36 v37 out between row R κ = f41_s2 texts n' some' v35 v36 v37 out between row R κ := by
  simp only [Bool.and_eq_true, decide_eq_true_eq, beq_iff_eq] at hp
  obtain ⟨⟨⟨⟨⟨⟨rfl, rfl⟩, h3⟩, h4⟩, h5⟩, h6⟩, h7⟩ := hp
  obtain rfl : row = [] := List.eq_nil_of_length_eq_zero h3
  obtain ⟨m, rfl⟩ : ∃ m : Nat, n' = (m : Int) := ⟨n'.toNat, by omega⟩
  exact ⟨v35.length + 1, fun R κ => f41_loop2 texts v35 out between m (by omega) h6 h7 R κ v35.length 0 some' [] (by omega) rfl⟩
def t_f41_l2 (st : St) (R : Type) (κ : Ex → St → Option R) : Option R := bif ckS f41_l2_ls f41_l2_rs st then (bif ((((st.env 36).intOf) == ((((st.env 35).cellsOf).length : Nat) : Int)) && (((st.env 37).intOf) == 0) && (((nthV (rowOf (st.regs (.loc 12))) 0).cellsOf).length == 0) && decide (0 ≤ ((st.env 11).intOf)) && decide (((st.env 11).intOf) ≤ 100000000) && ((st.env 35).cellsOf).all okStrs && decide (((st.env 35).cellsOf).length ≤ 1000000)) then f41_s2 ((st.env 0).cellsOf) ((st.env 11).intOf) ((st.env 13).boolOf) ((st.env 35).cellsOf) ((st.env 36).intOf) ((st.env 37).intOf) ((nthV (rowOf (st.regs (.loc 7))) 0).cellsOf) ((nthV (rowOf (st.regs (.loc 4))) 0).strOf) ((nthV (rowOf (st.regs (.loc 12))) 0).cellsOf) R κ else none) else none
theorem t_f41_l2_ok : ∀ st0 R κ r, t_f41_l2 (forget C 41 [0, 1, 0, 1, 1, 0, 0, 0, 0, 1, 1, 1, 1, 1] st0) R κ = some r → ∃ ee ss, κ ee ss = some r ∧ RunP C prim 41 [0, 1, 0, 1, 1, 0, 0, 0, 0, 1, 1, 1, 1, 1] (forget C 41 [0, 1, 0, 1, 1, 0, 0, 0, 0, 1, 1, 1, 1, 1] st0) ee ss := by
  intro st0 R κ r h
  obtain ⟨hs, h⟩ := cond_some h
  obtain ⟨hp, h⟩ := cond_some h
  rw [canon (ls := f41_l2_ls) (rs := f41_l2_rs) (by kernel_rfl) st0 hs]
  obtain ⟨n, hn⟩ := f41_s2_eq _ _ _ _ _ _ _ _ _ hp
  rw [← hn] at h
  exact f41_l2_ok n _ _ _ _ _ _ _ _ _ R κ r h

def K_f41_l1 : CallK := kCons 80 k80 <| kNil
theorem K_f41_l1_ok : KOK C prim K_f41_l1 := KOK.cons k80_ok <| KOK.nil
def T_f41_l1 : Tab := tCons [0, 1, 0, 1, 1, 0, 0, 0, 0, 1, 1, 1, 1, 1] t_f41_l2 <| tNil
theorem T_f41_l1_ok : TOK C prim 41 T_f41_l1 := TOK.cons t_f41_l2_ok <| TOK.nil
def f41_l1 : Nat → List V → Int → List V → ByteArray → (R : Type) → (Ex → St → Option R) → Option R
  | 0, _, _, _, _, _, _ => none
  | n + 1, texts, n', out, between, R, κ =>
    bif ((((texts.length : Nat) : Int) == ((texts.length : Nat) : Int)) && ((0 : Int) == 0) && (([] : List V).length == 0) && decide (0 ≤ n') && decide (n' ≤ 100000000) && texts.all okStrs && decide (texts.length ≤ 1000000)) then
      bif (!(false || moreV texts n')) then
        κ .rt (mkS [(6, .ref ⟨.loc 6, 0, [], 9, false⟩)] [(.loc 6, some ⟨false, [.own 9 false out]⟩)])
      else
        bif (((rowV texts n').all V.isStr && decide ((rowV texts n').length ≤ 1000000000) && decide ((altB (rowV texts n') between).size ≤ 10000000000)) && true) then
          bif (((roomy ((out.length + 1) * 16)) && (roomy (out.length + 1))) && true) then
            f41_l1 n texts (IntKind.wrap .i64 (n' + 1)) (out ++ [.sc (.string (altB (rowV texts n') between))]) between R κ
          else none
        else none
    else none
def f41_l1_ls : List (Nat × Pat) := [(0, .sl 1), (7, .is (.ref ⟨.loc 7, 0, [], 9, false⟩)), (8, .is (.fn 80 [] [.ptrB (.loc 4) 0])), (11, .i .i64)]
def f41_l1_rs : List RPat := [⟨.loc 7, false, [.own 9 false]⟩, ⟨.loc 4, true, [.s]⟩]
theorem f41_l1_ok (n : Nat) : ∀ (texts : List V) (n' : Int) (out : List V) (between : ByteArray) (R : Type) (κ : Ex → St → Option R) (r : R), f41_l1 n texts n' out between R κ = some r → ∃ ee ss, κ ee ss = some r ∧ RunP C prim 41 [0, 1, 1, 1, 1, 1] (mkS [(0, .sl 1 texts), (7, .ref ⟨.loc 7, 0, [], 9, false⟩), (8, .fn 80 [] [.ptrB (.loc 4) 0]), (11, .sc (.int .i64 n'))] [(.loc 7, some ⟨false, [.own 9 false out]⟩), (.loc 4, some ⟨true, [.sc (.string between)]⟩)]) ee ss := by
  induction n with
  | zero => intro texts n' out between R κ r h; cases h
  | succ n ih =>
    intro texts n' out between R κ r h
    refine loop_round (K := K_f41_l1) (T := T_f41_l1) K_f41_l1_ok T_f41_l1_ok (p := [0, 1, 1, 1, 1, 1]) (by kernel_rfl) (fun st => bif ckS f41_l1_ls f41_l1_rs st then f41_l1 n ((st.env 0).cellsOf) ((st.env 11).intOf) ((nthV (rowOf (st.regs (.loc 7))) 0).cellsOf) ((nthV (rowOf (st.regs (.loc 4))) 0).strOf) R κ else none) (fun st0 h0 => ?_) ?_
    · obtain ⟨hs, h0⟩ := cond_some h0
      rw [canon (ls := f41_l1_ls) (rs := f41_l1_rs) (by kernel_rfl) st0 hs]
      exact ih _ _ _ _ R κ r h0
    · refine Eq.trans ?_ h
      kernel_rfl

def f41_s1 (texts : List V) (n' : Int) (out : List V) (between : ByteArray) (R : Type) (κ : Ex → St → Option R) : Option R :=
  κ .rt (mkS [(6, .ref ⟨.loc 6, 0, [], 9, false⟩)] [(.loc 6, some ⟨false, [.own 9 false (gridV texts between)]⟩)])
theorem f41_loop1 (bt : ByteArray) (l : List V) (hl : l.all okStrs = true) (hn : l.length ≤ 1000000) (hg : okGrid l bt = true) (R : Type) (κ : Ex → St → Option R) : ∀ (k i : Nat) (out : List V), i + k = maxL l → out.length = i →
    f41_l1 (k + 1) l ((i : Nat) : Int) out bt R κ = κ .rt (mkS [(6, .ref ⟨.loc 6, 0, [], 9, false⟩)] [(.loc 6, some ⟨false, [.own 9 false (out ++ gridF l bt k i)]⟩)])
  | 0, i, out, h, ho => by
    have hx := okGrid_max hg
    rw [f41_l1, dec_true (show (0 : Int) ≤ ((i : Nat) : Int) by omega), dec_true (show ((i : Nat) : Int) ≤ 100000000 by omega), hl, dec_true hn, more_max, dec_false (show ¬ i < maxL l by omega), beq_self_eq_true, gridF, List.append_nil]
    rfl
  | k + 1, i, out, h, ho => by
    have hx := okGrid_max hg
    have r1 : roomy ((out.length + 1) * 16) = true := dec_true (by omega)
    have r2 : roomy (out.length + 1) = true := dec_true (by omega)
    rw [f41_l1, dec_true (show (0 : Int) ≤ ((i : Nat) : Int) by omega), dec_true (show ((i : Nat) : Int) ≤ 100000000 by omega), hl, dec_true hn, more_max, dec_true (show i < maxL l by omega), beq_self_eq_true, row_str, row_len, dec_true (show l.length ≤ 1000000000 by omega), dec_true (okGrid_at hg (show i < maxL l by omega)), r1, r2, wrap_succ (by omega), f41_loop1 bt l hl hn hg R κ k (i + 1) _ (by omega) (by simp [ho]), gridF, List.append_assoc]
    rfl
theorem f41_s1_eq (texts : List V) (n' : Int) (out : List V) (between : ByteArray) (hp : ((n' == 0) && (out.length == 0) && texts.all okStrs && decide (texts.length ≤ 1000000) && okGrid texts between) = true) : ∃ n, ∀ (R : Type) (κ : Ex → St → Option R), f41_l1 n texts n' out between R κ = f41_s1 texts n' out between R κ := by
  simp only [Bool.and_eq_true, decide_eq_true_eq, beq_iff_eq] at hp
  obtain ⟨⟨⟨⟨rfl, h2⟩, h3⟩, h4⟩, h5⟩ := hp
  obtain rfl : out = [] := List.eq_nil_of_length_eq_zero h2
  exact ⟨maxL texts + 1, fun R κ => f41_loop1 between texts h3 h4 h5 R κ (maxL texts) 0 [] (by omega) rfl⟩
def t_f41_l1 (st : St) (R : Type) (κ : Ex → St → Option R) : Option R := bif ckS f41_l1_ls f41_l1_rs st then (bif ((((st.env 11).intOf) == 0) && (((nthV (rowOf (st.regs (.loc 7))) 0).cellsOf).length == 0) && ((st.env 0).cellsOf).all okStrs && decide (((st.env 0).cellsOf).length ≤ 1000000) && okGrid ((st.env 0).cellsOf) ((nthV (rowOf (st.regs (.loc 4))) 0).strOf)) then f41_s1 ((st.env 0).cellsOf) ((st.env 11).intOf) ((nthV (rowOf (st.regs (.loc 7))) 0).cellsOf) ((nthV (rowOf (st.regs (.loc 4))) 0).strOf) R κ else none) else none
theorem t_f41_l1_ok : ∀ st0 R κ r, t_f41_l1 (forget C 41 [0, 1, 1, 1, 1, 1] st0) R κ = some r → ∃ ee ss, κ ee ss = some r ∧ RunP C prim 41 [0, 1, 1, 1, 1, 1] (forget C 41 [0, 1, 1, 1, 1, 1] st0) ee ss := by
  intro st0 R κ r h
  obtain ⟨hs, h⟩ := cond_some h
  obtain ⟨hp, h⟩ := cond_some h
  rw [canon (ls := f41_l1_ls) (rs := f41_l1_rs) (by kernel_rfl) st0 hs]
  obtain ⟨n, hn⟩ := f41_s1_eq _ _ _ _ hp
  rw [← hn] at h
  exact f41_l1_ok n _ _ _ _ R κ r h

def K_f41 : CallK := kNil
theorem K_f41_ok : KOK C prim K_f41 := KOK.nil
def T_f41 : Tab := tCons [0, 1, 0, 0, 1, 0, 1, 1, 1] t_f41_l0 <| tCons [0, 1, 1, 1, 1, 1] t_f41_l1 <| tNil
theorem T_f41_ok : TOK C prim 41 T_f41 := TOK.cons t_f41_l0_ok <| TOK.cons t_f41_l1_ok <| TOK.nil
def f41 (texts : List V) (between : ByteArray) (serial : Bool) : Option (V × List Rg) :=
  bif serial then
    bif ((((texts.length : Nat) : Int) == ((texts.length : Nat) : Int)) && ((0 : Int) == 0) && (([] : List V).length == 0) && texts.all (okAlt between) && decide (texts.length ≤ 1000000)) then
      some (.own 9 false (serV texts between), [])
    else none
  else
    bif (((0 : Int) == 0) && (([] : List V).length == 0) && texts.all okStrs && decide (texts.length ≤ 1000000) && okGrid texts between) then
      some (.own 9 false (gridV texts between), [])
    else none
theorem f41_run (texts : List V) (between : ByteArray) (serial : Bool) (z9 : V × List Rg) (h : f41 texts between serial = some z9) : CallR C prim 41 [.sl 1 texts, .sc (.string between), .sc (.bool serial)] [] z9 := by
  refine call_fn (K := K_f41) (T := T_f41) K_f41_ok T_f41_ok (by kernel_rfl) ?_
  refine Eq.trans ?_ h
  kernel_rfl

theorem f41_eq (texts : List V) (between : ByteArray) (serial : Bool) (hp : (texts.all okStrs && decide (texts.length ≤ 1000000) && okGrid texts between && texts.all (okAlt between)) = true) : f41 texts between serial = some (.own 9 false (bif serial then serV texts between else gridV texts between), []) := by
  simp only [Bool.and_eq_true, decide_eq_true_eq] at hp
  obtain ⟨⟨⟨h1, h2⟩, h3⟩, h4⟩ := hp
  unfold f41
  rw [h1, dec_true h2, h3, h4, beq_self_eq_true]
  cases serial <;> rfl
def k41 : PrimT := fun vs gs => match vs, gs with
  | [.sl 1 texts, .sc (.string between), .sc (.bool serial)], [] => ((texts.all okStrs && decide (texts.length ≤ 1000000) && okGrid texts between && texts.all (okAlt between)), .own 9 false (bif serial then serV texts between else gridV texts between), [])
  | _, _ => (false, .bad, [])
theorem k41_ok : ∀ vs gs x, k41 vs gs = (true, x) → CallR C prim 41 vs gs x := by
  intro vs gs x h
  unfold k41 at h
  split at h
  · simp only [Prod.mk.injEq] at h
    obtain ⟨hp, rfl⟩ := h
    exact f41_run _ _ _ _ (f41_eq _ _ _ hp)
  · cases h

def K_f39_l0 : CallK := kCons 54 k54 <| kNil
theorem K_f39_l0_ok : KOK C prim K_f39_l0 := KOK.cons k54_ok <| KOK.nil
def T_f39_l0 : Tab := tNil
theorem T_f39_l0_ok : TOK C prim 39 T_f39_l0 := TOK.nil
def f39_l0 : Nat → ByteArray → Bool → Int → List V → Int → Int → List V → (R : Type) → (Ex → St → Option R) → Option R
  | 0, _, _, _, _, _, _, _, _, _ => none
  | n + 1, between, serial, high, v43, v44, v45, all, R, κ =>
    bif (decide (v45 < v44)) then
      bif (((decide ((0 : Int) ≤ v45)) && (decide (v45 < ((v43.length : Nat) : Int)))) && true) then
        bif (((V.isStr (nthV v43 (((v45).toNat * 1) + 0))) && true) && true) then
          bif ((decide ((V.strOf (nthV v43 (((v45).toNat * 1) + 0))).size ≤ 1000000000)) && true) then
            bif (((roomy ((all.length + 1) * 24)) && (roomy (all.length + 1))) && true) then
              f39_l0 n between serial (bif (decide (((((linesV (V.strOf (nthV v43 (((v45).toNat * 1) + 0))))).length : Nat) : Int) > high)) then ((((linesV (V.strOf (nthV v43 (((v45).toNat * 1) + 0))))).length : Nat) : Int) else high) v43 v44 (IntKind.wrap .i64 (v45 + 1)) (all ++ [.sl 1 (linesV (V.strOf (nthV v43 (((v45).toNat * 1) + 0))))]) R κ
            else none
          else none
        else none
      else none
    else
      κ (.ex 1) (mkS [(1, .sc (.string between)), (2, .sc (.bool serial)), (6, .bad), (7, .bad), (9, .ref ⟨.loc 9, 0, [], 35, false⟩), (10, .sc (.int .i64 high))] [(.loc 9, some ⟨false, [.own 35 false all]⟩)])
def f39_l0_ls : List (Nat × Pat) := [(1, .s), (2, .b), (9, .is (.ref ⟨.loc 9, 0, [], 35, false⟩)), (10, .i .i64), (43, .sl 1), (44, .i .i64), (45, .i .i64)]
def f39_l0_rs : List RPat := [⟨.loc 9, false, [.own 35 false]⟩]
theorem f39_l0_ok (n : Nat) : ∀ (between : ByteArray) (serial : Bool) (high : Int) (v43 : List V) (v44 : Int) (v45 : Int) (all : List V) (R : Type) (κ : Ex → St → Option R) (r : R), f39_l0 n between serial high v43 v44 v45 all R κ = some r → ∃ ee ss, κ ee ss = some r ∧ RunP C prim 39 [0, 1, 0, 1, 1, 1, 1, 1] (mkS [(1, .sc (.string between)), (2, .sc (.bool serial)), (9, .ref ⟨.loc 9, 0, [], 35, false⟩), (10, .sc (.int .i64 high)), (43, .sl 1 v43), (44, .sc (.int .i64 v44)), (45, .sc (.int .i64 v45))] [(.loc 9, some ⟨false, [.own 35 false all]⟩)]) ee ss := by
  induction n with
  | zero => intro between serial high v43 v44 v45 all R κ r h; cases h
  | succ n ih =>
    intro between serial high v43 v44 v45 all R κ r h
    refine loop_round (K := K_f39_l0) (T := T_f39_l0) K_f39_l0_ok T_f39_l0_ok (p := [0, 1, 0, 1, 1, 1, 1, 1]) (by kernel_rfl) (fun st => bif ckS f39_l0_ls f39_l0_rs st then f39_l0 n ((st.env 1).strOf) ((st.env 2).boolOf) ((st.env 10).intOf) ((st.env 43).cellsOf) ((st.env 44).intOf) ((st.env 45).intOf) ((nthV (rowOf (st.regs (.loc 9))) 0).cellsOf) R κ else none) (fun st0 h0 => ?_) ?_
    · obtain ⟨hs, h0⟩ := cond_some h0
      rw [canon (ls := f39_l0_ls) (rs := f39_l0_rs) (by kernel_rfl) st0 hs]
      exact ih _ _ _ _ _ _ _ R κ r h0
    · refine Eq.trans ?_ h
      kernel_rfl

def f39_s0 (between : ByteArray) (serial : Bool) (high : Int) (v43 : List V) (v44 : Int) (v45 : Int) (all : List V) (R : Type) (κ : Ex → St → Option R) : Option R :=
  κ (.ex 1) (mkS [(1, .sc (.string between)), (2, .sc (.bool serial)), (6, .bad), (7, .bad), (9, .ref ⟨.loc 9, 0, [], 35, false⟩), (10, .sc (.int .i64 ((maxL (linesA v43) : Nat) : Int)))] [(.loc 9, some ⟨false, [.own 35 false (linesA v43)]⟩)])
theorem linesA_drop {l : List V} {i : Nat} (h : i < l.length) : linesA (l.drop i) = .sl 1 (linesV l[i].strOf) :: linesA (l.drop (i + 1)) := by
  rw [List.drop_eq_getElem_cons h]; rfl
theorem f39_loop0 (bt : ByteArray) (serial : Bool) (l : List V) (hl : l.all shortS = true) (hn : l.length ≤ 1000000) (R : Type) (κ : Ex → St → Option R) : ∀ (k i hi : Nat) (all : List V), i + k = l.length → all.length = i →
    f39_l0 (k + 1) bt serial ((hi : Nat) : Int) l ((l.length : Nat) : Int) ((i : Nat) : Int) all R κ = κ (.ex 1) (mkS [(1, .sc (.string bt)), (2, .sc (.bool serial)), (6, .bad), (7, .bad), (9, .ref ⟨.loc 9, 0, [], 35, false⟩), (10, .sc (.int .i64 ((max hi (maxL (linesA (l.drop i))) : Nat) : Int)))] [(.loc 9, some ⟨false, [.own 35 false (all ++ linesA (l.drop i))]⟩)])
  | 0, i, hi, all, h, ho => by
    rw [f39_l0, dec_false (by omega), List.drop_of_length_le (by omega)]
    have e1 : linesA [] = [] := rfl
    have e2 : maxL [] = 0 := rfl
    rw [e1, e2, List.append_nil, Nat.max_eq_left (Nat.zero_le _)]
    rfl
  | k + 1, i, hi, all, h, ho => by
    have hi' : i < l.length := by omega
    obtain ⟨a1, a2⟩ := shortS_spec (List.all_eq_true.1 hl _ (List.getElem_mem hi'))
    have r1 : roomy ((all.length + 1) * 24) = true := dec_true (by omega)
    have r2 : roomy (all.length + 1) = true := dec_true (by omega)
    have em : maxL (linesA (l.drop i)) = max (linesV l[i].strOf).length (maxL (linesA (l.drop (i + 1)))) := by rw [linesA_drop hi']; rfl
    have eh : (bif decide ((((linesV l[i].strOf).length : Nat) : Int) > ((hi : Nat) : Int)) then (((linesV l[i].strOf).length : Nat) : Int) else ((hi : Nat) : Int)) = ((max hi (linesV l[i].strOf).length : Nat) : Int) := by
      by_cases hd : (((linesV l[i].strOf).length : Nat) : Int) > ((hi : Nat) : Int)
      · rw [dec_true hd, cond_true]; omega
      · rw [dec_false hd, cond_false]; omega
    rw [f39_l0, dec_true (show ((i : Nat) : Int) < ((l.length : Nat) : Int) by omega), dec_true (show (0 : Int) ≤ ((i : Nat) : Int) by omega), nth_at hi', a1, dec_true a2, r1, r2, wrap_succ (by omega), eh, f39_loop0 bt serial l hl hn R κ k (i + 1) _ _ (by omega) (by simp [ho]), em, linesA_drop hi', List.append_assoc, Nat.max_assoc]
    rfl
theorem f39_s0_eq (between : ByteArray) (serial : Bool) (high : Int) (v43 : List V) (v44 : Int) (v45 : Int) (all : List V) (hp : ((v44 == ((v43.length : Nat) : Int)) && (v45 == 0) && (all.length == 0) && (high == 0) && v43.all shortS && decide (v43.length ≤ 1000000)) = true) : ∃ n, ∀ (R : Type) (κ : Ex → St → Option R), f39_l0 n between serial high v43 v44 v45 all R κ = f39_s0 between serial high v43 v44 v45 all R κ := by
  simp only [Bool.and_eq_true, decide_eq_true_eq, beq_iff_eq] at hp
  obtain ⟨⟨⟨⟨⟨rfl, rfl⟩, h3⟩, rfl⟩, h5⟩, h6⟩ := hp
  obtain rfl : all = [] := List.eq_nil_of_length_eq_zero h3
  refine ⟨v43.length + 1, fun R κ => ?_⟩
  have := f39_loop0 between serial v43 h5 h6 R κ v43.length 0 0 [] (by omega) rfl
  rw [List.drop_zero, List.nil_append, Nat.max_eq_right (Nat.zero_le _)] at this
  exact this
def t_f39_l0 (st : St) (R : Type) (κ : Ex → St → Option R) : Option R := bif ckS f39_l0_ls f39_l0_rs st then (bif ((((st.env 44).intOf) == ((((st.env 43).cellsOf).length : Nat) : Int)) && (((st.env 45).intOf) == 0) && (((nthV (rowOf (st.regs (.loc 9))) 0).cellsOf).length == 0) && (((st.env 10).intOf) == 0) && ((st.env 43).cellsOf).all shortS && decide (((st.env 43).cellsOf).length ≤ 1000000)) then f39_s0 ((st.env 1).strOf) ((st.env 2).boolOf) ((st.env 10).intOf) ((st.env 43).cellsOf) ((st.env 44).intOf) ((st.env 45).intOf) ((nthV (rowOf (st.regs (.loc 9))) 0).cellsOf) R κ else none) else none
theorem t_f39_l0_ok : ∀ st0 R κ r, t_f39_l0 (forget C 39 [0, 1, 0, 1, 1, 1, 1, 1] st0) R κ = some r → ∃ ee ss, κ ee ss = some r ∧ RunP C prim 39 [0, 1, 0, 1, 1, 1, 1, 1] (forget C 39 [0, 1, 0, 1, 1, 1, 1, 1] st0) ee ss := by
  intro st0 R κ r h
  obtain ⟨hs, h⟩ := cond_some h
  obtain ⟨hp, h⟩ := cond_some h
  rw [canon (ls := f39_l0_ls) (rs := f39_l0_rs) (by kernel_rfl) st0 hs]
  obtain ⟨n, hn⟩ := f39_s0_eq _ _ _ _ _ _ _ hp
  rw [← hn] at h
  exact f39_l0_ok n _ _ _ _ _ _ _ R κ r h

def K_f39_l1 : CallK := kCons 76 k76 <| kNil
theorem K_f39_l1_ok : KOK C prim K_f39_l1 := KOK.cons k76_ok <| KOK.nil
def T_f39_l1 : Tab := tNil
theorem T_f39_l1_ok : TOK C prim 39 T_f39_l1 := TOK.nil
def f39_l1 : Nat → ByteArray → Int → Int → List V → List V → (R : Type) → (Ex → St → Option R) → Option R
  | 0, _, _, _, _, _, _, _ => none
  | n + 1, between, v62, v63, out, all, R, κ =>
    bif (decide (v63 < v62)) then
      bif (((decide ((0 : Int) ≤ v63)) && (decide (v63 < ((all.length : Nat) : Int)))) && true) then
        bif (((V.isSl 1 (nthV all (((v63).toNat * 1) + 0))) && true) && true) then
          bif (((V.cellsOf (nthV all (((v63).toNat * 1) + 0))).all V.isStr && decide ((V.cellsOf (nthV all (((v63).toNat * 1) + 0))).length ≤ 1000000000) && decide ((altB (V.cellsOf (nthV all (((v63).toNat * 1) + 0))) between).size ≤ 10000000000)) && true) then
            bif (((roomy ((out.length + 1) * 16)) && (roomy (out.length + 1))) && true) then
              f39_l1 n between v62 (IntKind.wrap .i64 (v63 + 1)) (out ++ [.sc (.string (altB (V.cellsOf (nthV all (((v63).toNat * 1) + 0))) between))]) all R κ
            else none
          else none
        else none
      else none
    else
      κ (.ex 3) (mkS [(6, .bad), (7, .bad), (14, .ref ⟨.loc 14, 0, [], 9, false⟩)] [(.loc 14, some ⟨false, [.own 9 false out]⟩)])
def f39_l1_ls : List (Nat × Pat) := [(1, .s), (14, .is (.ref ⟨.loc 14, 0, [], 9, false⟩)), (61, .is (.ref ⟨.loc 9, 0, [], 35, false⟩)), (62, .i .i64), (63, .i .i64)]
def f39_l1_rs : List RPat := [⟨.loc 14, false, [.own 9 false]⟩, ⟨.loc 9, false, [.own 35 false]⟩]
theorem f39_l1_ok (n : Nat) : ∀ (between : ByteArray) (v62 : Int) (v63 : Int) (out : List V) (all : List V) (R : Type) (κ : Ex → St → Option R) (r : R), f39_l1 n between v62 v63 out all R κ = some r → ∃ ee ss, κ ee ss = some r ∧ RunP C prim 39 [0, 1, 0, 0, 1, 0, 1, 1, 1, 1, 1, 1, 1] (mkS [(1, .sc (.string between)), (14, .ref ⟨.loc 14, 0, [], 9, false⟩), (61, .ref ⟨.loc 9, 0, [], 35, false⟩), (62, .sc (.int .i64 v62)), (63, .sc (.int .i64 v63))] [(.loc 14, some ⟨false, [.own 9 false out]⟩), (.loc 9, some ⟨false, [.own 35 false all]⟩)]) ee ss := by
  induction n with
  | zero => intro between v62 v63 out all R κ r h; cases h
  | succ n ih =>
    intro between v62 v63 out all R κ r h
    refine loop_round (K := K_f39_l1) (T := T_f39_l1) K_f39_l1_ok T_f39_l1_ok (p := [0, 1, 0, 0, 1, 0, 1, 1, 1, 1, 1, 1, 1]) (by kernel_rfl) (fun st => bif ckS f39_l1_ls f39_l1_rs st then f39_l1 n ((st.env 1).strOf) ((st.env 62).intOf) ((st.env 63).intOf) ((nthV (rowOf (st.regs (.loc 14))) 0).cellsOf) ((nthV (rowOf (st.regs (.loc 9))) 0).cellsOf) R κ else none) (fun st0 h0 => ?_) ?_
    · obtain ⟨hs, h0⟩ := cond_some h0
      rw [canon (ls := f39_l1_ls) (rs := f39_l1_rs) (by kernel_rfl) st0 hs]
      exact ih _ _ _ _ _ R κ r h0
    · refine Eq.trans ?_ h
      kernel_rfl

def f39_s1 (between : ByteArray) (v62 : Int) (v63 : Int) (out : List V) (all : List V) (R : Type) (κ : Ex → St → Option R) : Option R :=
  κ (.ex 3) (mkS [(6, .bad), (7, .bad), (14, .ref ⟨.loc 14, 0, [], 9, false⟩)] [(.loc 14, some ⟨false, [.own 9 false (serV all between)]⟩)])
theorem f39_loop1 (bt : ByteArray) (l : List V) (hl : l.all (okAlt bt) = true) (hn : l.length ≤ 1000000) (R : Type) (κ : Ex → St → Option R) : ∀ (k i : Nat) (out : List V), i + k = l.length → out.length = i →
    f39_l1 (k + 1) bt ((l.length : Nat) : Int) ((i : Nat) : Int) out l R κ = κ (.ex 3) (mkS [(6, .bad), (7, .bad), (14, .ref ⟨.loc 14, 0, [], 9, false⟩)] [(.loc 14, some ⟨false, [.own 9 false (out ++ serV (l.drop i) bt)]⟩)])
  | 0, i, out, h, ho => by
    rw [f39_l1, dec_false (by omega), List.drop_of_length_le (by omega)]
    have e1 : serV [] bt = [] := rfl
    rw [e1, List.append_nil]
    rfl
  | k + 1, i, out, h, ho => by
    have hi : i < l.length := by omega
    obtain ⟨a1, a2⟩ := okAlt_spec (List.all_eq_true.1 hl _ (List.getElem_mem hi))
    have r1 : roomy ((out.length + 1) * 16) = true := dec_true (by omega)
    have r2 : roomy (out.length + 1) = true := dec_true (by omega)
    rw [f39_l1, dec_true (show ((i : Nat) : Int) < ((l.length : Nat) : Int) by omega), dec_true (show (0 : Int) ≤ ((i : Nat) : Int) by omega), nth_at hi, a1, a2, r1, r2, wrap_succ (by omega), f39_loop1 bt l hl hn R κ k (i + 1) _ (by omega) (by simp [ho]), ser_drop hi, List.append_assoc]
    rfl
theorem f39_s1_eq (between : ByteArray) (v62 : Int) (v63 : Int) (out : List V) (all : List V) (hp : ((v62 == ((all.length : Nat) : Int)) && (v63 == 0) && (out.length == 0) && all.all (okAlt between) && decide (all.length ≤ 1000000)) = true) : ∃ n, ∀ (R : Type) (κ : Ex → St → Option R), f39_l1 n between v62 v63 out all R κ = f39_s1 between v62 v63 out all R κ := by
  simp only [Bool.and_eq_true, decide_eq_true_eq, beq_iff_eq] at hp
  obtain ⟨⟨⟨⟨rfl, rfl⟩, h3⟩, h4⟩, h5⟩ := hp
  obtain rfl : out = [] := List.eq_nil_of_length_eq_zero h3
  exact ⟨all.length + 1, fun R κ => f39_loop1 between all h4 h5 R κ all.length 0 [] (by omega) rfl⟩
def t_f39_l1 (st : St) (R : Type) (κ : Ex → St → Option R) : Option R := bif ckS f39_l1_ls f39_l1_rs st then (bif ((((st.env 62).intOf) == ((((nthV (rowOf (st.regs (.loc 9))) 0).cellsOf).length : Nat) : Int)) && (((st.env 63).intOf) == 0) && (((nthV (rowOf (st.regs (.loc 14))) 0).cellsOf).length == 0) && ((nthV (rowOf (st.regs (.loc 9))) 0).cellsOf).all (okAlt ((st.env 1).strOf)) && decide (((nthV (rowOf (st.regs (.loc 9))) 0).cellsOf).length ≤ 1000000)) then f39_s1 ((st.env 1).strOf) ((st.env 62).intOf) ((st.env 63).intOf) ((nthV (rowOf (st.regs (.loc 14))) 0).cellsOf) ((nthV (rowOf (st.regs (.loc 9))) 0).cellsOf) R κ else none) else none
theorem t_f39_l1_ok : ∀ st0 R κ r, t_f39_l1 (forget C 39 [0, 1, 0, 0, 1, 0, 1, 1, 1, 1, 1, 1, 1] st0) R κ = some r → ∃ ee ss, κ ee ss = some r ∧ RunP C prim 39 [0, 1, 0, 0, 1, 0, 1, 1, 1, 1, 1, 1, 1] (forget C 39 [0, 1, 0, 0, 1, 0, 1, 1, 1, 1, 1, 1, 1] st0) ee ss := by
  intro st0 R κ r h
  obtain ⟨hs, h⟩ := cond_some h
  obtain ⟨hp, h⟩ := cond_some h
  rw [canon (ls := f39_l1_ls) (rs := f39_l1_rs) (by kernel_rfl) st0 hs]
  obtain ⟨n, hn⟩ := f39_s1_eq _ _ _ _ _ hp
  rw [← hn] at h
  exact f39_l1_ok n _ _ _ _ _ R κ r h

def K_f39_l3 : CallK := kNil
theorem K_f39_l3_ok : KOK C prim K_f39_l3 := KOK.nil
def T_f39_l3 : Tab := tNil
theorem T_f39_l3_ok : TOK C prim 39 T_f39_l3 := TOK.nil
def f39_l3 : Nat → ByteArray → Int → Int → Int → Int → Int → List V → List V → List V → (R : Type) → (Ex → St → Option R) → Option R
  | 0, _, _, _, _, _, _, _, _, _, _, _ => none
  | n + 1, between, i, v76, v77, v81, v82, all, out, words, R, κ =>
    bif (decide (v82 < v81)) then
      bif (((decide ((0 : Int) ≤ v82)) && (decide (v82 < ((all.length : Nat) : Int)))) && true) then
        bif (((V.isSl 1 (nthV all (((v82).toNat * 1) + 0))) && true) && true) then
          bif (decide (i < ((((V.cellsOf (nthV all (((v82).toNat * 1) + 0)))).length : Nat) : Int))) then
            bif (((decide ((0 : Int) ≤ i)) && (decide (i < ((((V.cellsOf (nthV all (((v82).toNat * 1) + 0)))).length : Nat) : Int)))) && true) then
              bif (((V.isStr (nthV (V.cellsOf (nthV all (((v82).toNat * 1) + 0))) (((i).toNat * 1) + 0))) && true) && true) then
                bif (((roomy ((words.length + 1) * 16)) && (roomy (words.length + 1))) && true) then
                  f39_l3 n between i v76 v77 v81 (IntKind.wrap .i64 (v82 + 1)) all out (words ++ [.sc (.string (V.strOf (nthV (V.cellsOf (nthV all (((v82).toNat * 1) + 0))) (((i).toNat * 1) + 0))))]) R κ
                else none
              else none
            else none
          else
            bif (((roomy ((words.length + 1) * 16)) && (roomy (words.length + 1))) && true) then
              f39_l3 n between i v76 v77 v81 (IntKind.wrap .i64 (v82 + 1)) all out (words ++ [.sc (.string ⟨#[]⟩)]) R κ
            else none
        else none
      else none
    else
      κ (.ex 7) (mkS [(1, .sc (.string between)), (6, .bad), (7, .bad), (9, .ref ⟨.loc 9, 0, [], 35, false⟩), (14, .ref ⟨.loc 14, 0, [], 9, false⟩), (18, .ref ⟨.loc 18, 0, [], 9, false⟩), (76, .sc (.int .i64 v76)), (77, .sc (.int .i64 v77))] [(.loc 9, some ⟨false, [.own 35 false all]⟩), (.loc 14, some ⟨false, [.own 9 false out]⟩), (.loc 18, some ⟨false, [.own 9 false words]⟩)])
def f39_l3_ls : List (Nat × Pat) := [(1, .s), (9, .is (.ref ⟨.loc 9, 0, [], 35, false⟩)), (14, .is (.ref ⟨.loc 14, 0, [], 9, false⟩)), (17, .i .i64), (18, .is (.ref ⟨.loc 18, 0, [], 9, false⟩)), (76, .i .i64), (77, .i .i64), (80, .is (.ref ⟨.loc 9, 0, [], 35, false⟩)), (81, .i .i64), (82, .i .i64)]
def f39_l3_rs : List RPat := [⟨.loc 9, false, [.own 35 false]⟩, ⟨.loc 14, false, [.own 9 false]⟩, ⟨.loc 18, false, [.own 9 false]⟩]
theorem f39_l3_ok (n : Nat) : ∀ (between : ByteArray) (i : Int) (v76 : Int) (v77 : Int) (v81 : Int) (v82 : Int) (all : List V) (out : List V) (words : List V) (R : Type) (κ : Ex → St → Option R) (r : R), f39_l3 n between i v76 v77 v81 v82 all out words R κ = some r → ∃ ee ss, κ ee ss = some r ∧ RunP C prim 39 [0, 1, 0, 1, 1, 0, 0, 1, 1, 0, 0, 1, 0, 1, 1, 1, 1, 1, 1, 1, 1] (mkS [(1, .sc (.string between)), (9, .ref ⟨.loc 9, 0, [], 35, false⟩), (14, .ref ⟨.loc 14, 0, [], 9, false⟩), (17, .sc (.int .i64 i)), (18, .ref ⟨.loc 18, 0, [], 9, false⟩), (76, .sc (.int .i64 v76)), (77, .sc (.int .i64 v77)), (80, .ref ⟨.loc 9, 0, [], 35, false⟩), (81, .sc (.int .i64 v81)), (82, .sc (.int .i64 v82))] [(.loc 9, some ⟨false, [.own 35 false all]⟩), (.loc 14, some ⟨false, [.own 9 false out]⟩), (.loc 18, some ⟨false, [.own 9 false words]⟩)]) ee ss := by
  induction n with
  | zero => intro between i v76 v77 v81 v82 all out words R κ r h; cases h
  | succ n ih =>
    intro between i v76 v77 v81 v82 all out words R κ r h
    refine loop_round (K := K_f39_l3) (T := T_f39_l3) K_f39_l3_ok T_f39_l3_ok (p := [0, 1, 0, 1, 1, 0, 0, 1, 1, 0, 0, 1, 0, 1, 1, 1, 1, 1, 1, 1, 1]) (by kernel_rfl) (fun st => bif ckS f39_l3_ls f39_l3_rs st then f39_l3 n ((st.env 1).strOf) ((st.env 17).intOf) ((st.env 76).intOf) ((st.env 77).intOf) ((st.env 81).intOf) ((st.env 82).intOf) ((nthV (rowOf (st.regs (.loc 9))) 0).cellsOf) ((nthV (rowOf (st.regs (.loc 14))) 0).cellsOf) ((nthV (rowOf (st.regs (.loc 18))) 0).cellsOf) R κ else none) (fun st0 h0 => ?_) ?_
    · obtain ⟨hs, h0⟩ := cond_some h0
      rw [canon (ls := f39_l3_ls) (rs := f39_l3_rs) (by kernel_rfl) st0 hs]
      exact ih _ _ _ _ _ _ _ _ _ R κ r h0
    · refine Eq.trans ?_ h
      kernel_rfl

def f39_s3 (between : ByteArray) (i : Int) (v76 : Int) (v77 : Int) (v81 : Int) (v82 : Int) (all : List V) (out : List V) (words : List V) (R : Type) (κ : Ex → St → Option R) : Option R :=
  κ (.ex 7) (mkS [(1, .sc (.string between)), (6, .bad), (7, .bad), (9, .ref ⟨.loc 9, 0, [], 35, false⟩), (14, .ref ⟨.loc 14, 0, [], 9, false⟩), (18, .ref ⟨.loc 18, 0, [], 9, false⟩), (76, .sc (.int .i64 v76)), (77, .sc (.int .i64 v77))] [(.loc 9, some ⟨false, [.own 35 false all]⟩), (.loc 14, some ⟨false, [.own 9 false out]⟩), (.loc 18, some ⟨false, [.own 9 false (rowV all i)]⟩)])
theorem f39_loop3 (l out : List V) (bt : ByteArray) (m : Nat) (v76 v77 : Int) (hm : m ≤ 100000000) (hl : l.all okStrs = true) (hn : l.length ≤ 1000000) (R : Type) (κ : Ex → St → Option R) : ∀ (k i : Nat) (row : List V), i + k = l.length → row.length = i →
    f39_l3 (k + 1) bt ((m : Nat) : Int) v76 v77 ((l.length : Nat) : Int) ((i : Nat) : Int) l out row R κ = κ (.ex 7) (mkS [(1, .sc (.string bt)), (6, .bad), (7, .bad), (9, .ref ⟨.loc 9, 0, [], 35, false⟩), (14, .ref ⟨.loc 14, 0, [], 9, false⟩), (18, .ref ⟨.loc 18, 0, [], 9, false⟩), (76, .sc (.int .i64 v76)), (77, .sc (.int .i64 v77))] [(.loc 9, some ⟨false, [.own 35 false l]⟩), (.loc 14, some ⟨false, [.own 9 false out]⟩), (.loc 18, some ⟨false, [.own 9 false (row ++ rowV (l.drop i) ((m : Nat) : Int))]⟩)])
  | 0, i, row, h, ho => by
    rw [f39_l3, dec_false (by omega), List.drop_of_length_le (by omega)]
    have e2 : rowV [] ((m : Nat) : Int) = [] := rfl
    rw [e2, List.append_nil]
    rfl
  | k + 1, i, row, h, ho => by
    have hi : i < l.length := by omega
    obtain ⟨a1, a2, a3⟩ := okStrs_spec (List.all_eq_true.1 hl _ (List.getElem_mem hi))
    have r1 : roomy ((row.length + 1) * 16) = true := dec_true (by omega)
    have r2 : roomy (row.length + 1) = true := dec_true (by omega)
    rw [f39_l3, dec_true (show ((i : Nat) : Int) < ((l.length : Nat) : Int) by omega), dec_true (show (0 : Int) ≤ ((i : Nat) : Int) by omega), nth_at hi, a1, r1, r2, wrap_succ (by omega), row_drop hi]
    by_cases hk : ((m : Nat) : Int) < ((l[i].cellsOf.length : Nat) : Int)
    · have hk' : m < l[i].cellsOf.length := by omega
      have i1 : V.isStr l[i].cellsOf[m] = true := List.all_eq_true.1 a2 _ (List.getElem_mem hk')
      have e : atS l[i] ((m : Nat) : Int) = l[i].cellsOf[m].strOf := by
        unfold atS
        rw [dec_true hk, cond_true, Int.toNat_natCast, nthV_lt hk']
      rw [dec_true hk, dec_true (show (0 : Int) ≤ ((m : Nat) : Int) by omega), nth_at hk', i1, f39_loop3 l out bt m v76 v77 hm hl hn R κ k (i + 1) _ (by omega) (by simp [ho]), e]
      simp only [Bool.and_self, cond_true, List.append_assoc, List.singleton_append]
    · have e : atS l[i] ((m : Nat) : Int) = ⟨#[]⟩ := by
        unfold atS
        rw [dec_false hk]; rfl
      rw [dec_false hk]
      simp only [Bool.and_self, cond_true, cond_false]
      rw [f39_loop3 l out bt m v76 v77 hm hl hn R κ k (i + 1) _ (by omega) (by simp [ho]), e]
      simp only [List.append_assoc, List.singleton_append]
theorem f39_s3_eq (between : ByteArray) (i : Int) (v76 : Int) (v77 : Int) (v81 : Int) (v82 : Int) (all : List V) (out : List V) (words : List V) (hp : ((v81 == ((all.length : Nat) : Int)) && (v82 == 0) && (words.length == 0) && decide (0 ≤ i) && decide (i ≤ 100000000) && all.all okStrs && decide (all.length ≤ 1000000)) = true) : ∃ n, ∀ (R : Type) (κ : Ex → St → Option R), f39_l3 n between i v76 v77 v81 v82 all out words R κ = f39_s3 between i v76 v77 v81 v82 all out words R κ := by
  simp only [Bool.and_eq_true, decide_eq_true_eq, beq_iff_eq] at hp
  obtain ⟨⟨⟨⟨⟨⟨rfl, rfl⟩, h3⟩, h4⟩, h5⟩, h6⟩, h7⟩ := hp
  obtain rfl : words = [] := List.eq_nil_of_length_eq_zero h3
  obtain ⟨m, rfl⟩ : ∃ m : Nat, i = (m : Int) := ⟨i.toNat, by omega⟩
  exact ⟨all.length + 1, fun R κ => f39_loop3 all out between m v76 v77 (by omega) h6 h7 R κ all.length 0 [] (by omega) rfl⟩
def t_f39_l3 (st : St) (R : Type) (κ : Ex → St → Option R) : Option R := bif ckS f39_l3_ls f39_l3_rs st then (bif ((((st.env 81).intOf) == ((((nthV (rowOf (st.regs (.loc 9))) 0).cellsOf).length : Nat) : Int)) && (((st.env 82).intOf) == 0) && (((nthV (rowOf (st.regs (.loc 18))) 0).cellsOf).length == 0) && decide (0 ≤ ((st.env 17).intOf)) && decide (((st.env 17).intOf) ≤ 100000000) && ((nthV (rowOf (st.regs (.loc 9))) 0).cellsOf).all okStrs && decide (((nthV (rowOf (st.regs (.loc 9))) 0).cellsOf).length ≤ 1000000)) then f39_s3 ((st.env 1).strOf) ((st.env 17).intOf) ((st.env 76).intOf) ((st.env 77).intOf) ((st.env 81).intOf) ((st.env 82).intOf) ((nthV (rowOf (st.regs (.loc 9))) 0).cellsOf) ((nthV (rowOf (st.regs (.loc 14))) 0).cellsOf) ((nthV (rowOf (st.regs (.loc 18))) 0).cellsOf) R κ else none) else none
theorem t_f39_l3_ok : ∀ st0 R κ r, t_f39_l3 (forget C 39 [0, 1, 0, 1, 1, 0, 0, 1, 1, 0, 0, 1, 0, 1, 1, 1, 1, 1, 1, 1, 1] st0) R κ = some r → ∃ ee ss, κ ee ss = some r ∧ RunP C prim 39 [0, 1, 0, 1, 1, 0, 0, 1, 1, 0, 0, 1, 0, 1, 1, 1, 1, 1, 1, 1, 1] (forget C 39 [0, 1, 0, 1, 1, 0, 0, 1, 1, 0, 0, 1, 0, 1, 1, 1, 1, 1, 1, 1, 1] st0) ee ss := by
  intro st0 R κ r h
  obtain ⟨hs, h⟩ := cond_some h
  obtain ⟨hp, h⟩ := cond_some h
  rw [canon (ls := f39_l3_ls) (rs := f39_l3_rs) (by kernel_rfl) st0 hs]
  obtain ⟨n, hn⟩ := f39_s3_eq _ _ _ _ _ _ _ _ _ hp
  rw [← hn] at h
  exact f39_l3_ok n _ _ _ _ _ _ _ _ _ R κ r h

def K_f39_l2 : CallK := kCons 76 k76 <| kNil
theorem K_f39_l2_ok : KOK C prim K_f39_l2 := KOK.cons k76_ok <| KOK.nil
def T_f39_l2 : Tab := tCons [0, 1, 0, 1, 1, 0, 0, 1, 1, 0, 0, 1, 0, 1, 1, 1, 1, 1, 1, 1, 1] t_f39_l3 <| tNil
theorem T_f39_l2_ok : TOK C prim 39 T_f39_l2 := TOK.cons t_f39_l3_ok <| TOK.nil
def f39_l2 : Nat → ByteArray → Int → Int → List V → List V → (R : Type) → (Ex → St → Option R) → Option R
  | 0, _, _, _, _, _, _, _ => none
  | n + 1, between, v76, v77, all, out, R, κ =>
    bif (decide (v77 < v76)) then
      bif ((((all.length : Nat) : Int) == ((all.length : Nat) : Int)) && ((0 : Int) == 0) && (([] : List V).length == 0) && decide (0 ≤ v77) && decide (v77 ≤ 100000000) && all.all okStrs && decide (all.length ≤ 1000000)) then
        bif (((rowV all v77).all V.isStr && decide ((rowV all v77).length ≤ 1000000000) && decide ((altB (rowV all v77) between).size ≤ 10000000000)) && true) then
          bif (((roomy ((out.length + 1) * 16)) && (roomy (out.length + 1))) && true) then
            f39_l2 n between v76 (IntKind.wrap .i64 (v77 + 1)) all (out ++ [.sc (.string (altB (rowV all v77) between))]) R κ
          else none
        else none
      else none
    else
      κ (.ex 5) (mkS [(6, .bad), (7, .bad), (14, .ref ⟨.loc 14, 0, [], 9, false⟩)] [(.loc 14, some ⟨false, [.own 9 false out]⟩)])
def f39_l2_ls : List (Nat × Pat) := [(1, .s), (9, .is (.ref ⟨.loc 9, 0, [], 35, false⟩)), (14, .is (.ref ⟨.loc 14, 0, [], 9, false⟩)), (76, .i .i64), (77, .i .i64)]
def f39_l2_rs : List RPat := [⟨.loc 9, false, [.own 35 false]⟩, ⟨.loc 14, false, [.own 9 false]⟩]
theorem f39_l2_ok (n : Nat) : ∀ (between : ByteArray) (v76 : Int) (v77 : Int) (all : List V) (out : List V) (R : Type) (κ : Ex → St → Option R) (r : R), f39_l2 n between v76 v77 all out R κ = some r → ∃ ee ss, κ ee ss = some r ∧ RunP C prim 39 [0, 1, 0, 1, 1, 1, 1, 1, 1, 1, 1] (mkS [(1, .sc (.string between)), (9, .ref ⟨.loc 9, 0, [], 35, false⟩), (14, .ref ⟨.loc 14, 0, [], 9, false⟩), (76, .sc (.int .i64 v76)), (77, .sc (.int .i64 v77))] [(.loc 9, some ⟨false, [.own 35 false all]⟩), (.loc 14, some ⟨false, [.own 9 false out]⟩)]) ee ss := by
  induction n with
  | zero => intro between v76 v77 all out R κ r h; cases h
  | succ n ih =>
    intro between v76 v77 all out R κ r h
    refine loop_round (K := K_f39_l2) (T := T_f39_l2) K_f39_l2_ok T_f39_l2_ok (p := [0, 1, 0, 1, 1, 1, 1, 1, 1, 1, 1]) (by kernel_rfl) (fun st => bif ckS f39_l2_ls f39_l2_rs st then f39_l2 n ((st.env 1).strOf) ((st.env 76).intOf) ((st.env 77).intOf) ((nthV (rowOf (st.regs (.loc 9))) 0).cellsOf) ((nthV (rowOf (st.regs (.loc 14))) 0).cellsOf) R κ else none) (fun st0 h0 => ?_) ?_
    · obtain ⟨hs, h0⟩ := cond_some h0
      rw [canon (ls := f39_l2_ls) (rs := f39_l2_rs) (by kernel_rfl) st0 hs]
      exact ih _ _ _ _ _ R κ r h0
    · refine Eq.trans ?_ h
      kernel_rfl

def f39_s2 (between : ByteArray) (v76 : Int) (v77 : Int) (all : List V) (out : List V) (R : Type) (κ : Ex → St → Option R) : Option R :=
  κ (.ex 5) (mkS [(6, .bad), (7, .bad), (14, .ref ⟨.loc 14, 0, [], 9, false⟩)] [(.loc 14, some ⟨false, [.own 9 false (gridV all between)]⟩)])
theorem f39_loop2 (bt : ByteArray) (l : List V) (hl : l.all okStrs = true) (hn : l.length ≤ 1000000) (hg : okGrid l bt = true) (R : Type) (κ : Ex → St → Option R) : ∀ (k i : Nat) (out : List V), i + k = maxL l → out.length = i →
    f39_l2 (k + 1) bt ((maxL l : Nat) : Int) ((i : Nat) : Int) l out R κ = κ (.ex 5) (mkS [(6, .bad), (7, .bad), (14, .ref ⟨.loc 14, 0, [], 9, false⟩)] [(.loc 14, some ⟨false, [.own 9 false (out ++ gridF l bt k i)]⟩)])
  | 0, i, out, h, ho => by
    rw [f39_l2, dec_false (by omega), gridF, List.append_nil]
    rfl
  | k + 1, i, out, h, ho => by
    have hx := okGrid_max hg
    have r1 : roomy ((out.length + 1) * 16) = true := dec_true (by omega)
    have r2 : roomy (out.length + 1) = true := dec_true (by omega)
    rw [f39_l2, dec_true (show ((i : Nat) : Int) < ((maxL l : Nat) : Int) by omega), dec_true (show (0 : Int) ≤ ((i : Nat) : Int) by omega), dec_true (show ((i : Nat) : Int) ≤ 100000000 by omega), hl, dec_true hn, beq_self_eq_true, row_str, row_len, dec_true (show l.length ≤ 1000000000 by omega), dec_true (okGrid_at hg (show i < maxL l by omega)), r1, r2, wrap_succ (by omega), f39_loop2 bt l hl hn hg R κ k (i + 1) _ (by omega) (by simp [ho]), gridF, List.append_assoc]
    rfl
theorem f39_s2_eq (between : ByteArray) (v76 : Int) (v77 : Int) (all : List V) (out : List V) (hp : ((v76 == ((maxL all : Nat) : Int)) && (v77 == 0) && (out.length == 0) && all.all okStrs && decide (all.length ≤ 1000000) && okGrid all between && decide (maxL all ≤ 100000000)) = true) : ∃ n, ∀ (R : Type) (κ : Ex → St → Option R), f39_l2 n between v76 v77 all out R κ = f39_s2 between v76 v77 all out R κ := by
  simp only [Bool.and_eq_true, decide_eq_true_eq, beq_iff_eq] at hp
  obtain ⟨⟨⟨⟨⟨⟨rfl, rfl⟩, h3⟩, h4⟩, h5⟩, h6⟩, h7⟩ := hp
  obtain rfl : out = [] := List.eq_nil_of_length_eq_zero h3
  exact ⟨maxL all + 1, fun R κ => f39_loop2 between all h4 h5 h6 R κ (maxL all) 0 [] (by omega) rfl⟩
def t_f39_l2 (st : St) (R : Type) (κ : Ex → St → Option R) : Option R := bif ckS f39_l2_ls f39_l2_rs st then (bif ((((st.env 76).intOf) == ((maxL ((nthV (rowOf (st.regs (.loc 9))) 0).cellsOf) : Nat) : Int)) && (((st.env 77).intOf) == 0) && (((nthV (rowOf (st.regs (.loc 14))) 0).cellsOf).length == 0) && ((nthV (rowOf (st.regs (.loc 9))) 0).cellsOf).all okStrs && decide (((nthV (rowOf (st.regs (.loc 9))) 0).cellsOf).length ≤ 1000000) && okGrid ((nthV (rowOf (st.regs (.loc 9))) 0).cellsOf) ((st.env 1).strOf) && decide (maxL ((nthV (rowOf (st.regs (.loc 9))) 0).cellsOf) ≤ 100000000)) then f39_s2 ((st.env 1).strOf) ((st.env 76).intOf) ((st.env 77).intOf) ((nthV (rowOf (st.regs (.loc 9))) 0).cellsOf) ((nthV (rowOf (st.regs (.loc 14))) 0).cellsOf) R κ else none) else none
theorem t_f39_l2_ok : ∀ st0 R κ r, t_f39_l2 (forget C 39 [0, 1, 0, 1, 1, 1, 1, 1, 1, 1, 1] st0) R κ = some r → ∃ ee ss, κ ee ss = some r ∧ RunP C prim 39 [0, 1, 0, 1, 1, 1, 1, 1, 1, 1, 1] (forget C 39 [0, 1, 0, 1, 1, 1, 1, 1, 1, 1, 1] st0) ee ss := by
  intro st0 R κ r h
  obtain ⟨hs, h⟩ := cond_some h
  obtain ⟨hp, h⟩ := cond_some h
  rw [canon (ls := f39_l2_ls) (rs := f39_l2_rs) (by kernel_rfl) st0 hs]
  obtain ⟨n, hn⟩ := f39_s2_eq _ _ _ _ _ hp
  rw [← hn] at h
  exact f39_l2_ok n _ _ _ _ _ R κ r h

def K_f39 : CallK := kCons 15 k15 <| kCons 52 k52 <| kCons 58 k58 <| kNil
theorem K_f39_ok : KOK C prim K_f39 := KOK.cons k15_ok <| KOK.cons k52_ok <| KOK.cons k58_ok <| KOK.nil
def T_f39 : Tab := tCons [0, 1, 0, 1, 1, 1, 1, 1] t_f39_l0 <| tCons [0, 1, 0, 0, 1, 0, 1, 1, 1, 1, 1, 1, 1] t_f39_l1 <| tCons [0, 1, 0, 1, 1, 1, 1, 1, 1, 1, 1] t_f39_l2 <| tNil
theorem T_f39_ok : TOK C prim 39 T_f39 := TOK.cons t_f39_l0_ok <| TOK.cons t_f39_l1_ok <| TOK.cons t_f39_l2_ok <| TOK.nil
def f39 (texts : List V) (between : ByteArray) (serial : Bool) : Option (V × List Rg) :=
  bif (((texts.length : Nat) : Int) == 0) then
    some (.tp [.sc (.string ⟨#[]⟩), .sc (.int .i64 23)], [])
  else
    bif (decide (((texts.length : Nat) : Int) > 16)) then
      some (.tp [.sc (.string ⟨#[]⟩), .sc (.int .i64 2)], [])
    else
      bif (hasB between 10) then
        some (.tp [.sc (.string ⟨#[]⟩), .sc (.int .i64 5)], [])
      else
        bif (decide (((between.size : Nat) : Int) > 16)) then
          some (.tp [.sc (.string ⟨#[]⟩), .sc (.int .i64 5)], [])
        else
          bif ((texts.all shortS && decide (texts.length ≤ 1000000000)) && true) then
            bif ((bif texts.any largeV then (2 : Int) else 0) != 0) then
              some (.tp [.sc (.string ⟨#[]⟩), .sc (.int .i64 (bif texts.any largeV then (2 : Int) else 0))], [])
            else
              bif ((((texts.length : Nat) : Int) == ((texts.length : Nat) : Int)) && ((0 : Int) == 0) && (([] : List V).length == 0) && ((0 : Int) == 0) && texts.all shortS && decide (texts.length ≤ 1000000)) then
                bif serial then
                  bif ((((((linesA texts)).length : Nat) : Int) == (((linesA texts).length : Nat) : Int)) && ((0 : Int) == 0) && (([] : List V).length == 0) && (linesA texts).all (okAlt between) && decide ((linesA texts).length ≤ 1000000)) then
                    bif (((serV (linesA texts) between).all V.isStr && decide ((serV (linesA texts) between).length ≤ 1000000000) && decide ((resB (serV (linesA texts) between)).size ≤ 100000000000)) && true) then
                      some (.tp [.sc (.string (resB (serV (linesA texts) between))), .sc (.int .i64 0)], [])
                    else none
                  else none
                else
                  bif ((((maxL (linesA texts) : Nat) : Int) == ((maxL (linesA texts) : Nat) : Int)) && ((0 : Int) == 0) && (([] : List V).length == 0) && (linesA texts).all okStrs && decide ((linesA texts).length ≤ 1000000) && okGrid (linesA texts) between && decide (maxL (linesA texts) ≤ 100000000)) then
                    bif (((gridV (linesA texts) between).all V.isStr && decide ((gridV (linesA texts) between).length ≤ 1000000000) && decide ((resB (gridV (linesA texts) between)).size ≤ 100000000000)) && true) then
                      some (.tp [.sc (.string (resB (gridV (linesA texts) between))), .sc (.int .i64 0)], [])
                    else none
                  else none
              else none
          else none
theorem f39_run (texts : List V) (between : ByteArray) (serial : Bool) (z9 : V × List Rg) (h : f39 texts between serial = some z9) : CallR C prim 39 [.sl 1 texts, .sc (.string between), .sc (.bool serial)] [] z9 := by
  refine call_fn (K := K_f39) (T := T_f39) K_f39_ok T_f39_ok (by kernel_rfl) ?_
  refine Eq.trans ?_ h
  kernel_rfl

theorem f39_eq (texts : List V) (between : ByteArray) (serial : Bool) (hp : (texts.all shortS && decide (texts.length ≤ 10000000)) = true) : f39 texts between serial = some (.tp [.sc (.string (pasteS texts between serial)), .sc (.int .i64 (pasteE texts between))], []) := by
  simp only [Bool.and_eq_true, decide_eq_true_eq] at hp
  unfold f39 pasteS pasteE
  rw [hp.1, dec_true (show texts.length ≤ 1000000000 by omega)]
  cases h1 : ((texts.length : Nat) : Int) == 0 with
  | true => rfl
  | false =>
  by_cases h2 : ((texts.length : Nat) : Int) > 16
  · rw [dec_true h2]; rfl
  rw [dec_false h2]
  cases h3 : hasB between 10 with
  | true => rfl
  | false =>
  cases h4 : decide (((between.size : Nat) : Int) > 16) with
  | true => rfl
  | false =>
  cases h5 : texts.any largeV with
  | true => rfl
  | false =>
  obtain ⟨a1, a2, a3, a4, a5, a6, a7⟩ := paste_ok between (show texts.length ≤ 16 by omega) h5 serial
  have hl := linesA_len texts
  rw [dec_true (show texts.length ≤ 1000000 by omega), a1, a2, a3, dec_true (show maxL (linesA texts) ≤ 100000000 by omega), dec_true (show (linesA texts).length ≤ 1000000 by omega), beq_self_eq_true ((texts.length : Nat) : Int), beq_self_eq_true (((linesA texts).length : Nat) : Int), beq_self_eq_true ((maxL (linesA texts) : Nat) : Int)]
  unfold pasteV at *
  cases serial with
  | true =>
    simp only [cond_true] at a5 a6 a7
    rw [a5, dec_true a6, dec_true a7]; rfl
  | false =>
    simp only [cond_false] at a5 a6 a7
    rw [a5, dec_true a6, dec_true a7]; rfl
def k39 : PrimT := fun vs gs => match vs, gs with
  | [.sl 1 texts, .sc (.string between), .sc (.bool serial)], [] => ((texts.all shortS && decide (texts.length ≤ 10000000)), .tp [.sc (.string (pasteS texts between serial)), .sc (.int .i64 (pasteE texts between))], [])
  | _, _ => (false, .bad, [])
theorem k39_ok : ∀ vs gs x, k39 vs gs = (true, x) → CallR C prim 39 vs gs x := by
  intro vs gs x h
  unfold k39 at h
  split at h
  · simp only [Prod.mk.injEq] at h
    obtain ⟨hp, rfl⟩ := h
    exact f39_run _ _ _ _ (f39_eq _ _ _ hp)
  · cases h

def K_f9_l0 : CallK := kCons 21 k21 <| kNil
theorem K_f9_l0_ok : KOK C prim K_f9_l0 := KOK.cons k21_ok <| KOK.nil
def T_f9_l0 : Tab := tNil
theorem T_f9_l0_ok : TOK C prim 9 T_f9_l0 := TOK.nil
def f9_l0 : Nat → ByteArray → Bool → ByteArray → Int → List V → Int → Int → List V → (R : Type) → (Ex → St → Option R) → Option R
  | 0, _, _, _, _, _, _, _, _, _, _ => none
  | n + 1, between, serial, t, e, v56, v57, v58, texts, R, κ =>
    bif (decide (v58 < v57)) then
      bif (((decide ((0 : Int) ≤ v58)) && (decide (v58 < ((v56.length : Nat) : Int)))) && true) then
        bif (((V.isStr (nthV v56 (((v58).toNat * 1) + 0))) && true) && true) then
          bif ((decide ((V.strOf (nthV v56 (((v58).toNat * 1) + 0))).size ≤ 1000000000)) && true) then
            bif (((roomy ((texts.length + 1) * 24)) && (roomy (texts.length + 1))) && true) then
              f9_l0 n between serial t e v56 v57 (IntKind.wrap .i64 (v58 + 1)) (texts ++ [.sl 1 (linesV (V.strOf (nthV v56 (((v58).toNat * 1) + 0))))]) R κ
            else none
          else none
        else none
      else none
    else
      κ (.ex 0) (mkS [(1, .sc (.string between)), (2, .sc (.bool serial)), (6, .bad), (7, .sc (.string t)), (8, .sc (.int .i64 e)), (10, .ref ⟨.loc 10, 0, [], 35, false⟩)] [(.loc 10, some ⟨false, [.own 35 false texts]⟩)])
def f9_l0_ls : List (Nat × Pat) := [(1, .s), (2, .b), (7, .s), (8, .i .i64), (10, .is (.ref ⟨.loc 10, 0, [], 35, false⟩)), (56, .sl 1), (57, .i .i64), (58, .i .i64)]
def f9_l0_rs : List RPat := [⟨.loc 10, false, [.own 35 false]⟩]
theorem f9_l0_ok (n : Nat) : ∀ (between : ByteArray) (serial : Bool) (t : ByteArray) (e : Int) (v56 : List V) (v57 : Int) (v58 : Int) (texts : List V) (R : Type) (κ : Ex → St → Option R) (r : R), f9_l0 n between serial t e v56 v57 v58 texts R κ = some r → ∃ ee ss, κ ee ss = some r ∧ RunP C prim 9 [0, 1, 0, 1, 1, 1, 1, 1] (mkS [(1, .sc (.string between)), (2, .sc (.bool serial)), (7, .sc (.string t)), (8, .sc (.int .i64 e)), (10, .ref ⟨.loc 10, 0, [], 35, false⟩), (56, .sl 1 v56), (57, .sc (.int .i64 v57)), (58, .sc (.int .i64 v58))] [(.loc 10, some ⟨false, [.own 35 false texts]⟩)]) ee ss := by
  induction n with
  | zero => intro between serial t e v56 v57 v58 texts R κ r h; cases h
  | succ n ih =>
    intro between serial t e v56 v57 v58 texts R κ r h
    refine loop_round (K := K_f9_l0) (T := T_f9_l0) K_f9_l0_ok T_f9_l0_ok (p := [0, 1, 0, 1, 1, 1, 1, 1]) (by kernel_rfl) (fun st => bif ckS f9_l0_ls f9_l0_rs st then f9_l0 n ((st.env 1).strOf) ((st.env 2).boolOf) ((st.env 7).strOf) ((st.env 8).intOf) ((st.env 56).cellsOf) ((st.env 57).intOf) ((st.env 58).intOf) ((nthV (rowOf (st.regs (.loc 10))) 0).cellsOf) R κ else none) (fun st0 h0 => ?_) ?_
    · obtain ⟨hs, h0⟩ := cond_some h0
      rw [canon (ls := f9_l0_ls) (rs := f9_l0_rs) (by kernel_rfl) st0 hs]
      exact ih _ _ _ _ _ _ _ _ R κ r h0
    · refine Eq.trans ?_ h
      kernel_rfl

def f9_s0 (between : ByteArray) (serial : Bool) (t : ByteArray) (e : Int) (v56 : List V) (v57 : Int) (v58 : Int) (texts : List V) (R : Type) (κ : Ex → St → Option R) : Option R :=
  κ (.ex 0) (mkS [(1, .sc (.string between)), (2, .sc (.bool serial)), (6, .bad), (7, .sc (.string t)), (8, .sc (.int .i64 e)), (10, .ref ⟨.loc 10, 0, [], 35, false⟩)] [(.loc 10, some ⟨false, [.own 35 false (linesA v56)]⟩)])
theorem f9_loop0 (bt : ByteArray) (serial : Bool) (t : ByteArray) (e : Int) (l : List V) (hl : l.all shortS = true) (hn : l.length ≤ 1000000) (R : Type) (κ : Ex → St → Option R) : ∀ (k i : Nat) (all : List V), i + k = l.length → all.length = i →
    f9_l0 (k + 1) bt serial t e l ((l.length : Nat) : Int) ((i : Nat) : Int) all R κ = κ (.ex 0) (mkS [(1, .sc (.string bt)), (2, .sc (.bool serial)), (6, .bad), (7, .sc (.string t)), (8, .sc (.int .i64 e)), (10, .ref ⟨.loc 10, 0, [], 35, false⟩)] [(.loc 10, some ⟨false, [.own 35 false (all ++ linesA (l.drop i))]⟩)])
  | 0, i, all, h, ho => by
    rw [f9_l0, dec_false (by omega), List.drop_of_length_le (by omega)]
    have e1 : linesA [] = [] := rfl
    rw [e1, List.append_nil]
    rfl
  | k + 1, i, all, h, ho => by
    have hi' : i < l.length := by omega
    obtain ⟨a1, a2⟩ := shortS_spec (List.all_eq_true.1 hl _ (List.getElem_mem hi'))
    have r1 : roomy ((all.length + 1) * 24) = true := dec_true (by omega)
    have r2 : roomy (all.length + 1) = true := dec_true (by omega)
    rw [f9_l0, dec_true (show ((i : Nat) : Int) < ((l.length : Nat) : Int) by omega), dec_true (show (0 : Int) ≤ ((i : Nat) : Int) by omega), nth_at hi', a1, dec_true a2, r1, r2, wrap_succ (by omega), f9_loop0 bt serial t e l hl hn R κ k (i + 1) _ (by omega) (by simp [ho]), linesA_drop hi', List.append_assoc]
    rfl
theorem f9_s0_eq (between : ByteArray) (serial : Bool) (t : ByteArray) (e : Int) (v56 : List V) (v57 : Int) (v58 : Int) (texts : List V) (hp : ((v57 == ((v56.length : Nat) : Int)) && (v58 == 0) && (texts.length == 0) && v56.all shortS && decide (v56.length ≤ 1000000)) = true) : ∃ n, ∀ (R : Type) (κ : Ex → St → Option R), f9_l0 n between serial t e v56 v57 v58 texts R κ = f9_s0 between serial t e v56 v57 v58 texts R κ := by
  simp only [Bool.and_eq_true, decide_eq_true_eq, beq_iff_eq] at hp
  obtain ⟨⟨⟨⟨rfl, rfl⟩, h3⟩, h5⟩, h6⟩ := hp
  obtain rfl : texts = [] := List.eq_nil_of_length_eq_zero h3
  exact ⟨v56.length + 1, fun R κ => f9_loop0 between serial t e v56 h5 h6 R κ v56.length 0 [] (by omega) rfl⟩
def t_f9_l0 (st : St) (R : Type) (κ : Ex → St → Option R) : Option R := bif ckS f9_l0_ls f9_l0_rs st then (bif ((((st.env 57).intOf) == ((((st.env 56).cellsOf).length : Nat) : Int)) && (((st.env 58).intOf) == 0) && (((nthV (rowOf (st.regs (.loc 10))) 0).cellsOf).length == 0) && ((st.env 56).cellsOf).all shortS && decide (((st.env 56).cellsOf).length ≤ 1000000)) then f9_s0 ((st.env 1).strOf) ((st.env 2).boolOf) ((st.env 7).strOf) ((st.env 8).intOf) ((st.env 56).cellsOf) ((st.env 57).intOf) ((st.env 58).intOf) ((nthV (rowOf (st.regs (.loc 10))) 0).cellsOf) R κ else none) else none
theorem t_f9_l0_ok : ∀ st0 R κ r, t_f9_l0 (forget C 9 [0, 1, 0, 1, 1, 1, 1, 1] st0) R κ = some r → ∃ ee ss, κ ee ss = some r ∧ RunP C prim 9 [0, 1, 0, 1, 1, 1, 1, 1] (forget C 9 [0, 1, 0, 1, 1, 1, 1, 1] st0) ee ss := by
  intro st0 R κ r h
  obtain ⟨hs, h⟩ := cond_some h
  obtain ⟨hp, h⟩ := cond_some h
  rw [canon (ls := f9_l0_ls) (rs := f9_l0_rs) (by kernel_rfl) st0 hs]
  obtain ⟨n, hn⟩ := f9_s0_eq _ _ _ _ _ _ _ _ hp
  rw [← hn] at h
  exact f9_l0_ok n _ _ _ _ _ _ _ _ R κ r h

def K_f9 : CallK := kCons 12 k12 <| kCons 14 k14 <| kCons 15 k15 <| kCons 16 k16 <| kCons 24 k24 <| kCons 25 k25 <| kCons 27 k27 <| kCons 33 k33 <| kCons 39 k39 <| kCons 40 k40 <| kCons 41 k41 <| kNil
theorem K_f9_ok : KOK C prim K_f9 := KOK.cons k12_ok <| KOK.cons k14_ok <| KOK.cons k15_ok <| KOK.cons k16_ok <| KOK.cons k24_ok <| KOK.cons k25_ok <| KOK.cons k27_ok <| KOK.cons k33_ok <| KOK.cons k39_ok <| KOK.cons k40_ok <| KOK.cons k41_ok <| KOK.nil
def T_f9 : Tab := tCons [0, 1, 0, 1, 1, 1, 1, 1] t_f9_l0 <| tNil
theorem T_f9_ok : TOK C prim 9 T_f9 := TOK.cons t_f9_l0_ok <| TOK.nil
def f9 (l : List V) (between : ByteArray) (serial : Bool) : Option (V × List Rg) :=
  bif ((l.all shortS && decide (l.length ≤ 10000000)) && true) then
    bif (hasB between 10) then
      bif ((l.all shortS && decide (l.length ≤ 1000000000)) && true) then
        bif ((([.sc (.int .i64 (bif (((l.length : Nat) : Int) == 0) then (23 : Int) else 0)), .sc (.int .i64 (bif (decide (((l.length : Nat) : Int) > 16)) then (2 : Int) else 0)), .sc (.int .i64 (bif true then (5 : Int) else 0)), .sc (.int .i64 (bif l.any largeV then (2 : Int) else 0))] : List V).all (V.isInt .i64) && decide (([.sc (.int .i64 (bif (((l.length : Nat) : Int) == 0) then (23 : Int) else 0)), .sc (.int .i64 (bif (decide (((l.length : Nat) : Int) > 16)) then (2 : Int) else 0)), .sc (.int .i64 (bif true then (5 : Int) else 0)), .sc (.int .i64 (bif l.any largeV then (2 : Int) else 0))] : List V).length ≤ 1000000000)) && true) then
          bif ((firstBy V.intOf ([.sc (.int .i64 (bif (((l.length : Nat) : Int) == 0) then (23 : Int) else 0)), .sc (.int .i64 (bif (decide (((l.length : Nat) : Int) > 16)) then (2 : Int) else 0)), .sc (.int .i64 (bif true then (5 : Int) else 0)), .sc (.int .i64 (bif l.any largeV then (2 : Int) else 0))] : List V)) != 0) then
            some (.sc (.bool (outc (pasteS l between serial) (pasteE l between) (pasteS l between serial) (firstBy V.intOf ([.sc (.int .i64 (bif (((l.length : Nat) : Int) == 0) then (23 : Int) else 0)), .sc (.int .i64 (bif (decide (((l.length : Nat) : Int) > 16)) then (2 : Int) else 0)), .sc (.int .i64 (bif true then (5 : Int) else 0)), .sc (.int .i64 (bif l.any largeV then (2 : Int) else 0))] : List V)))), [])
          else
            bif ((decide (l.length ≤ 140737488355328) && decide ((joinB l (⟨#[]⟩ : ByteArray)).size ≤ 140737488355328) && l.all V.isStr) && true) then
              bif (!(decide ((((joinB l (⟨#[]⟩ : ByteArray)).size : Nat) : Int) ≤ 3000))) then
                some (.sc (.bool (outc (pasteS l between serial) (pasteE l between) (pasteS l between serial) (firstBy V.intOf ([.sc (.int .i64 (bif (((l.length : Nat) : Int) == 0) then (23 : Int) else 0)), .sc (.int .i64 (bif (decide (((l.length : Nat) : Int) > 16)) then (2 : Int) else 0)), .sc (.int .i64 (bif true then (5 : Int) else 0)), .sc (.int .i64 (bif l.any largeV then (2 : Int) else 0))] : List V)))), [])
              else
                bif ((((l.length : Nat) : Int) == ((l.length : Nat) : Int)) && ((0 : Int) == 0) && (([] : List V).length == 0) && l.all shortS && decide (l.length ≤ 1000000)) then
                  bif (((linesA l).all okStrs && decide ((linesA l).length ≤ 1000000) && okGrid (linesA l) between && (linesA l).all (okAlt between)) && true) then
                    bif (((bif serial then serV (linesA l) between else gridV (linesA l) between).all V.isStr && decide ((bif serial then serV (linesA l) between else gridV (linesA l) between).length ≤ 1000000000) && decide ((resB (bif serial then serV (linesA l) between else gridV (linesA l) between)).size ≤ 100000000000)) && true) then
                      some (.sc (.bool (outc (pasteS l between serial) (pasteE l between) (resB (bif serial then serV (linesA l) between else gridV (linesA l) between)) (0 : Int))), [])
                    else none
                  else none
                else none
            else none
        else none
      else none
    else
      bif ((l.all shortS && decide (l.length ≤ 1000000000)) && true) then
        bif ((([.sc (.int .i64 (bif (((l.length : Nat) : Int) == 0) then (23 : Int) else 0)), .sc (.int .i64 (bif (decide (((l.length : Nat) : Int) > 16)) then (2 : Int) else 0)), .sc (.int .i64 (bif (decide (((between.size : Nat) : Int) > 16)) then (5 : Int) else 0)), .sc (.int .i64 (bif l.any largeV then (2 : Int) else 0))] : List V).all (V.isInt .i64) && decide (([.sc (.int .i64 (bif (((l.length : Nat) : Int) == 0) then (23 : Int) else 0)), .sc (.int .i64 (bif (decide (((l.length : Nat) : Int) > 16)) then (2 : Int) else 0)), .sc (.int .i64 (bif (decide (((between.size : Nat) : Int) > 16)) then (5 : Int) else 0)), .sc (.int .i64 (bif l.any largeV then (2 : Int) else 0))] : List V).length ≤ 1000000000)) && true) then
          bif ((firstBy V.intOf ([.sc (.int .i64 (bif (((l.length : Nat) : Int) == 0) then (23 : Int) else 0)), .sc (.int .i64 (bif (decide (((l.length : Nat) : Int) > 16)) then (2 : Int) else 0)), .sc (.int .i64 (bif (decide (((between.size : Nat) : Int) > 16)) then (5 : Int) else 0)), .sc (.int .i64 (bif l.any largeV then (2 : Int) else 0))] : List V)) != 0) then
            some (.sc (.bool (outc (pasteS l between serial) (pasteE l between) (pasteS l between serial) (firstBy V.intOf ([.sc (.int .i64 (bif (((l.length : Nat) : Int) == 0) then (23 : Int) else 0)), .sc (.int .i64 (bif (decide (((l.length : Nat) : Int) > 16)) then (2 : Int) else 0)), .sc (.int .i64 (bif (decide (((between.size : Nat) : Int) > 16)) then (5 : Int) else 0)), .sc (.int .i64 (bif l.any largeV then (2 : Int) else 0))] : List V)))), [])
          else
            bif ((decide (l.length ≤ 140737488355328) && decide ((joinB l (⟨#[]⟩ : ByteArray)).size ≤ 140737488355328) && l.all V.isStr) && true) then
              bif (!(decide ((((joinB l (⟨#[]⟩ : ByteArray)).size : Nat) : Int) ≤ 3000))) then
                some (.sc (.bool (outc (pasteS l between serial) (pasteE l between) (pasteS l between serial) (firstBy V.intOf ([.sc (.int .i64 (bif (((l.length : Nat) : Int) == 0) then (23 : Int) else 0)), .sc (.int .i64 (bif (decide (((l.length : Nat) : Int) > 16)) then (2 : Int) else 0)), .sc (.int .i64 (bif (decide (((between.size : Nat) : Int) > 16)) then (5 : Int) else 0)), .sc (.int .i64 (bif l.any largeV then (2 : Int) else 0))] : List V)))), [])
              else
                bif ((((l.length : Nat) : Int) == ((l.length : Nat) : Int)) && ((0 : Int) == 0) && (([] : List V).length == 0) && l.all shortS && decide (l.length ≤ 1000000)) then
                  bif (((linesA l).all okStrs && decide ((linesA l).length ≤ 1000000) && okGrid (linesA l) between && (linesA l).all (okAlt between)) && true) then
                    bif (((bif serial then serV (linesA l) between else gridV (linesA l) between).all V.isStr && decide ((bif serial then serV (linesA l) between else gridV (linesA l) between).length ≤ 1000000000) && decide ((resB (bif serial then serV (linesA l) between else gridV (linesA l) between)).size ≤ 100000000000)) && true) then
                      some (.sc (.bool (outc (pasteS l between serial) (pasteE l between) (resB (bif serial then serV (linesA l) between else gridV (linesA l) between)) (0 : Int))), [])
                    else none
                  else none
                else none
            else none
        else none
      else none
  else none
theorem f9_run (l : List V) (between : ByteArray) (serial : Bool) (z9 : V × List Rg) (h : f9 l between serial = some z9) : CallR C prim 9 [.sl 1 l, .sc (.string between), .sc (.bool serial)] [] z9 := by
  refine call_fn (K := K_f9) (T := T_f9) K_f9_ok T_f9_ok (by kernel_rfl) ?_
  refine Eq.trans ?_ h
  kernel_rfl

theorem outc_bad {s : ByteArray} {e f : Int} (w : ByteArray) (hf : (f != 0) = true) (hs : s = ⟨#[]⟩) (he : e = f) : outc s e w f = true := by
  unfold outc
  rw [hf, hs, he, strEq_self, beq_self_eq_true]; rfl
theorem outc_ok {s : ByteArray} {e : Int} {w : ByteArray} (hs : s = w) (he : e = 0) : outc s e w 0 = true := by
  unfold outc
  rw [hs, he, strEq_self]; rfl
theorem outc_self {s : ByteArray} {e f : Int} (he : e = f) (hs : (f != 0) = true → s = ⟨#[]⟩) : outc s e s f = true := by
  cases hf : f != 0 with
  | true => exact outc_bad s hf (hs hf) he
  | false =>
    have : f = 0 := by simpa using hf
    subst this
    exact outc_ok rfl he
theorem pasteS_bad {l : List V} {bt : ByteArray} {serial : Bool} (h : (pasteE l bt != 0) = true) : pasteS l bt serial = ⟨#[]⟩ := by
  unfold pasteS
  have : (pasteE l bt == 0) = false := by
    rw [bne_iff_ne] at h
    exact beq_eq_false_iff_ne.2 h
  rw [this]; rfl
theorem paste_want (l : List V) (bt : ByteArray) : firstBy V.intOf ([.sc (.int .i64 (bif (((l.length : Nat) : Int) == 0) then (23 : Int) else 0)), .sc (.int .i64 (bif (decide (((l.length : Nat) : Int) > 16)) then (2 : Int) else 0)), .sc (.int .i64 (bif hasB bt 10 || decide (((bt.size : Nat) : Int) > 16) then (5 : Int) else 0)), .sc (.int .i64 (bif l.any largeV then (2 : Int) else 0))] : List V) = pasteE l bt := by
  unfold pasteE
  cases ((l.length : Nat) : Int) == 0 <;> cases decide (((l.length : Nat) : Int) > 16) <;> cases hasB bt 10 <;> cases decide (((bt.size : Nat) : Int) > 16) <;> cases l.any largeV <;> rfl
theorem paste_zero {l : List V} {bt : ByteArray} (h : pasteE l bt = 0) : l.length ≤ 16 ∧ l.any largeV = false := by
  unfold pasteE at h
  cases h1 : ((l.length : Nat) : Int) == 0 with
  | true => rw [h1] at h; cases h
  | false =>
  rw [h1] at h
  by_cases h2 : ((l.length : Nat) : Int) > 16
  · rw [dec_true h2] at h; cases h
  rw [dec_false h2] at h
  cases h3 : hasB bt 10 with
  | true => rw [h3] at h; cases h
  | false =>
  rw [h3] at h
  cases h4 : decide (((bt.size : Nat) : Int) > 16) with
  | true => rw [h4] at h; cases h
  | false =>
  rw [h4] at h
  cases h5 : l.any largeV with
  | true => rw [h5] at h; cases h
  | false => exact ⟨by omega, rfl⟩
theorem paste_tail (l : List V) (between : ByteArray) (serial : Bool) (g1 : l.all shortS = true) (g2 : l.length ≤ 10000000) (g3 : (joinB l ⟨#[]⟩).size ≤ 1000000000) (want : Int) (hw : want = pasteE l between) :
  (bif (want != 0) then
            some (V.sc (.bool (outc (pasteS l between serial) (pasteE l between) (pasteS l between serial) want)), ([] : List Rg))
          else
            bif ((decide (l.length ≤ 140737488355328) && decide ((joinB l (⟨#[]⟩ : ByteArray)).size ≤ 140737488355328) && l.all V.isStr) && true) then
              bif (!(decide ((((joinB l (⟨#[]⟩ : ByteArray)).size : Nat) : Int) ≤ 3000))) then
                some (V.sc (.bool (outc (pasteS l between serial) (pasteE l between) (pasteS l between serial) want)), [])
              else
                bif ((((l.length : Nat) : Int) == ((l.length : Nat) : Int)) && ((0 : Int) == 0) && (([] : List V).length == 0) && true && decide (l.length ≤ 1000000)) then
                  bif (((linesA l).all okStrs && decide ((linesA l).length ≤ 1000000) && okGrid (linesA l) between && (linesA l).all (okAlt between)) && true) then
                    bif (((bif serial then serV (linesA l) between else gridV (linesA l) between).all V.isStr && decide ((bif serial then serV (linesA l) between else gridV (linesA l) between).length ≤ 1000000000) && decide ((resB (bif serial then serV (linesA l) between else gridV (linesA l) between)).size ≤ 100000000000)) && true) then
                      some (V.sc (.bool (outc (pasteS l between serial) (pasteE l between) (resB (bif serial then serV (linesA l) between else gridV (linesA l) between)) (0 : Int))), [])
                    else none
                  else none
                else none
            else none) = some (V.sc (.bool true), []) := by
  subst hw
  have hself : outc (pasteS l between serial) (pasteE l between) (pasteS l between serial) (pasteE l between) = true := outc_self rfl pasteS_bad
  rw [hself]
  cases hz : pasteE l between != 0 with
  | true => rfl
  | false =>
    have h0 : pasteE l between = 0 := by simpa using hz
    obtain ⟨z1, z2⟩ := paste_zero h0
    obtain ⟨a1, a2, a3, a4, a5, a6, a7⟩ := paste_ok between z1 z2 serial
    have hl := linesA_len l
    unfold pasteV at a5 a6 a7
    have hb : outc (pasteS l between serial) (pasteE l between) (resB (bif serial then serV (linesA l) between else gridV (linesA l) between)) 0 = true := by
      refine outc_ok ?_ h0
      unfold pasteS pasteV
      rw [h0]; rfl
    rw [dec_true (show l.length ≤ 140737488355328 by omega), dec_true (show (joinB l ⟨#[]⟩).size ≤ 140737488355328 by omega), short_str g1, beq_self_eq_true, dec_true (show l.length ≤ 1000000 by omega), a1, dec_true (show (linesA l).length ≤ 1000000 by omega), a3, a2, a5, dec_true a6, dec_true a7, hb]
    cases decide ((((joinB l (⟨#[]⟩ : ByteArray)).size : Nat) : Int) ≤ 3000) <;> rfl
theorem f9_eq (l : List V) (between : ByteArray) (serial : Bool) (hp : (l.all shortS && decide (l.length ≤ 10000000) && decide ((joinB l ⟨#[]⟩).size ≤ 1000000000)) = true) : f9 l between serial = some (.sc (.bool true), []) := by
  simp only [Bool.and_eq_true, decide_eq_true_eq] at hp
  obtain ⟨⟨g1, g2⟩, g3⟩ := hp
  have hw := paste_want l between
  have hd : decide (l.length ≤ 1000000000) = true := dec_true (by omega)
  unfold f9
  rw [g1, dec_true g2, hd]
  cases h3 : hasB between 10 with
  | true =>
    rw [h3, Bool.true_or] at hw
    exact paste_tail l between serial g1 g2 g3 _ hw
  | false =>
    rw [h3, Bool.false_or] at hw
    exact paste_tail l between serial g1 g2 g3 _ hw
def k9 : PrimT := fun vs gs => match vs, gs with
  | [.sl 1 l, .sc (.string between), .sc (.bool serial)], [] => ((l.all shortS && decide (l.length ≤ 10000000) && decide ((joinB l ⟨#[]⟩).size ≤ 1000000000)), .sc (.bool true), [])
  | _, _ => (false, .bad, [])
theorem k9_ok : ∀ vs gs x, k9 vs gs = (true, x) → CallR C prim 9 vs gs x := by
  intro vs gs x h
  unfold k9 at h
  split at h
  · simp only [Prod.mk.injEq] at h
    obtain ⟨hp, rfl⟩ := h
    exact f9_run _ _ _ _ (f9_eq _ _ _ hp)
  · cases h
end Go.Ab
