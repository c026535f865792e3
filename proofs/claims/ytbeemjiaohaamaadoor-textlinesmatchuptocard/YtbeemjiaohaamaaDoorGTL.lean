/- Functions of a law, as the machine runs them. -/
import Derived.Test.YtbeemjiaohaamaaDoorDTL
import Derived.Test.YtbeemjiaohaamaaDoorZLN
namespace Go.Ab
open Go Go.Proofs Go.RowKit
set_option linter.unusedSimpArgs false
set_option linter.unusedVariables false

def K_f157 : CallK := kNil
theorem K_f157_ok : KOK C prim K_f157 := KOK.nil
def T_f157 : Tab := tNil
theorem T_f157_ok : TOK C prim 157 T_f157 := TOK.nil
def f157 (s : ByteArray) : Option (V × List Rg) :=
  bif (decide (((s.size : Nat) : Int) ≥ 1)) then
    bif ((((decide ((0 : Int) ≤ (IntKind.wrap .i64 (((s.size : Nat) : Int) - 1)))) && (decide ((IntKind.wrap .i64 (((s.size : Nat) : Int) - 1)) ≤ ((s.size : Nat) : Int)))) && true) && true) then
      some (.sc (.bool (strEq (s.extract ((IntKind.wrap .i64 (((s.size : Nat) : Int) - 1))).toNat (((s.size : Nat) : Int)).toNat) (⟨#[10]⟩ : ByteArray))), [])
    else none
  else
    some (.sc (.bool false), [])
theorem f157_run (s : ByteArray) (z9 : V × List Rg) (h : f157 s = some z9) : CallR C prim 157 [.sc (.string s), .sc (.string ⟨#[10]⟩)] [] z9 := by
  refine call_fn (K := K_f157) (T := T_f157) K_f157_ok T_f157_ok (by kernel_rfl) ?_
  refine Eq.trans ?_ h
  kernel_rfl

theorem f157_eq (s : ByteArray) (hp : (decide (s.size ≤ 1000000000)) = true) : f157 s = some (.sc (.bool (endNl s)), []) := by
  simp only [decide_eq_true_eq] at hp
  unfold f157
  rcases snoc_cases s.data.toList with h | ⟨t, b, h⟩
  · have hs : s.size = 0 := by rw [bl_size, h]; rfl
    rw [end_nil s h, hs]; rfl
  · have hs : s.size = t.length + 1 := by rw [bl_size, h]; simp
    have e1 : IntKind.wrap .i64 (((s.size : Nat) : Int) - 1) = ((t.length : Nat) : Int) := by rw [wrap_id (by omega) (by omega)]; omega
    have e : s.extract t.length (t.length + 1) = ⟨#[b]⟩ := ba_ext (by rw [bl_extract, h, List.take_of_length_le (by simp)]; simp)
    rw [end_snoc s h, e1, dec_true (show ((s.size : Nat) : Int) ≥ 1 by omega), dec_true (show (0 : Int) ≤ ((t.length : Nat) : Int) by omega), dec_true (show ((t.length : Nat) : Int) ≤ ((s.size : Nat) : Int) by omega), Int.toNat_natCast, Int.toNat_natCast, hs, e]
    have : strEq (⟨#[b]⟩ : ByteArray) ⟨#[10]⟩ = (b == 10) := by
      rw [Bool.eq_iff_iff, strEq_iff]
      constructor
      · intro h'
        have := congrArg (fun x : ByteArray => x.data.toList) h'
        simpa using this
      · intro h'
        rw [beq_iff_eq] at h'
        rw [h']
    rw [this]
    rfl
def k157 : PrimT := fun vs gs => match vs, gs with
  | [.sc (.string s), .sc (.string q1)], [] => ((strEq q1 (⟨#[10]⟩ : ByteArray) && (decide (s.size ≤ 1000000000))), .sc (.bool (endNl s)), [])
  | _, _ => (false, .bad, [])
theorem k157_ok : ∀ vs gs x, k157 vs gs = (true, x) → CallR C prim 157 vs gs x := by
  intro vs gs x h
  unfold k157 at h
  split at h
  · simp only [Prod.mk.injEq] at h
    obtain ⟨hp, rfl⟩ := h
    rw [Bool.and_eq_true] at hp
    obtain ⟨hq, hp⟩ := hp
    obtain rfl := (strEq_iff _ _).1 hq
    exact f157_run _ _ (f157_eq _ hp)
  · cases h

def K_f131 : CallK := kCons 157 k157 <| kNil
theorem K_f131_ok : KOK C prim K_f131 := KOK.cons k157_ok <| KOK.nil
def T_f131 : Tab := tNil
theorem T_f131_ok : TOK C prim 131 T_f131 := TOK.nil
def f131 (s : ByteArray) : Option (V × List Rg) :=
  bif ((decide (s.size ≤ 1000000000)) && true) then
    bif (endNl s) then
      bif ((((decide ((0 : Int) ≤ (IntKind.wrap .i64 (((s.size : Nat) : Int) - 1)))) && (decide ((IntKind.wrap .i64 (((s.size : Nat) : Int) - 1)) ≤ ((s.size : Nat) : Int)))) && true) && true) then
        some (.sc (.string (s.extract 0 ((IntKind.wrap .i64 (((s.size : Nat) : Int) - 1))).toNat)), [])
      else none
    else
      some (.sc (.string s), [])
  else none
theorem f131_run (s : ByteArray) (z9 : V × List Rg) (h : f131 s = some z9) : CallR C prim 131 [.sc (.string s), .sc (.string ⟨#[10]⟩)] [] z9 := by
  refine call_fn (K := K_f131) (T := T_f131) K_f131_ok T_f131_ok (by kernel_rfl) ?_
  refine Eq.trans ?_ h
  kernel_rfl

theorem endNl_pos (s : ByteArray) (h : endNl s = true) : 1 ≤ s.size := by
  rcases snoc_cases s.data.toList with h' | ⟨t, b, h'⟩
  · rw [end_nil s h'] at h; cases h
  · rw [bl_size, h']; simp
theorem f131_eq (s : ByteArray) (hp : (decide (s.size ≤ 1000000000)) = true) : f131 s = some (.sc (.string (trimNl s)), []) := by
  have hq := hp
  simp only [decide_eq_true_eq] at hp
  unfold f131 trimNl
  rw [hq]
  cases h : endNl s with
  | false => rfl
  | true =>
    have h1 := endNl_pos s h
    rw [wrap_id (n := ((s.size : Nat) : Int) - 1) (by omega) (by omega), dec_true (show (0 : Int) ≤ ((s.size : Nat) : Int) - 1 by omega), dec_true (show ((s.size : Nat) : Int) - 1 ≤ ((s.size : Nat) : Int) by omega), show ((s.size : Int) - 1).toNat = s.size - 1 by omega]
    rfl
def k131 : PrimT := fun vs gs => match vs, gs with
  | [.sc (.string s), .sc (.string q1)], [] => ((strEq q1 (⟨#[10]⟩ : ByteArray) && (decide (s.size ≤ 1000000000))), .sc (.string (trimNl s)), [])
  | _, _ => (false, .bad, [])
theorem k131_ok : ∀ vs gs x, k131 vs gs = (true, x) → CallR C prim 131 vs gs x := by
  intro vs gs x h
  unfold k131 at h
  split at h
  · simp only [Prod.mk.injEq] at h
    obtain ⟨hp, rfl⟩ := h
    rw [Bool.and_eq_true] at hp
    obtain ⟨hq, hp⟩ := hp
    obtain rfl := (strEq_iff _ _).1 hq
    exact f131_run _ _ (f131_eq _ hp)
  · cases h

def K_f95 : CallK := kCons 131 k131 <| kNil
theorem K_f95_ok : KOK C prim K_f95 := KOK.cons k131_ok <| KOK.nil
def T_f95 : Tab := tNil
theorem T_f95_ok : TOK C prim 95 T_f95 := TOK.nil
def f95 (s : ByteArray) : Option (V × List Rg) :=
  bif ((decide (s.size ≤ 1000000000)) && true) then
    some (.sc (.string (trimNl s)), [])
  else none
theorem f95_run (s : ByteArray) (z9 : V × List Rg) (h : f95 s = some z9) : CallR C prim 95 [.sc (.string s), .sc (.string ⟨#[10]⟩)] [] z9 := by
  refine call_fn (K := K_f95) (T := T_f95) K_f95_ok T_f95_ok (by kernel_rfl) ?_
  refine Eq.trans ?_ h
  kernel_rfl

theorem f95_eq (s : ByteArray) (hp : (decide (s.size ≤ 1000000000)) = true) : f95 s = some (.sc (.string (trimNl s)), []) := by
  unfold f95
  rw [hp]
  rfl
def k95 : PrimT := fun vs gs => match vs, gs with
  | [.sc (.string s), .sc (.string q1)], [] => ((strEq q1 (⟨#[10]⟩ : ByteArray) && (decide (s.size ≤ 1000000000))), .sc (.string (trimNl s)), [])
  | _, _ => (false, .bad, [])
theorem k95_ok : ∀ vs gs x, k95 vs gs = (true, x) → CallR C prim 95 vs gs x := by
  intro vs gs x h
  unfold k95 at h
  split at h
  · simp only [Prod.mk.injEq] at h
    obtain ⟨hp, rfl⟩ := h
    rw [Bool.and_eq_true] at hp
    obtain ⟨hq, hp⟩ := hp
    obtain rfl := (strEq_iff _ _).1 hq
    exact f95_run _ _ (f95_eq _ hp)
  · cases h

def K_f88 : CallK := kCons 121 k121 <| kNil
theorem K_f88_ok : KOK C prim K_f88 := KOK.cons k121_ok <| KOK.nil
def T_f88 : Tab := tNil
theorem T_f88_ok : TOK C prim 88 T_f88 := TOK.nil
def f88 (s : ByteArray) : Option (V × List Rg) :=
  bif (strEq (⟨#[10]⟩ : ByteArray) s) then
    some (.sc (.int .i64 0), [])
  else
    some (.sc (.int .i64 (idxB s 10)), [])
theorem f88_run (s : ByteArray) (z9 : V × List Rg) (h : f88 s = some z9) : CallR C prim 88 [.sc (.string s), .sc (.string ⟨#[10]⟩)] [] z9 := by
  refine call_fn (K := K_f88) (T := T_f88) K_f88_ok T_f88_ok (by kernel_rfl) ?_
  refine Eq.trans ?_ h
  kernel_rfl

theorem f88_eq (s : ByteArray) : f88 s = some (.sc (.int .i64 (idxB s 10)), []) := by
  unfold f88
  cases h : strEq (⟨#[10]⟩ : ByteArray) s with
  | false => rfl
  | true =>
    rw [strEq_iff] at h
    subst h
    rfl
def k88 : PrimT := fun vs gs => match vs, gs with
  | [.sc (.string s), .sc (.string q1)], [] => ((strEq q1 (⟨#[10]⟩ : ByteArray) && true), .sc (.int .i64 (idxB s 10)), [])
  | _, _ => (false, .bad, [])
theorem k88_ok : ∀ vs gs x, k88 vs gs = (true, x) → CallR C prim 88 vs gs x := by
  intro vs gs x h
  unfold k88 at h
  split at h
  · simp only [Prod.mk.injEq] at h
    obtain ⟨hp, rfl⟩ := h
    rw [Bool.and_eq_true] at hp
    obtain ⟨hq, hp⟩ := hp
    obtain rfl := (strEq_iff _ _).1 hq
    exact f88_run _ _ (f88_eq _)
  · cases h

def K_f46 : CallK := kCons 88 k88 <| kNil
theorem K_f46_ok : KOK C prim K_f46 := KOK.cons k88_ok <| KOK.nil
def T_f46 : Tab := tNil
theorem T_f46_ok : TOK C prim 46 T_f46 := TOK.nil
def f46 (s : ByteArray) : Option (V × List Rg) :=
  some (.sc (.int .i64 (idxB s 10)), [])
theorem f46_run (s : ByteArray) (z9 : V × List Rg) (h : f46 s = some z9) : CallR C prim 46 [.sc (.string s), .sc (.string ⟨#[10]⟩)] [] z9 := by
  refine call_fn (K := K_f46) (T := T_f46) K_f46_ok T_f46_ok (by kernel_rfl) ?_
  refine Eq.trans ?_ h
  kernel_rfl

def k46 : PrimT := fun vs gs => match vs, gs with
  | [.sc (.string s), .sc (.string sep)], [] => (isNl sep, .sc (.int .i64 (idxB s 10)), [])
  | _, _ => (false, .bad, [])
theorem k46_ok : ∀ vs gs x, k46 vs gs = (true, x) → CallR C prim 46 vs gs x := by
  intro vs gs x h
  unfold k46 at h
  split at h
  · next s sep =>
    simp only [Prod.mk.injEq] at h
    obtain ⟨hp, rfl⟩ := h
    rw [isNl_eq hp]
    exact f46_run s _ rfl
  · cases h

def K_f130_l0 : CallK := kCons 46 k46 <| kNil
theorem K_f130_l0_ok : KOK C prim K_f130_l0 := KOK.cons k46_ok <| KOK.nil
def T_f130_l0 : Tab := tNil
theorem T_f130_l0_ok : TOK C prim 130 T_f130_l0 := TOK.nil
def f130_l0 : Nat → ByteArray → ByteArray → Int → Int → Int → List V → (R : Type) → (Ex → St → Option R) → Option R
  | 0, _, _, _, _, _, _, _, _ => none
  | n + 1, s, sep, sepSave, n', i, a, R, κ =>
    bif (decide (i < n')) then
      bif ((isNl sep) && true) then
        bif (decide ((idxB s 10) < 0)) then
          κ (.ex 0) (mkS [(0, .sc (.string s)), (8, .bad), (9, .ref ⟨.loc 9, 0, [], 9, false⟩), (10, .sc (.int .i64 i))] [(.loc 9, some ⟨false, [.own 9 false a]⟩)])
        else
          bif ((((decide ((0 : Int) ≤ (IntKind.wrap .i64 ((idxB s 10) + sepSave)))) && (decide ((IntKind.wrap .i64 ((idxB s 10) + sepSave)) ≤ ((s.size : Nat) : Int)))) && true) && true) then
            bif (((decide ((0 : Int) ≤ i)) && (decide (i < ((a.length : Nat) : Int)))) && true) then
              bif ((((decide ((0 : Int) ≤ (IntKind.wrap .i64 ((idxB s 10) + ((sep.size : Nat) : Int))))) && (decide ((IntKind.wrap .i64 ((idxB s 10) + ((sep.size : Nat) : Int))) ≤ ((s.size : Nat) : Int)))) && true) && true) then
                f130_l0 n (s.extract ((IntKind.wrap .i64 ((idxB s 10) + ((sep.size : Nat) : Int)))).toNat (((s.size : Nat) : Int)).toNat) sep sepSave n' (IntKind.wrap .i64 (i + 1)) (a.set (((i).toNat * 1) + 0) (.sc (.string (s.extract 0 ((IntKind.wrap .i64 ((idxB s 10) + sepSave))).toNat)))) R κ
              else none
            else none
          else none
      else none
    else
      κ (.ex 0) (mkS [(0, .sc (.string s)), (8, .bad), (9, .ref ⟨.loc 9, 0, [], 9, false⟩), (10, .sc (.int .i64 i))] [(.loc 9, some ⟨false, [.own 9 false a]⟩)])
def f130_l0_ls : List (Nat × Pat) := [(0, .s), (1, .s), (2, .i .i64), (3, .i .i64), (9, .is (.ref ⟨.loc 9, 0, [], 9, false⟩)), (10, .i .i64)]
def f130_l0_rs : List RPat := [⟨.loc 9, false, [.own 9 false]⟩]
theorem f130_l0_ok (n : Nat) : ∀ (s : ByteArray) (sep : ByteArray) (sepSave : Int) (n' : Int) (i : Int) (a : List V) (R : Type) (κ : Ex → St → Option R) (r : R), f130_l0 n s sep sepSave n' i a R κ = some r → ∃ ee ss, κ ee ss = some r ∧ RunP C prim 130 [0, 0, 1, 1, 1, 1, 1, 1, 1, 1] (mkS [(0, .sc (.string s)), (1, .sc (.string sep)), (2, .sc (.int .i64 sepSave)), (3, .sc (.int .i64 n')), (9, .ref ⟨.loc 9, 0, [], 9, false⟩), (10, .sc (.int .i64 i))] [(.loc 9, some ⟨false, [.own 9 false a]⟩)]) ee ss := by
  induction n with
  | zero => intro s sep sepSave n' i a R κ r h; cases h
  | succ n ih =>
    intro s sep sepSave n' i a R κ r h
    refine loop_round (K := K_f130_l0) (T := T_f130_l0) K_f130_l0_ok T_f130_l0_ok (p := [0, 0, 1, 1, 1, 1, 1, 1, 1, 1]) (by kernel_rfl) (fun st => bif ckS f130_l0_ls f130_l0_rs st then f130_l0 n ((st.env 0).strOf) ((st.env 1).strOf) ((st.env 2).intOf) ((st.env 3).intOf) ((st.env 10).intOf) ((nthV (rowOf (st.regs (.loc 9))) 0).cellsOf) R κ else none) (fun st0 h0 => ?_) ?_
    · obtain ⟨hs, h0⟩ := cond_some h0
      rw [canon (ls := f130_l0_ls) (rs := f130_l0_rs) (by kernel_rfl) st0 hs]
      exact ih _ _ _ _ _ _ R κ r h0
    · refine Eq.trans ?_ h
      kernel_rfl

def f130_s0 (s : ByteArray) (sep : ByteArray) (sepSave : Int) (n' : Int) (i : Int) (a : List V) (R : Type) (κ : Ex → St → Option R) : Option R :=
  κ (.ex 0) (mkS [(0, .sc (.string (lastP s))), (8, .bad), (9, .ref ⟨.loc 9, 0, [], 9, false⟩), (10, .sc (.int .i64 n'))] [(.loc 9, some ⟨false, [.own 9 false (headP s ++ a.drop n'.toNat)]⟩)])
theorem idx_len (s : ByteArray) : ((headP s).length = 0 → idxB s 10 < 0) ∧ (0 < (headP s).length → ∃ m : Nat, idxB s 10 = (m : Int) ∧ m < s.size ∧ headP s = strV (s.data.toList.take m) :: headP (s.extract (m + 1) s.size) ∧ lastP s = lastP (s.extract (m + 1) s.size)) := by
  have hd : ∀ m : Nat, (s.extract (m + 1) s.size).data.toList = s.data.toList.drop (m + 1) := by
    intro m
    rw [bl_extract, List.take_of_length_le (by rw [bl_size]; exact Nat.le_refl _)]
  have hx : idxB s 10 = Lib.indexByte s.data.toList 10 := rfl
  constructor
  · intro h
    rw [hx]
    rcases (show Lib.indexByte s.data.toList 10 < 0 ∨ 0 ≤ Lib.indexByte s.data.toList 10 by omega) with h' | h'
    · exact h'
    · obtain ⟨h1, _, _⟩ := head_idx s.data.toList [] (Lib.indexByte s.data.toList 10).toNat (by omega)
      unfold headP at h
      rw [h1] at h
      cases h
  · intro h
    obtain ⟨m, hm⟩ := head_pos s.data.toList [] h
    obtain ⟨h1, h2, h3⟩ := head_idx s.data.toList [] m hm
    refine ⟨m, by rw [hx]; exact hm, by rw [bl_size]; exact h3, ?_, ?_⟩
    · unfold headP
      rw [h1, hd]
      rfl
    · unfold lastP
      rw [h2, hd]
theorem last_neg (s : ByteArray) (h : (headP s).length = 0) : headP s = [] ∧ lastP s = s := by
  have h1 : Lib.indexByte s.data.toList 10 < 0 := (idx_len s).1 h
  obtain ⟨h2, h3⟩ := head_neg s.data.toList [] h1
  refine ⟨h2, ba_ext ?_⟩
  unfold lastP
  rw [h3]
  simp
theorem f130_loop (sep : ByteArray) (hsep : isNl sep = true) (N : Nat) (hN : N ≤ 1000000000) (R : Type) (κ : Ex → St → Option R) : ∀ (k : Nat) (s : ByteArray) (i : Nat) (a : List V), (headP s).length = k → i + k = N → a.length = N + 1 → s.size ≤ 1000000000 →
    f130_l0 (k + 1) s sep 0 ((N : Nat) : Int) ((i : Nat) : Int) a R κ = κ (.ex 0) (mkS [(0, .sc (.string (lastP s))), (8, .bad), (9, .ref ⟨.loc 9, 0, [], 9, false⟩), (10, .sc (.int .i64 ((N : Nat) : Int)))] [(.loc 9, some ⟨false, [.own 9 false (a.take i ++ (headP s ++ a.drop N))]⟩)])
  | 0, s, i, a, h, h1, h2, h3 => by
    obtain ⟨h4, h5⟩ := last_neg s h
    obtain rfl : i = N := by omega
    rw [f130_l0, dec_false (by omega), cond_false, h4, h5, List.nil_append, List.take_append_drop]
  | k + 1, s, i, a, h, h1, h2, h3 => by
    obtain ⟨m, g1, g2, g3, g4⟩ := (idx_len s).2 (by omega)
    have hz : (sep.size : Nat) = 1 := by rw [isNl_eq hsep]; rfl
    have hk : (headP (s.extract (m + 1) s.size)).length = k := by rw [g3] at h; simpa using h
    have hs : (s.extract (m + 1) s.size).size ≤ 1000000000 := by rw [bl_size, bl_extract, List.length_drop, List.length_take]; rw [bl_size] at h3; omega
    have IH := f130_loop sep hsep N hN R κ k (s.extract (m + 1) s.size) (i + 1) (a.set i (strV (s.data.toList.take m))) hk (by omega) (by rw [List.length_set]; exact h2) hs
    rw [f130_l0, dec_true (show ((i : Nat) : Int) < ((N : Nat) : Int) by omega), hsep, g1, dec_false (show ¬ ((m : Nat) : Int) < 0 by omega), Int.add_zero, wrap_id (n := ((m : Nat) : Int)) (by omega) (by omega), hz, wrap_id (n := ((m : Nat) : Int) + ((1 : Nat) : Int)) (by omega) (by omega), wrap_succ (by omega), dec_true (show (0 : Int) ≤ ((m : Nat) : Int) by omega), dec_true (show ((m : Nat) : Int) ≤ ((s.size : Nat) : Int) by omega), dec_true (show (0 : Int) ≤ ((i : Nat) : Int) by omega), dec_true (show ((i : Nat) : Int) < ((a.length : Nat) : Int) by omega), dec_true (show (0 : Int) ≤ ((m : Nat) : Int) + ((1 : Nat) : Int) by omega), dec_true (show ((m : Nat) : Int) + ((1 : Nat) : Int) ≤ ((s.size : Nat) : Int) by omega)]
    simp only [Bool.and_self, cond_true, cond_false, Int.toNat_natCast, Nat.mul_one, Nat.add_zero, strV_extract s 0 m, List.drop_zero, show (((m : Nat) : Int) + ((1 : Nat) : Int)).toNat = m + 1 by omega, IH, g4]
    have : (a.set i (strV (s.data.toList.take m))).take (i + 1) ++ (headP (s.extract (m + 1) s.size) ++ (a.set i (strV (s.data.toList.take m))).drop N) = a.take i ++ (headP s ++ a.drop N) := by
      rw [g3, List.take_add_one, List.take_set_of_le (by omega), List.getElem?_set_self (by omega), List.drop_set_of_lt (by omega)]
      simp
    rw [this]
theorem f130_s0_eq (s : ByteArray) (sep : ByteArray) (sepSave : Int) (n' : Int) (i : Int) (a : List V) (hp : (isNl sep && (sepSave == 0) && (i == 0) && (n' == cntN s) && decide ((a.length : Int) = n' + 1) && decide (s.size ≤ 1000000000)) = true) : ∃ n, ∀ (R : Type) (κ : Ex → St → Option R), f130_l0 n s sep sepSave n' i a R κ = f130_s0 s sep sepSave n' i a R κ := by
  simp only [Bool.and_eq_true, decide_eq_true_eq, beq_iff_eq] at hp
  obtain ⟨⟨⟨⟨⟨g1, rfl⟩, rfl⟩, rfl⟩, g5⟩, g6⟩ := hp
  have hN := headP_le s
  refine ⟨(headP s).length + 1, fun R κ => ?_⟩
  unfold cntN at *
  have := f130_loop sep g1 (headP s).length (by omega) R κ (headP s).length s 0 a rfl (by omega) (by omega) g6
  rw [f130_s0, Int.toNat_natCast]
  exact this
def t_f130_l0 (st : St) (R : Type) (κ : Ex → St → Option R) : Option R := bif ckS f130_l0_ls f130_l0_rs st then (bif (isNl ((st.env 1).strOf) && (((st.env 2).intOf) == 0) && (((st.env 10).intOf) == 0) && (((st.env 3).intOf) == cntN ((st.env 0).strOf)) && decide ((((nthV (rowOf (st.regs (.loc 9))) 0).cellsOf).length : Int) = ((st.env 3).intOf) + 1) && decide (((st.env 0).strOf).size ≤ 1000000000)) then f130_s0 ((st.env 0).strOf) ((st.env 1).strOf) ((st.env 2).intOf) ((st.env 3).intOf) ((st.env 10).intOf) ((nthV (rowOf (st.regs (.loc 9))) 0).cellsOf) R κ else none) else none
theorem t_f130_l0_ok : ∀ st0 R κ r, t_f130_l0 (forget C 130 [0, 0, 1, 1, 1, 1, 1, 1, 1, 1] st0) R κ = some r → ∃ ee ss, κ ee ss = some r ∧ RunP C prim 130 [0, 0, 1, 1, 1, 1, 1, 1, 1, 1] (forget C 130 [0, 0, 1, 1, 1, 1, 1, 1, 1, 1] st0) ee ss := by
  intro st0 R κ r h
  obtain ⟨hs, h⟩ := cond_some h
  obtain ⟨hp, h⟩ := cond_some h
  rw [canon (ls := f130_l0_ls) (rs := f130_l0_rs) (by kernel_rfl) st0 hs]
  obtain ⟨n, hn⟩ := f130_s0_eq _ _ _ _ _ _ hp
  rw [← hn] at h
  exact f130_l0_ok n _ _ _ _ _ _ R κ r h

def K_f130 : CallK := kCons 73 k73 <| kNil
theorem K_f130_ok : KOK C prim K_f130 := KOK.cons k73_ok <| KOK.nil
def T_f130 : Tab := tCons [0, 0, 1, 1, 1, 1, 1, 1, 1, 1] t_f130_l0 <| tNil
theorem T_f130_ok : TOK C prim 130 T_f130 := TOK.cons t_f130_l0_ok <| TOK.nil
def f130 (s : ByteArray) : Option (V × List Rg) :=
  bif ((((((((((decide ((0 : Int) ≤ (bif (decide ((IntKind.wrap .i64 (((s.size : Nat) : Int) + 1)) < (IntKind.wrap .i64 ((cntB s (⟨#[10]⟩ : ByteArray)) + 1)))) then (IntKind.wrap .i64 (((s.size : Nat) : Int) + 1)) else (IntKind.wrap .i64 ((cntB s (⟨#[10]⟩ : ByteArray)) + 1))))) && (decide ((bif (decide ((IntKind.wrap .i64 (((s.size : Nat) : Int) + 1)) < (IntKind.wrap .i64 ((cntB s (⟨#[10]⟩ : ByteArray)) + 1)))) then (IntKind.wrap .i64 (((s.size : Nat) : Int) + 1)) else (IntKind.wrap .i64 ((cntB s (⟨#[10]⟩ : ByteArray)) + 1))) ≤ (bif (decide ((IntKind.wrap .i64 (((s.size : Nat) : Int) + 1)) < (IntKind.wrap .i64 ((cntB s (⟨#[10]⟩ : ByteArray)) + 1)))) then (IntKind.wrap .i64 (((s.size : Nat) : Int) + 1)) else (IntKind.wrap .i64 ((cntB s (⟨#[10]⟩ : ByteArray)) + 1)))))) && true) && true) && true) && true) && true) && (roomy (((bif (decide ((IntKind.wrap .i64 (((s.size : Nat) : Int) + 1)) < (IntKind.wrap .i64 ((cntB s (⟨#[10]⟩ : ByteArray)) + 1)))) then (IntKind.wrap .i64 (((s.size : Nat) : Int) + 1)) else (IntKind.wrap .i64 ((cntB s (⟨#[10]⟩ : ByteArray)) + 1)))).toNat * 16))) && (roomy ((bif (decide ((IntKind.wrap .i64 (((s.size : Nat) : Int) + 1)) < (IntKind.wrap .i64 ((cntB s (⟨#[10]⟩ : ByteArray)) + 1)))) then (IntKind.wrap .i64 (((s.size : Nat) : Int) + 1)) else (IntKind.wrap .i64 ((cntB s (⟨#[10]⟩ : ByteArray)) + 1)))).toNat)) && true) then
    bif (isNl (⟨#[10]⟩ : ByteArray) && ((0 : Int) == 0) && ((0 : Int) == 0) && ((IntKind.wrap .i64 ((bif (decide ((IntKind.wrap .i64 (((s.size : Nat) : Int) + 1)) < (IntKind.wrap .i64 ((cntB s (⟨#[10]⟩ : ByteArray)) + 1)))) then (IntKind.wrap .i64 (((s.size : Nat) : Int) + 1)) else (IntKind.wrap .i64 ((cntB s (⟨#[10]⟩ : ByteArray)) + 1))) - 1)) == cntN s) && decide ((((List.replicate ((bif (decide ((IntKind.wrap .i64 (((s.size : Nat) : Int) + 1)) < (IntKind.wrap .i64 ((cntB s (⟨#[10]⟩ : ByteArray)) + 1)))) then (IntKind.wrap .i64 (((s.size : Nat) : Int) + 1)) else (IntKind.wrap .i64 ((cntB s (⟨#[10]⟩ : ByteArray)) + 1)))).toNat ([.sc (.string ⟨#[]⟩)] : List V)).flatten).length : Int) = (IntKind.wrap .i64 ((bif (decide ((IntKind.wrap .i64 (((s.size : Nat) : Int) + 1)) < (IntKind.wrap .i64 ((cntB s (⟨#[10]⟩ : ByteArray)) + 1)))) then (IntKind.wrap .i64 (((s.size : Nat) : Int) + 1)) else (IntKind.wrap .i64 ((cntB s (⟨#[10]⟩ : ByteArray)) + 1))) - 1)) + 1) && decide (s.size ≤ 1000000000)) then
      bif (((decide ((0 : Int) ≤ (IntKind.wrap .i64 ((bif (decide ((IntKind.wrap .i64 (((s.size : Nat) : Int) + 1)) < (IntKind.wrap .i64 ((cntB s (⟨#[10]⟩ : ByteArray)) + 1)))) then (IntKind.wrap .i64 (((s.size : Nat) : Int) + 1)) else (IntKind.wrap .i64 ((cntB s (⟨#[10]⟩ : ByteArray)) + 1))) - 1)))) && (decide ((IntKind.wrap .i64 ((bif (decide ((IntKind.wrap .i64 (((s.size : Nat) : Int) + 1)) < (IntKind.wrap .i64 ((cntB s (⟨#[10]⟩ : ByteArray)) + 1)))) then (IntKind.wrap .i64 (((s.size : Nat) : Int) + 1)) else (IntKind.wrap .i64 ((cntB s (⟨#[10]⟩ : ByteArray)) + 1))) - 1)) < ((((headP s ++ ((List.replicate ((bif (decide ((IntKind.wrap .i64 (((s.size : Nat) : Int) + 1)) < (IntKind.wrap .i64 ((cntB s (⟨#[10]⟩ : ByteArray)) + 1)))) then (IntKind.wrap .i64 (((s.size : Nat) : Int) + 1)) else (IntKind.wrap .i64 ((cntB s (⟨#[10]⟩ : ByteArray)) + 1)))).toNat ([.sc (.string ⟨#[]⟩)] : List V)).flatten).drop (IntKind.wrap .i64 ((bif (decide ((IntKind.wrap .i64 (((s.size : Nat) : Int) + 1)) < (IntKind.wrap .i64 ((cntB s (⟨#[10]⟩ : ByteArray)) + 1)))) then (IntKind.wrap .i64 (((s.size : Nat) : Int) + 1)) else (IntKind.wrap .i64 ((cntB s (⟨#[10]⟩ : ByteArray)) + 1))) - 1)).toNat)).length : Nat) : Int)))) && true) then
        bif (((((decide ((0 : Int) ≤ (IntKind.wrap .i64 ((IntKind.wrap .i64 ((bif (decide ((IntKind.wrap .i64 (((s.size : Nat) : Int) + 1)) < (IntKind.wrap .i64 ((cntB s (⟨#[10]⟩ : ByteArray)) + 1)))) then (IntKind.wrap .i64 (((s.size : Nat) : Int) + 1)) else (IntKind.wrap .i64 ((cntB s (⟨#[10]⟩ : ByteArray)) + 1))) - 1)) + 1)))) && (decide ((IntKind.wrap .i64 ((IntKind.wrap .i64 ((bif (decide ((IntKind.wrap .i64 (((s.size : Nat) : Int) + 1)) < (IntKind.wrap .i64 ((cntB s (⟨#[10]⟩ : ByteArray)) + 1)))) then (IntKind.wrap .i64 (((s.size : Nat) : Int) + 1)) else (IntKind.wrap .i64 ((cntB s (⟨#[10]⟩ : ByteArray)) + 1))) - 1)) + 1)) ≤ (((((headP s ++ ((List.replicate ((bif (decide ((IntKind.wrap .i64 (((s.size : Nat) : Int) + 1)) < (IntKind.wrap .i64 ((cntB s (⟨#[10]⟩ : ByteArray)) + 1)))) then (IntKind.wrap .i64 (((s.size : Nat) : Int) + 1)) else (IntKind.wrap .i64 ((cntB s (⟨#[10]⟩ : ByteArray)) + 1)))).toNat ([.sc (.string ⟨#[]⟩)] : List V)).flatten).drop (IntKind.wrap .i64 ((bif (decide ((IntKind.wrap .i64 (((s.size : Nat) : Int) + 1)) < (IntKind.wrap .i64 ((cntB s (⟨#[10]⟩ : ByteArray)) + 1)))) then (IntKind.wrap .i64 (((s.size : Nat) : Int) + 1)) else (IntKind.wrap .i64 ((cntB s (⟨#[10]⟩ : ByteArray)) + 1))) - 1)).toNat).set ((((IntKind.wrap .i64 ((bif (decide ((IntKind.wrap .i64 (((s.size : Nat) : Int) + 1)) < (IntKind.wrap .i64 ((cntB s (⟨#[10]⟩ : ByteArray)) + 1)))) then (IntKind.wrap .i64 (((s.size : Nat) : Int) + 1)) else (IntKind.wrap .i64 ((cntB s (⟨#[10]⟩ : ByteArray)) + 1))) - 1))).toNat * 1) + 0) (.sc (.string (lastP s))))).length : Nat) : Int)))) && true) && true) && true) then
          some (.own 9 false (((headP s ++ ((List.replicate ((bif (decide ((IntKind.wrap .i64 (((s.size : Nat) : Int) + 1)) < (IntKind.wrap .i64 ((cntB s (⟨#[10]⟩ : ByteArray)) + 1)))) then (IntKind.wrap .i64 (((s.size : Nat) : Int) + 1)) else (IntKind.wrap .i64 ((cntB s (⟨#[10]⟩ : ByteArray)) + 1)))).toNat ([.sc (.string ⟨#[]⟩)] : List V)).flatten).drop (IntKind.wrap .i64 ((bif (decide ((IntKind.wrap .i64 (((s.size : Nat) : Int) + 1)) < (IntKind.wrap .i64 ((cntB s (⟨#[10]⟩ : ByteArray)) + 1)))) then (IntKind.wrap .i64 (((s.size : Nat) : Int) + 1)) else (IntKind.wrap .i64 ((cntB s (⟨#[10]⟩ : ByteArray)) + 1))) - 1)).toNat).set ((((IntKind.wrap .i64 ((bif (decide ((IntKind.wrap .i64 (((s.size : Nat) : Int) + 1)) < (IntKind.wrap .i64 ((cntB s (⟨#[10]⟩ : ByteArray)) + 1)))) then (IntKind.wrap .i64 (((s.size : Nat) : Int) + 1)) else (IntKind.wrap .i64 ((cntB s (⟨#[10]⟩ : ByteArray)) + 1))) - 1))).toNat * 1) + 0) (.sc (.string (lastP s)))).take (((IntKind.wrap .i64 ((IntKind.wrap .i64 ((bif (decide ((IntKind.wrap .i64 (((s.size : Nat) : Int) + 1)) < (IntKind.wrap .i64 ((cntB s (⟨#[10]⟩ : ByteArray)) + 1)))) then (IntKind.wrap .i64 (((s.size : Nat) : Int) + 1)) else (IntKind.wrap .i64 ((cntB s (⟨#[10]⟩ : ByteArray)) + 1))) - 1)) + 1))).toNat * 1)), [])
        else none
      else none
    else none
  else none
theorem f130_run (s : ByteArray) (z9 : V × List Rg) (h : f130 s = some z9) : CallR C prim 130 [.sc (.string s), .sc (.string ⟨#[10]⟩), .sc (.int .i64 0), .sc (.int .i64 (-1))] [] z9 := by
  refine call_fn (K := K_f130) (T := T_f130) K_f130_ok T_f130_ok (by kernel_rfl) ?_
  refine Eq.trans ?_ h
  kernel_rfl

theorem cntB_nl (s : ByteArray) : cntB s (⟨#[10]⟩ : ByteArray) = (((headP s).length : Nat) : Int) := by
  unfold headP
  rw [head_len]
  rfl
theorem rep_flat {α : Type} (n : Nat) (x : α) : (List.replicate n [x]).flatten = List.replicate n x := by
  induction n with
  | zero => rfl
  | succ n ih => rw [List.replicate_succ, List.flatten_cons, ih, List.replicate_succ]; rfl
theorem f130_eq (s : ByteArray) (hp : (decide (s.size ≤ 1000000000)) = true) : f130 s = some (.own 9 false (splitV s), []) := by
  simp only [decide_eq_true_eq] at hp
  have hN := headP_le s
  have hw2 : IntKind.wrap .i64 (((s.size : Nat) : Int) + 1) = ((s.size + 1 : Nat) : Int) := wrap_succ (by omega)
  have hw1 : IntKind.wrap .i64 ((((headP s).length : Nat) : Int) + 1) = (((headP s).length + 1 : Nat) : Int) := wrap_succ (by omega)
  have hlt : decide (((s.size + 1 : Nat) : Int) < (((headP s).length + 1 : Nat) : Int)) = false := dec_false (by omega)
  have hw3 : IntKind.wrap .i64 ((((headP s).length + 1 : Nat) : Int) - 1) = (((headP s).length : Nat) : Int) := by rw [wrap_id (by omega) (by omega)]; omega
  unfold f130
  simp only [cntB_nl, hw1, hw2, hlt, cond_false, hw3, Int.toNat_natCast, rep_flat, List.length_replicate, List.drop_replicate, Nat.mul_one, Nat.add_zero]
  have e1 : (headP s).length + 1 - (headP s).length = 1 := by omega
  have e2 : (headP s ++ List.replicate 1 (V.sc (.string ⟨#[]⟩))).set (headP s).length (.sc (.string (lastP s))) = splitV s := by
    rw [List.set_append_right _ _ (Nat.le_refl _), Nat.sub_self]
    rfl
  have e3 : (splitV s).length = (headP s).length + 1 := by unfold splitV; simp
  have e4 : (headP s ++ List.replicate 1 (V.sc (.string ⟨#[]⟩))).length = (headP s).length + 1 := by simp
  rw [e1, e2, e4, e3, List.take_of_length_le (by omega)]
  have r1 : roomy (((headP s).length + 1) * 16) = true := dec_true (by omega)
  have r2 : roomy ((headP s).length + 1) = true := dec_true (by omega)
  have d1 : decide ((0 : Int) ≤ (((headP s).length + 1 : Nat) : Int)) = true := dec_true (by omega)
  have d2 : decide ((((headP s).length + 1 : Nat) : Int) ≤ (((headP s).length + 1 : Nat) : Int)) = true := dec_true (by omega)
  have d3 : decide ((0 : Int) ≤ (((headP s).length : Nat) : Int)) = true := dec_true (by omega)
  have d4 : decide ((((headP s).length : Nat) : Int) < (((headP s).length + 1 : Nat) : Int)) = true := dec_true (by omega)
  have d5 : decide ((((headP s).length + 1 : Nat) : Int) = (((headP s).length : Nat) : Int) + 1) = true := dec_true (by omega)
  have d6 : ((((headP s).length : Nat) : Int) == cntN s) = true := beq_self_eq_true _
  rw [r1, r2, d1, d2, d3, d4, d5, d6, dec_true hp]
  rfl
def k130 : PrimT := fun vs gs => match vs, gs with
  | [.sc (.string s), .sc (.string q1), .sc (.int .i64 0), .sc (.int .i64 (-1))], [] => ((strEq q1 (⟨#[10]⟩ : ByteArray) && (decide (s.size ≤ 1000000000))), .own 9 false (splitV s), [])
  | _, _ => (false, .bad, [])
theorem k130_ok : ∀ vs gs x, k130 vs gs = (true, x) → CallR C prim 130 vs gs x := by
  intro vs gs x h
  unfold k130 at h
  split at h
  · simp only [Prod.mk.injEq] at h
    obtain ⟨hp, rfl⟩ := h
    rw [Bool.and_eq_true] at hp
    obtain ⟨hq, hp⟩ := hp
    obtain rfl := (strEq_iff _ _).1 hq
    exact f130_run _ _ (f130_eq _ hp)
  · cases h

def K_f94 : CallK := kCons 130 k130 <| kNil
theorem K_f94_ok : KOK C prim K_f94 := KOK.cons k130_ok <| KOK.nil
def T_f94 : Tab := tNil
theorem T_f94_ok : TOK C prim 94 T_f94 := TOK.nil
def f94 (s : ByteArray) : Option (V × List Rg) :=
  bif ((decide (s.size ≤ 1000000000)) && true) then
    some (.own 9 false (splitV s), [])
  else none
theorem f94_run (s : ByteArray) (z9 : V × List Rg) (h : f94 s = some z9) : CallR C prim 94 [.sc (.string s), .sc (.string ⟨#[10]⟩)] [] z9 := by
  refine call_fn (K := K_f94) (T := T_f94) K_f94_ok T_f94_ok (by kernel_rfl) ?_
  refine Eq.trans ?_ h
  kernel_rfl

theorem f94_eq (s : ByteArray) (hp : (decide (s.size ≤ 1000000000)) = true) : f94 s = some (.own 9 false (splitV s), []) := by
  unfold f94
  rw [hp]
  rfl
def k94 : PrimT := fun vs gs => match vs, gs with
  | [.sc (.string s), .sc (.string q1)], [] => ((strEq q1 (⟨#[10]⟩ : ByteArray) && (decide (s.size ≤ 1000000000))), .own 9 false (splitV s), [])
  | _, _ => (false, .bad, [])
theorem k94_ok : ∀ vs gs x, k94 vs gs = (true, x) → CallR C prim 94 vs gs x := by
  intro vs gs x h
  unfold k94 at h
  split at h
  · simp only [Prod.mk.injEq] at h
    obtain ⟨hp, rfl⟩ := h
    rw [Bool.and_eq_true] at hp
    obtain ⟨hq, hp⟩ := hp
    obtain rfl := (strEq_iff _ _).1 hq
    exact f94_run _ _ (f94_eq _ hp)
  · cases h

def K_f54 : CallK := kCons 94 k94 <| kCons 95 k95 <| kNil
theorem K_f54_ok : KOK C prim K_f54 := KOK.cons k94_ok <| KOK.cons k95_ok <| KOK.nil
def T_f54 : Tab := tNil
theorem T_f54_ok : TOK C prim 54 T_f54 := TOK.nil
def f54 (text : ByteArray) : Option (V × List Rg) :=
  bif (strEq text (⟨#[]⟩ : ByteArray)) then
    some (.own 9 false [], [])
  else
    bif ((decide (text.size ≤ 1000000000)) && true) then
      bif ((decide ((trimNl text).size ≤ 1000000000)) && true) then
        some (.own 9 false (splitV (trimNl text)), [])
      else none
    else none
theorem f54_run (text : ByteArray) (z9 : V × List Rg) (h : f54 text = some z9) : CallR C prim 54 [.sc (.string text)] [] z9 := by
  refine call_fn (K := K_f54) (T := T_f54) K_f54_ok T_f54_ok (by kernel_rfl) ?_
  refine Eq.trans ?_ h
  kernel_rfl

theorem f54_eq (text : ByteArray) (hp : (decide (text.size ≤ 1000000000)) = true) : f54 text = some (.own 9 false (linesV text), []) := by
  have hq := hp
  simp only [decide_eq_true_eq] at hp
  unfold f54
  cases h : strEq text (⟨#[]⟩ : ByteArray) with
  | true =>
    rw [strEq_iff] at h
    rw [linesV_nil text (by rw [h])]
    rfl
  | false =>
    have hne : text.data.toList ≠ [] := by
      intro h'
      have : text = ⟨#[]⟩ := ba_ext (by rw [h'])
      rw [this, strEq_self] at h
      cases h
    have ht : (trimNl text).size ≤ 1000000000 := by
      unfold trimNl
      cases endNl text
      · exact hp
      · rw [cond_true, bl_size, bl_extract, List.length_drop, List.length_take]; rw [bl_size] at hp; omega
    rw [linesV_trim text hne, dec_true ht, hq]
    rfl
def k54 : PrimT := fun vs gs => match vs, gs with
  | [.sc (.string text)], [] => ((decide (text.size ≤ 1000000000)), .own 9 false (linesV text), [])
  | _, _ => (false, .bad, [])
theorem k54_ok : ∀ vs gs x, k54 vs gs = (true, x) → CallR C prim 54 vs gs x := by
  intro vs gs x h
  unfold k54 at h
  split at h
  · simp only [Prod.mk.injEq] at h
    obtain ⟨hp, rfl⟩ := h
    exact f54_run _ _ (f54_eq _ hp)
  · cases h

def K_f68 : CallK := kCons 54 k54 <| kNil
theorem K_f68_ok : KOK C prim K_f68 := KOK.cons k54_ok <| KOK.nil
def T_f68 : Tab := tNil
theorem T_f68_ok : TOK C prim 68 T_f68 := TOK.nil
def f68 (text : ByteArray) : Option (V × List Rg) :=
  bif (decide (((text.size : Nat) : Int) > 65536)) then
    some (.sc (.bool true), [])
  else
    bif ((decide (text.size ≤ 1000000000)) && true) then
      some (.sc (.bool (decide (((((linesV text)).length : Nat) : Int) > 4096))), [])
    else none
theorem f68_run (text : ByteArray) (z9 : V × List Rg) (h : f68 text = some z9) : CallR C prim 68 [.sc (.string text)] [] z9 := by
  refine call_fn (K := K_f68) (T := T_f68) K_f68_ok T_f68_ok (by kernel_rfl) ?_
  refine Eq.trans ?_ h
  kernel_rfl

theorem f68_eq (text : ByteArray) (hp : (decide (text.size ≤ 1000000000)) = true) : f68 text = some (.sc (.bool (largeB text)), []) := by
  unfold f68 largeB
  rw [hp]
  cases decide (((text.size : Nat) : Int) > 65536) <;> rfl
def k68 : PrimT := fun vs gs => match vs, gs with
  | [.sc (.string text)], [] => ((decide (text.size ≤ 1000000000)), .sc (.bool (largeB text)), [])
  | _, _ => (false, .bad, [])
theorem k68_ok : ∀ vs gs x, k68 vs gs = (true, x) → CallR C prim 68 vs gs x := by
  intro vs gs x h
  unfold k68 at h
  split at h
  · simp only [Prod.mk.injEq] at h
    obtain ⟨hp, rfl⟩ := h
    exact f68_run _ _ (f68_eq _ hp)
  · cases h

def K_f21_l0 : CallK := kNil
theorem K_f21_l0_ok : KOK C prim K_f21_l0 := KOK.nil
def T_f21_l0 : Tab := tNil
theorem T_f21_l0_ok : TOK C prim 21 T_f21_l0 := TOK.nil
def f21_l0 : Nat → ByteArray → Int → Int → Int → List V → (R : Type) → (Ex → St → Option R) → Option R
  | 0, _, _, _, _, _, _, _ => none
  | n + 1, text, from', v7, v8, l, R, κ =>
    bif (decide (v8 < v7)) then
      bif (((decide ((0 : Int) ≤ v8)) && (decide (v8 < ((text.size : Nat) : Int)))) && true) then
        bif (((text.data.getD (v8).toNat 0).toNat : Int) == 10) then
          bif (((((decide ((0 : Int) ≤ from')) && (decide (from' ≤ v8))) && (decide (v8 ≤ ((text.size : Nat) : Int)))) && true) && true) then
            bif (((roomy ((l.length + 1) * 16)) && (roomy (l.length + 1))) && true) then
              f21_l0 n text (IntKind.wrap .i64 (v8 + 1)) v7 (IntKind.wrap .i64 (v8 + 1)) (l ++ [.sc (.string (text.extract (from').toNat (v8).toNat))]) R κ
            else none
          else none
        else
          f21_l0 n text from' v7 (IntKind.wrap .i64 (v8 + 1)) l R κ
      else none
    else
      κ (.ex 0) (mkS [(0, .sc (.string text)), (2, .bad), (3, .ref ⟨.loc 3, 0, [], 9, false⟩), (4, .sc (.int .i64 from'))] [(.loc 3, some ⟨false, [.own 9 false l]⟩)])
def f21_l0_ls : List (Nat × Pat) := [(0, .s), (3, .is (.ref ⟨.loc 3, 0, [], 9, false⟩)), (4, .i .i64), (7, .i .i64), (8, .i .i64)]
def f21_l0_rs : List RPat := [⟨.loc 3, false, [.own 9 false]⟩]
theorem f21_l0_ok (n : Nat) : ∀ (text : ByteArray) (from' : Int) (v7 : Int) (v8 : Int) (l : List V) (R : Type) (κ : Ex → St → Option R) (r : R), f21_l0 n text from' v7 v8 l R κ = some r → ∃ ee ss, κ ee ss = some r ∧ RunP C prim 21 [0, 1, 0, 1, 1, 1] (mkS [(0, .sc (.string text)), (3, .ref ⟨.loc 3, 0, [], 9, false⟩), (4, .sc (.int .i64 from')), (7, .sc (.int .i64 v7)), (8, .sc (.int .i64 v8))] [(.loc 3, some ⟨false, [.own 9 false l]⟩)]) ee ss := by
  induction n with
  | zero => intro text from' v7 v8 l R κ r h; cases h
  | succ n ih =>
    intro text from' v7 v8 l R κ r h
    refine loop_round (K := K_f21_l0) (T := T_f21_l0) K_f21_l0_ok T_f21_l0_ok (p := [0, 1, 0, 1, 1, 1]) (by kernel_rfl) (fun st => bif ckS f21_l0_ls f21_l0_rs st then f21_l0 n ((st.env 0).strOf) ((st.env 4).intOf) ((st.env 7).intOf) ((st.env 8).intOf) ((nthV (rowOf (st.regs (.loc 3))) 0).cellsOf) R κ else none) (fun st0 h0 => ?_) ?_
    · obtain ⟨hs, h0⟩ := cond_some h0
      rw [canon (ls := f21_l0_ls) (rs := f21_l0_rs) (by kernel_rfl) st0 hs]
      exact ih _ _ _ _ _ R κ r h0
    · refine Eq.trans ?_ h
      kernel_rfl

def f21_s0 (text : ByteArray) (from' : Int) (v7 : Int) (v8 : Int) (l : List V) (R : Type) (κ : Ex → St → Option R) : Option R :=
  κ (.ex 0) (mkS [(0, .sc (.string text)), (2, .bad), (3, .ref ⟨.loc 3, 0, [], 9, false⟩), (4, .sc (.int .i64 (fromP text)))] [(.loc 3, some ⟨false, [.own 9 false (headP text)]⟩)])
theorem f21_loop (text : ByteArray) (ht : text.size ≤ 1000000000) (R : Type) (κ : Ex → St → Option R) : ∀ (k i fr : Nat) (l : List V), i + k = text.size → fr ≤ i → l.length ≤ i →
    f21_l0 (k + 1) text ((fr : Nat) : Int) ((text.size : Nat) : Int) ((i : Nat) : Int) l R κ = κ (.ex 0) (mkS [(0, .sc (.string text)), (2, .bad), (3, .ref ⟨.loc 3, 0, [], 9, false⟩), (4, .sc (.int .i64 (((text.size : Nat) : Int) - (((lastL ((text.data.toList.take i).drop fr) (text.data.toList.drop i)).length : Nat) : Int))))] [(.loc 3, some ⟨false, [.own 9 false (l ++ headL ((text.data.toList.take i).drop fr) (text.data.toList.drop i))]⟩)])
  | 0, i, fr, l, h, h1, h2 => by
    have hl := bl_size text
    obtain rfl : i = text.size := by omega
    rw [f21_l0, dec_false (by omega), cond_false, List.drop_of_length_le (l := text.data.toList) (i := text.size) (by omega), headL, lastL, List.append_nil, List.length_drop, List.length_take, show ((min text.size text.data.toList.length - fr : Nat) : Int) = ((text.size : Nat) : Int) - (fr : Int) by omega, show ((text.size : Nat) : Int) - (((text.size : Nat) : Int) - (fr : Int)) = (fr : Int) by omega]
  | k + 1, i, fr, l, h, h1, h2 => by
    have hl := bl_size text
    have hlt : i < text.data.toList.length := by omega
    have hb : ((text.data.getD i 0).toNat : Int) = ((text.data.toList[i]).toNat : Int) := by rw [getD_list' text i hlt]
    have hc : ((((text.data.toList[i]).toNat : Nat) : Int) == 10) = (text.data.toList[i] == 10) := by
      rw [Bool.eq_iff_iff, beq_iff_eq, beq_iff_eq, ← UInt8.toNat_inj]
      show _ ↔ (text.data.toList[i]).toNat = 10
      omega
    have r1 : roomy ((l.length + 1) * 16) = true := dec_true (by omega)
    have r2 : roomy (l.length + 1) = true := dec_true (by omega)
    rw [f21_l0, dec_true (show ((i : Nat) : Int) < ((text.size : Nat) : Int) by omega), dec_true (show (0 : Int) ≤ ((i : Nat) : Int) by omega), Int.toNat_natCast, hb, hc, dec_true (show (0 : Int) ≤ ((fr : Nat) : Int) by omega), dec_true (show ((fr : Nat) : Int) ≤ ((i : Nat) : Int) by omega), dec_true (show ((i : Nat) : Int) ≤ ((text.size : Nat) : Int) by omega), r1, r2, Int.toNat_natCast, strV_extract, wrap_succ (by omega), List.drop_eq_getElem_cons hlt, headL_cons, lastL_cons]
    cases hx : text.data.toList[i] == 10 with
    | true =>
      have IH := f21_loop text ht R κ k (i + 1) (i + 1) (l ++ [strV ((text.data.toList.take i).drop fr)]) (by omega) (Nat.le_refl _) (by simp; omega)
      rw [List.drop_of_length_le (l := text.data.toList.take (i + 1)) (by rw [List.length_take]; omega), List.append_assoc] at IH
      simp only [Bool.and_self, cond_true]
      exact IH
    | false =>
      have IH := f21_loop text ht R κ k (i + 1) fr l (by omega) (by omega) (by omega)
      rw [List.take_add_one, List.getElem?_eq_getElem hlt, Option.toList_some, List.drop_append_of_le_length (by rw [List.length_take]; omega)] at IH
      simp only [Bool.and_self, cond_true, cond_false]
      exact IH
theorem f21_s0_eq (text : ByteArray) (from' : Int) (v7 : Int) (v8 : Int) (l : List V) (hp : ((v7 == ((text.size : Nat) : Int)) && (v8 == 0) && (from' == 0) && (l.length == 0) && decide (text.size ≤ 1000000000)) = true) : ∃ n, ∀ (R : Type) (κ : Ex → St → Option R), f21_l0 n text from' v7 v8 l R κ = f21_s0 text from' v7 v8 l R κ := by
  simp only [Bool.and_eq_true, decide_eq_true_eq, beq_iff_eq] at hp
  obtain ⟨⟨⟨⟨rfl, rfl⟩, rfl⟩, g4⟩, g5⟩ := hp
  obtain rfl : l = [] := List.eq_nil_of_length_eq_zero g4
  refine ⟨text.size + 1, fun R κ => ?_⟩
  have := f21_loop text g5 R κ text.size 0 0 [] (by omega) (Nat.le_refl _) (Nat.le_refl _)
  have e : fromP text = ((text.size : Nat) : Int) - (((lastL ((text.data.toList.take 0).drop 0) (text.data.toList.drop 0)).length : Nat) : Int) := by
    unfold fromP; rw [lastP_size]; rfl
  rw [f21_s0, e]
  exact this
def t_f21_l0 (st : St) (R : Type) (κ : Ex → St → Option R) : Option R := bif ckS f21_l0_ls f21_l0_rs st then (bif ((((st.env 7).intOf) == ((((st.env 0).strOf).size : Nat) : Int)) && (((st.env 8).intOf) == 0) && (((st.env 4).intOf) == 0) && (((nthV (rowOf (st.regs (.loc 3))) 0).cellsOf).length == 0) && decide (((st.env 0).strOf).size ≤ 1000000000)) then f21_s0 ((st.env 0).strOf) ((st.env 4).intOf) ((st.env 7).intOf) ((st.env 8).intOf) ((nthV (rowOf (st.regs (.loc 3))) 0).cellsOf) R κ else none) else none
theorem t_f21_l0_ok : ∀ st0 R κ r, t_f21_l0 (forget C 21 [0, 1, 0, 1, 1, 1] st0) R κ = some r → ∃ ee ss, κ ee ss = some r ∧ RunP C prim 21 [0, 1, 0, 1, 1, 1] (forget C 21 [0, 1, 0, 1, 1, 1] st0) ee ss := by
  intro st0 R κ r h
  obtain ⟨hs, h⟩ := cond_some h
  obtain ⟨hp, h⟩ := cond_some h
  rw [canon (ls := f21_l0_ls) (rs := f21_l0_rs) (by kernel_rfl) st0 hs]
  obtain ⟨n, hn⟩ := f21_s0_eq _ _ _ _ _ hp
  rw [← hn] at h
  exact f21_l0_ok n _ _ _ _ _ R κ r h

def K_f21 : CallK := kNil
theorem K_f21_ok : KOK C prim K_f21 := KOK.nil
def T_f21 : Tab := tCons [0, 1, 0, 1, 1, 1] t_f21_l0 <| tNil
theorem T_f21_ok : TOK C prim 21 T_f21 := TOK.cons t_f21_l0_ok <| TOK.nil
def f21 (text : ByteArray) : Option (V × List Rg) :=
  bif ((((text.size : Nat) : Int) == ((text.size : Nat) : Int)) && ((0 : Int) == 0) && ((0 : Int) == 0) && (([] : List V).length == 0) && decide (text.size ≤ 1000000000)) then
    bif (decide ((fromP text) < ((text.size : Nat) : Int))) then
      bif ((((decide ((0 : Int) ≤ (fromP text))) && (decide ((fromP text) ≤ ((text.size : Nat) : Int)))) && true) && true) then
        bif (((roomy ((((headP text)).length + 1) * 16)) && (roomy (((headP text)).length + 1))) && true) then
          some (.own 9 false ((headP text) ++ [.sc (.string (text.extract ((fromP text)).toNat (((text.size : Nat) : Int)).toNat))]), [])
        else none
      else none
    else
      some (.own 9 false (headP text), [])
  else none
theorem f21_run (text : ByteArray) (z9 : V × List Rg) (h : f21 text = some z9) : CallR C prim 21 [.sc (.string text)] [] z9 := by
  refine call_fn (K := K_f21) (T := T_f21) K_f21_ok T_f21_ok (by kernel_rfl) ?_
  refine Eq.trans ?_ h
  kernel_rfl

theorem from_last (s : ByteArray) : V.sc (.string (s.extract (fromP s).toNat s.size)) = .sc (.string (lastP s)) := by
  have key : ∀ (l cur : List UInt8), (cur ++ l).drop (cur.length + l.length - (lastL cur l).length) = lastL cur l := by
    intro l
    induction l with
    | nil => intro cur; simp [lastL]
    | cons b r ih =>
      intro cur
      have h1 := ih []
      have h2 := ih (cur ++ [b])
      rw [lastL_cons]
      cases b == 10 with
      | false =>
        simp only [cond_false]
        rw [List.append_assoc, List.singleton_append, List.length_append] at h2
        rw [List.length_cons, show cur.length + (r.length + 1) = cur.length + [b].length + r.length by simp; omega]
        exact h2
      | true =>
        simp only [cond_true]
        have hle := last_le r []
        simp only [List.length_nil, Nat.zero_add, List.nil_append] at h1 hle
        rw [List.length_cons, show cur.length + (r.length + 1) - (lastL [] r).length = (cur ++ [b]).length + (r.length - (lastL [] r).length) by simp; omega, show cur ++ b :: r = (cur ++ [b]) ++ r by simp, List.drop_length_add_append]
        exact h1
  have hle := lastP_le s
  have h := key s.data.toList []
  simp only [List.length_nil, Nat.zero_add, List.nil_append] at h
  congr 1
  congr 1
  refine ba_ext ?_
  have hf : (fromP s).toNat = s.data.toList.length - (lastL [] s.data.toList).length := by
    unfold fromP; rw [← lastP_size, ← bl_size]; omega
  rw [bl_extract, List.take_of_length_le (by rw [bl_size]; exact Nat.le_refl _), hf, h]
  rfl
theorem f21_eq (text : ByteArray) (hp : (decide (text.size ≤ 1000000000)) = true) : f21 text = some (.own 9 false (linesV text), []) := by
  have hq := hp
  simp only [decide_eq_true_eq] at hp
  have hl := lastP_le text
  have hh := headP_le text
  have r1 : roomy (((headP text).length + 1) * 16) = true := dec_true (by omega)
  have r2 : roomy ((headP text).length + 1) = true := dec_true (by omega)
  unfold f21 linesV splitV
  rw [hq, beq_self_eq_true, Int.toNat_natCast, from_last, r1, r2]
  by_cases hz : (lastP text).size = 0
  · rw [dec_false (show ¬ fromP text < ((text.size : Nat) : Int) by unfold fromP; omega), hz]
    rfl
  · have hz2 : ((lastP text).size == 0) = false := by simpa using hz
    rw [dec_true (show fromP text < ((text.size : Nat) : Int) by unfold fromP; omega), dec_true (show (0 : Int) ≤ fromP text by unfold fromP; omega), dec_true (show fromP text ≤ ((text.size : Nat) : Int) by unfold fromP; omega), hz2]
    rfl
def k21 : PrimT := fun vs gs => match vs, gs with
  | [.sc (.string text)], [] => ((decide (text.size ≤ 1000000000)), .own 9 false (linesV text), [])
  | _, _ => (false, .bad, [])
theorem k21_ok : ∀ vs gs x, k21 vs gs = (true, x) → CallR C prim 21 vs gs x := by
  intro vs gs x h
  unfold k21 at h
  split at h
  · simp only [Prod.mk.injEq] at h
    obtain ⟨hp, rfl⟩ := h
    exact f21_run _ _ (f21_eq _ hp)
  · cases h

def K_f19 : CallK := kCons 21 k21 <| kNil
theorem K_f19_ok : KOK C prim K_f19 := KOK.cons k21_ok <| KOK.nil
def T_f19 : Tab := tNil
theorem T_f19_ok : TOK C prim 19 T_f19 := TOK.nil
def f19 (text : ByteArray) : Option (V × List Rg) :=
  bif (decide (((text.size : Nat) : Int) > 65536)) then
    some (.sc (.bool true), [])
  else
    bif ((decide (text.size ≤ 1000000000)) && true) then
      some (.sc (.bool (decide (((((linesV text)).length : Nat) : Int) > 4096))), [])
    else none
theorem f19_run (text : ByteArray) (z9 : V × List Rg) (h : f19 text = some z9) : CallR C prim 19 [.sc (.string text)] [] z9 := by
  refine call_fn (K := K_f19) (T := T_f19) K_f19_ok T_f19_ok (by kernel_rfl) ?_
  refine Eq.trans ?_ h
  kernel_rfl

theorem f19_eq (text : ByteArray) (hp : (decide (text.size ≤ 1000000000)) = true) : f19 text = some (.sc (.bool (largeB text)), []) := by
  unfold f19 largeB
  rw [hp]
  cases decide (((text.size : Nat) : Int) > 65536) <;> rfl
def k19 : PrimT := fun vs gs => match vs, gs with
  | [.sc (.string text)], [] => ((decide (text.size ≤ 1000000000)), .sc (.bool (largeB text)), [])
  | _, _ => (false, .bad, [])
theorem k19_ok : ∀ vs gs x, k19 vs gs = (true, x) → CallR C prim 19 vs gs x := by
  intro vs gs x h
  unfold k19 at h
  split at h
  · simp only [Prod.mk.injEq] at h
    obtain ⟨hp, rfl⟩ := h
    exact f19_run _ _ (f19_eq _ hp)
  · cases h

def K_f97a_l0 : CallK := kCons 68 k68 <| kNil
theorem K_f97a_l0_ok : KOK C prim K_f97a_l0 := KOK.cons k68_ok <| KOK.nil
def T_f97a_l0 : Tab := tNil
theorem T_f97a_l0_ok : TOK C prim 97 T_f97a_l0 := TOK.nil
def f97a_l0 : Nat → List V → Int → Int → (R : Type) → (Ex → St → Option R) → Option R
  | 0, _, _, _, _, _ => none
  | n + 1, s, v7, v8, R, κ =>
    bif (decide (v8 < v7)) then
      bif (((decide ((0 : Int) ≤ v8)) && (decide (v8 < ((s.length : Nat) : Int)))) && true) then
        bif (((V.isStr (nthV s (((v8).toNat * 1) + 0))) && true) && true) then
          bif ((decide ((V.strOf (nthV s (((v8).toNat * 1) + 0))).size ≤ 1000000000)) && true) then
            bif (largeB (V.strOf (nthV s (((v8).toNat * 1) + 0)))) then
              κ .rt (mkS [(4, .sc (.int .i64 v8))] [])
            else
              f97a_l0 n s v7 (IntKind.wrap .i64 (v8 + 1)) R κ
          else none
        else none
      else none
    else
      κ (.ex 0) (mkS [(4, .bad)] [])
def f97a_l0_ls : List (Nat × Pat) := [(0, .sl 1), (1, .is (.fn 68 [] [])), (7, .i .i64), (8, .i .i64)]
def f97a_l0_rs : List RPat := []
theorem f97a_l0_ok (n : Nat) : ∀ (s : List V) (v7 : Int) (v8 : Int) (R : Type) (κ : Ex → St → Option R) (r : R), f97a_l0 n s v7 v8 R κ = some r → ∃ ee ss, κ ee ss = some r ∧ RunP C prim 97 [0, 1, 0, 1] (mkS [(0, .sl 1 s), (1, .fn 68 [] []), (7, .sc (.int .i64 v7)), (8, .sc (.int .i64 v8))] []) ee ss := by
  induction n with
  | zero => intro s v7 v8 R κ r h; cases h
  | succ n ih =>
    intro s v7 v8 R κ r h
    refine loop_round (K := K_f97a_l0) (T := T_f97a_l0) K_f97a_l0_ok T_f97a_l0_ok (p := [0, 1, 0, 1]) (by kernel_rfl) (fun st => bif ckS f97a_l0_ls f97a_l0_rs st then f97a_l0 n ((st.env 0).cellsOf) ((st.env 7).intOf) ((st.env 8).intOf) R κ else none) (fun st0 h0 => ?_) ?_
    · obtain ⟨hs, h0⟩ := cond_some h0
      rw [canon (ls := f97a_l0_ls) (rs := f97a_l0_rs) (by kernel_rfl) st0 hs]
      exact ih _ _ _ R κ r h0
    · refine Eq.trans ?_ h
      kernel_rfl

def f97a_s0 (s : List V) (v7 : Int) (v8 : Int) (R : Type) (κ : Ex → St → Option R) : Option R :=
  bif (s.any largeV) then
    κ .rt (mkS [(4, .sc (.int .i64 ((fstN largeV s : Nat) : Int)))] [])
  else
    κ (.ex 0) (mkS [(4, .bad)] [])
theorem f97a_loop (s : List V) (hs : s.all shortS = true) (hl : s.length ≤ 1000000000) (R : Type) (κ : Ex → St → Option R) : ∀ (k i : Nat), i + k = s.length →
    f97a_l0 (k + 1) s ((s.length : Nat) : Int) ((i : Nat) : Int) R κ = bif (s.drop i).any largeV then κ .rt (mkS [(4, .sc (.int .i64 ((i + fstN largeV (s.drop i) : Nat) : Int)))] []) else κ (.ex 0) (mkS [(4, .bad)] [])
  | 0, i, h => by
    rw [f97a_l0, dec_false (by omega), cond_false, List.drop_of_length_le (by omega)]
    rfl
  | k + 1, i, h => by
    have hlt : i < s.length := by omega
    obtain ⟨g1, g2⟩ := shortS_spec (List.all_eq_true.1 hs _ (List.getElem_mem hlt))
    have IH := f97a_loop s hs hl R κ k (i + 1) (by omega)
    rw [f97a_l0, dec_true (show ((i : Nat) : Int) < ((s.length : Nat) : Int) by omega), dec_true (show (0 : Int) ≤ ((i : Nat) : Int) by omega), nth_at hlt, g1, dec_true g2, wrap_succ (by omega), IH, any_drop hlt, fstN_drop hlt]
    cases hb : largeV s[i] with
    | true =>
      have hb' : largeB s[i].strOf = true := hb
      rw [hb']
      simp only [Bool.and_self, cond_true, Bool.true_or, Nat.add_zero]
    | false =>
      have hb' : largeB s[i].strOf = false := hb
      rw [hb']
      simp only [Bool.and_self, cond_true, cond_false, Bool.false_or]
      rw [show i + 1 + fstN largeV (s.drop (i + 1)) = i + (fstN largeV (s.drop (i + 1)) + 1) by omega]
theorem f97a_s0_eq (s : List V) (v7 : Int) (v8 : Int) (hp : ((v7 == ((s.length : Nat) : Int)) && (v8 == 0) && s.all shortS && decide (s.length ≤ 1000000000)) = true) : ∃ n, ∀ (R : Type) (κ : Ex → St → Option R), f97a_l0 n s v7 v8 R κ = f97a_s0 s v7 v8 R κ := by
  simp only [Bool.and_eq_true, decide_eq_true_eq, beq_iff_eq] at hp
  obtain ⟨⟨⟨rfl, rfl⟩, g3⟩, g4⟩ := hp
  refine ⟨s.length + 1, fun R κ => ?_⟩
  have := f97a_loop s g3 g4 R κ s.length 0 (by omega)
  rw [List.drop_zero, Nat.zero_add] at this
  exact this
def t_f97a_l0 (st : St) (R : Type) (κ : Ex → St → Option R) : Option R := bif ckS f97a_l0_ls f97a_l0_rs st then (bif ((((st.env 7).intOf) == ((((st.env 0).cellsOf).length : Nat) : Int)) && (((st.env 8).intOf) == 0) && ((st.env 0).cellsOf).all shortS && decide (((st.env 0).cellsOf).length ≤ 1000000000)) then f97a_s0 ((st.env 0).cellsOf) ((st.env 7).intOf) ((st.env 8).intOf) R κ else none) else none
theorem t_f97a_l0_ok : ∀ st0 R κ r, t_f97a_l0 (forget C 97 [0, 1, 0, 1] st0) R κ = some r → ∃ ee ss, κ ee ss = some r ∧ RunP C prim 97 [0, 1, 0, 1] (forget C 97 [0, 1, 0, 1] st0) ee ss := by
  intro st0 R κ r h
  obtain ⟨hs, h⟩ := cond_some h
  obtain ⟨hp, h⟩ := cond_some h
  rw [canon (ls := f97a_l0_ls) (rs := f97a_l0_rs) (by kernel_rfl) st0 hs]
  obtain ⟨n, hn⟩ := f97a_s0_eq _ _ _ hp
  rw [← hn] at h
  exact f97a_l0_ok n _ _ _ R κ r h

def K_f97a : CallK := kNil
theorem K_f97a_ok : KOK C prim K_f97a := KOK.nil
def T_f97a : Tab := tCons [0, 1, 0, 1] t_f97a_l0 <| tNil
theorem T_f97a_ok : TOK C prim 97 T_f97a := TOK.cons t_f97a_l0_ok <| TOK.nil
def f97a (s : List V) : Option (V × List Rg) :=
  bif ((((s.length : Nat) : Int) == ((s.length : Nat) : Int)) && ((0 : Int) == 0) && s.all shortS && decide (s.length ≤ 1000000000)) then
    bif (s.any largeV) then
      some (.sc (.int .i64 ((fstN largeV s : Nat) : Int)), [])
    else
      some (.sc (.int .i64 (-1)), [])
  else none
theorem f97a_run (s : List V) (z9 : V × List Rg) (h : f97a s = some z9) : CallR C prim 97 [.sl 1 s, .fn 68 [] []] [] z9 := by
  refine call_fn (K := K_f97a) (T := T_f97a) K_f97a_ok T_f97a_ok (by kernel_rfl) ?_
  refine Eq.trans ?_ h
  kernel_rfl

theorem f97a_eq (s : List V) (hp : (s.all shortS && decide (s.length ≤ 1000000000)) = true) : f97a s = some (.sc (.int .i64 (idxV largeV s)), []) := by
  simp only [Bool.and_eq_true, decide_eq_true_eq] at hp
  unfold f97a idxV
  rw [beq_self_eq_true, hp.1, dec_true hp.2]
  cases s.any largeV <;> rfl
def k97a : PrimT := fun vs gs => match vs, gs with
  | [.sl 1 s, .fn 68 [] []], [] => ((s.all shortS && decide (s.length ≤ 1000000000)), .sc (.int .i64 (idxV largeV s)), [])
  | _, _ => (false, .bad, [])
theorem k97a_ok : ∀ vs gs x, k97a vs gs = (true, x) → CallR C prim 97 vs gs x := by
  intro vs gs x h
  unfold k97a at h
  split at h
  · simp only [Prod.mk.injEq] at h
    obtain ⟨hp, rfl⟩ := h
    exact f97a_run _ _ (f97a_eq _ hp)
  · cases h

def k97 : PrimT := fun vs gs => k97a vs gs
theorem k97_ok : ∀ vs gs x, k97 vs gs = (true, x) → CallR C prim 97 vs gs x := by
  intro vs gs x h
  unfold k97 at h
  exact k97a_ok vs gs x h

def K_f59a : CallK := kCons 97 k97 <| kNil
theorem K_f59a_ok : KOK C prim K_f59a := KOK.cons k97_ok <| KOK.nil
def T_f59a : Tab := tNil
theorem T_f59a_ok : TOK C prim 59 T_f59a := TOK.nil
def f59a (s : List V) : Option (V × List Rg) :=
  bif ((s.all shortS && decide (s.length ≤ 1000000000)) && true) then
    some (.sc (.bool (decide ((idxV largeV s) ≥ 0))), [])
  else none
theorem f59a_run (s : List V) (z9 : V × List Rg) (h : f59a s = some z9) : CallR C prim 59 [.sl 1 s, .fn 68 [] []] [] z9 := by
  refine call_fn (K := K_f59a) (T := T_f59a) K_f59a_ok T_f59a_ok (by kernel_rfl) ?_
  refine Eq.trans ?_ h
  kernel_rfl

theorem f59a_eq (s : List V) (hp : (s.all shortS && decide (s.length ≤ 1000000000)) = true) : f59a s = some (.sc (.bool (s.any largeV)), []) := by
  unfold f59a
  rw [hp, idxV_ge]
  rfl
def k59a : PrimT := fun vs gs => match vs, gs with
  | [.sl 1 s, .fn 68 [] []], [] => ((s.all shortS && decide (s.length ≤ 1000000000)), .sc (.bool (s.any largeV)), [])
  | _, _ => (false, .bad, [])
theorem k59a_ok : ∀ vs gs x, k59a vs gs = (true, x) → CallR C prim 59 vs gs x := by
  intro vs gs x h
  unfold k59a at h
  split at h
  · simp only [Prod.mk.injEq] at h
    obtain ⟨hp, rfl⟩ := h
    exact f59a_run _ _ (f59a_eq _ hp)
  · cases h

def k59 : PrimT := fun vs gs => k59a vs gs
theorem k59_ok : ∀ vs gs x, k59 vs gs = (true, x) → CallR C prim 59 vs gs x := by
  intro vs gs x h
  unfold k59 at h
  exact k59a_ok vs gs x h

def K_f52 : CallK := kCons 59 k59 <| kNil
theorem K_f52_ok : KOK C prim K_f52 := KOK.cons k59_ok <| KOK.nil
def T_f52 : Tab := tNil
theorem T_f52_ok : TOK C prim 52 T_f52 := TOK.nil
def f52 (texts : List V) : Option (V × List Rg) :=
  bif ((texts.all shortS && decide (texts.length ≤ 1000000000)) && true) then
    bif (texts.any largeV) then
      some (.sc (.int .i64 2), [])
    else
      some (.sc (.int .i64 0), [])
  else none
theorem f52_run (texts : List V) (z9 : V × List Rg) (h : f52 texts = some z9) : CallR C prim 52 [.sl 1 texts] [] z9 := by
  refine call_fn (K := K_f52) (T := T_f52) K_f52_ok T_f52_ok (by kernel_rfl) ?_
  refine Eq.trans ?_ h
  kernel_rfl

theorem f52_eq (texts : List V) (hp : (texts.all shortS && decide (texts.length ≤ 1000000000)) = true) : f52 texts = some (.sc (.int .i64 (bif texts.any largeV then (2 : Int) else 0)), []) := by
  unfold f52
  rw [hp]
  cases texts.any largeV <;> rfl
def k52 : PrimT := fun vs gs => match vs, gs with
  | [.sl 1 texts], [] => ((texts.all shortS && decide (texts.length ≤ 1000000000)), .sc (.int .i64 (bif texts.any largeV then (2 : Int) else 0)), [])
  | _, _ => (false, .bad, [])
theorem k52_ok : ∀ vs gs x, k52 vs gs = (true, x) → CallR C prim 52 vs gs x := by
  intro vs gs x h
  unfold k52 at h
  split at h
  · simp only [Prod.mk.injEq] at h
    obtain ⟨hp, rfl⟩ := h
    exact f52_run _ _ (f52_eq _ hp)
  · cases h

def K_f20_l0 : CallK := kNil
theorem K_f20_l0_ok : KOK C prim K_f20_l0 := KOK.nil
def T_f20_l0 : Tab := tNil
theorem T_f20_l0_ok : TOK C prim 20 T_f20_l0 := TOK.nil
def f20_l0 : Nat → List V → List V → Int → Int → (R : Type) → (Ex → St → Option R) → Option R
  | 0, _, _, _, _, _, _ => none
  | n + 1, s1, s2, v12, v13, R, κ =>
    bif (decide (v13 < v12)) then
      bif (((decide ((0 : Int) ≤ v13)) && (decide (v13 < ((s1.length : Nat) : Int)))) && true) then
        bif (((V.isStr (nthV s1 (((v13).toNat * 1) + 0))) && true) && true) then
          bif (((decide ((0 : Int) ≤ v13)) && (decide (v13 < ((s2.length : Nat) : Int)))) && true) then
            bif (((V.isStr (nthV s2 (((v13).toNat * 1) + 0))) && true) && true) then
              bif (!(strEq (V.strOf (nthV s1 (((v13).toNat * 1) + 0))) (V.strOf (nthV s2 (((v13).toNat * 1) + 0))))) then
                κ .rt (mkS [(4, .sc (.bool false))] [])
              else
                f20_l0 n s1 s2 v12 (IntKind.wrap .i64 (v13 + 1)) R κ
            else none
          else none
        else none
      else none
    else
      κ (.ex 0) (mkS [(4, .bad)] [])
def f20_l0_ls : List (Nat × Pat) := [(0, .sl 1), (1, .sl 1), (12, .i .i64), (13, .i .i64)]
def f20_l0_rs : List RPat := []
theorem f20_l0_ok (n : Nat) : ∀ (s1 : List V) (s2 : List V) (v12 : Int) (v13 : Int) (R : Type) (κ : Ex → St → Option R) (r : R), f20_l0 n s1 s2 v12 v13 R κ = some r → ∃ ee ss, κ ee ss = some r ∧ RunP C prim 20 [0, 1, 0, 1, 1] (mkS [(0, .sl 1 s1), (1, .sl 1 s2), (12, .sc (.int .i64 v12)), (13, .sc (.int .i64 v13))] []) ee ss := by
  induction n with
  | zero => intro s1 s2 v12 v13 R κ r h; cases h
  | succ n ih =>
    intro s1 s2 v12 v13 R κ r h
    refine loop_round (K := K_f20_l0) (T := T_f20_l0) K_f20_l0_ok T_f20_l0_ok (p := [0, 1, 0, 1, 1]) (by kernel_rfl) (fun st => bif ckS f20_l0_ls f20_l0_rs st then f20_l0 n ((st.env 0).cellsOf) ((st.env 1).cellsOf) ((st.env 12).intOf) ((st.env 13).intOf) R κ else none) (fun st0 h0 => ?_) ?_
    · obtain ⟨hs, h0⟩ := cond_some h0
      rw [canon (ls := f20_l0_ls) (rs := f20_l0_rs) (by kernel_rfl) st0 hs]
      exact ih _ _ _ _ R κ r h0
    · refine Eq.trans ?_ h
      kernel_rfl

def f20_s0 (s1 : List V) (s2 : List V) (v12 : Int) (v13 : Int) (R : Type) (κ : Ex → St → Option R) : Option R :=
  bif (eqS s1 s2) then
    κ (.ex 0) (mkS [(4, .bad)] [])
  else
    κ .rt (mkS [(4, .sc (.bool false))] [])
theorem f20_l0_c (s1 s2 : List V) (hl : s1.length = s2.length) (h1 : s1.all V.isStr = true) (h2 : s2.all V.isStr = true) (hb : s1.length ≤ 1000000000) : ∀ (m k : Nat), k + m = s1.length → ∀ n, m < n → ∀ (R : Type) (κ : Ex → St → Option R), f20_l0 n s1 s2 ((s1.length : Nat) : Int) (k : Int) R κ = bif eqS (s1.drop k) (s2.drop k) then κ (.ex 0) (mkS [(4, .bad)] []) else κ .rt (mkS [(4, .sc (.bool false))] []) := by
  intro m
  induction m with
  | zero =>
    intro k hk n hn R κ
    obtain ⟨n, rfl⟩ : ∃ j, n = j + 1 := ⟨n - 1, by omega⟩
    rw [f20_l0, dec_false (by omega), List.drop_of_length_le (by omega), List.drop_of_length_le (by omega)]
    rfl
  | succ m ih =>
    intro k hk n hn R κ
    obtain ⟨n, rfl⟩ : ∃ j, n = j + 1 := ⟨n - 1, by omega⟩
    have k1 : k < s1.length := by omega
    have k2 : k < s2.length := by omega
    have i1 : V.isStr s1[k] = true := List.all_eq_true.1 h1 _ (List.getElem_mem k1)
    have i2 : V.isStr s2[k] = true := List.all_eq_true.1 h2 _ (List.getElem_mem k2)
    rw [f20_l0, dec_true (show (k : Int) < ((s1.length : Nat) : Int) by omega), dec_true (show (0 : Int) ≤ (k : Int) by omega), dec_true (show (k : Int) < ((s2.length : Nat) : Int) by omega), nth_at k1, nth_at k2, i1, i2, wrap_succ (by omega), ih (k + 1) (by omega) n (by omega) R κ, eqS_drop k1 k2]
    cases strEq s1[k].strOf s2[k].strOf <;> rfl
theorem f20_s0_eq (s1 : List V) (s2 : List V) (v12 : Int) (v13 : Int) (hp : ((v12 == ((s1.length : Nat) : Int)) && (v13 == 0) && (s1.length == s2.length) && s1.all V.isStr && s2.all V.isStr && decide (s1.length ≤ 1000000000)) = true) : ∃ n, ∀ (R : Type) (κ : Ex → St → Option R), f20_l0 n s1 s2 v12 v13 R κ = f20_s0 s1 s2 v12 v13 R κ := by
  simp only [Bool.and_eq_true, decide_eq_true_eq, beq_iff_eq] at hp
  obtain ⟨⟨⟨⟨⟨rfl, rfl⟩, h1⟩, h2⟩, h3⟩, h4⟩ := hp
  exact ⟨s1.length + 1, fun R κ => f20_l0_c s1 s2 h1 h2 h3 h4 s1.length 0 (by omega) _ (by omega) R κ⟩
def t_f20_l0 (st : St) (R : Type) (κ : Ex → St → Option R) : Option R := bif ckS f20_l0_ls f20_l0_rs st then (bif ((((st.env 12).intOf) == ((((st.env 0).cellsOf).length : Nat) : Int)) && (((st.env 13).intOf) == 0) && (((st.env 0).cellsOf).length == ((st.env 1).cellsOf).length) && ((st.env 0).cellsOf).all V.isStr && ((st.env 1).cellsOf).all V.isStr && decide (((st.env 0).cellsOf).length ≤ 1000000000)) then f20_s0 ((st.env 0).cellsOf) ((st.env 1).cellsOf) ((st.env 12).intOf) ((st.env 13).intOf) R κ else none) else none
theorem t_f20_l0_ok : ∀ st0 R κ r, t_f20_l0 (forget C 20 [0, 1, 0, 1, 1] st0) R κ = some r → ∃ ee ss, κ ee ss = some r ∧ RunP C prim 20 [0, 1, 0, 1, 1] (forget C 20 [0, 1, 0, 1, 1] st0) ee ss := by
  intro st0 R κ r h
  obtain ⟨hs, h⟩ := cond_some h
  obtain ⟨hp, h⟩ := cond_some h
  rw [canon (ls := f20_l0_ls) (rs := f20_l0_rs) (by kernel_rfl) st0 hs]
  obtain ⟨n, hn⟩ := f20_s0_eq _ _ _ _ hp
  rw [← hn] at h
  exact f20_l0_ok n _ _ _ _ R κ r h

def K_f20 : CallK := kNil
theorem K_f20_ok : KOK C prim K_f20 := KOK.nil
def T_f20 : Tab := tCons [0, 1, 0, 1, 1] t_f20_l0 <| tNil
theorem T_f20_ok : TOK C prim 20 T_f20 := TOK.cons t_f20_l0_ok <| TOK.nil
def f20 (s1 : List V) (s2 : List V) : Option (V × List Rg) :=
  bif (((s1.length : Nat) : Int) != ((s2.length : Nat) : Int)) then
    some (.sc (.bool false), [])
  else
    bif ((((s1.length : Nat) : Int) == ((s1.length : Nat) : Int)) && ((0 : Int) == 0) && (s1.length == s2.length) && s1.all V.isStr && s2.all V.isStr && decide (s1.length ≤ 1000000000)) then
      bif (eqS s1 s2) then
        some (.sc (.bool true), [])
      else
        some (.sc (.bool false), [])
    else none
theorem f20_run (s1 : List V) (s2 : List V) (z9 : V × List Rg) (h : f20 s1 s2 = some z9) : CallR C prim 20 [.sl 1 s1, .sl 1 s2] [] z9 := by
  refine call_fn (K := K_f20) (T := T_f20) K_f20_ok T_f20_ok (by kernel_rfl) ?_
  refine Eq.trans ?_ h
  kernel_rfl

theorem eqS_len : ∀ (a b : List V), a.length ≠ b.length → eqS a b = false
  | [], [], h => absurd rfl h
  | [], _ :: _, _ => rfl
  | _ :: _, [], _ => rfl
  | x :: a, y :: b, h => by
    unfold eqS
    rw [eqS_len a b (by simpa using h), Bool.and_false]
theorem f20_eq (s1 : List V) (s2 : List V) (hp : (s1.all V.isStr && s2.all V.isStr && decide (s1.length ≤ 1000000000) && decide (s2.length ≤ 1000000000)) = true) : f20 s1 s2 = some (.sc (.bool (eqS s1 s2)), []) := by
  simp only [Bool.and_eq_true, decide_eq_true_eq] at hp
  obtain ⟨⟨⟨h1, h2⟩, h3⟩, h4⟩ := hp
  unfold f20
  by_cases hl : s1.length = s2.length
  · have e : ((((s1.length : Nat) : Int)) != ((s2.length : Nat) : Int)) = false := by rw [hl, bne_self_eq_false]
    have e2 : (s1.length == s2.length) = true := by rw [hl]; exact beq_self_eq_true _
    rw [e, e2, h1, h2, dec_true h3, beq_self_eq_true]
    cases eqS s1 s2 <;> rfl
  · have e : ((((s1.length : Nat) : Int)) != ((s2.length : Nat) : Int)) = true := by rw [bne_iff_ne]; omega
    rw [e, eqS_len s1 s2 hl]
    rfl
def k20 : PrimT := fun vs gs => match vs, gs with
  | [.sl 1 s1, .sl 1 s2], [] => ((s1.all V.isStr && s2.all V.isStr && decide (s1.length ≤ 1000000000) && decide (s2.length ≤ 1000000000)), .sc (.bool (eqS s1 s2)), [])
  | _, _ => (false, .bad, [])
theorem k20_ok : ∀ vs gs x, k20 vs gs = (true, x) → CallR C prim 20 vs gs x := by
  intro vs gs x h
  unfold k20 at h
  split at h
  · simp only [Prod.mk.injEq] at h
    obtain ⟨hp, rfl⟩ := h
    exact f20_run _ _ _ (f20_eq _ _ hp)
  · cases h

def K_f18 : CallK := kCons 52 k52 <| kCons 53 k53 <| kCons 54 k54 <| kNil
theorem K_f18_ok : KOK C prim K_f18 := KOK.cons k52_ok <| KOK.cons k53_ok <| KOK.cons k54_ok <| KOK.nil
def T_f18 : Tab := tNil
theorem T_f18_ok : TOK C prim 18 T_f18 := TOK.nil
def f18 (text : ByteArray) : Option (V × List Rg) :=
  bif ((([.sc (.string text)] : List V).all shortS && decide (([.sc (.string text)] : List V).length ≤ 1000000000)) && true) then
    bif ((bif ([.sc (.string text)] : List V).any largeV then (2 : Int) else 0) != 0) then
      some (.tp [.sl 1 [], .sc (.int .i64 (bif ([.sc (.string text)] : List V).any largeV then (2 : Int) else 0))], [])
    else
      bif ((decide (text.size ≤ 1000000000)) && true) then
        some (.tp [.sl 1 (linesV text), .sc (.int .i64 0)], [])
      else none
  else none
theorem f18_run (text : ByteArray) (z9 : V × List Rg) (h : f18 text = some z9) : CallR C prim 18 [.sc (.string text)] [] z9 := by
  refine call_fn (K := K_f18) (T := T_f18) K_f18_ok T_f18_ok (by kernel_rfl) ?_
  refine Eq.trans ?_ h
  kernel_rfl

theorem f18_eq (text : ByteArray) (hp : (decide (text.size ≤ 1000000000)) = true) : f18 text = some (.tp [.sl 1 (bif largeB text then [] else linesV text), .sc (.int .i64 (bif largeB text then (2 : Int) else 0))], []) := by
  have hq := hp
  simp only [decide_eq_true_eq] at hp
  have h1 : ([.sc (.string text)] : List V).all shortS = true := by
    show (decide (text.size ≤ 1000000000) && true) = true
    rw [hq]; rfl
  have h2 : ([.sc (.string text)] : List V).any largeV = largeB text := by
    show (largeB text || false) = largeB text
    rw [Bool.or_false]
  unfold f18
  rw [h1, h2, hq]
  cases largeB text <;> rfl
def k18 : PrimT := fun vs gs => match vs, gs with
  | [.sc (.string text)], [] => ((decide (text.size ≤ 1000000000)), .tp [.sl 1 (bif largeB text then [] else linesV text), .sc (.int .i64 (bif largeB text then (2 : Int) else 0))], [])
  | _, _ => (false, .bad, [])
theorem k18_ok : ∀ vs gs x, k18 vs gs = (true, x) → CallR C prim 18 vs gs x := by
  intro vs gs x h
  unfold k18 at h
  split at h
  · simp only [Prod.mk.injEq] at h
    obtain ⟨hp, rfl⟩ := h
    exact f18_run _ _ (f18_eq _ hp)
  · cases h

def K_f4 : CallK := kCons 16 k16 <| kCons 18 k18 <| kCons 19 k19 <| kCons 20 k20 <| kCons 21 k21 <| kNil
theorem K_f4_ok : KOK C prim K_f4 := KOK.cons k16_ok <| KOK.cons k18_ok <| KOK.cons k19_ok <| KOK.cons k20_ok <| KOK.cons k21_ok <| KOK.nil
def T_f4 : Tab := tNil
theorem T_f4_ok : TOK C prim 4 T_f4 := TOK.nil
def f4 (s : ByteArray) : Option (V × List Rg) :=
  bif ((decide (s.size ≤ 1000000000)) && true) then
    bif ((decide (s.size ≤ 1000000000)) && true) then
      bif (largeB s) then
        bif (((((bif largeB s then [] else linesV s)).length : Nat) : Int) == 0) then
          some (.sc (.bool ((bif largeB s then (2 : Int) else 0) == 2)), [])
        else
          some (.sc (.bool false), [])
      else
        bif ((bif largeB s then (2 : Int) else 0) == 0) then
          bif ((decide (s.size ≤ 1000000000)) && true) then
            bif (((bif largeB s then [] else linesV s).all V.isStr && (linesV s).all V.isStr && decide ((bif largeB s then [] else linesV s).length ≤ 1000000000) && decide ((linesV s).length ≤ 1000000000)) && true) then
              some (.sc (.bool (eqS (bif largeB s then [] else linesV s) (linesV s))), [])
            else none
          else none
        else
          some (.sc (.bool false), [])
    else none
  else none
theorem f4_run (s : ByteArray) (z9 : V × List Rg) (h : f4 s = some z9) : CallR C prim 4 [.sc (.string s)] [] z9 := by
  refine call_fn (K := K_f4) (T := T_f4) K_f4_ok T_f4_ok (by kernel_rfl) ?_
  refine Eq.trans ?_ h
  kernel_rfl

theorem f4_eq (s : ByteArray) (hp : (decide (s.size ≤ 100000000)) = true) : f4 s = some (.sc (.bool true), []) := by
  simp only [decide_eq_true_eq] at hp
  have h1 := linesV_str s
  have h2 := linesV_len s
  have hq : decide (s.size ≤ 1000000000) = true := dec_true (by omega)
  unfold f4
  rw [hq]
  cases hb : largeB s with
  | true => rfl
  | false =>
    simp only [cond_false]
    rw [h1, dec_true (show (linesV s).length ≤ 1000000000 by omega), eqS_refl]
    rfl
def k4 : PrimT := fun vs gs => match vs, gs with
  | [.sc (.string s)], [] => ((decide (s.size ≤ 100000000)), .sc (.bool true), [])
  | _, _ => (false, .bad, [])
theorem k4_ok : ∀ vs gs x, k4 vs gs = (true, x) → CallR C prim 4 vs gs x := by
  intro vs gs x h
  unfold k4 at h
  split at h
  · simp only [Prod.mk.injEq] at h
    obtain ⟨hp, rfl⟩ := h
    exact f4_run _ _ (f4_eq _ hp)
  · cases h
end Go.Ab
