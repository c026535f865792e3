/- Functions of a law, as the machine runs them. -/
import Derived.Test.YtbeemjiaohaamaaGreatDoorDCT
import Derived.Test.YtbeemjiaohaamaaGreatDoorZCU
namespace Go.Ab
open Go Go.Proofs Go.RowKit
set_option linter.unusedSimpArgs false
set_option linter.unusedVariables false

def K_f122 : CallK := kNil
theorem K_f122_ok : KOK C prim K_f122 := KOK.nil
def T_f122 : Tab := tNil
theorem T_f122_ok : TOK C prim 122 T_f122 := TOK.nil
def f122 (s : ByteArray) : Option (V × List Rg) :=
  bif (decide (((s.size : Nat) : Int) ≥ 1)) then
    bif ((((decide ((0 : Int) ≤ (IntKind.wrap .i64 (((s.size : Nat) : Int) - 1)))) && (decide ((IntKind.wrap .i64 (((s.size : Nat) : Int) - 1)) ≤ ((s.size : Nat) : Int)))) && true) && true) then
      some (.sc (.bool (strEq (s.extract ((IntKind.wrap .i64 (((s.size : Nat) : Int) - 1))).toNat (((s.size : Nat) : Int)).toNat) (⟨#[10]⟩ : ByteArray))), [])
    else none
  else
    some (.sc (.bool false), [])
theorem f122_run (s : ByteArray) (z9 : V × List Rg) (h : f122 s = some z9) : CallR C prim 122 [.sc (.string s), .sc (.string ⟨#[10]⟩)] [] z9 := by
  refine call_fn (K := K_f122) (T := T_f122) K_f122_ok T_f122_ok (by kernel_rfl) ?_
  refine Eq.trans ?_ h
  kernel_rfl

theorem f122_eq (s : ByteArray) (hp : (decide (s.size ≤ 1000000000)) = true) : f122 s = some (.sc (.bool (endNl s)), []) := by
  simp only [decide_eq_true_eq] at hp
  unfold f122
  rcases snoc_cases s.data.toList with h | ⟨t, b, h⟩
  · have hs : s.size = 0 := by rw [bl_size, h]; rfl
    rw [end_nil s h, hs]; rfl
  · have hs : s.size = t.length + 1 := by rw [bl_size, h]; simp
    have e1 : IntKind.wrap .i64 (((s.size : Nat) : Int) - 1) = ((t.length : Nat) : Int) := by rw [wrap_id (by omega) (by omega)]; omega
    have e : s.extract t.length (t.length + 1) = ⟨#[b]⟩ := ba_ext (by rw [bl_extract, h, List.take_of_length_le (by simp)]; simp)
    rw [end_snoc s h, e1, dec_true (show ((s.size : Nat) : Int) ≥ 1 by omega), dec_true (show (0 : Int) ≤ ((t.length : Nat) : Int) by omega), dec_true (show ((t.length : Nat) : Int) ≤ ((s.size : Nat) : Int) by omega), Int.toNat_natCast, Int.toNat_natCast, hs, e]
    have : strEq (⟨#[b]⟩ : ByteArray) ⟨#[10]⟩ = (b == 10) := by
      rw [Bool.eq_iff_iff, strEq_iff]
      constructor
      · intro h'
        have := congrArg (fun x : ByteArray => x.data.toList) h'
        simpa using this
      · intro h'
        rw [beq_iff_eq] at h'
        rw [h']
    rw [this]
    rfl
def k122 : PrimT := fun vs gs => match vs, gs with
  | [.sc (.string s), .sc (.string q1)], [] => ((strEq q1 (⟨#[10]⟩ : ByteArray) && (decide (s.size ≤ 1000000000))), .sc (.bool (endNl s)), [])
  | _, _ => (false, .bad, [])
theorem k122_ok : ∀ vs gs x, k122 vs gs = (true, x) → CallR C prim 122 vs gs x := by
  intro vs gs x h
  unfold k122 at h
  split at h
  · simp only [Prod.mk.injEq] at h
    obtain ⟨hp, rfl⟩ := h
    rw [Bool.and_eq_true] at hp
    obtain ⟨hq, hp⟩ := hp
    obtain rfl := (strEq_iff _ _).1 hq
    exact f122_run _ _ (f122_eq _ hp)
  · cases h

def K_f92 : CallK := kCons 122 k122 <| kNil
theorem K_f92_ok : KOK C prim K_f92 := KOK.cons k122_ok <| KOK.nil
def T_f92 : Tab := tNil
theorem T_f92_ok : TOK C prim 92 T_f92 := TOK.nil
def f92 (s : ByteArray) : Option (V × List Rg) :=
  bif ((decide (s.size ≤ 1000000000)) && true) then
    bif (endNl s) then
      bif ((((decide ((0 : Int) ≤ (IntKind.wrap .i64 (((s.size : Nat) : Int) - 1)))) && (decide ((IntKind.wrap .i64 (((s.size : Nat) : Int) - 1)) ≤ ((s.size : Nat) : Int)))) && true) && true) then
        some (.sc (.string (s.extract 0 ((IntKind.wrap .i64 (((s.size : Nat) : Int) - 1))).toNat)), [])
      else none
    else
      some (.sc (.string s), [])
  else none
theorem f92_run (s : ByteArray) (z9 : V × List Rg) (h : f92 s = some z9) : CallR C prim 92 [.sc (.string s), .sc (.string ⟨#[10]⟩)] [] z9 := by
  refine call_fn (K := K_f92) (T := T_f92) K_f92_ok T_f92_ok (by kernel_rfl) ?_
  refine Eq.trans ?_ h
  kernel_rfl

theorem endNl_pos (s : ByteArray) (h : endNl s = true) : 1 ≤ s.size := by
  rcases snoc_cases s.data.toList with h' | ⟨t, b, h'⟩
  · rw [end_nil s h'] at h; cases h
  · rw [bl_size, h']; simp
theorem f92_eq (s : ByteArray) (hp : (decide (s.size ≤ 1000000000)) = true) : f92 s = some (.sc (.string (trimNl s)), []) := by
  have hq := hp
  simp only [decide_eq_true_eq] at hp
  unfold f92 trimNl
  rw [hq]
  cases h : endNl s with
  | false => rfl
  | true =>
    have h1 := endNl_pos s h
    rw [wrap_id (n := ((s.size : Nat) : Int) - 1) (by omega) (by omega), dec_true (show (0 : Int) ≤ ((s.size : Nat) : Int) - 1 by omega), dec_true (show ((s.size : Nat) : Int) - 1 ≤ ((s.size : Nat) : Int) by omega), show ((s.size : Int) - 1).toNat = s.size - 1 by omega]
    rfl
def k92 : PrimT := fun vs gs => match vs, gs with
  | [.sc (.string s), .sc (.string q1)], [] => ((strEq q1 (⟨#[10]⟩ : ByteArray) && (decide (s.size ≤ 1000000000))), .sc (.string (trimNl s)), [])
  | _, _ => (false, .bad, [])
theorem k92_ok : ∀ vs gs x, k92 vs gs = (true, x) → CallR C prim 92 vs gs x := by
  intro vs gs x h
  unfold k92 at h
  split at h
  · simp only [Prod.mk.injEq] at h
    obtain ⟨hp, rfl⟩ := h
    rw [Bool.and_eq_true] at hp
    obtain ⟨hq, hp⟩ := hp
    obtain rfl := (strEq_iff _ _).1 hq
    exact f92_run _ _ (f92_eq _ hp)
  · cases h

def K_f58 : CallK := kCons 92 k92 <| kNil
theorem K_f58_ok : KOK C prim K_f58 := KOK.cons k92_ok <| KOK.nil
def T_f58 : Tab := tNil
theorem T_f58_ok : TOK C prim 58 T_f58 := TOK.nil
def f58 (s : ByteArray) : Option (V × List Rg) :=
  bif ((decide (s.size ≤ 1000000000)) && true) then
    some (.sc (.string (trimNl s)), [])
  else none
theorem f58_run (s : ByteArray) (z9 : V × List Rg) (h : f58 s = some z9) : CallR C prim 58 [.sc (.string s), .sc (.string ⟨#[10]⟩)] [] z9 := by
  refine call_fn (K := K_f58) (T := T_f58) K_f58_ok T_f58_ok (by kernel_rfl) ?_
  refine Eq.trans ?_ h
  kernel_rfl

theorem f58_eq (s : ByteArray) (hp : (decide (s.size ≤ 1000000000)) = true) : f58 s = some (.sc (.string (trimNl s)), []) := by
  unfold f58
  rw [hp]
  rfl
def k58 : PrimT := fun vs gs => match vs, gs with
  | [.sc (.string s), .sc (.string q1)], [] => ((strEq q1 (⟨#[10]⟩ : ByteArray) && (decide (s.size ≤ 1000000000))), .sc (.string (trimNl s)), [])
  | _, _ => (false, .bad, [])
theorem k58_ok : ∀ vs gs x, k58 vs gs = (true, x) → CallR C prim 58 vs gs x := by
  intro vs gs x h
  unfold k58 at h
  split at h
  · simp only [Prod.mk.injEq] at h
    obtain ⟨hp, rfl⟩ := h
    rw [Bool.and_eq_true] at hp
    obtain ⟨hq, hp⟩ := hp
    obtain rfl := (strEq_iff _ _).1 hq
    exact f58_run _ _ (f58_eq _ hp)
  · cases h

def K_f62_l0 : CallK := kCons 57 k57 <| kNil
theorem K_f62_l0_ok : KOK C prim K_f62_l0 := KOK.cons k57_ok <| KOK.nil
def T_f62_l0 : Tab := tNil
theorem T_f62_l0_ok : TOK C prim 62 T_f62_l0 := TOK.nil
def f62_l0 : Nat → ByteArray → ByteArray → Int → Int → Int → List V → (R : Type) → (Ex → St → Option R) → Option R
  | 0, _, _, _, _, _, _, _, _ => none
  | n + 1, s, sep, sepSave, n', i, a, R, κ =>
    bif (decide (i < n')) then
      bif ((one1 sep) && true) then
        bif (decide ((idxS s sep) < 0)) then
          κ (.ex 0) (mkS [(0, .sc (.string s)), (8, .bad), (9, .ref ⟨.loc 9, 0, [], 9, false⟩), (10, .sc (.int .i64 i))] [(.loc 9, some ⟨false, [.own 9 false a]⟩)])
        else
          bif ((((decide ((0 : Int) ≤ (IntKind.wrap .i64 ((idxS s sep) + sepSave)))) && (decide ((IntKind.wrap .i64 ((idxS s sep) + sepSave)) ≤ ((s.size : Nat) : Int)))) && true) && true) then
            bif (((decide ((0 : Int) ≤ i)) && (decide (i < ((a.length : Nat) : Int)))) && true) then
              bif ((((decide ((0 : Int) ≤ (IntKind.wrap .i64 ((idxS s sep) + ((sep.size : Nat) : Int))))) && (decide ((IntKind.wrap .i64 ((idxS s sep) + ((sep.size : Nat) : Int))) ≤ ((s.size : Nat) : Int)))) && true) && true) then
                f62_l0 n (s.extract ((IntKind.wrap .i64 ((idxS s sep) + ((sep.size : Nat) : Int)))).toNat (((s.size : Nat) : Int)).toNat) sep sepSave n' (IntKind.wrap .i64 (i + 1)) (a.set (((i).toNat * 1) + 0) (.sc (.string (s.extract 0 ((IntKind.wrap .i64 ((idxS s sep) + sepSave))).toNat)))) R κ
              else none
            else none
          else none
      else none
    else
      κ (.ex 0) (mkS [(0, .sc (.string s)), (8, .bad), (9, .ref ⟨.loc 9, 0, [], 9, false⟩), (10, .sc (.int .i64 i))] [(.loc 9, some ⟨false, [.own 9 false a]⟩)])
def f62_l0_ls : List (Nat × Pat) := [(0, .s), (1, .s), (2, .i .i64), (3, .i .i64), (9, .is (.ref ⟨.loc 9, 0, [], 9, false⟩)), (10, .i .i64)]
def f62_l0_rs : List RPat := [⟨.loc 9, false, [.own 9 false]⟩]
theorem f62_l0_ok (n : Nat) : ∀ (s : ByteArray) (sep : ByteArray) (sepSave : Int) (n' : Int) (i : Int) (a : List V) (R : Type) (κ : Ex → St → Option R) (r : R), f62_l0 n s sep sepSave n' i a R κ = some r → ∃ ee ss, κ ee ss = some r ∧ RunP C prim 62 [0, 0, 1, 1, 1, 1, 1, 1, 1, 1] (mkS [(0, .sc (.string s)), (1, .sc (.string sep)), (2, .sc (.int .i64 sepSave)), (3, .sc (.int .i64 n')), (9, .ref ⟨.loc 9, 0, [], 9, false⟩), (10, .sc (.int .i64 i))] [(.loc 9, some ⟨false, [.own 9 false a]⟩)]) ee ss := by
  induction n with
  | zero => intro s sep sepSave n' i a R κ r h; cases h
  | succ n ih =>
    intro s sep sepSave n' i a R κ r h
    refine loop_round (K := K_f62_l0) (T := T_f62_l0) K_f62_l0_ok T_f62_l0_ok (p := [0, 0, 1, 1, 1, 1, 1, 1, 1, 1]) (by kernel_rfl) (fun st => bif ckS f62_l0_ls f62_l0_rs st then f62_l0 n ((st.env 0).strOf) ((st.env 1).strOf) ((st.env 2).intOf) ((st.env 3).intOf) ((st.env 10).intOf) ((nthV (rowOf (st.regs (.loc 9))) 0).cellsOf) R κ else none) (fun st0 h0 => ?_) ?_
    · obtain ⟨hs, h0⟩ := cond_some h0
      rw [canon (ls := f62_l0_ls) (rs := f62_l0_rs) (by kernel_rfl) st0 hs]
      exact ih _ _ _ _ _ _ R κ r h0
    · refine Eq.trans ?_ h
      kernel_rfl

def f62_s0 (s : ByteArray) (sep : ByteArray) (sepSave : Int) (n' : Int) (i : Int) (a : List V) (R : Type) (κ : Ex → St → Option R) : Option R :=
  κ (.ex 0) (mkS [(0, .sc (.string (lastQ sep s))), (8, .bad), (9, .ref ⟨.loc 9, 0, [], 9, false⟩), (10, .sc (.int .i64 n'))] [(.loc 9, some ⟨false, [.own 9 false (headQ sep s ++ a.drop n'.toNat)]⟩)])
theorem f62_loop (sep : ByteArray) (hsep : one1 sep = true) (N : Nat) (hN : N ≤ 1000000000) (R : Type) (κ : Ex → St → Option R) : ∀ (k : Nat) (s : ByteArray) (i : Nat) (a : List V), (headQ sep s).length = k → i + k = N → a.length = N + 1 → s.size ≤ 1000000000 →
    f62_l0 (k + 1) s sep 0 ((N : Nat) : Int) ((i : Nat) : Int) a R κ = κ (.ex 0) (mkS [(0, .sc (.string (lastQ sep s))), (8, .bad), (9, .ref ⟨.loc 9, 0, [], 9, false⟩), (10, .sc (.int .i64 ((N : Nat) : Int)))] [(.loc 9, some ⟨false, [.own 9 false (a.take i ++ (headQ sep s ++ a.drop N))]⟩)])
  | 0, s, i, a, h, h1, h2, h3 => by
    obtain ⟨h4, h5⟩ := last_negQ sep s h
    obtain rfl : i = N := by omega
    rw [f62_l0, dec_false (by omega), cond_false, h4, h5, List.nil_append, List.take_append_drop]
  | k + 1, s, i, a, h, h1, h2, h3 => by
    obtain ⟨m, g1, g2, g3, g4⟩ := (idx_lenQ sep s).2 (by omega)
    have hz : (sep.size : Nat) = 1 := one1_size hsep
    have hk : (headQ sep (s.extract (m + 1) s.size)).length = k := by rw [g3] at h; simpa using h
    have hs : (s.extract (m + 1) s.size).size ≤ 1000000000 := by rw [bl_size, bl_extract, List.length_drop, List.length_take]; rw [bl_size] at h3; omega
    have IH := f62_loop sep hsep N hN R κ k (s.extract (m + 1) s.size) (i + 1) (a.set i (strV (s.data.toList.take m))) hk (by omega) (by rw [List.length_set]; exact h2) hs
    rw [f62_l0, dec_true (show ((i : Nat) : Int) < ((N : Nat) : Int) by omega), hsep, g1, dec_false (show ¬ ((m : Nat) : Int) < 0 by omega), Int.add_zero, wrap_id (n := ((m : Nat) : Int)) (by omega) (by omega), hz, wrap_id (n := ((m : Nat) : Int) + ((1 : Nat) : Int)) (by omega) (by omega), wrap_succ (by omega), dec_true (show (0 : Int) ≤ ((m : Nat) : Int) by omega), dec_true (show ((m : Nat) : Int) ≤ ((s.size : Nat) : Int) by omega), dec_true (show (0 : Int) ≤ ((i : Nat) : Int) by omega), dec_true (show ((i : Nat) : Int) < ((a.length : Nat) : Int) by omega), dec_true (show (0 : Int) ≤ ((m : Nat) : Int) + ((1 : Nat) : Int) by omega), dec_true (show ((m : Nat) : Int) + ((1 : Nat) : Int) ≤ ((s.size : Nat) : Int) by omega)]
    simp only [Bool.and_self, cond_true, cond_false, Int.toNat_natCast, Nat.mul_one, Nat.add_zero, strV_extract s 0 m, List.drop_zero, show (((m : Nat) : Int) + ((1 : Nat) : Int)).toNat = m + 1 by omega, IH, g4]
    have : (a.set i (strV (s.data.toList.take m))).take (i + 1) ++ (headQ sep (s.extract (m + 1) s.size) ++ (a.set i (strV (s.data.toList.take m))).drop N) = a.take i ++ (headQ sep s ++ a.drop N) := by
      rw [g3, List.take_add_one, List.take_set_of_le (by omega), List.getElem?_set_self (by omega), List.drop_set_of_lt (by omega)]
      simp
    rw [this]
theorem f62_s0_eq (s : ByteArray) (sep : ByteArray) (sepSave : Int) (n' : Int) (i : Int) (a : List V) (hp : (one1 sep && (sepSave == 0) && (i == 0) && (n' == cntQ sep s) && decide ((a.length : Int) = n' + 1) && decide (s.size ≤ 1000000000)) = true) : ∃ n, ∀ (R : Type) (κ : Ex → St → Option R), f62_l0 n s sep sepSave n' i a R κ = f62_s0 s sep sepSave n' i a R κ := by
  simp only [Bool.and_eq_true, decide_eq_true_eq, beq_iff_eq] at hp
  obtain ⟨⟨⟨⟨⟨g1, rfl⟩, rfl⟩, rfl⟩, g5⟩, g6⟩ := hp
  have hN := headQ_le sep s
  refine ⟨(headQ sep s).length + 1, fun R κ => ?_⟩
  unfold cntQ at *
  have := f62_loop sep g1 (headQ sep s).length (by omega) R κ (headQ sep s).length s 0 a rfl (by omega) (by omega) g6
  rw [f62_s0, Int.toNat_natCast]
  exact this
def t_f62_l0 (st : St) (R : Type) (κ : Ex → St → Option R) : Option R := bif ckS f62_l0_ls f62_l0_rs st then (bif (one1 ((st.env 1).strOf) && (((st.env 2).intOf) == 0) && (((st.env 10).intOf) == 0) && (((st.env 3).intOf) == cntQ ((st.env 1).strOf) ((st.env 0).strOf)) && decide ((((nthV (rowOf (st.regs (.loc 9))) 0).cellsOf).length : Int) = ((st.env 3).intOf) + 1) && decide (((st.env 0).strOf).size ≤ 1000000000)) then f62_s0 ((st.env 0).strOf) ((st.env 1).strOf) ((st.env 2).intOf) ((st.env 3).intOf) ((st.env 10).intOf) ((nthV (rowOf (st.regs (.loc 9))) 0).cellsOf) R κ else none) else none
theorem t_f62_l0_ok : ∀ st0 R κ r, t_f62_l0 (forget C 62 [0, 0, 1, 1, 1, 1, 1, 1, 1, 1] st0) R κ = some r → ∃ ee ss, κ ee ss = some r ∧ RunP C prim 62 [0, 0, 1, 1, 1, 1, 1, 1, 1, 1] (forget C 62 [0, 0, 1, 1, 1, 1, 1, 1, 1, 1] st0) ee ss := by
  intro st0 R κ r h
  obtain ⟨hs, h⟩ := cond_some h
  obtain ⟨hp, h⟩ := cond_some h
  rw [canon (ls := f62_l0_ls) (rs := f62_l0_rs) (by kernel_rfl) st0 hs]
  obtain ⟨n, hn⟩ := f62_s0_eq _ _ _ _ _ _ hp
  rw [← hn] at h
  exact f62_l0_ok n _ _ _ _ _ _ R κ r h

def K_f62 : CallK := kCons 94 k94 <| kCons 95 k95 <| kNil
theorem K_f62_ok : KOK C prim K_f62 := KOK.cons k94_ok <| KOK.cons k95_ok <| KOK.nil
def T_f62 : Tab := tCons [0, 0, 1, 1, 1, 1, 1, 1, 1, 1] t_f62_l0 <| tNil
theorem T_f62_ok : TOK C prim 62 T_f62 := TOK.cons t_f62_l0_ok <| TOK.nil
def f62 (s : ByteArray) (sep : ByteArray) : Option (V × List Rg) :=
  bif (strEq sep (⟨#[]⟩ : ByteArray)) then
    bif (false && true) then
      some (.own 9 false [], [])
    else none
  else
    bif ((one1 sep) && true) then
      bif ((((((((((decide ((0 : Int) ≤ (bif (decide ((IntKind.wrap .i64 (((s.size : Nat) : Int) + 1)) < (IntKind.wrap .i64 ((cntB s sep) + 1)))) then (IntKind.wrap .i64 (((s.size : Nat) : Int) + 1)) else (IntKind.wrap .i64 ((cntB s sep) + 1))))) && (decide ((bif (decide ((IntKind.wrap .i64 (((s.size : Nat) : Int) + 1)) < (IntKind.wrap .i64 ((cntB s sep) + 1)))) then (IntKind.wrap .i64 (((s.size : Nat) : Int) + 1)) else (IntKind.wrap .i64 ((cntB s sep) + 1))) ≤ (bif (decide ((IntKind.wrap .i64 (((s.size : Nat) : Int) + 1)) < (IntKind.wrap .i64 ((cntB s sep) + 1)))) then (IntKind.wrap .i64 (((s.size : Nat) : Int) + 1)) else (IntKind.wrap .i64 ((cntB s sep) + 1)))))) && true) && true) && true) && true) && true) && (roomy (((bif (decide ((IntKind.wrap .i64 (((s.size : Nat) : Int) + 1)) < (IntKind.wrap .i64 ((cntB s sep) + 1)))) then (IntKind.wrap .i64 (((s.size : Nat) : Int) + 1)) else (IntKind.wrap .i64 ((cntB s sep) + 1)))).toNat * 16))) && (roomy ((bif (decide ((IntKind.wrap .i64 (((s.size : Nat) : Int) + 1)) < (IntKind.wrap .i64 ((cntB s sep) + 1)))) then (IntKind.wrap .i64 (((s.size : Nat) : Int) + 1)) else (IntKind.wrap .i64 ((cntB s sep) + 1)))).toNat)) && true) then
        bif (one1 sep && ((0 : Int) == 0) && ((0 : Int) == 0) && ((IntKind.wrap .i64 ((bif (decide ((IntKind.wrap .i64 (((s.size : Nat) : Int) + 1)) < (IntKind.wrap .i64 ((cntB s sep) + 1)))) then (IntKind.wrap .i64 (((s.size : Nat) : Int) + 1)) else (IntKind.wrap .i64 ((cntB s sep) + 1))) - 1)) == cntQ sep s) && decide ((((List.replicate ((bif (decide ((IntKind.wrap .i64 (((s.size : Nat) : Int) + 1)) < (IntKind.wrap .i64 ((cntB s sep) + 1)))) then (IntKind.wrap .i64 (((s.size : Nat) : Int) + 1)) else (IntKind.wrap .i64 ((cntB s sep) + 1)))).toNat ([.sc (.string ⟨#[]⟩)] : List V)).flatten).length : Int) = (IntKind.wrap .i64 ((bif (decide ((IntKind.wrap .i64 (((s.size : Nat) : Int) + 1)) < (IntKind.wrap .i64 ((cntB s sep) + 1)))) then (IntKind.wrap .i64 (((s.size : Nat) : Int) + 1)) else (IntKind.wrap .i64 ((cntB s sep) + 1))) - 1)) + 1) && decide (s.size ≤ 1000000000)) then
          bif (((decide ((0 : Int) ≤ (IntKind.wrap .i64 ((bif (decide ((IntKind.wrap .i64 (((s.size : Nat) : Int) + 1)) < (IntKind.wrap .i64 ((cntB s sep) + 1)))) then (IntKind.wrap .i64 (((s.size : Nat) : Int) + 1)) else (IntKind.wrap .i64 ((cntB s sep) + 1))) - 1)))) && (decide ((IntKind.wrap .i64 ((bif (decide ((IntKind.wrap .i64 (((s.size : Nat) : Int) + 1)) < (IntKind.wrap .i64 ((cntB s sep) + 1)))) then (IntKind.wrap .i64 (((s.size : Nat) : Int) + 1)) else (IntKind.wrap .i64 ((cntB s sep) + 1))) - 1)) < ((((headQ sep s ++ ((List.replicate ((bif (decide ((IntKind.wrap .i64 (((s.size : Nat) : Int) + 1)) < (IntKind.wrap .i64 ((cntB s sep) + 1)))) then (IntKind.wrap .i64 (((s.size : Nat) : Int) + 1)) else (IntKind.wrap .i64 ((cntB s sep) + 1)))).toNat ([.sc (.string ⟨#[]⟩)] : List V)).flatten).drop (IntKind.wrap .i64 ((bif (decide ((IntKind.wrap .i64 (((s.size : Nat) : Int) + 1)) < (IntKind.wrap .i64 ((cntB s sep) + 1)))) then (IntKind.wrap .i64 (((s.size : Nat) : Int) + 1)) else (IntKind.wrap .i64 ((cntB s sep) + 1))) - 1)).toNat)).length : Nat) : Int)))) && true) then
            bif (((((decide ((0 : Int) ≤ (IntKind.wrap .i64 ((IntKind.wrap .i64 ((bif (decide ((IntKind.wrap .i64 (((s.size : Nat) : Int) + 1)) < (IntKind.wrap .i64 ((cntB s sep) + 1)))) then (IntKind.wrap .i64 (((s.size : Nat) : Int) + 1)) else (IntKind.wrap .i64 ((cntB s sep) + 1))) - 1)) + 1)))) && (decide ((IntKind.wrap .i64 ((IntKind.wrap .i64 ((bif (decide ((IntKind.wrap .i64 (((s.size : Nat) : Int) + 1)) < (IntKind.wrap .i64 ((cntB s sep) + 1)))) then (IntKind.wrap .i64 (((s.size : Nat) : Int) + 1)) else (IntKind.wrap .i64 ((cntB s sep) + 1))) - 1)) + 1)) ≤ (((((headQ sep s ++ ((List.replicate ((bif (decide ((IntKind.wrap .i64 (((s.size : Nat) : Int) + 1)) < (IntKind.wrap .i64 ((cntB s sep) + 1)))) then (IntKind.wrap .i64 (((s.size : Nat) : Int) + 1)) else (IntKind.wrap .i64 ((cntB s sep) + 1)))).toNat ([.sc (.string ⟨#[]⟩)] : List V)).flatten).drop (IntKind.wrap .i64 ((bif (decide ((IntKind.wrap .i64 (((s.size : Nat) : Int) + 1)) < (IntKind.wrap .i64 ((cntB s sep) + 1)))) then (IntKind.wrap .i64 (((s.size : Nat) : Int) + 1)) else (IntKind.wrap .i64 ((cntB s sep) + 1))) - 1)).toNat).set ((((IntKind.wrap .i64 ((bif (decide ((IntKind.wrap .i64 (((s.size : Nat) : Int) + 1)) < (IntKind.wrap .i64 ((cntB s sep) + 1)))) then (IntKind.wrap .i64 (((s.size : Nat) : Int) + 1)) else (IntKind.wrap .i64 ((cntB s sep) + 1))) - 1))).toNat * 1) + 0) (.sc (.string (lastQ sep s))))).length : Nat) : Int)))) && true) && true) && true) then
              some (.own 9 false (((headQ sep s ++ ((List.replicate ((bif (decide ((IntKind.wrap .i64 (((s.size : Nat) : Int) + 1)) < (IntKind.wrap .i64 ((cntB s sep) + 1)))) then (IntKind.wrap .i64 (((s.size : Nat) : Int) + 1)) else (IntKind.wrap .i64 ((cntB s sep) + 1)))).toNat ([.sc (.string ⟨#[]⟩)] : List V)).flatten).drop (IntKind.wrap .i64 ((bif (decide ((IntKind.wrap .i64 (((s.size : Nat) : Int) + 1)) < (IntKind.wrap .i64 ((cntB s sep) + 1)))) then (IntKind.wrap .i64 (((s.size : Nat) : Int) + 1)) else (IntKind.wrap .i64 ((cntB s sep) + 1))) - 1)).toNat).set ((((IntKind.wrap .i64 ((bif (decide ((IntKind.wrap .i64 (((s.size : Nat) : Int) + 1)) < (IntKind.wrap .i64 ((cntB s sep) + 1)))) then (IntKind.wrap .i64 (((s.size : Nat) : Int) + 1)) else (IntKind.wrap .i64 ((cntB s sep) + 1))) - 1))).toNat * 1) + 0) (.sc (.string (lastQ sep s)))).take (((IntKind.wrap .i64 ((IntKind.wrap .i64 ((bif (decide ((IntKind.wrap .i64 (((s.size : Nat) : Int) + 1)) < (IntKind.wrap .i64 ((cntB s sep) + 1)))) then (IntKind.wrap .i64 (((s.size : Nat) : Int) + 1)) else (IntKind.wrap .i64 ((cntB s sep) + 1))) - 1)) + 1))).toNat * 1)), [])
            else none
          else none
        else none
      else none
    else none
theorem f62_run (s : ByteArray) (sep : ByteArray) (z9 : V × List Rg) (h : f62 s sep = some z9) : CallR C prim 62 [.sc (.string s), .sc (.string sep), .sc (.int .i64 0), .sc (.int .i64 (-1))] [] z9 := by
  refine call_fn (K := K_f62) (T := T_f62) K_f62_ok T_f62_ok (by kernel_rfl) ?_
  refine Eq.trans ?_ h
  kernel_rfl

theorem rep_flatQ {α : Type} (n : Nat) (x : α) : (List.replicate n [x]).flatten = List.replicate n x := by
  induction n with
  | zero => rfl
  | succ n ih => rw [List.replicate_succ, List.flatten_cons, ih, List.replicate_succ]; rfl
theorem f62_eq (s : ByteArray) (sep : ByteArray) (hp : (one1 sep && decide (s.size ≤ 1000000000)) = true) : f62 s sep = some (.own 9 false (splitQ sep s), []) := by
  simp only [Bool.and_eq_true, decide_eq_true_eq] at hp
  obtain ⟨ho, hp⟩ := hp
  have hN := headQ_le sep s
  have hw2 : IntKind.wrap .i64 (((s.size : Nat) : Int) + 1) = ((s.size + 1 : Nat) : Int) := wrap_succ (by omega)
  have hw1 : IntKind.wrap .i64 ((((headQ sep s).length : Nat) : Int) + 1) = (((headQ sep s).length + 1 : Nat) : Int) := wrap_succ (by omega)
  have hlt : decide (((s.size + 1 : Nat) : Int) < (((headQ sep s).length + 1 : Nat) : Int)) = false := dec_false (by omega)
  have hw3 : IntKind.wrap .i64 ((((headQ sep s).length + 1 : Nat) : Int) - 1) = (((headQ sep s).length : Nat) : Int) := by rw [wrap_id (by omega) (by omega)]; omega
  unfold f62
  simp only [cntB_one ho, hw1, hw2, hlt, cond_false, hw3, Int.toNat_natCast, rep_flatQ, List.length_replicate, List.drop_replicate, Nat.mul_one, Nat.add_zero]
  have e1 : (headQ sep s).length + 1 - (headQ sep s).length = 1 := by omega
  have e2 : (headQ sep s ++ List.replicate 1 (V.sc (.string ⟨#[]⟩))).set (headQ sep s).length (.sc (.string (lastQ sep s))) = splitQ sep s := by
    rw [List.set_append_right _ _ (Nat.le_refl _), Nat.sub_self]
    rfl
  have e3 : (splitQ sep s).length = (headQ sep s).length + 1 := by unfold splitQ; simp
  have e4 : (headQ sep s ++ List.replicate 1 (V.sc (.string ⟨#[]⟩))).length = (headQ sep s).length + 1 := by simp
  rw [e1, e2, e4, e3, List.take_of_length_le (by omega)]
  have r1 : roomy (((headQ sep s).length + 1) * 16) = true := dec_true (by omega)
  have r2 : roomy ((headQ sep s).length + 1) = true := dec_true (by omega)
  have d1 : decide ((0 : Int) ≤ (((headQ sep s).length + 1 : Nat) : Int)) = true := dec_true (by omega)
  have d2 : decide ((((headQ sep s).length + 1 : Nat) : Int) ≤ (((headQ sep s).length + 1 : Nat) : Int)) = true := dec_true (by omega)
  have d3 : decide ((0 : Int) ≤ (((headQ sep s).length : Nat) : Int)) = true := dec_true (by omega)
  have d4 : decide ((((headQ sep s).length : Nat) : Int) < (((headQ sep s).length + 1 : Nat) : Int)) = true := dec_true (by omega)
  have d5 : decide ((((headQ sep s).length + 1 : Nat) : Int) = (((headQ sep s).length : Nat) : Int) + 1) = true := dec_true (by omega)
  have d6 : ((((headQ sep s).length : Nat) : Int) == cntQ sep s) = true := beq_self_eq_true _
  rw [one1_ne ho, ho, r1, r2, d1, d2, d3, d4, d5, d6, dec_true hp]
  rfl
def k62 : PrimT := fun vs gs => match vs, gs with
  | [.sc (.string s), .sc (.string sep), .sc (.int .i64 0), .sc (.int .i64 (-1))], [] => ((one1 sep && decide (s.size ≤ 1000000000)), .own 9 false (splitQ sep s), [])
  | _, _ => (false, .bad, [])
theorem k62_ok : ∀ vs gs x, k62 vs gs = (true, x) → CallR C prim 62 vs gs x := by
  intro vs gs x h
  unfold k62 at h
  split at h
  · simp only [Prod.mk.injEq] at h
    obtain ⟨hp, rfl⟩ := h
    exact f62_run _ _ _ (f62_eq _ _ hp)
  · cases h

def K_f30 : CallK := kCons 62 k62 <| kNil
theorem K_f30_ok : KOK C prim K_f30 := KOK.cons k62_ok <| KOK.nil
def T_f30 : Tab := tNil
theorem T_f30_ok : TOK C prim 30 T_f30 := TOK.nil
def f30 (s : ByteArray) (sep : ByteArray) : Option (V × List Rg) :=
  bif ((one1 sep && decide (s.size ≤ 1000000000)) && true) then
    some (.own 9 false (splitQ sep s), [])
  else none
theorem f30_run (s : ByteArray) (sep : ByteArray) (z9 : V × List Rg) (h : f30 s sep = some z9) : CallR C prim 30 [.sc (.string s), .sc (.string sep)] [] z9 := by
  refine call_fn (K := K_f30) (T := T_f30) K_f30_ok T_f30_ok (by kernel_rfl) ?_
  refine Eq.trans ?_ h
  kernel_rfl

theorem f30_eq (s : ByteArray) (sep : ByteArray) (hp : (one1 sep && decide (s.size ≤ 1000000000)) = true) : f30 s sep = some (.own 9 false (splitQ sep s), []) := by
  unfold f30
  rw [hp]
  rfl
def k30 : PrimT := fun vs gs => match vs, gs with
  | [.sc (.string s), .sc (.string sep)], [] => ((one1 sep && decide (s.size ≤ 1000000000)), .own 9 false (splitQ sep s), [])
  | _, _ => (false, .bad, [])
theorem k30_ok : ∀ vs gs x, k30 vs gs = (true, x) → CallR C prim 30 vs gs x := by
  intro vs gs x h
  unfold k30 at h
  split at h
  · simp only [Prod.mk.injEq] at h
    obtain ⟨hp, rfl⟩ := h
    exact f30_run _ _ _ (f30_eq _ _ hp)
  · cases h

def K_f28 : CallK := kCons 30 k30 <| kCons 58 k58 <| kNil
theorem K_f28_ok : KOK C prim K_f28 := KOK.cons k30_ok <| KOK.cons k58_ok <| KOK.nil
def T_f28 : Tab := tNil
theorem T_f28_ok : TOK C prim 28 T_f28 := TOK.nil
def f28 (text : ByteArray) : Option (V × List Rg) :=
  bif (strEq text (⟨#[]⟩ : ByteArray)) then
    some (.sl 1 [], [])
  else
    bif ((decide (text.size ≤ 1000000000)) && true) then
      bif ((one1 (⟨#[10]⟩ : ByteArray) && decide ((trimNl text).size ≤ 1000000000)) && true) then
        some (.sl 1 (splitQ (⟨#[10]⟩ : ByteArray) (trimNl text)), [])
      else none
    else none
theorem f28_run (text : ByteArray) (z9 : V × List Rg) (h : f28 text = some z9) : CallR C prim 28 [.sc (.string text)] [] z9 := by
  refine call_fn (K := K_f28) (T := T_f28) K_f28_ok T_f28_ok (by kernel_rfl) ?_
  refine Eq.trans ?_ h
  kernel_rfl

theorem f28_eq (text : ByteArray) (hp : (decide (text.size ≤ 1000000000)) = true) : f28 text = some (.sl 1 (linesV text), []) := by
  have hq := hp
  simp only [decide_eq_true_eq] at hp
  unfold f28
  cases h : strEq text (⟨#[]⟩ : ByteArray) with
  | true =>
    rw [strEq_iff] at h
    rw [linesV_nil text (by rw [h])]
    rfl
  | false =>
    have hne : text.data.toList ≠ [] := by
      intro h'
      have : text = ⟨#[]⟩ := ba_ext (by rw [h'])
      rw [this, strEq_self] at h
      cases h
    have ht : (trimNl text).size ≤ 1000000000 := by
      unfold trimNl
      cases endNl text
      · exact hp
      · rw [cond_true, bl_size, bl_extract, List.length_drop, List.length_take]; rw [bl_size] at hp; omega
    rw [linesV_trim text hne, ← splitQ_nl, dec_true ht, hq]
    rfl
def k28 : PrimT := fun vs gs => match vs, gs with
  | [.sc (.string text)], [] => ((decide (text.size ≤ 1000000000)), .sl 1 (linesV text), [])
  | _, _ => (false, .bad, [])
theorem k28_ok : ∀ vs gs x, k28 vs gs = (true, x) → CallR C prim 28 vs gs x := by
  intro vs gs x h
  unfold k28 at h
  split at h
  · simp only [Prod.mk.injEq] at h
    obtain ⟨hp, rfl⟩ := h
    exact f28_run _ _ (f28_eq _ hp)
  · cases h

def K_f55 : CallK := kCons 28 k28 <| kNil
theorem K_f55_ok : KOK C prim K_f55 := KOK.cons k28_ok <| KOK.nil
def T_f55 : Tab := tNil
theorem T_f55_ok : TOK C prim 55 T_f55 := TOK.nil
def f55 (text : ByteArray) : Option (V × List Rg) :=
  bif (decide (((text.size : Nat) : Int) > 65536)) then
    some (.sc (.bool true), [])
  else
    bif ((decide (text.size ≤ 1000000000)) && true) then
      some (.sc (.bool (decide (((((linesV text)).length : Nat) : Int) > 4096))), [])
    else none
theorem f55_run (text : ByteArray) (z9 : V × List Rg) (h : f55 text = some z9) : CallR C prim 55 [.sc (.string text)] [] z9 := by
  refine call_fn (K := K_f55) (T := T_f55) K_f55_ok T_f55_ok (by kernel_rfl) ?_
  refine Eq.trans ?_ h
  kernel_rfl

theorem f55_eq (text : ByteArray) (hp : (decide (text.size ≤ 1000000000)) = true) : f55 text = some (.sc (.bool (largeB text)), []) := by
  unfold f55 largeB
  rw [hp]
  cases decide (((text.size : Nat) : Int) > 65536) <;> rfl
def k55 : PrimT := fun vs gs => match vs, gs with
  | [.sc (.string text)], [] => ((decide (text.size ≤ 1000000000)), .sc (.bool (largeB text)), [])
  | _, _ => (false, .bad, [])
theorem k55_ok : ∀ vs gs x, k55 vs gs = (true, x) → CallR C prim 55 vs gs x := by
  intro vs gs x h
  unfold k55 at h
  split at h
  · simp only [Prod.mk.injEq] at h
    obtain ⟨hp, rfl⟩ := h
    exact f55_run _ _ (f55_eq _ hp)
  · cases h

def K_f14_l0 : CallK := kNil
theorem K_f14_l0_ok : KOK C prim K_f14_l0 := KOK.nil
def T_f14_l0 : Tab := tNil
theorem T_f14_l0_ok : TOK C prim 14 T_f14_l0 := TOK.nil
def f14_l0 : Nat → ByteArray → Int → Int → Int → List V → (R : Type) → (Ex → St → Option R) → Option R
  | 0, _, _, _, _, _, _, _ => none
  | n + 1, text, from', v7, v8, l, R, κ =>
    bif (decide (v8 < v7)) then
      bif (((decide ((0 : Int) ≤ v8)) && (decide (v8 < ((text.size : Nat) : Int)))) && true) then
        bif (((text.data.getD (v8).toNat 0).toNat : Int) == 10) then
          bif (((((decide ((0 : Int) ≤ from')) && (decide (from' ≤ v8))) && (decide (v8 ≤ ((text.size : Nat) : Int)))) && true) && true) then
            bif (((roomy ((l.length + 1) * 16)) && (roomy (l.length + 1))) && true) then
              f14_l0 n text (IntKind.wrap .i64 (v8 + 1)) v7 (IntKind.wrap .i64 (v8 + 1)) (l ++ [.sc (.string (text.extract (from').toNat (v8).toNat))]) R κ
            else none
          else none
        else
          f14_l0 n text from' v7 (IntKind.wrap .i64 (v8 + 1)) l R κ
      else none
    else
      κ (.ex 0) (mkS [(0, .sc (.string text)), (2, .bad), (3, .ref ⟨.loc 3, 0, [], 9, false⟩), (4, .sc (.int .i64 from'))] [(.loc 3, some ⟨false, [.own 9 false l]⟩)])
def f14_l0_ls : List (Nat × Pat) := [(0, .s), (3, .is (.ref ⟨.loc 3, 0, [], 9, false⟩)), (4, .i .i64), (7, .i .i64), (8, .i .i64)]
def f14_l0_rs : List RPat := [⟨.loc 3, false, [.own 9 false]⟩]
theorem f14_l0_ok (n : Nat) : ∀ (text : ByteArray) (from' : Int) (v7 : Int) (v8 : Int) (l : List V) (R : Type) (κ : Ex → St → Option R) (r : R), f14_l0 n text from' v7 v8 l R κ = some r → ∃ ee ss, κ ee ss = some r ∧ RunP C prim 14 [0, 1, 0, 1, 1, 1] (mkS [(0, .sc (.string text)), (3, .ref ⟨.loc 3, 0, [], 9, false⟩), (4, .sc (.int .i64 from')), (7, .sc (.int .i64 v7)), (8, .sc (.int .i64 v8))] [(.loc 3, some ⟨false, [.own 9 false l]⟩)]) ee ss := by
  induction n with
  | zero => intro text from' v7 v8 l R κ r h; cases h
  | succ n ih =>
    intro text from' v7 v8 l R κ r h
    refine loop_round (K := K_f14_l0) (T := T_f14_l0) K_f14_l0_ok T_f14_l0_ok (p := [0, 1, 0, 1, 1, 1]) (by kernel_rfl) (fun st => bif ckS f14_l0_ls f14_l0_rs st then f14_l0 n ((st.env 0).strOf) ((st.env 4).intOf) ((st.env 7).intOf) ((st.env 8).intOf) ((nthV (rowOf (st.regs (.loc 3))) 0).cellsOf) R κ else none) (fun st0 h0 => ?_) ?_
    · obtain ⟨hs, h0⟩ := cond_some h0
      rw [canon (ls := f14_l0_ls) (rs := f14_l0_rs) (by kernel_rfl) st0 hs]
      exact ih _ _ _ _ _ R κ r h0
    · refine Eq.trans ?_ h
      kernel_rfl

def f14_s0 (text : ByteArray) (from' : Int) (v7 : Int) (v8 : Int) (l : List V) (R : Type) (κ : Ex → St → Option R) : Option R :=
  κ (.ex 0) (mkS [(0, .sc (.string text)), (2, .bad), (3, .ref ⟨.loc 3, 0, [], 9, false⟩), (4, .sc (.int .i64 (fromP text)))] [(.loc 3, some ⟨false, [.own 9 false (headP text)]⟩)])
theorem f14_loop (text : ByteArray) (ht : text.size ≤ 1000000000) (R : Type) (κ : Ex → St → Option R) : ∀ (k i fr : Nat) (l : List V), i + k = text.size → fr ≤ i → l.length ≤ i →
    f14_l0 (k + 1) text ((fr : Nat) : Int) ((text.size : Nat) : Int) ((i : Nat) : Int) l R κ = κ (.ex 0) (mkS [(0, .sc (.string text)), (2, .bad), (3, .ref ⟨.loc 3, 0, [], 9, false⟩), (4, .sc (.int .i64 (((text.size : Nat) : Int) - (((lastL ((text.data.toList.take i).drop fr) (text.data.toList.drop i)).length : Nat) : Int))))] [(.loc 3, some ⟨false, [.own 9 false (l ++ headL ((text.data.toList.take i).drop fr) (text.data.toList.drop i))]⟩)])
  | 0, i, fr, l, h, h1, h2 => by
    have hl := bl_size text
    obtain rfl : i = text.size := by omega
    rw [f14_l0, dec_false (by omega), cond_false, List.drop_of_length_le (l := text.data.toList) (i := text.size) (by omega), headL, lastL, List.append_nil, List.length_drop, List.length_take, show ((min text.size text.data.toList.length - fr : Nat) : Int) = ((text.size : Nat) : Int) - (fr : Int) by omega, show ((text.size : Nat) : Int) - (((text.size : Nat) : Int) - (fr : Int)) = (fr : Int) by omega]
  | k + 1, i, fr, l, h, h1, h2 => by
    have hl := bl_size text
    have hlt : i < text.data.toList.length := by omega
    have hb : ((text.data.getD i 0).toNat : Int) = ((text.data.toList[i]).toNat : Int) := by rw [getD_list' text i hlt]
    have hc : ((((text.data.toList[i]).toNat : Nat) : Int) == 10) = (text.data.toList[i] == 10) := by
      rw [Bool.eq_iff_iff, beq_iff_eq, beq_iff_eq, ← UInt8.toNat_inj]
      show _ ↔ (text.data.toList[i]).toNat = 10
      omega
    have r1 : roomy ((l.length + 1) * 16) = true := dec_true (by omega)
    have r2 : roomy (l.length + 1) = true := dec_true (by omega)
    rw [f14_l0, dec_true (show ((i : Nat) : Int) < ((text.size : Nat) : Int) by omega), dec_true (show (0 : Int) ≤ ((i : Nat) : Int) by omega), Int.toNat_natCast, hb, hc, dec_true (show (0 : Int) ≤ ((fr : Nat) : Int) by omega), dec_true (show ((fr : Nat) : Int) ≤ ((i : Nat) : Int) by omega), dec_true (show ((i : Nat) : Int) ≤ ((text.size : Nat) : Int) by omega), r1, r2, Int.toNat_natCast, strV_extract, wrap_succ (by omega), List.drop_eq_getElem_cons hlt, headL_cons, lastL_cons]
    cases hx : text.data.toList[i] == 10 with
    | true =>
      have IH := f14_loop text ht R κ k (i + 1) (i + 1) (l ++ [strV ((text.data.toList.take i).drop fr)]) (by omega) (Nat.le_refl _) (by simp; omega)
      rw [List.drop_of_length_le (l := text.data.toList.take (i + 1)) (by rw [List.length_take]; omega), List.append_assoc] at IH
      simp only [Bool.and_self, cond_true]
      exact IH
    | false =>
      have IH := f14_loop text ht R κ k (i + 1) fr l (by omega) (by omega) (by omega)
      rw [List.take_add_one, List.getElem?_eq_getElem hlt, Option.toList_some, List.drop_append_of_le_length (by rw [List.length_take]; omega)] at IH
      simp only [Bool.and_self, cond_true, cond_false]
      exact IH
theorem f14_s0_eq (text : ByteArray) (from' : Int) (v7 : Int) (v8 : Int) (l : List V) (hp : ((v7 == ((text.size : Nat) : Int)) && (v8 == 0) && (from' == 0) && (l.length == 0) && decide (text.size ≤ 1000000000)) = true) : ∃ n, ∀ (R : Type) (κ : Ex → St → Option R), f14_l0 n text from' v7 v8 l R κ = f14_s0 text from' v7 v8 l R κ := by
  simp only [Bool.and_eq_true, decide_eq_true_eq, beq_iff_eq] at hp
  obtain ⟨⟨⟨⟨rfl, rfl⟩, rfl⟩, g4⟩, g5⟩ := hp
  obtain rfl : l = [] := List.eq_nil_of_length_eq_zero g4
  refine ⟨text.size + 1, fun R κ => ?_⟩
  have := f14_loop text g5 R κ text.size 0 0 [] (by omega) (Nat.le_refl _) (Nat.le_refl _)
  have e : fromP text = ((text.size : Nat) : Int) - (((lastL ((text.data.toList.take 0).drop 0) (text.data.toList.drop 0)).length : Nat) : Int) := by
    unfold fromP; rw [lastP_size]; rfl
  rw [f14_s0, e]
  exact this
def t_f14_l0 (st : St) (R : Type) (κ : Ex → St → Option R) : Option R := bif ckS f14_l0_ls f14_l0_rs st then (bif ((((st.env 7).intOf) == ((((st.env 0).strOf).size : Nat) : Int)) && (((st.env 8).intOf) == 0) && (((st.env 4).intOf) == 0) && (((nthV (rowOf (st.regs (.loc 3))) 0).cellsOf).length == 0) && decide (((st.env 0).strOf).size ≤ 1000000000)) then f14_s0 ((st.env 0).strOf) ((st.env 4).intOf) ((st.env 7).intOf) ((st.env 8).intOf) ((nthV (rowOf (st.regs (.loc 3))) 0).cellsOf) R κ else none) else none
theorem t_f14_l0_ok : ∀ st0 R κ r, t_f14_l0 (forget C 14 [0, 1, 0, 1, 1, 1] st0) R κ = some r → ∃ ee ss, κ ee ss = some r ∧ RunP C prim 14 [0, 1, 0, 1, 1, 1] (forget C 14 [0, 1, 0, 1, 1, 1] st0) ee ss := by
  intro st0 R κ r h
  obtain ⟨hs, h⟩ := cond_some h
  obtain ⟨hp, h⟩ := cond_some h
  rw [canon (ls := f14_l0_ls) (rs := f14_l0_rs) (by kernel_rfl) st0 hs]
  obtain ⟨n, hn⟩ := f14_s0_eq _ _ _ _ _ hp
  rw [← hn] at h
  exact f14_l0_ok n _ _ _ _ _ R κ r h

def K_f14 : CallK := kNil
theorem K_f14_ok : KOK C prim K_f14 := KOK.nil
def T_f14 : Tab := tCons [0, 1, 0, 1, 1, 1] t_f14_l0 <| tNil
theorem T_f14_ok : TOK C prim 14 T_f14 := TOK.cons t_f14_l0_ok <| TOK.nil
def f14 (text : ByteArray) : Option (V × List Rg) :=
  bif ((((text.size : Nat) : Int) == ((text.size : Nat) : Int)) && ((0 : Int) == 0) && ((0 : Int) == 0) && (([] : List V).length == 0) && decide (text.size ≤ 1000000000)) then
    bif (decide ((fromP text) < ((text.size : Nat) : Int))) then
      bif ((((decide ((0 : Int) ≤ (fromP text))) && (decide ((fromP text) ≤ ((text.size : Nat) : Int)))) && true) && true) then
        bif (((roomy ((((headP text)).length + 1) * 16)) && (roomy (((headP text)).length + 1))) && true) then
          some (.sl 1 ((headP text) ++ [.sc (.string (text.extract ((fromP text)).toNat (((text.size : Nat) : Int)).toNat))]), [])
        else none
      else none
    else
      some (.sl 1 (headP text), [])
  else none
theorem f14_run (text : ByteArray) (z9 : V × List Rg) (h : f14 text = some z9) : CallR C prim 14 [.sc (.string text)] [] z9 := by
  refine call_fn (K := K_f14) (T := T_f14) K_f14_ok T_f14_ok (by kernel_rfl) ?_
  refine Eq.trans ?_ h
  kernel_rfl

theorem from_last (s : ByteArray) : V.sc (.string (s.extract (fromP s).toNat s.size)) = .sc (.string (lastP s)) := by
  have key : ∀ (l cur : List UInt8), (cur ++ l).drop (cur.length + l.length - (lastL cur l).length) = lastL cur l := by
    intro l
    induction l with
    | nil => intro cur; simp [lastL]
    | cons b r ih =>
      intro cur
      have h1 := ih []
      have h2 := ih (cur ++ [b])
      rw [lastL_cons]
      cases b == 10 with
      | false =>
        simp only [cond_false]
        rw [List.append_assoc, List.singleton_append, List.length_append] at h2
        rw [List.length_cons, show cur.length + (r.length + 1) = cur.length + [b].length + r.length by simp; omega]
        exact h2
      | true =>
        simp only [cond_true]
        have hle := last_le r []
        simp only [List.length_nil, Nat.zero_add, List.nil_append] at h1 hle
        rw [List.length_cons, show cur.length + (r.length + 1) - (lastL [] r).length = (cur ++ [b]).length + (r.length - (lastL [] r).length) by simp; omega, show cur ++ b :: r = (cur ++ [b]) ++ r by simp, List.drop_length_add_append]
        exact h1
  have hle := lastP_le s
  have h := key s.data.toList []
  simp only [List.length_nil, Nat.zero_add, List.nil_append] at h
  congr 1
  congr 1
  refine ba_ext ?_
  have hf : (fromP s).toNat = s.data.toList.length - (lastL [] s.data.toList).length := by
    unfold fromP; rw [← lastP_size, ← bl_size]; omega
  rw [bl_extract, List.take_of_length_le (by rw [bl_size]; exact Nat.le_refl _), hf, h]
  rfl
theorem f14_eq (text : ByteArray) (hp : (decide (text.size ≤ 1000000000)) = true) : f14 text = some (.sl 1 (linesV text), []) := by
  have hq := hp
  simp only [decide_eq_true_eq] at hp
  have hl := lastP_le text
  have hh := headP_le text
  have r1 : roomy (((headP text).length + 1) * 16) = true := dec_true (by omega)
  have r2 : roomy ((headP text).length + 1) = true := dec_true (by omega)
  unfold f14 linesV splitV
  rw [hq, beq_self_eq_true, Int.toNat_natCast, from_last, r1, r2]
  by_cases hz : (lastP text).size = 0
  · rw [dec_false (show ¬ fromP text < ((text.size : Nat) : Int) by unfold fromP; omega), hz]
    rfl
  · have hz2 : ((lastP text).size == 0) = false := by simpa using hz
    rw [dec_true (show fromP text < ((text.size : Nat) : Int) by unfold fromP; omega), dec_true (show (0 : Int) ≤ fromP text by unfold fromP; omega), dec_true (show fromP text ≤ ((text.size : Nat) : Int) by unfold fromP; omega), hz2]
    rfl
def k14 : PrimT := fun vs gs => match vs, gs with
  | [.sc (.string text)], [] => ((decide (text.size ≤ 1000000000)), .sl 1 (linesV text), [])
  | _, _ => (false, .bad, [])
theorem k14_ok : ∀ vs gs x, k14 vs gs = (true, x) → CallR C prim 14 vs gs x := by
  intro vs gs x h
  unfold k14 at h
  split at h
  · simp only [Prod.mk.injEq] at h
    obtain ⟨hp, rfl⟩ := h
    exact f14_run _ _ (f14_eq _ hp)
  · cases h

def K_f36 : CallK := kCons 14 k14 <| kNil
theorem K_f36_ok : KOK C prim K_f36 := KOK.cons k14_ok <| KOK.nil
def T_f36 : Tab := tNil
theorem T_f36_ok : TOK C prim 36 T_f36 := TOK.nil
def f36 (text : ByteArray) : Option (V × List Rg) :=
  bif (decide (((text.size : Nat) : Int) > 65536)) then
    some (.sc (.bool true), [])
  else
    bif ((decide (text.size ≤ 1000000000)) && true) then
      some (.sc (.bool (decide (((((linesV text)).length : Nat) : Int) > 4096))), [])
    else none
theorem f36_run (text : ByteArray) (z9 : V × List Rg) (h : f36 text = some z9) : CallR C prim 36 [.sc (.string text)] [] z9 := by
  refine call_fn (K := K_f36) (T := T_f36) K_f36_ok T_f36_ok (by kernel_rfl) ?_
  refine Eq.trans ?_ h
  kernel_rfl

theorem f36_eq (text : ByteArray) (hp : (decide (text.size ≤ 1000000000)) = true) : f36 text = some (.sc (.bool (largeB text)), []) := by
  unfold f36 largeB
  rw [hp]
  cases decide (((text.size : Nat) : Int) > 65536) <;> rfl
def k36 : PrimT := fun vs gs => match vs, gs with
  | [.sc (.string text)], [] => ((decide (text.size ≤ 1000000000)), .sc (.bool (largeB text)), [])
  | _, _ => (false, .bad, [])
theorem k36_ok : ∀ vs gs x, k36 vs gs = (true, x) → CallR C prim 36 vs gs x := by
  intro vs gs x h
  unfold k36 at h
  split at h
  · simp only [Prod.mk.injEq] at h
    obtain ⟨hp, rfl⟩ := h
    exact f36_run _ _ (f36_eq _ hp)
  · cases h

def K_f66a_l0 : CallK := kCons 55 k55 <| kNil
theorem K_f66a_l0_ok : KOK C prim K_f66a_l0 := KOK.cons k55_ok <| KOK.nil
def T_f66a_l0 : Tab := tNil
theorem T_f66a_l0_ok : TOK C prim 66 T_f66a_l0 := TOK.nil
def f66a_l0 : Nat → List V → Int → Int → (R : Type) → (Ex → St → Option R) → Option R
  | 0, _, _, _, _, _ => none
  | n + 1, s, v7, v8, R, κ =>
    bif (decide (v8 < v7)) then
      bif (((decide ((0 : Int) ≤ v8)) && (decide (v8 < ((s.length : Nat) : Int)))) && true) then
        bif (((V.isStr (nthV s (((v8).toNat * 1) + 0))) && true) && true) then
          bif ((decide ((V.strOf (nthV s (((v8).toNat * 1) + 0))).size ≤ 1000000000)) && true) then
            bif (largeB (V.strOf (nthV s (((v8).toNat * 1) + 0)))) then
              κ .rt (mkS [(4, .sc (.int .i64 v8))] [])
            else
              f66a_l0 n s v7 (IntKind.wrap .i64 (v8 + 1)) R κ
          else none
        else none
      else none
    else
      κ (.ex 0) (mkS [(4, .bad)] [])
def f66a_l0_ls : List (Nat × Pat) := [(0, .sl 1), (1, .is (.fn 55 [] [])), (7, .i .i64), (8, .i .i64)]
def f66a_l0_rs : List RPat := []
theorem f66a_l0_ok (n : Nat) : ∀ (s : List V) (v7 : Int) (v8 : Int) (R : Type) (κ : Ex → St → Option R) (r : R), f66a_l0 n s v7 v8 R κ = some r → ∃ ee ss, κ ee ss = some r ∧ RunP C prim 66 [0, 1, 0, 1] (mkS [(0, .sl 1 s), (1, .fn 55 [] []), (7, .sc (.int .i64 v7)), (8, .sc (.int .i64 v8))] []) ee ss := by
  induction n with
  | zero => intro s v7 v8 R κ r h; cases h
  | succ n ih =>
    intro s v7 v8 R κ r h
    refine loop_round (K := K_f66a_l0) (T := T_f66a_l0) K_f66a_l0_ok T_f66a_l0_ok (p := [0, 1, 0, 1]) (by kernel_rfl) (fun st => bif ckS f66a_l0_ls f66a_l0_rs st then f66a_l0 n ((st.env 0).cellsOf) ((st.env 7).intOf) ((st.env 8).intOf) R κ else none) (fun st0 h0 => ?_) ?_
    · obtain ⟨hs, h0⟩ := cond_some h0
      rw [canon (ls := f66a_l0_ls) (rs := f66a_l0_rs) (by kernel_rfl) st0 hs]
      exact ih _ _ _ R κ r h0
    · refine Eq.trans ?_ h
      kernel_rfl

def f66a_s0 (s : List V) (v7 : Int) (v8 : Int) (R : Type) (κ : Ex → St → Option R) : Option R :=
  bif (s.any largeV) then
    κ .rt (mkS [(4, .sc (.int .i64 ((fstN largeV s : Nat) : Int)))] [])
  else
    κ (.ex 0) (mkS [(4, .bad)] [])
theorem f66a_loop (s : List V) (hs : s.all shortS = true) (hl : s.length ≤ 1000000000) (R : Type) (κ : Ex → St → Option R) : ∀ (k i : Nat), i + k = s.length →
    f66a_l0 (k + 1) s ((s.length : Nat) : Int) ((i : Nat) : Int) R κ = bif (s.drop i).any largeV then κ .rt (mkS [(4, .sc (.int .i64 ((i + fstN largeV (s.drop i) : Nat) : Int)))] []) else κ (.ex 0) (mkS [(4, .bad)] [])
  | 0, i, h => by
    rw [f66a_l0, dec_false (by omega), cond_false, List.drop_of_length_le (by omega)]
    rfl
  | k + 1, i, h => by
    have hlt : i < s.length := by omega
    obtain ⟨g1, g2⟩ := shortS_spec (List.all_eq_true.1 hs _ (List.getElem_mem hlt))
    have IH := f66a_loop s hs hl R κ k (i + 1) (by omega)
    rw [f66a_l0, dec_true (show ((i : Nat) : Int) < ((s.length : Nat) : Int) by omega), dec_true (show (0 : Int) ≤ ((i : Nat) : Int) by omega), nth_at hlt, g1, dec_true g2, wrap_succ (by omega), IH, any_drop hlt, fstN_drop hlt]
    cases hb : largeV s[i] with
    | true =>
      have hb' : largeB s[i].strOf = true := hb
      rw [hb']
      simp only [Bool.and_self, cond_true, Bool.true_or, Nat.add_zero]
    | false =>
      have hb' : largeB s[i].strOf = false := hb
      rw [hb']
      simp only [Bool.and_self, cond_true, cond_false, Bool.false_or]
      rw [show i + 1 + fstN largeV (s.drop (i + 1)) = i + (fstN largeV (s.drop (i + 1)) + 1) by omega]
theorem f66a_s0_eq (s : List V) (v7 : Int) (v8 : Int) (hp : ((v7 == ((s.length : Nat) : Int)) && (v8 == 0) && s.all shortS && decide (s.length ≤ 1000000000)) = true) : ∃ n, ∀ (R : Type) (κ : Ex → St → Option R), f66a_l0 n s v7 v8 R κ = f66a_s0 s v7 v8 R κ := by
  simp only [Bool.and_eq_true, decide_eq_true_eq, beq_iff_eq] at hp
  obtain ⟨⟨⟨rfl, rfl⟩, g3⟩, g4⟩ := hp
  refine ⟨s.length + 1, fun R κ => ?_⟩
  have := f66a_loop s g3 g4 R κ s.length 0 (by omega)
  rw [List.drop_zero, Nat.zero_add] at this
  exact this
def t_f66a_l0 (st : St) (R : Type) (κ : Ex → St → Option R) : Option R := bif ckS f66a_l0_ls f66a_l0_rs st then (bif ((((st.env 7).intOf) == ((((st.env 0).cellsOf).length : Nat) : Int)) && (((st.env 8).intOf) == 0) && ((st.env 0).cellsOf).all shortS && decide (((st.env 0).cellsOf).length ≤ 1000000000)) then f66a_s0 ((st.env 0).cellsOf) ((st.env 7).intOf) ((st.env 8).intOf) R κ else none) else none
theorem t_f66a_l0_ok : ∀ st0 R κ r, t_f66a_l0 (forget C 66 [0, 1, 0, 1] st0) R κ = some r → ∃ ee ss, κ ee ss = some r ∧ RunP C prim 66 [0, 1, 0, 1] (forget C 66 [0, 1, 0, 1] st0) ee ss := by
  intro st0 R κ r h
  obtain ⟨hs, h⟩ := cond_some h
  obtain ⟨hp, h⟩ := cond_some h
  rw [canon (ls := f66a_l0_ls) (rs := f66a_l0_rs) (by kernel_rfl) st0 hs]
  obtain ⟨n, hn⟩ := f66a_s0_eq _ _ _ hp
  rw [← hn] at h
  exact f66a_l0_ok n _ _ _ R κ r h

def K_f66a : CallK := kNil
theorem K_f66a_ok : KOK C prim K_f66a := KOK.nil
def T_f66a : Tab := tCons [0, 1, 0, 1] t_f66a_l0 <| tNil
theorem T_f66a_ok : TOK C prim 66 T_f66a := TOK.cons t_f66a_l0_ok <| TOK.nil
def f66a (s : List V) : Option (V × List Rg) :=
  bif ((((s.length : Nat) : Int) == ((s.length : Nat) : Int)) && ((0 : Int) == 0) && s.all shortS && decide (s.length ≤ 1000000000)) then
    bif (s.any largeV) then
      some (.sc (.int .i64 ((fstN largeV s : Nat) : Int)), [])
    else
      some (.sc (.int .i64 (-1)), [])
  else none
theorem f66a_run (s : List V) (z9 : V × List Rg) (h : f66a s = some z9) : CallR C prim 66 [.sl 1 s, .fn 55 [] []] [] z9 := by
  refine call_fn (K := K_f66a) (T := T_f66a) K_f66a_ok T_f66a_ok (by kernel_rfl) ?_
  refine Eq.trans ?_ h
  kernel_rfl

theorem f66a_eq (s : List V) (hp : (s.all shortS && decide (s.length ≤ 1000000000)) = true) : f66a s = some (.sc (.int .i64 (idxV largeV s)), []) := by
  simp only [Bool.and_eq_true, decide_eq_true_eq] at hp
  unfold f66a idxV
  rw [beq_self_eq_true, hp.1, dec_true hp.2]
  cases s.any largeV <;> rfl
def k66a : PrimT := fun vs gs => match vs, gs with
  | [.sl 1 s, .fn 55 [] []], [] => ((s.all shortS && decide (s.length ≤ 1000000000)), .sc (.int .i64 (idxV largeV s)), [])
  | _, _ => (false, .bad, [])
theorem k66a_ok : ∀ vs gs x, k66a vs gs = (true, x) → CallR C prim 66 vs gs x := by
  intro vs gs x h
  unfold k66a at h
  split at h
  · simp only [Prod.mk.injEq] at h
    obtain ⟨hp, rfl⟩ := h
    exact f66a_run _ _ (f66a_eq _ hp)
  · cases h

def K_f66b_l0 : CallK := kCons 36 k36 <| kNil
theorem K_f66b_l0_ok : KOK C prim K_f66b_l0 := KOK.cons k36_ok <| KOK.nil
def T_f66b_l0 : Tab := tNil
theorem T_f66b_l0_ok : TOK C prim 66 T_f66b_l0 := TOK.nil
def f66b_l0 : Nat → List V → Int → Int → (R : Type) → (Ex → St → Option R) → Option R
  | 0, _, _, _, _, _ => none
  | n + 1, s, v7, v8, R, κ =>
    bif (decide (v8 < v7)) then
      bif (((decide ((0 : Int) ≤ v8)) && (decide (v8 < ((s.length : Nat) : Int)))) && true) then
        bif (((V.isStr (nthV s (((v8).toNat * 1) + 0))) && true) && true) then
          bif ((decide ((V.strOf (nthV s (((v8).toNat * 1) + 0))).size ≤ 1000000000)) && true) then
            bif (largeB (V.strOf (nthV s (((v8).toNat * 1) + 0)))) then
              κ .rt (mkS [(4, .sc (.int .i64 v8))] [])
            else
              f66b_l0 n s v7 (IntKind.wrap .i64 (v8 + 1)) R κ
          else none
        else none
      else none
    else
      κ (.ex 0) (mkS [(4, .bad)] [])
def f66b_l0_ls : List (Nat × Pat) := [(0, .sl 1), (1, .is (.fn 36 [] [])), (7, .i .i64), (8, .i .i64)]
def f66b_l0_rs : List RPat := []
theorem f66b_l0_ok (n : Nat) : ∀ (s : List V) (v7 : Int) (v8 : Int) (R : Type) (κ : Ex → St → Option R) (r : R), f66b_l0 n s v7 v8 R κ = some r → ∃ ee ss, κ ee ss = some r ∧ RunP C prim 66 [0, 1, 0, 1] (mkS [(0, .sl 1 s), (1, .fn 36 [] []), (7, .sc (.int .i64 v7)), (8, .sc (.int .i64 v8))] []) ee ss := by
  induction n with
  | zero => intro s v7 v8 R κ r h; cases h
  | succ n ih =>
    intro s v7 v8 R κ r h
    refine loop_round (K := K_f66b_l0) (T := T_f66b_l0) K_f66b_l0_ok T_f66b_l0_ok (p := [0, 1, 0, 1]) (by kernel_rfl) (fun st => bif ckS f66b_l0_ls f66b_l0_rs st then f66b_l0 n ((st.env 0).cellsOf) ((st.env 7).intOf) ((st.env 8).intOf) R κ else none) (fun st0 h0 => ?_) ?_
    · obtain ⟨hs, h0⟩ := cond_some h0
      rw [canon (ls := f66b_l0_ls) (rs := f66b_l0_rs) (by kernel_rfl) st0 hs]
      exact ih _ _ _ R κ r h0
    · refine Eq.trans ?_ h
      kernel_rfl

def f66b_s0 (s : List V) (v7 : Int) (v8 : Int) (R : Type) (κ : Ex → St → Option R) : Option R :=
  bif (s.any largeV) then
    κ .rt (mkS [(4, .sc (.int .i64 ((fstN largeV s : Nat) : Int)))] [])
  else
    κ (.ex 0) (mkS [(4, .bad)] [])
theorem f66b_loop (s : List V) (hs : s.all shortS = true) (hl : s.length ≤ 1000000000) (R : Type) (κ : Ex → St → Option R) : ∀ (k i : Nat), i + k = s.length →
    f66b_l0 (k + 1) s ((s.length : Nat) : Int) ((i : Nat) : Int) R κ = bif (s.drop i).any largeV then κ .rt (mkS [(4, .sc (.int .i64 ((i + fstN largeV (s.drop i) : Nat) : Int)))] []) else κ (.ex 0) (mkS [(4, .bad)] [])
  | 0, i, h => by
    rw [f66b_l0, dec_false (by omega), cond_false, List.drop_of_length_le (by omega)]
    rfl
  | k + 1, i, h => by
    have hlt : i < s.length := by omega
    obtain ⟨g1, g2⟩ := shortS_spec (List.all_eq_true.1 hs _ (List.getElem_mem hlt))
    have IH := f66b_loop s hs hl R κ k (i + 1) (by omega)
    rw [f66b_l0, dec_true (show ((i : Nat) : Int) < ((s.length : Nat) : Int) by omega), dec_true (show (0 : Int) ≤ ((i : Nat) : Int) by omega), nth_at hlt, g1, dec_true g2, wrap_succ (by omega), IH, any_drop hlt, fstN_drop hlt]
    cases hb : largeV s[i] with
    | true =>
      have hb' : largeB s[i].strOf = true := hb
      rw [hb']
      simp only [Bool.and_self, cond_true, Bool.true_or, Nat.add_zero]
    | false =>
      have hb' : largeB s[i].strOf = false := hb
      rw [hb']
      simp only [Bool.and_self, cond_true, cond_false, Bool.false_or]
      rw [show i + 1 + fstN largeV (s.drop (i + 1)) = i + (fstN largeV (s.drop (i + 1)) + 1) by omega]
theorem f66b_s0_eq (s : List V) (v7 : Int) (v8 : Int) (hp : ((v7 == ((s.length : Nat) : Int)) && (v8 == 0) && s.all shortS && decide (s.length ≤ 1000000000)) = true) : ∃ n, ∀ (R : Type) (κ : Ex → St → Option R), f66b_l0 n s v7 v8 R κ = f66b_s0 s v7 v8 R κ := by
  simp only [Bool.and_eq_true, decide_eq_true_eq, beq_iff_eq] at hp
  obtain ⟨⟨⟨rfl, rfl⟩, g3⟩, g4⟩ := hp
  refine ⟨s.length + 1, fun R κ => ?_⟩
  have := f66b_loop s g3 g4 R κ s.length 0 (by omega)
  rw [List.drop_zero, Nat.zero_add] at this
  exact this
def t_f66b_l0 (st : St) (R : Type) (κ : Ex → St → Option R) : Option R := bif ckS f66b_l0_ls f66b_l0_rs st then (bif ((((st.env 7).intOf) == ((((st.env 0).cellsOf).length : Nat) : Int)) && (((st.env 8).intOf) == 0) && ((st.env 0).cellsOf).all shortS && decide (((st.env 0).cellsOf).length ≤ 1000000000)) then f66b_s0 ((st.env 0).cellsOf) ((st.env 7).intOf) ((st.env 8).intOf) R κ else none) else none
theorem t_f66b_l0_ok : ∀ st0 R κ r, t_f66b_l0 (forget C 66 [0, 1, 0, 1] st0) R κ = some r → ∃ ee ss, κ ee ss = some r ∧ RunP C prim 66 [0, 1, 0, 1] (forget C 66 [0, 1, 0, 1] st0) ee ss := by
  intro st0 R κ r h
  obtain ⟨hs, h⟩ := cond_some h
  obtain ⟨hp, h⟩ := cond_some h
  rw [canon (ls := f66b_l0_ls) (rs := f66b_l0_rs) (by kernel_rfl) st0 hs]
  obtain ⟨n, hn⟩ := f66b_s0_eq _ _ _ hp
  rw [← hn] at h
  exact f66b_l0_ok n _ _ _ R κ r h

def K_f66b : CallK := kNil
theorem K_f66b_ok : KOK C prim K_f66b := KOK.nil
def T_f66b : Tab := tCons [0, 1, 0, 1] t_f66b_l0 <| tNil
theorem T_f66b_ok : TOK C prim 66 T_f66b := TOK.cons t_f66b_l0_ok <| TOK.nil
def f66b (s : List V) : Option (V × List Rg) :=
  bif ((((s.length : Nat) : Int) == ((s.length : Nat) : Int)) && ((0 : Int) == 0) && s.all shortS && decide (s.length ≤ 1000000000)) then
    bif (s.any largeV) then
      some (.sc (.int .i64 ((fstN largeV s : Nat) : Int)), [])
    else
      some (.sc (.int .i64 (-1)), [])
  else none
theorem f66b_run (s : List V) (z9 : V × List Rg) (h : f66b s = some z9) : CallR C prim 66 [.sl 1 s, .fn 36 [] []] [] z9 := by
  refine call_fn (K := K_f66b) (T := T_f66b) K_f66b_ok T_f66b_ok (by kernel_rfl) ?_
  refine Eq.trans ?_ h
  kernel_rfl

theorem f66b_eq (s : List V) (hp : (s.all shortS && decide (s.length ≤ 1000000000)) = true) : f66b s = some (.sc (.int .i64 (idxV largeV s)), []) := by
  simp only [Bool.and_eq_true, decide_eq_true_eq] at hp
  unfold f66b idxV
  rw [beq_self_eq_true, hp.1, dec_true hp.2]
  cases s.any largeV <;> rfl
def k66b : PrimT := fun vs gs => match vs, gs with
  | [.sl 1 s, .fn 36 [] []], [] => ((s.all shortS && decide (s.length ≤ 1000000000)), .sc (.int .i64 (idxV largeV s)), [])
  | _, _ => (false, .bad, [])
theorem k66b_ok : ∀ vs gs x, k66b vs gs = (true, x) → CallR C prim 66 vs gs x := by
  intro vs gs x h
  unfold k66b at h
  split at h
  · simp only [Prod.mk.injEq] at h
    obtain ⟨hp, rfl⟩ := h
    exact f66b_run _ _ (f66b_eq _ hp)
  · cases h

def k66 : PrimT := fun vs gs => bif isFn 55 vs then k66a vs gs else k66b vs gs
theorem k66_ok : ∀ vs gs x, k66 vs gs = (true, x) → CallR C prim 66 vs gs x := by
  intro vs gs x h
  unfold k66 at h
  cases hb0 : isFn 55 vs with
  | true => rw [hb0] at h; exact k66a_ok vs gs x h
  | false =>
  rw [hb0] at h
  exact k66b_ok vs gs x h

def K_f35a : CallK := kCons 66 k66 <| kNil
theorem K_f35a_ok : KOK C prim K_f35a := KOK.cons k66_ok <| KOK.nil
def T_f35a : Tab := tNil
theorem T_f35a_ok : TOK C prim 35 T_f35a := TOK.nil
def f35a (s : List V) : Option (V × List Rg) :=
  bif ((s.all shortS && decide (s.length ≤ 1000000000)) && true) then
    some (.sc (.bool (decide ((idxV largeV s) ≥ 0))), [])
  else none
theorem f35a_run (s : List V) (z9 : V × List Rg) (h : f35a s = some z9) : CallR C prim 35 [.sl 1 s, .fn 55 [] []] [] z9 := by
  refine call_fn (K := K_f35a) (T := T_f35a) K_f35a_ok T_f35a_ok (by kernel_rfl) ?_
  refine Eq.trans ?_ h
  kernel_rfl

theorem f35a_eq (s : List V) (hp : (s.all shortS && decide (s.length ≤ 1000000000)) = true) : f35a s = some (.sc (.bool (s.any largeV)), []) := by
  unfold f35a
  rw [hp, idxV_ge]
  rfl
def k35a : PrimT := fun vs gs => match vs, gs with
  | [.sl 1 s, .fn 55 [] []], [] => ((s.all shortS && decide (s.length ≤ 1000000000)), .sc (.bool (s.any largeV)), [])
  | _, _ => (false, .bad, [])
theorem k35a_ok : ∀ vs gs x, k35a vs gs = (true, x) → CallR C prim 35 vs gs x := by
  intro vs gs x h
  unfold k35a at h
  split at h
  · simp only [Prod.mk.injEq] at h
    obtain ⟨hp, rfl⟩ := h
    exact f35a_run _ _ (f35a_eq _ hp)
  · cases h

def K_f35b : CallK := kCons 66 k66 <| kNil
theorem K_f35b_ok : KOK C prim K_f35b := KOK.cons k66_ok <| KOK.nil
def T_f35b : Tab := tNil
theorem T_f35b_ok : TOK C prim 35 T_f35b := TOK.nil
def f35b (s : List V) : Option (V × List Rg) :=
  bif ((s.all shortS && decide (s.length ≤ 1000000000)) && true) then
    some (.sc (.bool (decide ((idxV largeV s) ≥ 0))), [])
  else none
theorem f35b_run (s : List V) (z9 : V × List Rg) (h : f35b s = some z9) : CallR C prim 35 [.sl 1 s, .fn 36 [] []] [] z9 := by
  refine call_fn (K := K_f35b) (T := T_f35b) K_f35b_ok T_f35b_ok (by kernel_rfl) ?_
  refine Eq.trans ?_ h
  kernel_rfl

theorem f35b_eq (s : List V) (hp : (s.all shortS && decide (s.length ≤ 1000000000)) = true) : f35b s = some (.sc (.bool (s.any largeV)), []) := by
  unfold f35b
  rw [hp, idxV_ge]
  rfl
def k35b : PrimT := fun vs gs => match vs, gs with
  | [.sl 1 s, .fn 36 [] []], [] => ((s.all shortS && decide (s.length ≤ 1000000000)), .sc (.bool (s.any largeV)), [])
  | _, _ => (false, .bad, [])
theorem k35b_ok : ∀ vs gs x, k35b vs gs = (true, x) → CallR C prim 35 vs gs x := by
  intro vs gs x h
  unfold k35b at h
  split at h
  · simp only [Prod.mk.injEq] at h
    obtain ⟨hp, rfl⟩ := h
    exact f35b_run _ _ (f35b_eq _ hp)
  · cases h

def k35 : PrimT := fun vs gs => bif isFn 55 vs then k35a vs gs else k35b vs gs
theorem k35_ok : ∀ vs gs x, k35 vs gs = (true, x) → CallR C prim 35 vs gs x := by
  intro vs gs x h
  unfold k35 at h
  cases hb0 : isFn 55 vs with
  | true => rw [hb0] at h; exact k35a_ok vs gs x h
  | false =>
  rw [hb0] at h
  exact k35b_ok vs gs x h

def K_f27 : CallK := kCons 35 k35 <| kNil
theorem K_f27_ok : KOK C prim K_f27 := KOK.cons k35_ok <| KOK.nil
def T_f27 : Tab := tNil
theorem T_f27_ok : TOK C prim 27 T_f27 := TOK.nil
def f27 (texts : List V) : Option (V × List Rg) :=
  bif ((texts.all shortS && decide (texts.length ≤ 1000000000)) && true) then
    bif (texts.any largeV) then
      some (.sc (.int .i64 2), [])
    else
      some (.sc (.int .i64 0), [])
  else none
theorem f27_run (texts : List V) (z9 : V × List Rg) (h : f27 texts = some z9) : CallR C prim 27 [.sl 1 texts] [] z9 := by
  refine call_fn (K := K_f27) (T := T_f27) K_f27_ok T_f27_ok (by kernel_rfl) ?_
  refine Eq.trans ?_ h
  kernel_rfl

theorem f27_eq (texts : List V) (hp : (texts.all shortS && decide (texts.length ≤ 1000000000)) = true) : f27 texts = some (.sc (.int .i64 (bif texts.any largeV then (2 : Int) else 0)), []) := by
  unfold f27
  rw [hp]
  cases texts.any largeV <;> rfl
def k27 : PrimT := fun vs gs => match vs, gs with
  | [.sl 1 texts], [] => ((texts.all shortS && decide (texts.length ≤ 1000000000)), .sc (.int .i64 (bif texts.any largeV then (2 : Int) else 0)), [])
  | _, _ => (false, .bad, [])
theorem k27_ok : ∀ vs gs x, k27 vs gs = (true, x) → CallR C prim 27 vs gs x := by
  intro vs gs x h
  unfold k27 at h
  split at h
  · simp only [Prod.mk.injEq] at h
    obtain ⟨hp, rfl⟩ := h
    exact f27_run _ _ (f27_eq _ hp)
  · cases h

def K_f10 : CallK := kCons 35 k35 <| kNil
theorem K_f10_ok : KOK C prim K_f10 := KOK.cons k35_ok <| KOK.nil
def T_f10 : Tab := tNil
theorem T_f10_ok : TOK C prim 10 T_f10 := TOK.nil
def f10 (texts : List V) : Option (V × List Rg) :=
  bif ((texts.all shortS && decide (texts.length ≤ 1000000000)) && true) then
    bif (texts.any largeV) then
      some (.sc (.int .i64 2), [])
    else
      some (.sc (.int .i64 0), [])
  else none
theorem f10_run (texts : List V) (z9 : V × List Rg) (h : f10 texts = some z9) : CallR C prim 10 [.sl 1 texts] [] z9 := by
  refine call_fn (K := K_f10) (T := T_f10) K_f10_ok T_f10_ok (by kernel_rfl) ?_
  refine Eq.trans ?_ h
  kernel_rfl

theorem f10_eq (texts : List V) (hp : (texts.all shortS && decide (texts.length ≤ 1000000000)) = true) : f10 texts = some (.sc (.int .i64 (bif texts.any largeV then (2 : Int) else 0)), []) := by
  unfold f10
  rw [hp]
  cases texts.any largeV <;> rfl
def k10 : PrimT := fun vs gs => match vs, gs with
  | [.sl 1 texts], [] => ((texts.all shortS && decide (texts.length ≤ 1000000000)), .sc (.int .i64 (bif texts.any largeV then (2 : Int) else 0)), [])
  | _, _ => (false, .bad, [])
theorem k10_ok : ∀ vs gs x, k10 vs gs = (true, x) → CallR C prim 10 vs gs x := by
  intro vs gs x h
  unfold k10 at h
  split at h
  · simp only [Prod.mk.injEq] at h
    obtain ⟨hp, rfl⟩ := h
    exact f10_run _ _ (f10_eq _ hp)
  · cases h

def K_f40 : CallK := kNil
theorem K_f40_ok : KOK C prim K_f40 := KOK.nil
def T_f40 : Tab := tNil
theorem T_f40_ok : TOK C prim 40 T_f40 := TOK.nil
def f40 (n' : Int) (low : Int) (high : Int) : Option (V × List Rg) :=
  bif (decide (n' ≥ low)) then
    some (.sc (.bool (decide (n' ≤ high))), [])
  else
    some (.sc (.bool false), [])
theorem f40_run (n' : Int) (low : Int) (high : Int) (z9 : V × List Rg) (h : f40 n' low high = some z9) : CallR C prim 40 [.sc (.int .i64 n'), .sc (.int .i64 low), .sc (.int .i64 high)] [] z9 := by
  refine call_fn (K := K_f40) (T := T_f40) K_f40_ok T_f40_ok (by kernel_rfl) ?_
  refine Eq.trans ?_ h
  kernel_rfl

theorem f40_eq (n' : Int) (low : Int) (high : Int) : f40 n' low high = some (.sc (.bool (decide (n' ≥ low) && decide (n' ≤ high))), []) := by
  unfold f40
  cases decide (n' ≥ low) <;> rfl
def k40 : PrimT := fun vs gs => match vs, gs with
  | [.sc (.int .i64 n'), .sc (.int .i64 low), .sc (.int .i64 high)], [] => (true, .sc (.bool (decide (n' ≥ low) && decide (n' ≤ high))), [])
  | _, _ => (false, .bad, [])
theorem k40_ok : ∀ vs gs x, k40 vs gs = (true, x) → CallR C prim 40 vs gs x := by
  intro vs gs x h
  unfold k40 at h
  split at h
  · simp only [Prod.mk.injEq, true_and] at h
    subst h
    exact f40_run _ _ _ _ (f40_eq _ _ _)
  · cases h

def K_f18 : CallK := kNil
theorem K_f18_ok : KOK C prim K_f18 := KOK.nil
def T_f18 : Tab := tNil
theorem T_f18_ok : TOK C prim 18 T_f18 := TOK.nil
def f18 (n' : Int) (low : Int) (high : Int) : Option (V × List Rg) :=
  bif (decide (n' ≥ low)) then
    some (.sc (.bool (decide (n' ≤ high))), [])
  else
    some (.sc (.bool false), [])
theorem f18_run (n' : Int) (low : Int) (high : Int) (z9 : V × List Rg) (h : f18 n' low high = some z9) : CallR C prim 18 [.sc (.int .i64 n'), .sc (.int .i64 low), .sc (.int .i64 high)] [] z9 := by
  refine call_fn (K := K_f18) (T := T_f18) K_f18_ok T_f18_ok (by kernel_rfl) ?_
  refine Eq.trans ?_ h
  kernel_rfl

theorem f18_eq (n' : Int) (low : Int) (high : Int) : f18 n' low high = some (.sc (.bool (decide (n' ≥ low) && decide (n' ≤ high))), []) := by
  unfold f18
  cases decide (n' ≥ low) <;> rfl
def k18 : PrimT := fun vs gs => match vs, gs with
  | [.sc (.int .i64 n'), .sc (.int .i64 low), .sc (.int .i64 high)], [] => (true, .sc (.bool (decide (n' ≥ low) && decide (n' ≤ high))), [])
  | _, _ => (false, .bad, [])
theorem k18_ok : ∀ vs gs x, k18 vs gs = (true, x) → CallR C prim 18 vs gs x := by
  intro vs gs x h
  unfold k18 at h
  split at h
  · simp only [Prod.mk.injEq, true_and] at h
    subst h
    exact f18_run _ _ _ _ (f18_eq _ _ _)
  · cases h

def K_f19 : CallK := kNil
theorem K_f19_ok : KOK C prim K_f19 := KOK.nil
def T_f19 : Tab := tNil
theorem T_f19_ok : TOK C prim 19 T_f19 := TOK.nil
def f19 (is : Bool) (e : Int) : Option (V × List Rg) :=
  bif is then
    some (.sc (.int .i64 e), [])
  else
    some (.sc (.int .i64 0), [])
theorem f19_run (is : Bool) (e : Int) (z9 : V × List Rg) (h : f19 is e = some z9) : CallR C prim 19 [.sc (.bool is), .sc (.int .i64 e)] [] z9 := by
  refine call_fn (K := K_f19) (T := T_f19) K_f19_ok T_f19_ok (by kernel_rfl) ?_
  refine Eq.trans ?_ h
  kernel_rfl

theorem f19_eq (is : Bool) (e : Int) : f19 is e = some (.sc (.int .i64 (bif is then e else 0)), []) := by cases is <;> rfl
def k19 : PrimT := fun vs gs => match vs, gs with
  | [.sc (.bool is), .sc (.int .i64 e)], [] => (true, .sc (.int .i64 (bif is then e else 0)), [])
  | _, _ => (false, .bad, [])
theorem k19_ok : ∀ vs gs x, k19 vs gs = (true, x) → CallR C prim 19 vs gs x := by
  intro vs gs x h
  unfold k19 at h
  split at h
  · simp only [Prod.mk.injEq, true_and] at h
    subst h
    exact f19_run _ _ _ (f19_eq _ _)
  · cases h

def K_f13 : CallK := kNil
theorem K_f13_ok : KOK C prim K_f13 := KOK.nil
def T_f13 : Tab := tNil
theorem T_f13_ok : TOK C prim 13 T_f13 := TOK.nil
def f13 (s : ByteArray) (e : Int) (want : ByteArray) (f : Int) : Option (V × List Rg) :=
  bif (f != 0) then
    bif (strEq s (⟨#[]⟩ : ByteArray)) then
      some (.sc (.bool (e == f)), [])
    else
      some (.sc (.bool false), [])
  else
    bif (strEq s want) then
      some (.sc (.bool (e == 0)), [])
    else
      some (.sc (.bool false), [])
theorem f13_run (s : ByteArray) (e : Int) (want : ByteArray) (f : Int) (z9 : V × List Rg) (h : f13 s e want f = some z9) : CallR C prim 13 [.sc (.string s), .sc (.int .i64 e), .sc (.string want), .sc (.int .i64 f)] [] z9 := by
  refine call_fn (K := K_f13) (T := T_f13) K_f13_ok T_f13_ok (by kernel_rfl) ?_
  refine Eq.trans ?_ h
  kernel_rfl

theorem f13_eq (s : ByteArray) (e : Int) (want : ByteArray) (f : Int) : f13 s e want f = some (.sc (.bool (outc s e want f)), []) := by
  unfold f13 outc
  cases f != 0
  · cases strEq s want <;> rfl
  · cases strEq s ⟨#[]⟩ <;> rfl
def k13 : PrimT := fun vs gs => match vs, gs with
  | [.sc (.string s), .sc (.int .i64 e), .sc (.string want), .sc (.int .i64 f)], [] => (true, .sc (.bool (outc s e want f)), [])
  | _, _ => (false, .bad, [])
theorem k13_ok : ∀ vs gs x, k13 vs gs = (true, x) → CallR C prim 13 vs gs x := by
  intro vs gs x h
  unfold k13 at h
  split at h
  · simp only [Prod.mk.injEq, true_and] at h
    subst h
    exact f13_run _ _ _ _ _ (f13_eq _ _ _ _)
  · cases h

def K_f8_l0 : CallK := kNil
theorem K_f8_l0_ok : KOK C prim K_f8_l0 := KOK.nil
def T_f8_l0 : Tab := tNil
theorem T_f8_l0_ok : TOK C prim 8 T_f8_l0 := TOK.nil
def f8_l0 : Nat → List V → Int → Int → (R : Type) → (Ex → St → Option R) → Option R
  | 0, _, _, _, _, _ => none
  | n + 1, v5, v6, v7, R, κ =>
    bif (decide (v7 < v6)) then
      bif (((decide ((0 : Int) ≤ v7)) && (decide (v7 < ((v5.length : Nat) : Int)))) && true) then
        bif (((V.isInt .i64 (nthV v5 (((v7).toNat * 1) + 0))) && true) && true) then
          bif ((V.intOf (nthV v5 (((v7).toNat * 1) + 0))) != 0) then
            κ .rt (mkS [(2, .sc (.int .i64 (V.intOf (nthV v5 (((v7).toNat * 1) + 0)))))] [])
          else
            f8_l0 n v5 v6 (IntKind.wrap .i64 (v7 + 1)) R κ
        else none
      else none
    else
      κ (.ex 0) (mkS [(2, .bad)] [])
def f8_l0_ls : List (Nat × Pat) := [(5, .sl 1), (6, .i .i64), (7, .i .i64)]
def f8_l0_rs : List RPat := []
theorem f8_l0_ok (n : Nat) : ∀ (v5 : List V) (v6 : Int) (v7 : Int) (R : Type) (κ : Ex → St → Option R) (r : R), f8_l0 n v5 v6 v7 R κ = some r → ∃ ee ss, κ ee ss = some r ∧ RunP C prim 8 [0, 1, 0, 1] (mkS [(5, .sl 1 v5), (6, .sc (.int .i64 v6)), (7, .sc (.int .i64 v7))] []) ee ss := by
  induction n with
  | zero => intro v5 v6 v7 R κ r h; cases h
  | succ n ih =>
    intro v5 v6 v7 R κ r h
    refine loop_round (K := K_f8_l0) (T := T_f8_l0) K_f8_l0_ok T_f8_l0_ok (p := [0, 1, 0, 1]) (by kernel_rfl) (fun st => bif ckS f8_l0_ls f8_l0_rs st then f8_l0 n ((st.env 5).cellsOf) ((st.env 6).intOf) ((st.env 7).intOf) R κ else none) (fun st0 h0 => ?_) ?_
    · obtain ⟨hs, h0⟩ := cond_some h0
      rw [canon (ls := f8_l0_ls) (rs := f8_l0_rs) (by kernel_rfl) st0 hs]
      exact ih _ _ _ R κ r h0
    · refine Eq.trans ?_ h
      kernel_rfl

def f8_s0 (v5 : List V) (v6 : Int) (v7 : Int) (R : Type) (κ : Ex → St → Option R) : Option R :=
  bif (firstBy V.intOf v5 != 0) then
    κ .rt (mkS [(2, .sc (.int .i64 (firstBy V.intOf v5)))] [])
  else
    κ (.ex 0) (mkS [(2, .bad)] [])
theorem f8_s0_eq (v5 : List V) (v6 : Int) (v7 : Int) (hp : ((v6 == ((v5.length : Nat) : Int)) && (v7 == 0) && v5.all (V.isInt .i64) && decide (v5.length ≤ 1000000000)) = true) : ∃ n, ∀ (R : Type) (κ : Ex → St → Option R), f8_l0 n v5 v6 v7 R κ = f8_s0 v5 v6 v7 R κ := by
  simp only [Bool.and_eq_true, decide_eq_true_eq, beq_iff_eq] at hp
  obtain ⟨⟨⟨rfl, rfl⟩, h3⟩, h4⟩ := hp
  refine ⟨v5.length + 1, fun R κ => ?_⟩
  refine errLoop (fun n k => f8_l0 n v5 ((v5.length : Nat) : Int) k R κ) v5 V.intOf (fun e => κ .rt (mkS [(2, .sc (.int .i64 e))] [])) (κ (.ex 0) (mkS [(2, .bad)] [])) ?_ ?_ v5.length 0 (by omega) _ (by omega)
  · intro n k hk
    have hs : V.isInt .i64 v5[k] = true := List.all_eq_true.1 h3 _ (List.getElem_mem hk)
    show f8_l0 (n + 1) v5 ((v5.length : Nat) : Int) (k : Int) R κ = _
    rw [f8_l0, dec_true (show (k : Int) < ((v5.length : Nat) : Int) by omega), dec_true (show (0 : Int) ≤ (k : Int) by omega), nth_at hk, hs, wrap_succ (by omega)]
    rfl
  · intro n
    show f8_l0 (n + 1) v5 ((v5.length : Nat) : Int) ((v5.length : Nat) : Int) R κ = _
    rw [f8_l0, dec_false (by omega)]
    rfl
def t_f8_l0 (st : St) (R : Type) (κ : Ex → St → Option R) : Option R := bif ckS f8_l0_ls f8_l0_rs st then (bif ((((st.env 6).intOf) == ((((st.env 5).cellsOf).length : Nat) : Int)) && (((st.env 7).intOf) == 0) && ((st.env 5).cellsOf).all (V.isInt .i64) && decide (((st.env 5).cellsOf).length ≤ 1000000000)) then f8_s0 ((st.env 5).cellsOf) ((st.env 6).intOf) ((st.env 7).intOf) R κ else none) else none
theorem t_f8_l0_ok : ∀ st0 R κ r, t_f8_l0 (forget C 8 [0, 1, 0, 1] st0) R κ = some r → ∃ ee ss, κ ee ss = some r ∧ RunP C prim 8 [0, 1, 0, 1] (forget C 8 [0, 1, 0, 1] st0) ee ss := by
  intro st0 R κ r h
  obtain ⟨hs, h⟩ := cond_some h
  obtain ⟨hp, h⟩ := cond_some h
  rw [canon (ls := f8_l0_ls) (rs := f8_l0_rs) (by kernel_rfl) st0 hs]
  obtain ⟨n, hn⟩ := f8_s0_eq _ _ _ hp
  rw [← hn] at h
  exact f8_l0_ok n _ _ _ R κ r h

def K_f8 : CallK := kNil
theorem K_f8_ok : KOK C prim K_f8 := KOK.nil
def T_f8 : Tab := tCons [0, 1, 0, 1] t_f8_l0 <| tNil
theorem T_f8_ok : TOK C prim 8 T_f8 := TOK.cons t_f8_l0_ok <| TOK.nil
def f8 (l : List V) : Option (V × List Rg) :=
  bif ((((l.length : Nat) : Int) == ((l.length : Nat) : Int)) && ((0 : Int) == 0) && l.all (V.isInt .i64) && decide (l.length ≤ 1000000000)) then
    bif (firstBy V.intOf l != 0) then
      some (.sc (.int .i64 (firstBy V.intOf l)), [])
    else
      some (.sc (.int .i64 0), [])
  else none
theorem f8_run (l : List V) (z9 : V × List Rg) (h : f8 l = some z9) : CallR C prim 8 [.sl 1 l] [] z9 := by
  refine call_fn (K := K_f8) (T := T_f8) K_f8_ok T_f8_ok (by kernel_rfl) ?_
  refine Eq.trans ?_ h
  kernel_rfl

theorem f8_eq (l : List V) (hp : (l.all (V.isInt .i64) && decide (l.length ≤ 1000000000)) = true) : f8 l = some (.sc (.int .i64 (firstBy V.intOf l)), []) := by
  simp only [Bool.and_eq_true, decide_eq_true_eq] at hp
  unfold f8
  rw [hp.1, dec_true hp.2]
  simp only [beq_self_eq_true, Bool.and_true, cond_true]
  exact zero_or (x := firstBy V.intOf l) (fun e => some (V.sc (.int .i64 e), []))
def k8 : PrimT := fun vs gs => match vs, gs with
  | [.sl 1 l], [] => ((l.all (V.isInt .i64) && decide (l.length ≤ 1000000000)), .sc (.int .i64 (firstBy V.intOf l)), [])
  | _, _ => (false, .bad, [])
theorem k8_ok : ∀ vs gs x, k8 vs gs = (true, x) → CallR C prim 8 vs gs x := by
  intro vs gs x h
  unfold k8 at h
  split at h
  · simp only [Prod.mk.injEq] at h
    obtain ⟨hp, rfl⟩ := h
    exact f8_run _ _ (f8_eq _ hp)
  · cases h

def K_f133 : CallK := kNil
theorem K_f133_ok : KOK C prim K_f133 := KOK.nil
def T_f133 : Tab := tNil
theorem T_f133_ok : TOK C prim 133 T_f133 := TOK.nil
def f133 (x : ByteArray) : Option (V × List Rg) :=
  some (.sc (.bool (!(strEq x x))), [])
theorem f133_run (x : ByteArray) (z9 : V × List Rg) (h : f133 x = some z9) : CallR C prim 133 [.sc (.string x)] [] z9 := by
  refine call_fn (K := K_f133) (T := T_f133) K_f133_ok T_f133_ok (by kernel_rfl) ?_
  refine Eq.trans ?_ h
  kernel_rfl

theorem f133_eq (x : ByteArray) : f133 x = some (.sc (.bool false), []) := by
  unfold f133
  rw [strEq_self]
  rfl
def k133 : PrimT := fun vs gs => match vs, gs with
  | [.sc (.string x)], [] => (true, .sc (.bool false), [])
  | _, _ => (false, .bad, [])
theorem k133_ok : ∀ vs gs x, k133 vs gs = (true, x) → CallR C prim 133 vs gs x := by
  intro vs gs x h
  unfold k133 at h
  split at h
  · simp only [Prod.mk.injEq, true_and] at h
    subst h
    exact f133_run _ _ (f133_eq _)
  · cases h

def K_f59 : CallK := kCons 93 k93 <| kNil
theorem K_f59_ok : KOK C prim K_f59 := KOK.cons k93_ok <| KOK.nil
def T_f59 : Tab := tNil
theorem T_f59_ok : TOK C prim 59 T_f59 := TOK.nil
def f59 (s : ByteArray) (r01 : List V) : Option (V × List Rg) :=
  bif (((roomy ((r01.length + ((bytesV s)).length) * 1)) && (roomy (r01.length + ((bytesV s)).length))) && true) then
    some (.tp [.sc (.int .i64 ((s.size : Nat) : Int)), .sc .nilIface], [⟨true, [.slf, .own 5 false (r01 ++ (bytesV s))]⟩])
  else none
theorem f59_run (s : ByteArray) (r01 : List V) (z9 : V × List Rg) (h : f59 s r01 = some z9) : CallR C prim 59 [.ptrB (.par 0) 0, .sc (.string s)] [⟨true, [.slf, .own 5 false r01]⟩] z9 := by
  refine call_fn (K := K_f59) (T := T_f59) K_f59_ok T_f59_ok (by kernel_rfl) ?_
  refine Eq.trans ?_ h
  kernel_rfl

theorem f59_eq (s : ByteArray) (r01 : List V) (hp : (roomB r01 s) = true) : f59 s r01 = some (.tp [.sc (.int .i64 ((s.size : Nat) : Int)), .sc .nilIface], [⟨true, [.slf, .own 5 false (r01 ++ bytesV s)]⟩]) := by
  unfold roomB at hp
  have h := of_decide_eq_true hp
  unfold f59 roomy
  rw [bytesV_len, dec_true (by omega), dec_true (by omega)]
  rfl
def k59 : PrimT := fun vs gs => match vs, gs with
  | [.ptrB (.par 0) 0, .sc (.string s)], [⟨true, [.slf, .own 5 false r01]⟩] => ((roomB r01 s), .tp [.sc (.int .i64 ((s.size : Nat) : Int)), .sc .nilIface], [⟨true, [.slf, .own 5 false (r01 ++ bytesV s)]⟩])
  | _, _ => (false, .bad, [])
theorem k59_ok : ∀ vs gs x, k59 vs gs = (true, x) → CallR C prim 59 vs gs x := by
  intro vs gs x h
  unfold k59 at h
  split at h
  · simp only [Prod.mk.injEq] at h
    obtain ⟨hp, rfl⟩ := h
    exact f59_run _ _ _ (f59_eq _ _ hp)
  · cases h

def K_f33_l0 : CallK := kCons 59 k59 <| kNil
theorem K_f33_l0_ok : KOK C prim K_f33_l0 := KOK.cons k59_ok <| KOK.nil
def T_f33_l0 : Tab := tNil
theorem T_f33_l0_ok : TOK C prim 33 T_f33_l0 := TOK.nil
def f33_l0 : Nat → List V → Int → Int → List V → (R : Type) → (Ex → St → Option R) → Option R
  | 0, _, _, _, _, _, _ => none
  | n + 1, v6, v7, v8, b1, R, κ =>
    bif (decide (v8 < v7)) then
      bif (((decide ((0 : Int) ≤ v8)) && (decide (v8 < ((v6.length : Nat) : Int)))) && true) then
        bif (((V.isStr (nthV v6 (((v8).toNat * 1) + 0))) && true) && true) then
          bif ((decide (((V.strOf (nthV v6 (((v8).toNat * 1) + 0))).size + 1) ≤ 9223372036854775807)) && true) then
            bif ((roomB b1 ((V.strOf (nthV v6 (((v8).toNat * 1) + 0))) ++ (⟨#[10]⟩ : ByteArray))) && true) then
              f33_l0 n v6 v7 (IntKind.wrap .i64 (v8 + 1)) (b1 ++ bytesV ((V.strOf (nthV v6 (((v8).toNat * 1) + 0))) ++ (⟨#[10]⟩ : ByteArray))) R κ
            else none
          else none
        else none
      else none
    else
      κ (.ex 0) (mkS [(2, .bad), (3, .ptrB (.loc 3) 0)] [(.loc 3, some ⟨true, [.slf, .own 5 false b1]⟩)])
def f33_l0_ls : List (Nat × Pat) := [(3, .is (.ptrB (.loc 3) 0)), (6, .sl 1), (7, .i .i64), (8, .i .i64)]
def f33_l0_rs : List RPat := [⟨.loc 3, true, [.is (.slf), .own 5 false]⟩]
theorem f33_l0_ok (n : Nat) : ∀ (v6 : List V) (v7 : Int) (v8 : Int) (b1 : List V) (R : Type) (κ : Ex → St → Option R) (r : R), f33_l0 n v6 v7 v8 b1 R κ = some r → ∃ ee ss, κ ee ss = some r ∧ RunP C prim 33 [0, 1, 0, 1, 1] (mkS [(3, .ptrB (.loc 3) 0), (6, .sl 1 v6), (7, .sc (.int .i64 v7)), (8, .sc (.int .i64 v8))] [(.loc 3, some ⟨true, [.slf, .own 5 false b1]⟩)]) ee ss := by
  induction n with
  | zero => intro v6 v7 v8 b1 R κ r h; cases h
  | succ n ih =>
    intro v6 v7 v8 b1 R κ r h
    refine loop_round (K := K_f33_l0) (T := T_f33_l0) K_f33_l0_ok T_f33_l0_ok (p := [0, 1, 0, 1, 1]) (by kernel_rfl) (fun st => bif ckS f33_l0_ls f33_l0_rs st then f33_l0 n ((st.env 6).cellsOf) ((st.env 7).intOf) ((st.env 8).intOf) ((nthV (rowOf (st.regs (.loc 3))) 1).cellsOf) R κ else none) (fun st0 h0 => ?_) ?_
    · obtain ⟨hs, h0⟩ := cond_some h0
      rw [canon (ls := f33_l0_ls) (rs := f33_l0_rs) (by kernel_rfl) st0 hs]
      exact ih _ _ _ _ R κ r h0
    · refine Eq.trans ?_ h
      kernel_rfl

def f33_s0 (v6 : List V) (v7 : Int) (v8 : Int) (b1 : List V) (R : Type) (κ : Ex → St → Option R) : Option R :=
  κ (.ex 0) (mkS [(2, .bad), (3, .ptrB (.loc 3) 0)] [(.loc 3, some ⟨true, [.slf, .own 5 false (b1 ++ bytesV (resB v6))]⟩)])
theorem f33_l0_c (v6 : List V) (hu : v6.all V.isStr = true) (hl : v6.length ≤ 1000000000) : ∀ (m k : Nat) (r : List V), k + m = v6.length → r.length + (resB (v6.drop k)).size ≤ 100000000000 → ∀ n, m < n → ∀ (R : Type) (κ : Ex → St → Option R), f33_l0 n v6 ((v6.length : Nat) : Int) (k : Int) r R κ = κ (.ex 0) (mkS [(2, .bad), (3, .ptrB (.loc 3) 0)] [(.loc 3, some ⟨true, [.slf, .own 5 false (r ++ bytesV (resB (v6.drop k)))]⟩)]) := by
  intro m
  induction m with
  | zero =>
    intro k r hk hs n hn R κ
    obtain ⟨n, rfl⟩ : ∃ j, n = j + 1 := ⟨n - 1, by omega⟩
    rw [List.drop_of_length_le (by omega), f33_l0, dec_false (by omega)]
    unfold resB
    rw [bytesV_nil, List.append_nil]
    rfl
  | succ m ih =>
    intro k r hk hs n hn R κ
    obtain ⟨n, rfl⟩ : ∃ j, n = j + 1 := ⟨n - 1, by omega⟩
    have hlt : k < v6.length := by omega
    have hx : V.isStr v6[k] = true := List.all_eq_true.1 hu _ (List.getElem_mem hlt)
    rw [List.drop_eq_getElem_cons hlt] at hs ⊢
    unfold resB at hs ⊢
    have e10 : (⟨#[10]⟩ : ByteArray).size = 1 := rfl
    simp only [ba_size_append, e10] at hs
    have hroom : roomB r (v6[k].strOf ++ (⟨#[10]⟩ : ByteArray)) = true := by
      unfold roomB
      rw [ba_size_append, e10]
      exact dec_true (by omega)
    rw [f33_l0, dec_true (show (k : Int) < ((v6.length : Nat) : Int) by omega), dec_true (show (0 : Int) ≤ (k : Int) by omega), nth_at hlt, hx, dec_true (show v6[k].strOf.size + 1 ≤ 9223372036854775807 by omega), hroom, wrap_succ (by omega),
      ih (k + 1) _ (by omega) (by rw [List.length_append, bytesV_len, ba_size_append, e10]; omega) n (by omega) R κ, bytesV_app _ (resB _), List.append_assoc]
    rfl
theorem f33_s0_eq (v6 : List V) (v7 : Int) (v8 : Int) (b1 : List V) (hp : ((v7 == ((v6.length : Nat) : Int)) && (v8 == 0) && v6.all V.isStr && decide (v6.length ≤ 1000000000) && decide (b1.length + (resB v6).size ≤ 100000000000)) = true) : ∃ n, ∀ (R : Type) (κ : Ex → St → Option R), f33_l0 n v6 v7 v8 b1 R κ = f33_s0 v6 v7 v8 b1 R κ := by
  simp only [Bool.and_eq_true, decide_eq_true_eq, beq_iff_eq] at hp
  obtain ⟨⟨⟨⟨rfl, rfl⟩, h3⟩, h4⟩, h5⟩ := hp
  exact ⟨v6.length + 1, fun R κ => f33_l0_c v6 h3 h4 v6.length 0 b1 (by omega) h5 _ (by omega) R κ⟩
def t_f33_l0 (st : St) (R : Type) (κ : Ex → St → Option R) : Option R := bif ckS f33_l0_ls f33_l0_rs st then (bif ((((st.env 7).intOf) == ((((st.env 6).cellsOf).length : Nat) : Int)) && (((st.env 8).intOf) == 0) && ((st.env 6).cellsOf).all V.isStr && decide (((st.env 6).cellsOf).length ≤ 1000000000) && decide (((nthV (rowOf (st.regs (.loc 3))) 1).cellsOf).length + (resB ((st.env 6).cellsOf)).size ≤ 100000000000)) then f33_s0 ((st.env 6).cellsOf) ((st.env 7).intOf) ((st.env 8).intOf) ((nthV (rowOf (st.regs (.loc 3))) 1).cellsOf) R κ else none) else none
theorem t_f33_l0_ok : ∀ st0 R κ r, t_f33_l0 (forget C 33 [0, 1, 0, 1, 1] st0) R κ = some r → ∃ ee ss, κ ee ss = some r ∧ RunP C prim 33 [0, 1, 0, 1, 1] (forget C 33 [0, 1, 0, 1, 1] st0) ee ss := by
  intro st0 R κ r h
  obtain ⟨hs, h⟩ := cond_some h
  obtain ⟨hp, h⟩ := cond_some h
  rw [canon (ls := f33_l0_ls) (rs := f33_l0_rs) (by kernel_rfl) st0 hs]
  obtain ⟨n, hn⟩ := f33_s0_eq _ _ _ _ hp
  rw [← hn] at h
  exact f33_l0_ok n _ _ _ _ R κ r h

def K_f33 : CallK := kCons 61 k61 <| kNil
theorem K_f33_ok : KOK C prim K_f33 := KOK.cons k61_ok <| KOK.nil
def T_f33 : Tab := tCons [0, 1, 0, 1, 1] t_f33_l0 <| tNil
theorem T_f33_ok : TOK C prim 33 T_f33 := TOK.cons t_f33_l0_ok <| TOK.nil
def f33 (l : List V) : Option (V × List Rg) :=
  bif ((((l.length : Nat) : Int) == ((l.length : Nat) : Int)) && ((0 : Int) == 0) && l.all V.isStr && decide (l.length ≤ 1000000000) && decide (([] : List V).length + (resB l).size ≤ 100000000000)) then
    bif ((((([] : List V) ++ bytesV (resB l))).all okU8) && true) then
      some (.sc (.string (strOfCells (([] : List V) ++ bytesV (resB l)))), [])
    else none
  else none
theorem f33_run (l : List V) (z9 : V × List Rg) (h : f33 l = some z9) : CallR C prim 33 [.sl 1 l] [] z9 := by
  refine call_fn (K := K_f33) (T := T_f33) K_f33_ok T_f33_ok (by kernel_rfl) ?_
  refine Eq.trans ?_ h
  kernel_rfl

theorem f33_eq (l : List V) (hp : (l.all V.isStr && decide (l.length ≤ 1000000000) && decide ((resB l).size ≤ 100000000000)) = true) : f33 l = some (.sc (.string (resB l)), []) := by
  simp only [Bool.and_eq_true, decide_eq_true_eq] at hp
  unfold f33
  rw [hp.1.1, dec_true hp.1.2, dec_true (show ([] : List V).length + (resB l).size ≤ 100000000000 by simp; omega), List.nil_append, okU8_bytesV, strOf_bytesV]
  simp only [beq_self_eq_true, Bool.and_true, cond_true]
def k33 : PrimT := fun vs gs => match vs, gs with
  | [.sl 1 l], [] => ((l.all V.isStr && decide (l.length ≤ 1000000000) && decide ((resB l).size ≤ 100000000000)), .sc (.string (resB l)), [])
  | _, _ => (false, .bad, [])
theorem k33_ok : ∀ vs gs x, k33 vs gs = (true, x) → CallR C prim 33 vs gs x := by
  intro vs gs x h
  unfold k33 at h
  split at h
  · simp only [Prod.mk.injEq] at h
    obtain ⟨hp, rfl⟩ := h
    exact f33_run _ _ (f33_eq _ hp)
  · cases h

def K_f16_l0 : CallK := kNil
theorem K_f16_l0_ok : KOK C prim K_f16_l0 := KOK.nil
def T_f16_l0 : Tab := tNil
theorem T_f16_l0_ok : TOK C prim 16 T_f16_l0 := TOK.nil
def f16_l0 : Nat → ByteArray → List V → Int → Int → (R : Type) → (Ex → St → Option R) → Option R
  | 0, _, _, _, _, _, _ => none
  | n + 1, s, v6, v7, v8, R, κ =>
    bif (decide (v8 < v7)) then
      bif (((decide ((0 : Int) ≤ v8)) && (decide (v8 < ((v6.length : Nat) : Int)))) && true) then
        bif (((V.isStr (nthV v6 (((v8).toNat * 1) + 0))) && true) && true) then
          bif ((decide (((V.strOf (nthV v6 (((v8).toNat * 1) + 0))).size + 1) ≤ 9223372036854775807)) && true) then
            bif ((decide ((s.size + ((V.strOf (nthV v6 (((v8).toNat * 1) + 0))) ++ (⟨#[10]⟩ : ByteArray)).size) ≤ 9223372036854775807)) && true) then
              f16_l0 n (s ++ ((V.strOf (nthV v6 (((v8).toNat * 1) + 0))) ++ (⟨#[10]⟩ : ByteArray))) v6 v7 (IntKind.wrap .i64 (v8 + 1)) R κ
            else none
          else none
        else none
      else none
    else
      κ (.ex 0) (mkS [(2, .bad), (3, .sc (.string s))] [])
def f16_l0_ls : List (Nat × Pat) := [(3, .s), (6, .sl 1), (7, .i .i64), (8, .i .i64)]
def f16_l0_rs : List RPat := []
theorem f16_l0_ok (n : Nat) : ∀ (s : ByteArray) (v6 : List V) (v7 : Int) (v8 : Int) (R : Type) (κ : Ex → St → Option R) (r : R), f16_l0 n s v6 v7 v8 R κ = some r → ∃ ee ss, κ ee ss = some r ∧ RunP C prim 16 [0, 1, 0, 1, 1] (mkS [(3, .sc (.string s)), (6, .sl 1 v6), (7, .sc (.int .i64 v7)), (8, .sc (.int .i64 v8))] []) ee ss := by
  induction n with
  | zero => intro s v6 v7 v8 R κ r h; cases h
  | succ n ih =>
    intro s v6 v7 v8 R κ r h
    refine loop_round (K := K_f16_l0) (T := T_f16_l0) K_f16_l0_ok T_f16_l0_ok (p := [0, 1, 0, 1, 1]) (by kernel_rfl) (fun st => bif ckS f16_l0_ls f16_l0_rs st then f16_l0 n ((st.env 3).strOf) ((st.env 6).cellsOf) ((st.env 7).intOf) ((st.env 8).intOf) R κ else none) (fun st0 h0 => ?_) ?_
    · obtain ⟨hs, h0⟩ := cond_some h0
      rw [canon (ls := f16_l0_ls) (rs := f16_l0_rs) (by kernel_rfl) st0 hs]
      exact ih _ _ _ _ R κ r h0
    · refine Eq.trans ?_ h
      kernel_rfl

def f16_s0 (s : ByteArray) (v6 : List V) (v7 : Int) (v8 : Int) (R : Type) (κ : Ex → St → Option R) : Option R :=
  κ (.ex 0) (mkS [(2, .bad), (3, .sc (.string (s ++ resB v6)))] [])
theorem f16_l0_c (v6 : List V) (hu : v6.all V.isStr = true) (hl : v6.length ≤ 1000000000) : ∀ (m k : Nat) (s : ByteArray), k + m = v6.length → s.size + (resB (v6.drop k)).size ≤ 100000000000 → ∀ n, m < n → ∀ (R : Type) (κ : Ex → St → Option R), f16_l0 n s v6 ((v6.length : Nat) : Int) (k : Int) R κ = κ (.ex 0) (mkS [(2, .bad), (3, .sc (.string (s ++ resB (v6.drop k))))] []) := by
  intro m
  induction m with
  | zero =>
    intro k s hk hs n hn R κ
    obtain ⟨n, rfl⟩ : ∃ j, n = j + 1 := ⟨n - 1, by omega⟩
    rw [List.drop_of_length_le (by omega), f16_l0, dec_false (by omega)]
    unfold resB
    rw [ba_nil']
    rfl
  | succ m ih =>
    intro k s hk hs n hn R κ
    obtain ⟨n, rfl⟩ : ∃ j, n = j + 1 := ⟨n - 1, by omega⟩
    have hlt : k < v6.length := by omega
    have hx : V.isStr v6[k] = true := List.all_eq_true.1 hu _ (List.getElem_mem hlt)
    rw [List.drop_eq_getElem_cons hlt] at hs ⊢
    unfold resB at hs ⊢
    have e10 : (⟨#[10]⟩ : ByteArray).size = 1 := rfl
    simp only [ba_size_append, e10] at hs
    rw [f16_l0, dec_true (show (k : Int) < ((v6.length : Nat) : Int) by omega), dec_true (show (0 : Int) ≤ (k : Int) by omega), nth_at hlt, hx, ba_size_append, e10, dec_true (show v6[k].strOf.size + 1 ≤ 9223372036854775807 by omega), dec_true (show s.size + (v6[k].strOf.size + 1) ≤ 9223372036854775807 by omega), wrap_succ (by omega),
      ih (k + 1) _ (by omega) (by simp only [ba_size_append, e10]; omega) n (by omega) R κ, ba_assoc s]
    rfl
theorem f16_s0_eq (s : ByteArray) (v6 : List V) (v7 : Int) (v8 : Int) (hp : ((v7 == ((v6.length : Nat) : Int)) && (v8 == 0) && v6.all V.isStr && decide (v6.length ≤ 1000000000) && decide (s.size + (resB v6).size ≤ 100000000000)) = true) : ∃ n, ∀ (R : Type) (κ : Ex → St → Option R), f16_l0 n s v6 v7 v8 R κ = f16_s0 s v6 v7 v8 R κ := by
  simp only [Bool.and_eq_true, decide_eq_true_eq, beq_iff_eq] at hp
  obtain ⟨⟨⟨⟨rfl, rfl⟩, h3⟩, h4⟩, h5⟩ := hp
  exact ⟨v6.length + 1, fun R κ => f16_l0_c v6 h3 h4 v6.length 0 s (by omega) h5 _ (by omega) R κ⟩
def t_f16_l0 (st : St) (R : Type) (κ : Ex → St → Option R) : Option R := bif ckS f16_l0_ls f16_l0_rs st then (bif ((((st.env 7).intOf) == ((((st.env 6).cellsOf).length : Nat) : Int)) && (((st.env 8).intOf) == 0) && ((st.env 6).cellsOf).all V.isStr && decide (((st.env 6).cellsOf).length ≤ 1000000000) && decide (((st.env 3).strOf).size + (resB ((st.env 6).cellsOf)).size ≤ 100000000000)) then f16_s0 ((st.env 3).strOf) ((st.env 6).cellsOf) ((st.env 7).intOf) ((st.env 8).intOf) R κ else none) else none
theorem t_f16_l0_ok : ∀ st0 R κ r, t_f16_l0 (forget C 16 [0, 1, 0, 1, 1] st0) R κ = some r → ∃ ee ss, κ ee ss = some r ∧ RunP C prim 16 [0, 1, 0, 1, 1] (forget C 16 [0, 1, 0, 1, 1] st0) ee ss := by
  intro st0 R κ r h
  obtain ⟨hs, h⟩ := cond_some h
  obtain ⟨hp, h⟩ := cond_some h
  rw [canon (ls := f16_l0_ls) (rs := f16_l0_rs) (by kernel_rfl) st0 hs]
  obtain ⟨n, hn⟩ := f16_s0_eq _ _ _ _ hp
  rw [← hn] at h
  exact f16_l0_ok n _ _ _ _ R κ r h

def K_f16 : CallK := kNil
theorem K_f16_ok : KOK C prim K_f16 := KOK.nil
def T_f16 : Tab := tCons [0, 1, 0, 1, 1] t_f16_l0 <| tNil
theorem T_f16_ok : TOK C prim 16 T_f16 := TOK.cons t_f16_l0_ok <| TOK.nil
def f16 (l : List V) : Option (V × List Rg) :=
  bif ((((l.length : Nat) : Int) == ((l.length : Nat) : Int)) && ((0 : Int) == 0) && l.all V.isStr && decide (l.length ≤ 1000000000) && decide ((⟨#[]⟩ : ByteArray).size + (resB l).size ≤ 100000000000)) then
    some (.sc (.string ((⟨#[]⟩ : ByteArray) ++ resB l)), [])
  else none
theorem f16_run (l : List V) (z9 : V × List Rg) (h : f16 l = some z9) : CallR C prim 16 [.sl 1 l] [] z9 := by
  refine call_fn (K := K_f16) (T := T_f16) K_f16_ok T_f16_ok (by kernel_rfl) ?_
  refine Eq.trans ?_ h
  kernel_rfl

theorem f16_eq (l : List V) (hp : (l.all V.isStr && decide (l.length ≤ 1000000000) && decide ((resB l).size ≤ 100000000000)) = true) : f16 l = some (.sc (.string (resB l)), []) := by
  simp only [Bool.and_eq_true, decide_eq_true_eq] at hp
  have e0 : (⟨#[]⟩ : ByteArray).size = 0 := rfl
  unfold f16
  rw [hp.1.1, dec_true hp.1.2, e0, dec_true (by omega), ba_nil]
  simp only [beq_self_eq_true, Bool.and_true, cond_true]
def k16 : PrimT := fun vs gs => match vs, gs with
  | [.sl 1 l], [] => ((l.all V.isStr && decide (l.length ≤ 1000000000) && decide ((resB l).size ≤ 100000000000)), .sc (.string (resB l)), [])
  | _, _ => (false, .bad, [])
theorem k16_ok : ∀ vs gs x, k16 vs gs = (true, x) → CallR C prim 16 vs gs x := by
  intro vs gs x h
  unfold k16 at h
  split at h
  · simp only [Prod.mk.injEq] at h
    obtain ⟨hp, rfl⟩ := h
    exact f16_run _ _ (f16_eq _ hp)
  · cases h

def K_f104 : CallK := kNil
theorem K_f104_ok : KOK C prim K_f104 := KOK.nil
def T_f104 : Tab := tNil
theorem T_f104_ok : TOK C prim 104 T_f104 := TOK.nil
def f104 (c : Int) : Option (V × List Rg) :=
  bif (c == 9) then
    some (.sc (.bool true), [])
  else
    some (.sc (.bool (c == 32)), [])
theorem f104_run (c : Int) (z9 : V × List Rg) (h : f104 c = some z9) : CallR C prim 104 [.sc (.int .u8 c)] [] z9 := by
  refine call_fn (K := K_f104) (T := T_f104) K_f104_ok T_f104_ok (by kernel_rfl) ?_
  refine Eq.trans ?_ h
  kernel_rfl

theorem f104_eq (c : Int) : f104 c = some (.sc (.bool (blankI c)), []) := by
  unfold f104 blankI
  cases c == 9 <;> rfl
def k104 : PrimT := fun vs gs => match vs, gs with
  | [.sc (.int .u8 c)], [] => (true, .sc (.bool (blankI c)), [])
  | _, _ => (false, .bad, [])
theorem k104_ok : ∀ vs gs x, k104 vs gs = (true, x) → CallR C prim 104 vs gs x := by
  intro vs gs x h
  unfold k104 at h
  split at h
  · simp only [Prod.mk.injEq, true_and] at h
    subst h
    exact f104_run _ _ (f104_eq _)
  · cases h

def K_f71 : CallK := kNil
theorem K_f71_ok : KOK C prim K_f71 := KOK.nil
def T_f71 : Tab := tNil
theorem T_f71_ok : TOK C prim 71 T_f71 := TOK.nil
def f71 (c : Int) : Option (V × List Rg) :=
  bif (c == 9) then
    some (.sc (.bool true), [])
  else
    some (.sc (.bool (c == 32)), [])
theorem f71_run (c : Int) (z9 : V × List Rg) (h : f71 c = some z9) : CallR C prim 71 [.sc (.int .u8 c)] [] z9 := by
  refine call_fn (K := K_f71) (T := T_f71) K_f71_ok T_f71_ok (by kernel_rfl) ?_
  refine Eq.trans ?_ h
  kernel_rfl

theorem f71_eq (c : Int) : f71 c = some (.sc (.bool (blankI c)), []) := by
  unfold f71 blankI
  cases c == 9 <;> rfl
def k71 : PrimT := fun vs gs => match vs, gs with
  | [.sc (.int .u8 c)], [] => (true, .sc (.bool (blankI c)), [])
  | _, _ => (false, .bad, [])
theorem k71_ok : ∀ vs gs x, k71 vs gs = (true, x) → CallR C prim 71 vs gs x := by
  intro vs gs x h
  unfold k71 at h
  split at h
  · simp only [Prod.mk.injEq, true_and] at h
    subst h
    exact f71_run _ _ (f71_eq _)
  · cases h

def K_f72_l0 : CallK := kCons 104 k104 <| kNil
theorem K_f72_l0_ok : KOK C prim K_f72_l0 := KOK.cons k104_ok <| KOK.nil
def T_f72_l0 : Tab := tNil
theorem T_f72_l0_ok : TOK C prim 72 T_f72_l0 := TOK.nil
def f72_l0 : Nat → ByteArray → ByteArray → Int → Int → Int → List V → (R : Type) → (Ex → St → Option R) → Option R
  | 0, _, _, _, _, _, _, _, _ => none
  | n + 1, line, separator, from', v9, v10, out, R, κ =>
    bif (decide (v10 < v9)) then
      bif (strEq separator (⟨#[]⟩ : ByteArray)) then
        bif (decide (v10 > 0)) then
          bif (((decide ((0 : Int) ≤ v10)) && (decide (v10 < ((line.size : Nat) : Int)))) && true) then
            bif (blankI ((line.data.getD (v10).toNat 0).toNat : Int)) then
              bif (((decide ((0 : Int) ≤ (IntKind.wrap .i64 (v10 - 1)))) && (decide ((IntKind.wrap .i64 (v10 - 1)) < ((line.size : Nat) : Int)))) && true) then
                bif (!(blankI ((line.data.getD ((IntKind.wrap .i64 (v10 - 1))).toNat 0).toNat : Int))) then
                  bif (((roomy (((lenE 2 out.length) + 1) * 16)) && (roomy ((lenE 2 out.length) + 1))) && true) then
                    f72_l0 n line separator v10 v9 (IntKind.wrap .i64 (v10 + 1)) (out ++ [.sc (.int .i64 from'), .sc (.int .i64 v10)]) R κ
                  else none
                else
                  bif (!(strEq separator (⟨#[]⟩ : ByteArray))) then
                    bif (((decide ((0 : Int) ≤ v10)) && (decide (v10 < ((line.size : Nat) : Int)))) && true) then
                      bif ((decide ((0 : Int) < ((separator.size : Nat) : Int))) && true) then
                        bif (((line.data.getD (v10).toNat 0).toNat : Int) == ((separator.data.getD 0 0).toNat : Int)) then
                          bif (((roomy (((lenE 2 out.length) + 1) * 16)) && (roomy ((lenE 2 out.length) + 1))) && true) then
                            f72_l0 n line separator (IntKind.wrap .i64 (v10 + 1)) v9 (IntKind.wrap .i64 (v10 + 1)) (out ++ [.sc (.int .i64 from'), .sc (.int .i64 v10)]) R κ
                          else none
                        else
                          f72_l0 n line separator from' v9 (IntKind.wrap .i64 (v10 + 1)) out R κ
                      else none
                    else none
                  else
                    f72_l0 n line separator from' v9 (IntKind.wrap .i64 (v10 + 1)) out R κ
              else none
            else
              bif (!(strEq separator (⟨#[]⟩ : ByteArray))) then
                bif (((decide ((0 : Int) ≤ v10)) && (decide (v10 < ((line.size : Nat) : Int)))) && true) then
                  bif ((decide ((0 : Int) < ((separator.size : Nat) : Int))) && true) then
                    bif (((line.data.getD (v10).toNat 0).toNat : Int) == ((separator.data.getD 0 0).toNat : Int)) then
                      bif (((roomy (((lenE 2 out.length) + 1) * 16)) && (roomy ((lenE 2 out.length) + 1))) && true) then
                        f72_l0 n line separator (IntKind.wrap .i64 (v10 + 1)) v9 (IntKind.wrap .i64 (v10 + 1)) (out ++ [.sc (.int .i64 from'), .sc (.int .i64 v10)]) R κ
                      else none
                    else
                      f72_l0 n line separator from' v9 (IntKind.wrap .i64 (v10 + 1)) out R κ
                  else none
                else none
              else
                f72_l0 n line separator from' v9 (IntKind.wrap .i64 (v10 + 1)) out R κ
          else none
        else
          bif (!(strEq separator (⟨#[]⟩ : ByteArray))) then
            bif (((decide ((0 : Int) ≤ v10)) && (decide (v10 < ((line.size : Nat) : Int)))) && true) then
              bif ((decide ((0 : Int) < ((separator.size : Nat) : Int))) && true) then
                bif (((line.data.getD (v10).toNat 0).toNat : Int) == ((separator.data.getD 0 0).toNat : Int)) then
                  bif (((roomy (((lenE 2 out.length) + 1) * 16)) && (roomy ((lenE 2 out.length) + 1))) && true) then
                    f72_l0 n line separator (IntKind.wrap .i64 (v10 + 1)) v9 (IntKind.wrap .i64 (v10 + 1)) (out ++ [.sc (.int .i64 from'), .sc (.int .i64 v10)]) R κ
                  else none
                else
                  f72_l0 n line separator from' v9 (IntKind.wrap .i64 (v10 + 1)) out R κ
              else none
            else none
          else
            f72_l0 n line separator from' v9 (IntKind.wrap .i64 (v10 + 1)) out R κ
      else
        bif (!(strEq separator (⟨#[]⟩ : ByteArray))) then
          bif (((decide ((0 : Int) ≤ v10)) && (decide (v10 < ((line.size : Nat) : Int)))) && true) then
            bif ((decide ((0 : Int) < ((separator.size : Nat) : Int))) && true) then
              bif (((line.data.getD (v10).toNat 0).toNat : Int) == ((separator.data.getD 0 0).toNat : Int)) then
                bif (((roomy (((lenE 2 out.length) + 1) * 16)) && (roomy ((lenE 2 out.length) + 1))) && true) then
                  f72_l0 n line separator (IntKind.wrap .i64 (v10 + 1)) v9 (IntKind.wrap .i64 (v10 + 1)) (out ++ [.sc (.int .i64 from'), .sc (.int .i64 v10)]) R κ
                else none
              else
                f72_l0 n line separator from' v9 (IntKind.wrap .i64 (v10 + 1)) out R κ
            else none
          else none
        else
          f72_l0 n line separator from' v9 (IntKind.wrap .i64 (v10 + 1)) out R κ
    else
      κ (.ex 0) (mkS [(0, .sc (.string line)), (4, .bad), (5, .ref ⟨.loc 5, 0, [], 121, false⟩), (6, .sc (.int .i64 from'))] [(.loc 5, some ⟨false, [.own 121 false out]⟩)])
def f72_l0_ls : List (Nat × Pat) := [(0, .s), (1, .s), (5, .is (.ref ⟨.loc 5, 0, [], 121, false⟩)), (6, .i .i64), (9, .i .i64), (10, .i .i64)]
def f72_l0_rs : List RPat := [⟨.loc 5, false, [.own 121 false]⟩]
theorem f72_l0_ok (n : Nat) : ∀ (line : ByteArray) (separator : ByteArray) (from' : Int) (v9 : Int) (v10 : Int) (out : List V) (R : Type) (κ : Ex → St → Option R) (r : R), f72_l0 n line separator from' v9 v10 out R κ = some r → ∃ ee ss, κ ee ss = some r ∧ RunP C prim 72 [0, 1, 0, 1, 1, 1] (mkS [(0, .sc (.string line)), (1, .sc (.string separator)), (5, .ref ⟨.loc 5, 0, [], 121, false⟩), (6, .sc (.int .i64 from')), (9, .sc (.int .i64 v9)), (10, .sc (.int .i64 v10))] [(.loc 5, some ⟨false, [.own 121 false out]⟩)]) ee ss := by
  induction n with
  | zero => intro line separator from' v9 v10 out R κ r h; cases h
  | succ n ih =>
    intro line separator from' v9 v10 out R κ r h
    refine loop_round (K := K_f72_l0) (T := T_f72_l0) K_f72_l0_ok T_f72_l0_ok (p := [0, 1, 0, 1, 1, 1]) (by kernel_rfl) (fun st => bif ckS f72_l0_ls f72_l0_rs st then f72_l0 n ((st.env 0).strOf) ((st.env 1).strOf) ((st.env 6).intOf) ((st.env 9).intOf) ((st.env 10).intOf) ((nthV (rowOf (st.regs (.loc 5))) 0).cellsOf) R κ else none) (fun st0 h0 => ?_) ?_
    · obtain ⟨hs, h0⟩ := cond_some h0
      rw [canon (ls := f72_l0_ls) (rs := f72_l0_rs) (by kernel_rfl) st0 hs]
      exact ih _ _ _ _ _ _ R κ r h0
    · refine Eq.trans ?_ h
      kernel_rfl

def f72_s0 (line : ByteArray) (separator : ByteArray) (from' : Int) (v9 : Int) (v10 : Int) (out : List V) (R : Type) (κ : Ex → St → Option R) : Option R :=
  κ (.ex 0) (mkS [(0, .sc (.string line)), (4, .bad), (5, .ref ⟨.loc 5, 0, [], 121, false⟩), (6, .sc (.int .i64 ((fldZ line separator : Nat) : Int)))] [(.loc 5, some ⟨false, [.own 121 false (fldC line separator)]⟩)])
theorem f72_step (n : Nat) (line sep : ByteArray) (fr i : Nat) (out : List V) (hi : i < line.size) (hs : line.size ≤ 1000000000) (ho : out.length ≤ 2000000000) (R : Type) (κ : Ex → St → Option R) :
    f72_l0 (n + 1) line sep ((fr : Nat) : Int) ((line.size : Nat) : Int) ((i : Nat) : Int) out R κ = bif cutAt line sep i then f72_l0 n line sep ((nxF sep i : Nat) : Int) ((line.size : Nat) : Int) ((i + 1 : Nat) : Int) (out ++ [celI fr, celI i]) R κ else f72_l0 n line sep ((fr : Nat) : Int) ((line.size : Nat) : Int) ((i + 1 : Nat) : Int) out R κ := by
  have r1 : roomy ((lenE 2 out.length + 1) * 16) = true := dec_true (by have : lenE 2 out.length = out.length / 2 := rfl; omega)
  have r2 : roomy (lenE 2 out.length + 1) = true := dec_true (by have : lenE 2 out.length = out.length / 2 := rfl; omega)
  have b : (((line.data.getD i 0).toNat : Nat) : Int) = byteI line i := rfl
  have b0 : (((sep.data.getD 0 0).toNat : Nat) : Int) = byteI sep 0 := rfl
  rw [f72_l0, dec_true (show ((i : Nat) : Int) < ((line.size : Nat) : Int) by omega), dec_true (show (0 : Int) ≤ ((i : Nat) : Int) by omega), Int.toNat_natCast, wrap_succ (by omega), r1, r2, b, b0]
  unfold cutAt nxF
  cases he : strEq sep (⟨#[]⟩ : ByteArray) with
  | true =>
    cases i with
    | zero =>
      rw [dec_false (show ¬ ((0 : Nat) : Int) > 0 by omega), dec_false (show ¬ (0 < 0) by omega)]
      rfl
    | succ j =>
      have hw : IntKind.wrap .i64 (((j + 1 : Nat) : Int) - 1) = ((j : Nat) : Int) := by rw [wrap_id (by omega) (by omega)]; omega
      have bj : (((line.data.getD j 0).toNat : Nat) : Int) = byteI line j := rfl
      rw [dec_true (show ((j + 1 : Nat) : Int) > 0 by omega), dec_true (show 0 < j + 1 by omega), hw, dec_true (show (0 : Int) ≤ ((j : Nat) : Int) by omega), dec_true (show ((j : Nat) : Int) < ((line.size : Nat) : Int) by omega), Int.toNat_natCast, bj, Nat.add_sub_cancel]
      cases blankI (byteI line (j + 1)) <;> cases blankI (byteI line j) <;> rfl
  | false =>
    have hz : 0 < sep.size := by
      rcases Nat.eq_zero_or_pos sep.size with h' | h'
      · have : sep = ⟨#[]⟩ := ba_ext (by rw [bl_size] at h'; exact List.eq_nil_of_length_eq_zero h')
        rw [this, strEq_self] at he; cases he
      · exact h'
    rw [dec_true (show (0 : Int) < ((sep.size : Nat) : Int) by omega)]
    cases byteI line i == byteI sep 0 <;> rfl
theorem f72_loop (line sep : ByteArray) (hs : line.size ≤ 1000000000) (R : Type) (κ : Ex → St → Option R) : ∀ (k i fr : Nat) (out : List V), i + k = line.size → out.length ≤ 2 * i →
    f72_l0 (k + 1) line sep ((fr : Nat) : Int) ((line.size : Nat) : Int) ((i : Nat) : Int) out R κ = κ (.ex 0) (mkS [(0, .sc (.string line)), (4, .bad), (5, .ref ⟨.loc 5, 0, [], 121, false⟩), (6, .sc (.int .i64 (((fldF line sep k i fr).2 : Nat) : Int)))] [(.loc 5, some ⟨false, [.own 121 false (out ++ (fldF line sep k i fr).1)]⟩)])
  | 0, i, fr, out, h, ho => by
    rw [f72_l0, dec_false (by omega), fldF, List.append_nil]
    rfl
  | k + 1, i, fr, out, h, ho => by
    rw [f72_step _ _ _ _ _ _ (by omega) hs (by omega), fldF]
    cases cutAt line sep i with
    | true =>
      simp only [cond_true]
      rw [f72_loop line sep hs R κ k (i + 1) (nxF sep i) _ (by omega) (by simp; omega)]
      simp only [List.append_assoc, List.cons_append, List.nil_append]
    | false =>
      simp only [cond_false]
      exact f72_loop line sep hs R κ k (i + 1) fr out (by omega) (by omega)
theorem f72_s0_eq (line : ByteArray) (separator : ByteArray) (from' : Int) (v9 : Int) (v10 : Int) (out : List V) (hp : ((v9 == ((line.size : Nat) : Int)) && (v10 == 0) && (from' == 0) && (out.length == 0) && decide (line.size ≤ 1000000000)) = true) : ∃ n, ∀ (R : Type) (κ : Ex → St → Option R), f72_l0 n line separator from' v9 v10 out R κ = f72_s0 line separator from' v9 v10 out R κ := by
  simp only [Bool.and_eq_true, decide_eq_true_eq, beq_iff_eq] at hp
  obtain ⟨⟨⟨⟨rfl, rfl⟩, rfl⟩, h4⟩, h5⟩ := hp
  obtain rfl : out = [] := List.eq_nil_of_length_eq_zero h4
  exact ⟨line.size + 1, fun R κ => f72_loop line separator h5 R κ line.size 0 0 [] (by omega) (Nat.le_refl _)⟩
def t_f72_l0 (st : St) (R : Type) (κ : Ex → St → Option R) : Option R := bif ckS f72_l0_ls f72_l0_rs st then (bif ((((st.env 9).intOf) == ((((st.env 0).strOf).size : Nat) : Int)) && (((st.env 10).intOf) == 0) && (((st.env 6).intOf) == 0) && (((nthV (rowOf (st.regs (.loc 5))) 0).cellsOf).length == 0) && decide (((st.env 0).strOf).size ≤ 1000000000)) then f72_s0 ((st.env 0).strOf) ((st.env 1).strOf) ((st.env 6).intOf) ((st.env 9).intOf) ((st.env 10).intOf) ((nthV (rowOf (st.regs (.loc 5))) 0).cellsOf) R κ else none) else none
theorem t_f72_l0_ok : ∀ st0 R κ r, t_f72_l0 (forget C 72 [0, 1, 0, 1, 1, 1] st0) R κ = some r → ∃ ee ss, κ ee ss = some r ∧ RunP C prim 72 [0, 1, 0, 1, 1, 1] (forget C 72 [0, 1, 0, 1, 1, 1] st0) ee ss := by
  intro st0 R κ r h
  obtain ⟨hs, h⟩ := cond_some h
  obtain ⟨hp, h⟩ := cond_some h
  rw [canon (ls := f72_l0_ls) (rs := f72_l0_rs) (by kernel_rfl) st0 hs]
  obtain ⟨n, hn⟩ := f72_s0_eq _ _ _ _ _ _ hp
  rw [← hn] at h
  exact f72_l0_ok n _ _ _ _ _ _ R κ r h

def K_f72 : CallK := kNil
theorem K_f72_ok : KOK C prim K_f72 := KOK.nil
def T_f72 : Tab := tCons [0, 1, 0, 1, 1, 1] t_f72_l0 <| tNil
theorem T_f72_ok : TOK C prim 72 T_f72 := TOK.cons t_f72_l0_ok <| TOK.nil
def f72 (line : ByteArray) (separator : ByteArray) : Option (V × List Rg) :=
  bif ((((line.size : Nat) : Int) == ((line.size : Nat) : Int)) && ((0 : Int) == 0) && ((0 : Int) == 0) && (([] : List V).length == 0) && decide (line.size ≤ 1000000000)) then
    bif (((roomy (((lenE 2 ((fldC line separator)).length) + 1) * 16)) && (roomy ((lenE 2 ((fldC line separator)).length) + 1))) && true) then
      some (.own 121 false ((fldC line separator) ++ [.sc (.int .i64 ((fldZ line separator : Nat) : Int)), .sc (.int .i64 ((line.size : Nat) : Int))]), [])
    else none
  else none
theorem f72_run (line : ByteArray) (separator : ByteArray) (z9 : V × List Rg) (h : f72 line separator = some z9) : CallR C prim 72 [.sc (.string line), .sc (.string separator)] [] z9 := by
  refine call_fn (K := K_f72) (T := T_f72) K_f72_ok T_f72_ok (by kernel_rfl) ?_
  refine Eq.trans ?_ h
  kernel_rfl

theorem fld_room (line sep : ByteArray) (hs : line.size ≤ 1000000000) : roomy ((lenE 2 (fldC line sep).length + 1) * 16) = true ∧ roomy (lenE 2 (fldC line sep).length + 1) = true := by
  obtain ⟨_, _, h⟩ := fldF_ok line sep line.size line.size 0 0 (by omega) (Nat.le_refl _)
  have e : lenE 2 (fldC line sep).length = (fldF line sep line.size 0 0).1.length / 2 := rfl
  exact ⟨dec_true (by omega), dec_true (by omega)⟩
theorem f72_eq (line : ByteArray) (separator : ByteArray) (hp : (decide (line.size ≤ 1000000000)) = true) : f72 line separator = some (.own 121 false (fieldsV line separator), []) := by
  have hq := hp
  simp only [decide_eq_true_eq] at hp
  obtain ⟨r1, r2⟩ := fld_room line separator hp
  unfold f72
  rw [hq, beq_self_eq_true, r1, r2]
  rfl
def k72 : PrimT := fun vs gs => match vs, gs with
  | [.sc (.string line), .sc (.string separator)], [] => ((decide (line.size ≤ 1000000000)), .own 121 false (fieldsV line separator), [])
  | _, _ => (false, .bad, [])
theorem k72_ok : ∀ vs gs x, k72 vs gs = (true, x) → CallR C prim 72 vs gs x := by
  intro vs gs x h
  unfold k72 at h
  split at h
  · simp only [Prod.mk.injEq] at h
    obtain ⟨hp, rfl⟩ := h
    exact f72_run _ _ _ (f72_eq _ _ hp)
  · cases h

def K_f39_l0 : CallK := kCons 71 k71 <| kNil
theorem K_f39_l0_ok : KOK C prim K_f39_l0 := KOK.cons k71_ok <| KOK.nil
def T_f39_l0 : Tab := tNil
theorem T_f39_l0_ok : TOK C prim 39 T_f39_l0 := TOK.nil
def f39_l0 : Nat → ByteArray → ByteArray → Int → Int → Int → List V → (R : Type) → (Ex → St → Option R) → Option R
  | 0, _, _, _, _, _, _, _, _ => none
  | n + 1, line, separator, from', v9, v10, l, R, κ =>
    bif (decide (v10 < v9)) then
      bif (strEq separator (⟨#[]⟩ : ByteArray)) then
        bif (decide (v10 > 0)) then
          bif (((decide ((0 : Int) ≤ v10)) && (decide (v10 < ((line.size : Nat) : Int)))) && true) then
            bif (blankI ((line.data.getD (v10).toNat 0).toNat : Int)) then
              bif (((decide ((0 : Int) ≤ (IntKind.wrap .i64 (v10 - 1)))) && (decide ((IntKind.wrap .i64 (v10 - 1)) < ((line.size : Nat) : Int)))) && true) then
                bif (!(blankI ((line.data.getD ((IntKind.wrap .i64 (v10 - 1))).toNat 0).toNat : Int))) then
                  bif (((roomy (((lenE 2 l.length) + 1) * 16)) && (roomy ((lenE 2 l.length) + 1))) && true) then
                    f39_l0 n line separator v10 v9 (IntKind.wrap .i64 (v10 + 1)) (l ++ [.sc (.int .i64 from'), .sc (.int .i64 v10)]) R κ
                  else none
                else
                  f39_l0 n line separator from' v9 (IntKind.wrap .i64 (v10 + 1)) l R κ
              else none
            else
              f39_l0 n line separator from' v9 (IntKind.wrap .i64 (v10 + 1)) l R κ
          else none
        else
          f39_l0 n line separator from' v9 (IntKind.wrap .i64 (v10 + 1)) l R κ
      else
        bif (((decide ((0 : Int) ≤ v10)) && (decide (v10 < ((line.size : Nat) : Int)))) && true) then
          bif ((decide ((0 : Int) < ((separator.size : Nat) : Int))) && true) then
            bif (((line.data.getD (v10).toNat 0).toNat : Int) == ((separator.data.getD 0 0).toNat : Int)) then
              bif (((roomy (((lenE 2 l.length) + 1) * 16)) && (roomy ((lenE 2 l.length) + 1))) && true) then
                f39_l0 n line separator (IntKind.wrap .i64 (v10 + 1)) v9 (IntKind.wrap .i64 (v10 + 1)) (l ++ [.sc (.int .i64 from'), .sc (.int .i64 v10)]) R κ
              else none
            else
              f39_l0 n line separator from' v9 (IntKind.wrap .i64 (v10 + 1)) l R κ
          else none
        else none
    else
      κ (.ex 0) (mkS [(0, .sc (.string line)), (4, .bad), (5, .ref ⟨.loc 5, 0, [], 62, false⟩), (6, .sc (.int .i64 from'))] [(.loc 5, some ⟨false, [.own 62 false l]⟩)])
def f39_l0_ls : List (Nat × Pat) := [(0, .s), (1, .s), (5, .is (.ref ⟨.loc 5, 0, [], 62, false⟩)), (6, .i .i64), (9, .i .i64), (10, .i .i64)]
def f39_l0_rs : List RPat := [⟨.loc 5, false, [.own 62 false]⟩]
theorem f39_l0_ok (n : Nat) : ∀ (line : ByteArray) (separator : ByteArray) (from' : Int) (v9 : Int) (v10 : Int) (l : List V) (R : Type) (κ : Ex → St → Option R) (r : R), f39_l0 n line separator from' v9 v10 l R κ = some r → ∃ ee ss, κ ee ss = some r ∧ RunP C prim 39 [0, 1, 0, 1, 1, 1] (mkS [(0, .sc (.string line)), (1, .sc (.string separator)), (5, .ref ⟨.loc 5, 0, [], 62, false⟩), (6, .sc (.int .i64 from')), (9, .sc (.int .i64 v9)), (10, .sc (.int .i64 v10))] [(.loc 5, some ⟨false, [.own 62 false l]⟩)]) ee ss := by
  induction n with
  | zero => intro line separator from' v9 v10 l R κ r h; cases h
  | succ n ih =>
    intro line separator from' v9 v10 l R κ r h
    refine loop_round (K := K_f39_l0) (T := T_f39_l0) K_f39_l0_ok T_f39_l0_ok (p := [0, 1, 0, 1, 1, 1]) (by kernel_rfl) (fun st => bif ckS f39_l0_ls f39_l0_rs st then f39_l0 n ((st.env 0).strOf) ((st.env 1).strOf) ((st.env 6).intOf) ((st.env 9).intOf) ((st.env 10).intOf) ((nthV (rowOf (st.regs (.loc 5))) 0).cellsOf) R κ else none) (fun st0 h0 => ?_) ?_
    · obtain ⟨hs, h0⟩ := cond_some h0
      rw [canon (ls := f39_l0_ls) (rs := f39_l0_rs) (by kernel_rfl) st0 hs]
      exact ih _ _ _ _ _ _ R κ r h0
    · refine Eq.trans ?_ h
      kernel_rfl

def f39_s0 (line : ByteArray) (separator : ByteArray) (from' : Int) (v9 : Int) (v10 : Int) (l : List V) (R : Type) (κ : Ex → St → Option R) : Option R :=
  κ (.ex 0) (mkS [(0, .sc (.string line)), (4, .bad), (5, .ref ⟨.loc 5, 0, [], 62, false⟩), (6, .sc (.int .i64 ((fldZ line separator : Nat) : Int)))] [(.loc 5, some ⟨false, [.own 62 false (fldC line separator)]⟩)])
theorem f39_step (n : Nat) (line sep : ByteArray) (fr i : Nat) (out : List V) (hi : i < line.size) (hs : line.size ≤ 1000000000) (ho : out.length ≤ 2000000000) (R : Type) (κ : Ex → St → Option R) :
    f39_l0 (n + 1) line sep ((fr : Nat) : Int) ((line.size : Nat) : Int) ((i : Nat) : Int) out R κ = bif cutAt line sep i then f39_l0 n line sep ((nxF sep i : Nat) : Int) ((line.size : Nat) : Int) ((i + 1 : Nat) : Int) (out ++ [celI fr, celI i]) R κ else f39_l0 n line sep ((fr : Nat) : Int) ((line.size : Nat) : Int) ((i + 1 : Nat) : Int) out R κ := by
  have r1 : roomy ((lenE 2 out.length + 1) * 16) = true := dec_true (by have : lenE 2 out.length = out.length / 2 := rfl; omega)
  have r2 : roomy (lenE 2 out.length + 1) = true := dec_true (by have : lenE 2 out.length = out.length / 2 := rfl; omega)
  have b : (((line.data.getD i 0).toNat : Nat) : Int) = byteI line i := rfl
  have b0 : (((sep.data.getD 0 0).toNat : Nat) : Int) = byteI sep 0 := rfl
  rw [f39_l0, dec_true (show ((i : Nat) : Int) < ((line.size : Nat) : Int) by omega), dec_true (show (0 : Int) ≤ ((i : Nat) : Int) by omega), Int.toNat_natCast, wrap_succ (by omega), r1, r2, b, b0]
  unfold cutAt nxF
  cases he : strEq sep (⟨#[]⟩ : ByteArray) with
  | true =>
    cases i with
    | zero =>
      rw [dec_false (show ¬ ((0 : Nat) : Int) > 0 by omega), dec_false (show ¬ (0 < 0) by omega)]
      rfl
    | succ j =>
      have hw : IntKind.wrap .i64 (((j + 1 : Nat) : Int) - 1) = ((j : Nat) : Int) := by rw [wrap_id (by omega) (by omega)]; omega
      have bj : (((line.data.getD j 0).toNat : Nat) : Int) = byteI line j := rfl
      rw [dec_true (show ((j + 1 : Nat) : Int) > 0 by omega), dec_true (show 0 < j + 1 by omega), hw, dec_true (show (0 : Int) ≤ ((j : Nat) : Int) by omega), dec_true (show ((j : Nat) : Int) < ((line.size : Nat) : Int) by omega), Int.toNat_natCast, bj, Nat.add_sub_cancel]
      cases blankI (byteI line (j + 1)) <;> cases blankI (byteI line j) <;> rfl
  | false =>
    have hz : 0 < sep.size := by
      rcases Nat.eq_zero_or_pos sep.size with h' | h'
      · have : sep = ⟨#[]⟩ := ba_ext (by rw [bl_size] at h'; exact List.eq_nil_of_length_eq_zero h')
        rw [this, strEq_self] at he; cases he
      · exact h'
    rw [dec_true (show (0 : Int) < ((sep.size : Nat) : Int) by omega)]
    cases byteI line i == byteI sep 0 <;> rfl
theorem f39_loop (line sep : ByteArray) (hs : line.size ≤ 1000000000) (R : Type) (κ : Ex → St → Option R) : ∀ (k i fr : Nat) (out : List V), i + k = line.size → out.length ≤ 2 * i →
    f39_l0 (k + 1) line sep ((fr : Nat) : Int) ((line.size : Nat) : Int) ((i : Nat) : Int) out R κ = κ (.ex 0) (mkS [(0, .sc (.string line)), (4, .bad), (5, .ref ⟨.loc 5, 0, [], 62, false⟩), (6, .sc (.int .i64 (((fldF line sep k i fr).2 : Nat) : Int)))] [(.loc 5, some ⟨false, [.own 62 false (out ++ (fldF line sep k i fr).1)]⟩)])
  | 0, i, fr, out, h, ho => by
    rw [f39_l0, dec_false (by omega), fldF, List.append_nil]
    rfl
  | k + 1, i, fr, out, h, ho => by
    rw [f39_step _ _ _ _ _ _ (by omega) hs (by omega), fldF]
    cases cutAt line sep i with
    | true =>
      simp only [cond_true]
      rw [f39_loop line sep hs R κ k (i + 1) (nxF sep i) _ (by omega) (by simp; omega)]
      simp only [List.append_assoc, List.cons_append, List.nil_append]
    | false =>
      simp only [cond_false]
      exact f39_loop line sep hs R κ k (i + 1) fr out (by omega) (by omega)
theorem f39_s0_eq (line : ByteArray) (separator : ByteArray) (from' : Int) (v9 : Int) (v10 : Int) (l : List V) (hp : ((v9 == ((line.size : Nat) : Int)) && (v10 == 0) && (from' == 0) && (l.length == 0) && decide (line.size ≤ 1000000000)) = true) : ∃ n, ∀ (R : Type) (κ : Ex → St → Option R), f39_l0 n line separator from' v9 v10 l R κ = f39_s0 line separator from' v9 v10 l R κ := by
  simp only [Bool.and_eq_true, decide_eq_true_eq, beq_iff_eq] at hp
  obtain ⟨⟨⟨⟨rfl, rfl⟩, rfl⟩, h4⟩, h5⟩ := hp
  obtain rfl : l = [] := List.eq_nil_of_length_eq_zero h4
  exact ⟨line.size + 1, fun R κ => f39_loop line separator h5 R κ line.size 0 0 [] (by omega) (Nat.le_refl _)⟩
def t_f39_l0 (st : St) (R : Type) (κ : Ex → St → Option R) : Option R := bif ckS f39_l0_ls f39_l0_rs st then (bif ((((st.env 9).intOf) == ((((st.env 0).strOf).size : Nat) : Int)) && (((st.env 10).intOf) == 0) && (((st.env 6).intOf) == 0) && (((nthV (rowOf (st.regs (.loc 5))) 0).cellsOf).length == 0) && decide (((st.env 0).strOf).size ≤ 1000000000)) then f39_s0 ((st.env 0).strOf) ((st.env 1).strOf) ((st.env 6).intOf) ((st.env 9).intOf) ((st.env 10).intOf) ((nthV (rowOf (st.regs (.loc 5))) 0).cellsOf) R κ else none) else none
theorem t_f39_l0_ok : ∀ st0 R κ r, t_f39_l0 (forget C 39 [0, 1, 0, 1, 1, 1] st0) R κ = some r → ∃ ee ss, κ ee ss = some r ∧ RunP C prim 39 [0, 1, 0, 1, 1, 1] (forget C 39 [0, 1, 0, 1, 1, 1] st0) ee ss := by
  intro st0 R κ r h
  obtain ⟨hs, h⟩ := cond_some h
  obtain ⟨hp, h⟩ := cond_some h
  rw [canon (ls := f39_l0_ls) (rs := f39_l0_rs) (by kernel_rfl) st0 hs]
  obtain ⟨n, hn⟩ := f39_s0_eq _ _ _ _ _ _ hp
  rw [← hn] at h
  exact f39_l0_ok n _ _ _ _ _ _ R κ r h

def K_f39 : CallK := kNil
theorem K_f39_ok : KOK C prim K_f39 := KOK.nil
def T_f39 : Tab := tCons [0, 1, 0, 1, 1, 1] t_f39_l0 <| tNil
theorem T_f39_ok : TOK C prim 39 T_f39 := TOK.cons t_f39_l0_ok <| TOK.nil
def f39 (line : ByteArray) (separator : ByteArray) : Option (V × List Rg) :=
  bif ((((line.size : Nat) : Int) == ((line.size : Nat) : Int)) && ((0 : Int) == 0) && ((0 : Int) == 0) && (([] : List V).length == 0) && decide (line.size ≤ 1000000000)) then
    bif (((roomy (((lenE 2 ((fldC line separator)).length) + 1) * 16)) && (roomy ((lenE 2 ((fldC line separator)).length) + 1))) && true) then
      some (.own 62 false ((fldC line separator) ++ [.sc (.int .i64 ((fldZ line separator : Nat) : Int)), .sc (.int .i64 ((line.size : Nat) : Int))]), [])
    else none
  else none
theorem f39_run (line : ByteArray) (separator : ByteArray) (z9 : V × List Rg) (h : f39 line separator = some z9) : CallR C prim 39 [.sc (.string line), .sc (.string separator)] [] z9 := by
  refine call_fn (K := K_f39) (T := T_f39) K_f39_ok T_f39_ok (by kernel_rfl) ?_
  refine Eq.trans ?_ h
  kernel_rfl

theorem f39_eq (line : ByteArray) (separator : ByteArray) (hp : (decide (line.size ≤ 1000000000)) = true) : f39 line separator = some (.own 62 false (fieldsV line separator), []) := by
  have hq := hp
  simp only [decide_eq_true_eq] at hp
  obtain ⟨r1, r2⟩ := fld_room line separator hp
  unfold f39
  rw [hq, beq_self_eq_true, r1, r2]
  rfl
def k39 : PrimT := fun vs gs => match vs, gs with
  | [.sc (.string line), .sc (.string separator)], [] => ((decide (line.size ≤ 1000000000)), .own 62 false (fieldsV line separator), [])
  | _, _ => (false, .bad, [])
theorem k39_ok : ∀ vs gs x, k39 vs gs = (true, x) → CallR C prim 39 vs gs x := by
  intro vs gs x h
  unfold k39 at h
  split at h
  · simp only [Prod.mk.injEq] at h
    obtain ⟨hp, rfl⟩ := h
    exact f39_run _ _ _ (f39_eq _ _ hp)
  · cases h

def K_f24 : CallK := kCons 57 k57 <| kNil
theorem K_f24_ok : KOK C prim K_f24 := KOK.cons k57_ok <| KOK.nil
def T_f24 : Tab := tNil
theorem T_f24_ok : TOK C prim 24 T_f24 := TOK.nil
def f24 (s : ByteArray) (substr : ByteArray) : Option (V × List Rg) :=
  bif ((one1 substr) && true) then
    some (.sc (.bool (decide ((idxS s substr) ≥ 0))), [])
  else none
theorem f24_run (s : ByteArray) (substr : ByteArray) (z9 : V × List Rg) (h : f24 s substr = some z9) : CallR C prim 24 [.sc (.string s), .sc (.string substr)] [] z9 := by
  refine call_fn (K := K_f24) (T := T_f24) K_f24_ok T_f24_ok (by kernel_rfl) ?_
  refine Eq.trans ?_ h
  kernel_rfl

theorem f24_eq (s : ByteArray) (substr : ByteArray) (hp : (one1 substr) = true) : f24 s substr = some (.sc (.bool (hasS s substr)), []) := by
  unfold f24
  rw [hp]
  rfl
def k24 : PrimT := fun vs gs => match vs, gs with
  | [.sc (.string s), .sc (.string substr)], [] => ((one1 substr), .sc (.bool (hasS s substr)), [])
  | _, _ => (false, .bad, [])
theorem k24_ok : ∀ vs gs x, k24 vs gs = (true, x) → CallR C prim 24 vs gs x := by
  intro vs gs x h
  unfold k24 at h
  split at h
  · simp only [Prod.mk.injEq] at h
    obtain ⟨hp, rfl⟩ := h
    exact f24_run _ _ _ (f24_eq _ _ hp)
  · cases h

def K_f34_l0 : CallK := kNil
theorem K_f34_l0_ok : KOK C prim K_f34_l0 := KOK.nil
def T_f34_l0 : Tab := tNil
theorem T_f34_l0_ok : TOK C prim 34 T_f34_l0 := TOK.nil
def f34_l0 : Nat → ByteArray → Int → Int → Int → (R : Type) → (Ex → St → Option R) → Option R
  | 0, _, _, _, _, _, _ => none
  | n + 1, s, c, v7, v8, R, κ =>
    bif (decide (v8 < v7)) then
      bif (((decide ((0 : Int) ≤ v8)) && (decide (v8 < ((s.size : Nat) : Int)))) && true) then
        bif (((s.data.getD (v8).toNat 0).toNat : Int) == c) then
          κ .rt (mkS [(4, .sc (.bool true))] [])
        else
          f34_l0 n s c v7 (IntKind.wrap .i64 (v8 + 1)) R κ
      else none
    else
      κ (.ex 0) (mkS [(4, .bad)] [])
def f34_l0_ls : List (Nat × Pat) := [(0, .s), (1, .i .u8), (7, .i .i64), (8, .i .i64)]
def f34_l0_rs : List RPat := []
theorem f34_l0_ok (n : Nat) : ∀ (s : ByteArray) (c : Int) (v7 : Int) (v8 : Int) (R : Type) (κ : Ex → St → Option R) (r : R), f34_l0 n s c v7 v8 R κ = some r → ∃ ee ss, κ ee ss = some r ∧ RunP C prim 34 [0, 1, 0, 1] (mkS [(0, .sc (.string s)), (1, .sc (.int .u8 c)), (7, .sc (.int .i64 v7)), (8, .sc (.int .i64 v8))] []) ee ss := by
  induction n with
  | zero => intro s c v7 v8 R κ r h; cases h
  | succ n ih =>
    intro s c v7 v8 R κ r h
    refine loop_round (K := K_f34_l0) (T := T_f34_l0) K_f34_l0_ok T_f34_l0_ok (p := [0, 1, 0, 1]) (by kernel_rfl) (fun st => bif ckS f34_l0_ls f34_l0_rs st then f34_l0 n ((st.env 0).strOf) ((st.env 1).intOf) ((st.env 7).intOf) ((st.env 8).intOf) R κ else none) (fun st0 h0 => ?_) ?_
    · obtain ⟨hs, h0⟩ := cond_some h0
      rw [canon (ls := f34_l0_ls) (rs := f34_l0_rs) (by kernel_rfl) st0 hs]
      exact ih _ _ _ _ R κ r h0
    · refine Eq.trans ?_ h
      kernel_rfl

def f34_s0 (s : ByteArray) (c : Int) (v7 : Int) (v8 : Int) (R : Type) (κ : Ex → St → Option R) : Option R :=
  bif (hasB s c) then
    κ .rt (mkS [(4, .sc (.bool true))] [])
  else
    κ (.ex 0) (mkS [(4, .bad)] [])
theorem f34_loop (s : ByteArray) (c : Int) (hs : s.size ≤ 1000000000) (R : Type) (κ : Ex → St → Option R) : ∀ (k i : Nat), i + k = s.size →
    f34_l0 (k + 1) s c ((s.size : Nat) : Int) ((i : Nat) : Int) R κ = (bif ((s.data.toList.drop i).any fun b => ((b.toNat : Int) == c)) then κ .rt (mkS [(4, .sc (.bool true))] []) else κ (.ex 0) (mkS [(4, .bad)] []))
  | 0, i, h => by
    rw [f34_l0, dec_false (by omega), List.drop_of_length_le (by rw [← bl_size]; omega)]
    rfl
  | k + 1, i, h => by
    have IH := f34_loop s c hs R κ k (i + 1) (by omega)
    have hi : i < s.data.toList.length := by rw [← bl_size]; omega
    rw [f34_l0, dec_true (show ((i : Nat) : Int) < ((s.size : Nat) : Int) by omega), dec_true (show (0 : Int) ≤ ((i : Nat) : Int) by omega), Int.toNat_natCast, wrap_succ (by omega), getD_at hi, List.drop_eq_getElem_cons hi, List.any_cons]
    cases (((s.data.toList[i].toNat : Nat) : Int) == c)
    · exact IH
    · rfl
theorem f34_s0_eq (s : ByteArray) (c : Int) (v7 : Int) (v8 : Int) (hp : ((v7 == ((s.size : Nat) : Int)) && (v8 == 0) && decide (s.size ≤ 1000000000)) = true) : ∃ n, ∀ (R : Type) (κ : Ex → St → Option R), f34_l0 n s c v7 v8 R κ = f34_s0 s c v7 v8 R κ := by
  simp only [Bool.and_eq_true, decide_eq_true_eq, beq_iff_eq] at hp
  obtain ⟨⟨rfl, rfl⟩, h3⟩ := hp
  exact ⟨s.size + 1, fun R κ => f34_loop s c h3 R κ s.size 0 (by omega)⟩
def t_f34_l0 (st : St) (R : Type) (κ : Ex → St → Option R) : Option R := bif ckS f34_l0_ls f34_l0_rs st then (bif ((((st.env 7).intOf) == ((((st.env 0).strOf).size : Nat) : Int)) && (((st.env 8).intOf) == 0) && decide (((st.env 0).strOf).size ≤ 1000000000)) then f34_s0 ((st.env 0).strOf) ((st.env 1).intOf) ((st.env 7).intOf) ((st.env 8).intOf) R κ else none) else none
theorem t_f34_l0_ok : ∀ st0 R κ r, t_f34_l0 (forget C 34 [0, 1, 0, 1] st0) R κ = some r → ∃ ee ss, κ ee ss = some r ∧ RunP C prim 34 [0, 1, 0, 1] (forget C 34 [0, 1, 0, 1] st0) ee ss := by
  intro st0 R κ r h
  obtain ⟨hs, h⟩ := cond_some h
  obtain ⟨hp, h⟩ := cond_some h
  rw [canon (ls := f34_l0_ls) (rs := f34_l0_rs) (by kernel_rfl) st0 hs]
  obtain ⟨n, hn⟩ := f34_s0_eq _ _ _ _ hp
  rw [← hn] at h
  exact f34_l0_ok n _ _ _ _ R κ r h

def K_f34 : CallK := kNil
theorem K_f34_ok : KOK C prim K_f34 := KOK.nil
def T_f34 : Tab := tCons [0, 1, 0, 1] t_f34_l0 <| tNil
theorem T_f34_ok : TOK C prim 34 T_f34 := TOK.cons t_f34_l0_ok <| TOK.nil
def f34 (s : ByteArray) (c : Int) : Option (V × List Rg) :=
  bif ((((s.size : Nat) : Int) == ((s.size : Nat) : Int)) && ((0 : Int) == 0) && decide (s.size ≤ 1000000000)) then
    bif (hasB s c) then
      some (.sc (.bool true), [])
    else
      some (.sc (.bool false), [])
  else none
theorem f34_run (s : ByteArray) (c : Int) (z9 : V × List Rg) (h : f34 s c = some z9) : CallR C prim 34 [.sc (.string s), .sc (.int .u8 c)] [] z9 := by
  refine call_fn (K := K_f34) (T := T_f34) K_f34_ok T_f34_ok (by kernel_rfl) ?_
  refine Eq.trans ?_ h
  kernel_rfl

theorem f34_eq (s : ByteArray) (c : Int) (hp : (decide (s.size ≤ 1000000000)) = true) : f34 s c = some (.sc (.bool (hasB s c)), []) := by
  unfold f34
  rw [beq_self_eq_true, hp]
  cases hasB s c <;> rfl
def k34 : PrimT := fun vs gs => match vs, gs with
  | [.sc (.string s), .sc (.int .u8 c)], [] => ((decide (s.size ≤ 1000000000)), .sc (.bool (hasB s c)), [])
  | _, _ => (false, .bad, [])
theorem k34_ok : ∀ vs gs x, k34 vs gs = (true, x) → CallR C prim 34 vs gs x := by
  intro vs gs x h
  unfold k34 at h
  split at h
  · simp only [Prod.mk.injEq] at h
    obtain ⟨hp, rfl⟩ := h
    exact f34_run _ _ _ (f34_eq _ _ hp)
  · cases h

def K_f64 : CallK := kNil
theorem K_f64_ok : KOK C prim K_f64 := KOK.nil
def T_f64 : Tab := tNil
theorem T_f64_ok : TOK C prim 64 T_f64 := TOK.nil
def f64 (r0 : Int) (r1 : Int) (r0' : Int) : Option (V × List Rg) :=
  bif (decide (r0' ≥ r0)) then
    bif (r1 == 0) then
      some (.sc (.bool true), [⟨true, [.sc (.int .i64 r0')]⟩])
    else
      some (.sc (.bool (decide (r0' ≤ r1))), [⟨true, [.sc (.int .i64 r0')]⟩])
  else
    some (.sc (.bool false), [⟨true, [.sc (.int .i64 r0')]⟩])
theorem f64_run (r0 : Int) (r1 : Int) (r0' : Int) (z9 : V × List Rg) (h : f64 r0 r1 r0' = some z9) : CallR C prim 64 [.ag [.sc (.int .i64 r0), .sc (.int .i64 r1)], .ptrB (.par 0) 0] [⟨true, [.sc (.int .i64 r0')]⟩] z9 := by
  refine call_fn (K := K_f64) (T := T_f64) K_f64_ok T_f64_ok (by kernel_rfl) ?_
  refine Eq.trans ?_ h
  kernel_rfl

theorem f64_eq (r0 : Int) (r1 : Int) (r0' : Int) : f64 r0 r1 r0' = some (.sc (.bool (rgI r0' r0 r1)), [⟨true, [.sc (.int .i64 r0')]⟩]) := by
  unfold f64 rgI
  cases decide (r0' ≥ r0) <;> cases (r1 == 0) <;> rfl
def k64 : PrimT := fun vs gs => match vs, gs with
  | [.ag [.sc (.int .i64 r0), .sc (.int .i64 r1)], .ptrB (.par 0) 0], [⟨true, [.sc (.int .i64 r0')]⟩] => (true, .sc (.bool (rgI r0' r0 r1)), [⟨true, [.sc (.int .i64 r0')]⟩])
  | _, _ => (false, .bad, [])
theorem k64_ok : ∀ vs gs x, k64 vs gs = (true, x) → CallR C prim 64 vs gs x := by
  intro vs gs x h
  unfold k64 at h
  split at h
  · simp only [Prod.mk.injEq, true_and] at h
    subst h
    exact f64_run _ _ _ _ (f64_eq _ _ _)
  · cases h

def K_f96_l0 : CallK := kCons 64 k64 <| kNil
theorem K_f96_l0_ok : KOK C prim K_f96_l0 := KOK.cons k64_ok <| KOK.nil
def T_f96_l0 : Tab := tNil
theorem T_f96_l0_ok : TOK C prim 96 T_f96_l0 := TOK.nil
def f96_l0 : Nat → List V → Int → Int → Int → (R : Type) → (Ex → St → Option R) → Option R
  | 0, _, _, _, _, _, _ => none
  | n + 1, s, v7, v8, r0, R, κ =>
    bif (decide (v8 < v7)) then
      bif (((decide ((0 : Int) ≤ v8)) && (decide (v8 < (((lenE 2 s.length) : Nat) : Int)))) && true) then
        bif (((V.isInt .i64 (nthV s (((v8).toNat * 2) + 0))) && ((V.isInt .i64 (nthV s (((v8).toNat * 2) + 1))) && true)) && true) then
          bif (rgI r0 (V.intOf (nthV s (((v8).toNat * 2) + 0))) (V.intOf (nthV s (((v8).toNat * 2) + 1)))) then
            κ .rt (mkS [(4, .sc (.int .i64 v8))] [(.par 0, some ⟨true, [.sc (.int .i64 r0)]⟩)])
          else
            f96_l0 n s v7 (IntKind.wrap .i64 (v8 + 1)) r0 R κ
        else none
      else none
    else
      κ (.ex 0) (mkS [(4, .bad)] [(.par 0, some ⟨true, [.sc (.int .i64 r0)]⟩)])
def f96_l0_ls : List (Nat × Pat) := [(0, .sl 2), (1, .is (.fn 64 [] [.ptrB (.par 0) 0])), (7, .i .i64), (8, .i .i64)]
def f96_l0_rs : List RPat := [⟨.par 0, true, [.i .i64]⟩]
theorem f96_l0_ok (n : Nat) : ∀ (s : List V) (v7 : Int) (v8 : Int) (r0 : Int) (R : Type) (κ : Ex → St → Option R) (r : R), f96_l0 n s v7 v8 r0 R κ = some r → ∃ ee ss, κ ee ss = some r ∧ RunP C prim 96 [0, 1, 0, 1] (mkS [(0, .sl 2 s), (1, .fn 64 [] [.ptrB (.par 0) 0]), (7, .sc (.int .i64 v7)), (8, .sc (.int .i64 v8))] [(.par 0, some ⟨true, [.sc (.int .i64 r0)]⟩)]) ee ss := by
  induction n with
  | zero => intro s v7 v8 r0 R κ r h; cases h
  | succ n ih =>
    intro s v7 v8 r0 R κ r h
    refine loop_round (K := K_f96_l0) (T := T_f96_l0) K_f96_l0_ok T_f96_l0_ok (p := [0, 1, 0, 1]) (by kernel_rfl) (fun st => bif ckS f96_l0_ls f96_l0_rs st then f96_l0 n ((st.env 0).cellsOf) ((st.env 7).intOf) ((st.env 8).intOf) ((nthV (rowOf (st.regs (.par 0))) 0).intOf) R κ else none) (fun st0 h0 => ?_) ?_
    · obtain ⟨hs, h0⟩ := cond_some h0
      rw [canon (ls := f96_l0_ls) (rs := f96_l0_rs) (by kernel_rfl) st0 hs]
      exact ih _ _ _ _ R κ r h0
    · refine Eq.trans ?_ h
      kernel_rfl

def f96_s0 (s : List V) (v7 : Int) (v8 : Int) (r0 : Int) (R : Type) (κ : Ex → St → Option R) : Option R :=
  bif (anyR r0 s) then
    κ .rt (mkS [(4, .sc (.int .i64 ((fstR r0 s : Nat) : Int)))] [(.par 0, some ⟨true, [.sc (.int .i64 r0)]⟩)])
  else
    κ (.ex 0) (mkS [(4, .bad)] [(.par 0, some ⟨true, [.sc (.int .i64 r0)]⟩)])
theorem f96_loop (s : List V) (hs : okR s = true) (hn : s.length ≤ 1000000000) (r0 : Int) (R : Type) (κ : Ex → St → Option R) : ∀ (k i : Nat), i + k = lenE 2 s.length →
    f96_l0 (k + 1) s ((lenE 2 s.length : Nat) : Int) ((i : Nat) : Int) r0 R κ = (bif anyR r0 (s.drop (2 * i)) then κ .rt (mkS [(4, .sc (.int .i64 ((i + fstR r0 (s.drop (2 * i)) : Nat) : Int)))] [(.par 0, some ⟨true, [.sc (.int .i64 r0)]⟩)]) else κ (.ex 0) (mkS [(4, .bad)] [(.par 0, some ⟨true, [.sc (.int .i64 r0)]⟩)]))
  | 0, i, h => by
    rw [f96_l0, dec_false (by omega), pair_end hs (by omega)]
    rfl
  | k + 1, i, h => by
    obtain ⟨x, y, e1, e2, e3, e4, e5⟩ := pair_at s i hs (by omega)
    have IH := f96_loop s hs hn r0 R κ k (i + 1) (by omega)
    have hb : lenE 2 s.length ≤ s.length := Nat.div_le_self _ _
    rw [f96_l0, dec_true (show ((i : Nat) : Int) < ((lenE 2 s.length : Nat) : Int) by omega), dec_true (show (0 : Int) ≤ ((i : Nat) : Int) by omega), Int.toNat_natCast, e1, e2, e4, e5, wrap_succ (by omega), e3, anyR, fstR]
    cases rgI r0 x.intOf y.intOf
    · rw [show i + 1 + fstR r0 (s.drop (2 * (i + 1))) = i + (fstR r0 (s.drop (2 * (i + 1))) + 1) by omega] at IH
      exact IH
    · rfl
theorem f96_s0_eq (s : List V) (v7 : Int) (v8 : Int) (r0 : Int) (hp : ((v7 == ((lenE 2 s.length : Nat) : Int)) && (v8 == 0) && okR s && decide (s.length ≤ 1000000000)) = true) : ∃ n, ∀ (R : Type) (κ : Ex → St → Option R), f96_l0 n s v7 v8 r0 R κ = f96_s0 s v7 v8 r0 R κ := by
  simp only [Bool.and_eq_true, decide_eq_true_eq, beq_iff_eq] at hp
  obtain ⟨⟨⟨rfl, rfl⟩, h3⟩, h4⟩ := hp
  refine ⟨lenE 2 s.length + 1, fun R κ => ?_⟩
  have := f96_loop s h3 h4 r0 R κ (lenE 2 s.length) 0 (by omega)
  rw [Nat.mul_zero, List.drop_zero, Nat.zero_add] at this
  exact this
def t_f96_l0 (st : St) (R : Type) (κ : Ex → St → Option R) : Option R := bif ckS f96_l0_ls f96_l0_rs st then (bif ((((st.env 7).intOf) == ((lenE 2 ((st.env 0).cellsOf).length : Nat) : Int)) && (((st.env 8).intOf) == 0) && okR ((st.env 0).cellsOf) && decide (((st.env 0).cellsOf).length ≤ 1000000000)) then f96_s0 ((st.env 0).cellsOf) ((st.env 7).intOf) ((st.env 8).intOf) ((nthV (rowOf (st.regs (.par 0))) 0).intOf) R κ else none) else none
theorem t_f96_l0_ok : ∀ st0 R κ r, t_f96_l0 (forget C 96 [0, 1, 0, 1] st0) R κ = some r → ∃ ee ss, κ ee ss = some r ∧ RunP C prim 96 [0, 1, 0, 1] (forget C 96 [0, 1, 0, 1] st0) ee ss := by
  intro st0 R κ r h
  obtain ⟨hs, h⟩ := cond_some h
  obtain ⟨hp, h⟩ := cond_some h
  rw [canon (ls := f96_l0_ls) (rs := f96_l0_rs) (by kernel_rfl) st0 hs]
  obtain ⟨n, hn⟩ := f96_s0_eq _ _ _ _ hp
  rw [← hn] at h
  exact f96_l0_ok n _ _ _ _ R κ r h

def K_f96 : CallK := kNil
theorem K_f96_ok : KOK C prim K_f96 := KOK.nil
def T_f96 : Tab := tCons [0, 1, 0, 1] t_f96_l0 <| tNil
theorem T_f96_ok : TOK C prim 96 T_f96 := TOK.cons t_f96_l0_ok <| TOK.nil
def f96 (s : List V) (r0 : Int) : Option (V × List Rg) :=
  bif (((((lenE 2 s.length) : Nat) : Int) == ((lenE 2 s.length : Nat) : Int)) && ((0 : Int) == 0) && okR s && decide (s.length ≤ 1000000000)) then
    bif (anyR r0 s) then
      some (.sc (.int .i64 ((fstR r0 s : Nat) : Int)), [⟨true, [.sc (.int .i64 r0)]⟩])
    else
      some (.sc (.int .i64 (-1)), [⟨true, [.sc (.int .i64 r0)]⟩])
  else none
theorem f96_run (s : List V) (r0 : Int) (z9 : V × List Rg) (h : f96 s r0 = some z9) : CallR C prim 96 [.sl 2 s, .fn 64 [] [.ptrB (.par 0) 0]] [⟨true, [.sc (.int .i64 r0)]⟩] z9 := by
  refine call_fn (K := K_f96) (T := T_f96) K_f96_ok T_f96_ok (by kernel_rfl) ?_
  refine Eq.trans ?_ h
  kernel_rfl

theorem f96_eq (s : List V) (r0 : Int) (hp : (okR s && decide (s.length ≤ 1000000000)) = true) : f96 s r0 = some (.sc (.int .i64 (idxR r0 s)), [⟨true, [.sc (.int .i64 r0)]⟩]) := by
  simp only [Bool.and_eq_true] at hp
  unfold f96 idxR
  rw [beq_self_eq_true, hp.1, hp.2]
  cases anyR r0 s <;> rfl
def k96 : PrimT := fun vs gs => match vs, gs with
  | [.sl 2 s, .fn 64 [] [.ptrB (.par 0) 0]], [⟨true, [.sc (.int .i64 r0)]⟩] => ((okR s && decide (s.length ≤ 1000000000)), .sc (.int .i64 (idxR r0 s)), [⟨true, [.sc (.int .i64 r0)]⟩])
  | _, _ => (false, .bad, [])
theorem k96_ok : ∀ vs gs x, k96 vs gs = (true, x) → CallR C prim 96 vs gs x := by
  intro vs gs x h
  unfold k96 at h
  split at h
  · simp only [Prod.mk.injEq] at h
    obtain ⟨hp, rfl⟩ := h
    exact f96_run _ _ _ (f96_eq _ _ hp)
  · cases h

def K_f63 : CallK := kCons 96 k96 <| kNil
theorem K_f63_ok : KOK C prim K_f63 := KOK.cons k96_ok <| KOK.nil
def T_f63 : Tab := tNil
theorem T_f63_ok : TOK C prim 63 T_f63 := TOK.nil
def f63 (s : List V) (r0 : Int) : Option (V × List Rg) :=
  bif ((okR s && decide (s.length ≤ 1000000000)) && true) then
    some (.sc (.bool (decide ((idxR r0 s) ≥ 0))), [⟨true, [.sc (.int .i64 r0)]⟩])
  else none
theorem f63_run (s : List V) (r0 : Int) (z9 : V × List Rg) (h : f63 s r0 = some z9) : CallR C prim 63 [.sl 2 s, .fn 64 [] [.ptrB (.par 0) 0]] [⟨true, [.sc (.int .i64 r0)]⟩] z9 := by
  refine call_fn (K := K_f63) (T := T_f63) K_f63_ok T_f63_ok (by kernel_rfl) ?_
  refine Eq.trans ?_ h
  kernel_rfl

theorem f63_eq (s : List V) (r0 : Int) (hp : (okR s && decide (s.length ≤ 1000000000)) = true) : f63 s r0 = some (.sc (.bool (anyR r0 s)), [⟨true, [.sc (.int .i64 r0)]⟩]) := by
  unfold f63 idxR
  rw [hp]
  cases h : anyR r0 s with
  | false => rfl
  | true =>
    have : decide (((fstR r0 s : Nat) : Int) ≥ 0) = true := dec_true (by omega)
    show some (V.sc (.bool (decide (((fstR r0 s : Nat) : Int) ≥ 0))), _) = _
    rw [this]
def k63 : PrimT := fun vs gs => match vs, gs with
  | [.sl 2 s, .fn 64 [] [.ptrB (.par 0) 0]], [⟨true, [.sc (.int .i64 r0)]⟩] => ((okR s && decide (s.length ≤ 1000000000)), .sc (.bool (anyR r0 s)), [⟨true, [.sc (.int .i64 r0)]⟩])
  | _, _ => (false, .bad, [])
theorem k63_ok : ∀ vs gs x, k63 vs gs = (true, x) → CallR C prim 63 vs gs x := by
  intro vs gs x h
  unfold k63 at h
  split at h
  · simp only [Prod.mk.injEq] at h
    obtain ⟨hp, rfl⟩ := h
    exact f63_run _ _ _ (f63_eq _ _ hp)
  · cases h

def K_f31 : CallK := kCons 63 k63 <| kNil
theorem K_f31_ok : KOK C prim K_f31 := KOK.cons k63_ok <| KOK.nil
def T_f31 : Tab := tNil
theorem T_f31_ok : TOK C prim 31 T_f31 := TOK.nil
def f31 (o0 : Bool) (o1 : List V) (o2 : Bool) (o3 : ByteArray) (o4 : Bool) (o5 : ByteArray) (n' : Int) : Option (V × List Rg) :=
  bif ((okR o1 && decide (o1.length ≤ 1000000000)) && true) then
    some (.sc (.bool (!((anyR n' o1) == o2))), [])
  else none
theorem f31_run (o0 : Bool) (o1 : List V) (o2 : Bool) (o3 : ByteArray) (o4 : Bool) (o5 : ByteArray) (n' : Int) (z9 : V × List Rg) (h : f31 o0 o1 o2 o3 o4 o5 n' = some z9) : CallR C prim 31 [.ag [.sc (.bool o0), .sl 2 o1, .sc (.bool o2), .sc (.string o3), .sc (.bool o4), .sc (.string o5)], .sc (.int .i64 n')] [] z9 := by
  refine call_fn (K := K_f31) (T := T_f31) K_f31_ok T_f31_ok (by kernel_rfl) ?_
  refine Eq.trans ?_ h
  kernel_rfl

theorem f31_eq (o0 : Bool) (o1 : List V) (o2 : Bool) (o3 : ByteArray) (o4 : Bool) (o5 : ByteArray) (n' : Int) (hp : (okR o1 && decide (o1.length ≤ 1000000000)) = true) : f31 o0 o1 o2 o3 o4 o5 n' = some (.sc (.bool (tkR o1 o2 n')), []) := by
  unfold f31
  rw [hp]
  rfl
def k31 : PrimT := fun vs gs => match vs, gs with
  | [.ag [.sc (.bool o0), .sl 2 o1, .sc (.bool o2), .sc (.string o3), .sc (.bool o4), .sc (.string o5)], .sc (.int .i64 n')], [] => ((okR o1 && decide (o1.length ≤ 1000000000)), .sc (.bool (tkR o1 o2 n')), [])
  | _, _ => (false, .bad, [])
theorem k31_ok : ∀ vs gs x, k31 vs gs = (true, x) → CallR C prim 31 vs gs x := by
  intro vs gs x h
  unfold k31 at h
  split at h
  · simp only [Prod.mk.injEq] at h
    obtain ⟨hp, rfl⟩ := h
    exact f31_run _ _ _ _ _ _ _ _ (f31_eq _ _ _ _ _ _ _ hp)
  · cases h

def K_f26_l0 : CallK := kCons 40 k40 <| kNil
theorem K_f26_l0_ok : KOK C prim K_f26_l0 := KOK.cons k40_ok <| KOK.nil
def T_f26_l0 : Tab := tNil
theorem T_f26_l0_ok : TOK C prim 26 T_f26_l0 := TOK.nil
def f26_l0 : Nat → List V → Int → Int → Bool → List V → Bool → ByteArray → Bool → ByteArray → (R : Type) → (Ex → St → Option R) → Option R
  | 0, _, _, _, _, _, _, _, _, _, _, _ => none
  | n + 1, v16, v17, v18, o0, o1, o2, o3, o4, o5, R, κ =>
    bif (decide (v18 < v17)) then
      bif (((decide ((0 : Int) ≤ v18)) && (decide (v18 < (((lenE 2 v16.length) : Nat) : Int)))) && true) then
        bif (((V.isInt .i64 (nthV v16 (((v18).toNat * 2) + 0))) && ((V.isInt .i64 (nthV v16 (((v18).toNat * 2) + 1))) && true)) && true) then
          bif (!(decide ((V.intOf (nthV v16 (((v18).toNat * 2) + 0))) ≥ (1 : Int)) && decide ((V.intOf (nthV v16 (((v18).toNat * 2) + 0))) ≤ (4096 : Int)))) then
            κ .rt (mkS [(1, .ptrB (.loc 1) 0), (2, .sc (.int .i64 3))] [(.loc 1, some ⟨true, [.sc (.bool o0), .sl 2 o1, .sc (.bool o2), .sc (.string o3), .sc (.bool o4), .sc (.string o5)]⟩)])
          else
            bif ((V.intOf (nthV v16 (((v18).toNat * 2) + 1))) != 0) then
              bif (!(decide ((V.intOf (nthV v16 (((v18).toNat * 2) + 1))) ≥ (V.intOf (nthV v16 (((v18).toNat * 2) + 0)))) && decide ((V.intOf (nthV v16 (((v18).toNat * 2) + 1))) ≤ (4096 : Int)))) then
                κ .rt (mkS [(1, .ptrB (.loc 1) 0), (2, .sc (.int .i64 3))] [(.loc 1, some ⟨true, [.sc (.bool o0), .sl 2 o1, .sc (.bool o2), .sc (.string o3), .sc (.bool o4), .sc (.string o5)]⟩)])
              else
                f26_l0 n v16 v17 (IntKind.wrap .i64 (v18 + 1)) o0 o1 o2 o3 o4 o5 R κ
            else
              f26_l0 n v16 v17 (IntKind.wrap .i64 (v18 + 1)) o0 o1 o2 o3 o4 o5 R κ
        else none
      else none
    else
      κ (.ex 1) (mkS [(1, .ptrB (.loc 1) 0), (2, .bad)] [(.loc 1, some ⟨true, [.sc (.bool o0), .sl 2 o1, .sc (.bool o2), .sc (.string o3), .sc (.bool o4), .sc (.string o5)]⟩)])
def f26_l0_ls : List (Nat × Pat) := [(1, .is (.ptrB (.loc 1) 0)), (16, .sl 2), (17, .i .i64), (18, .i .i64)]
def f26_l0_rs : List RPat := [⟨.loc 1, true, [.b, .sl 2, .b, .s, .b, .s]⟩]
theorem f26_l0_ok (n : Nat) : ∀ (v16 : List V) (v17 : Int) (v18 : Int) (o0 : Bool) (o1 : List V) (o2 : Bool) (o3 : ByteArray) (o4 : Bool) (o5 : ByteArray) (R : Type) (κ : Ex → St → Option R) (r : R), f26_l0 n v16 v17 v18 o0 o1 o2 o3 o4 o5 R κ = some r → ∃ ee ss, κ ee ss = some r ∧ RunP C prim 26 [0, 1, 0, 1, 1] (mkS [(1, .ptrB (.loc 1) 0), (16, .sl 2 v16), (17, .sc (.int .i64 v17)), (18, .sc (.int .i64 v18))] [(.loc 1, some ⟨true, [.sc (.bool o0), .sl 2 o1, .sc (.bool o2), .sc (.string o3), .sc (.bool o4), .sc (.string o5)]⟩)]) ee ss := by
  induction n with
  | zero => intro v16 v17 v18 o0 o1 o2 o3 o4 o5 R κ r h; cases h
  | succ n ih =>
    intro v16 v17 v18 o0 o1 o2 o3 o4 o5 R κ r h
    refine loop_round (K := K_f26_l0) (T := T_f26_l0) K_f26_l0_ok T_f26_l0_ok (p := [0, 1, 0, 1, 1]) (by kernel_rfl) (fun st => bif ckS f26_l0_ls f26_l0_rs st then f26_l0 n ((st.env 16).cellsOf) ((st.env 17).intOf) ((st.env 18).intOf) ((nthV (rowOf (st.regs (.loc 1))) 0).boolOf) ((nthV (rowOf (st.regs (.loc 1))) 1).cellsOf) ((nthV (rowOf (st.regs (.loc 1))) 2).boolOf) ((nthV (rowOf (st.regs (.loc 1))) 3).strOf) ((nthV (rowOf (st.regs (.loc 1))) 4).boolOf) ((nthV (rowOf (st.regs (.loc 1))) 5).strOf) R κ else none) (fun st0 h0 => ?_) ?_
    · obtain ⟨hs, h0⟩ := cond_some h0
      rw [canon (ls := f26_l0_ls) (rs := f26_l0_rs) (by kernel_rfl) st0 hs]
      exact ih _ _ _ _ _ _ _ _ _ R κ r h0
    · refine Eq.trans ?_ h
      kernel_rfl

def f26_s0 (v16 : List V) (v17 : Int) (v18 : Int) (o0 : Bool) (o1 : List V) (o2 : Bool) (o3 : ByteArray) (o4 : Bool) (o5 : ByteArray) (R : Type) (κ : Ex → St → Option R) : Option R :=
  bif (rowsBad v16) then
    κ .rt (mkS [(1, .ptrB (.loc 1) 0), (2, .sc (.int .i64 3))] [(.loc 1, some ⟨true, [.sc (.bool o0), .sl 2 o1, .sc (.bool o2), .sc (.string o3), .sc (.bool o4), .sc (.string o5)]⟩)])
  else
    κ (.ex 1) (mkS [(1, .ptrB (.loc 1) 0), (2, .bad)] [(.loc 1, some ⟨true, [.sc (.bool o0), .sl 2 o1, .sc (.bool o2), .sc (.string o3), .sc (.bool o4), .sc (.string o5)]⟩)])
theorem f26_loop (o0 : Bool) (o1 : List V) (o2 : Bool) (o3 : ByteArray) (o4 : Bool) (o5 : ByteArray) (s : List V) (hs : okR s = true) (hn : s.length ≤ 1000000000) (R : Type) (κ : Ex → St → Option R) : ∀ (k i : Nat), i + k = lenE 2 s.length →
    f26_l0 (k + 1) s ((lenE 2 s.length : Nat) : Int) ((i : Nat) : Int) o0 o1 o2 o3 o4 o5 R κ = (bif rowsBad (s.drop (2 * i)) then κ .rt (mkS [(1, .ptrB (.loc 1) 0), (2, .sc (.int .i64 3))] [(.loc 1, some ⟨true, [.sc (.bool o0), .sl 2 o1, .sc (.bool o2), .sc (.string o3), .sc (.bool o4), .sc (.string o5)]⟩)]) else κ (.ex 1) (mkS [(1, .ptrB (.loc 1) 0), (2, .bad)] [(.loc 1, some ⟨true, [.sc (.bool o0), .sl 2 o1, .sc (.bool o2), .sc (.string o3), .sc (.bool o4), .sc (.string o5)]⟩)]))
  | 0, i, h => by
    rw [f26_l0, dec_false (by omega), pair_end hs (by omega)]
    rfl
  | k + 1, i, h => by
    obtain ⟨x, y, e1, e2, e3, e4, e5⟩ := pair_at s i hs (by omega)
    have IH := f26_loop o0 o1 o2 o3 o4 o5 s hs hn R κ k (i + 1) (by omega)
    have hb : lenE 2 s.length ≤ s.length := Nat.div_le_self _ _
    rw [f26_l0, dec_true (show ((i : Nat) : Int) < ((lenE 2 s.length : Nat) : Int) by omega), dec_true (show (0 : Int) ≤ ((i : Nat) : Int) by omega), Int.toNat_natCast, e1, e2, e4, e5, wrap_succ (by omega), e3, rowsBad]
    unfold rowBad
    cases (!(decide (x.intOf ≥ 1) && decide (x.intOf ≤ 4096)))
    · cases (y.intOf != 0)
      · exact IH
      · cases (!(decide (y.intOf ≥ x.intOf) && decide (y.intOf ≤ 4096)))
        · exact IH
        · rfl
    · rfl
theorem f26_s0_eq (v16 : List V) (v17 : Int) (v18 : Int) (o0 : Bool) (o1 : List V) (o2 : Bool) (o3 : ByteArray) (o4 : Bool) (o5 : ByteArray) (hp : ((v17 == ((lenE 2 v16.length : Nat) : Int)) && (v18 == 0) && okR v16 && decide (v16.length ≤ 1000000000)) = true) : ∃ n, ∀ (R : Type) (κ : Ex → St → Option R), f26_l0 n v16 v17 v18 o0 o1 o2 o3 o4 o5 R κ = f26_s0 v16 v17 v18 o0 o1 o2 o3 o4 o5 R κ := by
  simp only [Bool.and_eq_true, decide_eq_true_eq, beq_iff_eq] at hp
  obtain ⟨⟨⟨rfl, rfl⟩, h3⟩, h4⟩ := hp
  exact ⟨lenE 2 v16.length + 1, fun R κ => f26_loop o0 o1 o2 o3 o4 o5 v16 h3 h4 R κ (lenE 2 v16.length) 0 (by omega)⟩
def t_f26_l0 (st : St) (R : Type) (κ : Ex → St → Option R) : Option R := bif ckS f26_l0_ls f26_l0_rs st then (bif ((((st.env 17).intOf) == ((lenE 2 ((st.env 16).cellsOf).length : Nat) : Int)) && (((st.env 18).intOf) == 0) && okR ((st.env 16).cellsOf) && decide (((st.env 16).cellsOf).length ≤ 1000000000)) then f26_s0 ((st.env 16).cellsOf) ((st.env 17).intOf) ((st.env 18).intOf) ((nthV (rowOf (st.regs (.loc 1))) 0).boolOf) ((nthV (rowOf (st.regs (.loc 1))) 1).cellsOf) ((nthV (rowOf (st.regs (.loc 1))) 2).boolOf) ((nthV (rowOf (st.regs (.loc 1))) 3).strOf) ((nthV (rowOf (st.regs (.loc 1))) 4).boolOf) ((nthV (rowOf (st.regs (.loc 1))) 5).strOf) R κ else none) else none
theorem t_f26_l0_ok : ∀ st0 R κ r, t_f26_l0 (forget C 26 [0, 1, 0, 1, 1] st0) R κ = some r → ∃ ee ss, κ ee ss = some r ∧ RunP C prim 26 [0, 1, 0, 1, 1] (forget C 26 [0, 1, 0, 1, 1] st0) ee ss := by
  intro st0 R κ r h
  obtain ⟨hs, h⟩ := cond_some h
  obtain ⟨hp, h⟩ := cond_some h
  rw [canon (ls := f26_l0_ls) (rs := f26_l0_rs) (by kernel_rfl) st0 hs]
  obtain ⟨n, hn⟩ := f26_s0_eq _ _ _ _ _ _ _ _ _ hp
  rw [← hn] at h
  exact f26_l0_ok n _ _ _ _ _ _ _ _ _ R κ r h

def K_f26 : CallK := kCons 24 k24 <| kNil
theorem K_f26_ok : KOK C prim K_f26 := KOK.cons k24_ok <| KOK.nil
def T_f26 : Tab := tCons [0, 1, 0, 1, 1] t_f26_l0 <| tNil
theorem T_f26_ok : TOK C prim 26 T_f26 := TOK.cons t_f26_l0_ok <| TOK.nil
def f26 (o0 : Bool) (o1 : List V) (o2 : Bool) (o3 : ByteArray) (o4 : Bool) (o5 : ByteArray) : Option (V × List Rg) :=
  bif ((((lenE 2 o1.length) : Nat) : Int) == 0) then
    some (.sc (.int .i64 23), [])
  else
    bif (decide ((((lenE 2 o1.length) : Nat) : Int) > 64)) then
      some (.sc (.int .i64 2), [])
    else
      bif (((((lenE 2 o1.length) : Nat) : Int) == ((lenE 2 o1.length : Nat) : Int)) && ((0 : Int) == 0) && okR o1 && decide (o1.length ≤ 1000000000)) then
        bif (rowsBad o1) then
          some (.sc (.int .i64 3), [])
        else
          bif o0 then
            bif (((o3.size : Nat) : Int) != 1) then
              some (.sc (.int .i64 5), [])
            else
              bif (strEq o3 (⟨#[10]⟩ : ByteArray)) then
                some (.sc (.int .i64 5), [])
              else
                bif (!o0) then
                  bif (!(strEq o3 (⟨#[]⟩ : ByteArray))) then
                    some (.sc (.int .i64 5), [])
                  else
                    bif ((one1 (⟨#[10]⟩ : ByteArray)) && true) then
                      bif (hasS o5 (⟨#[10]⟩ : ByteArray)) then
                        some (.sc (.int .i64 5), [])
                      else
                        bif (decide (((o5.size : Nat) : Int) > 4096)) then
                          some (.sc (.int .i64 5), [])
                        else
                          some (.sc (.int .i64 0), [])
                    else none
                else
                  bif ((one1 (⟨#[10]⟩ : ByteArray)) && true) then
                    bif (hasS o5 (⟨#[10]⟩ : ByteArray)) then
                      some (.sc (.int .i64 5), [])
                    else
                      bif (decide (((o5.size : Nat) : Int) > 4096)) then
                        some (.sc (.int .i64 5), [])
                      else
                        some (.sc (.int .i64 0), [])
                  else none
          else
            bif (!o0) then
              bif (!(strEq o3 (⟨#[]⟩ : ByteArray))) then
                some (.sc (.int .i64 5), [])
              else
                bif ((one1 (⟨#[10]⟩ : ByteArray)) && true) then
                  bif (hasS o5 (⟨#[10]⟩ : ByteArray)) then
                    some (.sc (.int .i64 5), [])
                  else
                    bif (decide (((o5.size : Nat) : Int) > 4096)) then
                      some (.sc (.int .i64 5), [])
                    else
                      some (.sc (.int .i64 0), [])
                else none
            else
              bif ((one1 (⟨#[10]⟩ : ByteArray)) && true) then
                bif (hasS o5 (⟨#[10]⟩ : ByteArray)) then
                  some (.sc (.int .i64 5), [])
                else
                  bif (decide (((o5.size : Nat) : Int) > 4096)) then
                    some (.sc (.int .i64 5), [])
                  else
                    some (.sc (.int .i64 0), [])
              else none
      else none
theorem f26_run (o0 : Bool) (o1 : List V) (o2 : Bool) (o3 : ByteArray) (o4 : Bool) (o5 : ByteArray) (z9 : V × List Rg) (h : f26 o0 o1 o2 o3 o4 o5 = some z9) : CallR C prim 26 [.ag [.sc (.bool o0), .sl 2 o1, .sc (.bool o2), .sc (.string o3), .sc (.bool o4), .sc (.string o5)]] [] z9 := by
  refine call_fn (K := K_f26) (T := T_f26) K_f26_ok T_f26_ok (by kernel_rfl) ?_
  refine Eq.trans ?_ h
  kernel_rfl

theorem f26_eq (o0 : Bool) (o1 : List V) (o2 : Bool) (o3 : ByteArray) (o4 : Bool) (o5 : ByteArray) (hp : (okR o1 && decide (o1.length ≤ 1000000000) && decide (o5.size ≤ 1000000000)) = true) : f26 o0 o1 o2 o3 o4 o5 = some (.sc (.int .i64 (cutE o0 o1 o3 o5)), []) := by
  simp only [Bool.and_eq_true] at hp
  obtain ⟨⟨h1, h2⟩, h3⟩ := hp
  unfold f26 cutE formBad
  rw [beq_self_eq_true, h1, h2, hasS_nl]
  cases (((lenE 2 o1.length : Nat) : Int) == 0) with
  | true => rfl
  | false =>
  cases decide (((lenE 2 o1.length : Nat) : Int) > 64) with
  | true => rfl
  | false =>
  cases rowsBad o1 with
  | true => rfl
  | false =>
  cases o0 <;> cases (((o3.size : Nat) : Int) != 1) <;> cases strEq o3 ⟨#[10]⟩ <;> cases strEq o3 ⟨#[]⟩ <;> cases hasB o5 10 <;> cases decide (((o5.size : Nat) : Int) > 4096) <;> rfl
def k26 : PrimT := fun vs gs => match vs, gs with
  | [.ag [.sc (.bool o0), .sl 2 o1, .sc (.bool o2), .sc (.string o3), .sc (.bool o4), .sc (.string o5)]], [] => ((okR o1 && decide (o1.length ≤ 1000000000) && decide (o5.size ≤ 1000000000)), .sc (.int .i64 (cutE o0 o1 o3 o5)), [])
  | _, _ => (false, .bad, [])
theorem k26_ok : ∀ vs gs x, k26 vs gs = (true, x) → CallR C prim 26 vs gs x := by
  intro vs gs x h
  unfold k26 at h
  split at h
  · simp only [Prod.mk.injEq] at h
    obtain ⟨hp, rfl⟩ := h
    exact f26_run _ _ _ _ _ _ _ (f26_eq _ _ _ _ _ _ hp)
  · cases h

def K_f9_l0 : CallK := kNil
theorem K_f9_l0_ok : KOK C prim K_f9_l0 := KOK.nil
def T_f9_l0 : Tab := tNil
theorem T_f9_l0_ok : TOK C prim 9 T_f9_l0 := TOK.nil
def f9_l0 : Nat → List V → Int → Int → Bool → List V → Bool → ByteArray → Bool → ByteArray → (R : Type) → (Ex → St → Option R) → Option R
  | 0, _, _, _, _, _, _, _, _, _, _, _ => none
  | n + 1, v14, v15, v16, o0, o1, o2, o3, o4, o5, R, κ =>
    bif (decide (v16 < v15)) then
      bif (((decide ((0 : Int) ≤ v16)) && (decide (v16 < (((lenE 2 v14.length) : Nat) : Int)))) && true) then
        bif (((V.isInt .i64 (nthV v14 (((v16).toNat * 2) + 0))) && ((V.isInt .i64 (nthV v14 (((v16).toNat * 2) + 1))) && true)) && true) then
          bif (decide ((V.intOf (nthV v14 (((v16).toNat * 2) + 0))) < 1)) then
            κ .rt (mkS [(1, .ptrB (.loc 1) 0), (2, .sc (.int .i64 3))] [(.loc 1, some ⟨true, [.sc (.bool o0), .sl 2 o1, .sc (.bool o2), .sc (.string o3), .sc (.bool o4), .sc (.string o5)]⟩)])
          else
            bif (decide ((V.intOf (nthV v14 (((v16).toNat * 2) + 0))) > 4096)) then
              κ .rt (mkS [(1, .ptrB (.loc 1) 0), (2, .sc (.int .i64 3))] [(.loc 1, some ⟨true, [.sc (.bool o0), .sl 2 o1, .sc (.bool o2), .sc (.string o3), .sc (.bool o4), .sc (.string o5)]⟩)])
            else
              bif ((V.intOf (nthV v14 (((v16).toNat * 2) + 1))) != 0) then
                bif (decide ((V.intOf (nthV v14 (((v16).toNat * 2) + 1))) < (V.intOf (nthV v14 (((v16).toNat * 2) + 0))))) then
                  κ .rt (mkS [(1, .ptrB (.loc 1) 0), (2, .sc (.int .i64 3))] [(.loc 1, some ⟨true, [.sc (.bool o0), .sl 2 o1, .sc (.bool o2), .sc (.string o3), .sc (.bool o4), .sc (.string o5)]⟩)])
                else
                  bif (decide ((V.intOf (nthV v14 (((v16).toNat * 2) + 1))) > 4096)) then
                    κ .rt (mkS [(1, .ptrB (.loc 1) 0), (2, .sc (.int .i64 3))] [(.loc 1, some ⟨true, [.sc (.bool o0), .sl 2 o1, .sc (.bool o2), .sc (.string o3), .sc (.bool o4), .sc (.string o5)]⟩)])
                  else
                    f9_l0 n v14 v15 (IntKind.wrap .i64 (v16 + 1)) o0 o1 o2 o3 o4 o5 R κ
              else
                f9_l0 n v14 v15 (IntKind.wrap .i64 (v16 + 1)) o0 o1 o2 o3 o4 o5 R κ
        else none
      else none
    else
      κ (.ex 0) (mkS [(1, .ptrB (.loc 1) 0), (2, .bad)] [(.loc 1, some ⟨true, [.sc (.bool o0), .sl 2 o1, .sc (.bool o2), .sc (.string o3), .sc (.bool o4), .sc (.string o5)]⟩)])
def f9_l0_ls : List (Nat × Pat) := [(1, .is (.ptrB (.loc 1) 0)), (14, .sl 2), (15, .i .i64), (16, .i .i64)]
def f9_l0_rs : List RPat := [⟨.loc 1, true, [.b, .sl 2, .b, .s, .b, .s]⟩]
theorem f9_l0_ok (n : Nat) : ∀ (v14 : List V) (v15 : Int) (v16 : Int) (o0 : Bool) (o1 : List V) (o2 : Bool) (o3 : ByteArray) (o4 : Bool) (o5 : ByteArray) (R : Type) (κ : Ex → St → Option R) (r : R), f9_l0 n v14 v15 v16 o0 o1 o2 o3 o4 o5 R κ = some r → ∃ ee ss, κ ee ss = some r ∧ RunP C prim 9 [0, 1, 0, 1, 1, 1] (mkS [(1, .ptrB (.loc 1) 0), (14, .sl 2 v14), (15, .sc (.int .i64 v15)), (16, .sc (.int .i64 v16))] [(.loc 1, some ⟨true, [.sc (.bool o0), .sl 2 o1, .sc (.bool o2), .sc (.string o3), .sc (.bool o4), .sc (.string o5)]⟩)]) ee ss := by
  induction n with
  | zero => intro v14 v15 v16 o0 o1 o2 o3 o4 o5 R κ r h; cases h
  | succ n ih =>
    intro v14 v15 v16 o0 o1 o2 o3 o4 o5 R κ r h
    refine loop_round (K := K_f9_l0) (T := T_f9_l0) K_f9_l0_ok T_f9_l0_ok (p := [0, 1, 0, 1, 1, 1]) (by kernel_rfl) (fun st => bif ckS f9_l0_ls f9_l0_rs st then f9_l0 n ((st.env 14).cellsOf) ((st.env 15).intOf) ((st.env 16).intOf) ((nthV (rowOf (st.regs (.loc 1))) 0).boolOf) ((nthV (rowOf (st.regs (.loc 1))) 1).cellsOf) ((nthV (rowOf (st.regs (.loc 1))) 2).boolOf) ((nthV (rowOf (st.regs (.loc 1))) 3).strOf) ((nthV (rowOf (st.regs (.loc 1))) 4).boolOf) ((nthV (rowOf (st.regs (.loc 1))) 5).strOf) R κ else none) (fun st0 h0 => ?_) ?_
    · obtain ⟨hs, h0⟩ := cond_some h0
      rw [canon (ls := f9_l0_ls) (rs := f9_l0_rs) (by kernel_rfl) st0 hs]
      exact ih _ _ _ _ _ _ _ _ _ R κ r h0
    · refine Eq.trans ?_ h
      kernel_rfl

def f9_s0 (v14 : List V) (v15 : Int) (v16 : Int) (o0 : Bool) (o1 : List V) (o2 : Bool) (o3 : ByteArray) (o4 : Bool) (o5 : ByteArray) (R : Type) (κ : Ex → St → Option R) : Option R :=
  bif (rowsBad v14) then
    κ .rt (mkS [(1, .ptrB (.loc 1) 0), (2, .sc (.int .i64 3))] [(.loc 1, some ⟨true, [.sc (.bool o0), .sl 2 o1, .sc (.bool o2), .sc (.string o3), .sc (.bool o4), .sc (.string o5)]⟩)])
  else
    κ (.ex 0) (mkS [(1, .ptrB (.loc 1) 0), (2, .bad)] [(.loc 1, some ⟨true, [.sc (.bool o0), .sl 2 o1, .sc (.bool o2), .sc (.string o3), .sc (.bool o4), .sc (.string o5)]⟩)])
theorem f9_loop (o0 : Bool) (o1 : List V) (o2 : Bool) (o3 : ByteArray) (o4 : Bool) (o5 : ByteArray) (s : List V) (hs : okR s = true) (hn : s.length ≤ 1000000000) (R : Type) (κ : Ex → St → Option R) : ∀ (k i : Nat), i + k = lenE 2 s.length →
    f9_l0 (k + 1) s ((lenE 2 s.length : Nat) : Int) ((i : Nat) : Int) o0 o1 o2 o3 o4 o5 R κ = (bif rowsBad (s.drop (2 * i)) then κ .rt (mkS [(1, .ptrB (.loc 1) 0), (2, .sc (.int .i64 3))] [(.loc 1, some ⟨true, [.sc (.bool o0), .sl 2 o1, .sc (.bool o2), .sc (.string o3), .sc (.bool o4), .sc (.string o5)]⟩)]) else κ (.ex 0) (mkS [(1, .ptrB (.loc 1) 0), (2, .bad)] [(.loc 1, some ⟨true, [.sc (.bool o0), .sl 2 o1, .sc (.bool o2), .sc (.string o3), .sc (.bool o4), .sc (.string o5)]⟩)]))
  | 0, i, h => by
    rw [f9_l0, dec_false (by omega), pair_end hs (by omega)]
    rfl
  | k + 1, i, h => by
    obtain ⟨x, y, e1, e2, e3, e4, e5⟩ := pair_at s i hs (by omega)
    have IH := f9_loop o0 o1 o2 o3 o4 o5 s hs hn R κ k (i + 1) (by omega)
    have hb : lenE 2 s.length ≤ s.length := Nat.div_le_self _ _
    rw [f9_l0, dec_true (show ((i : Nat) : Int) < ((lenE 2 s.length : Nat) : Int) by omega), dec_true (show (0 : Int) ≤ ((i : Nat) : Int) by omega), Int.toNat_natCast, e1, e2, e4, e5, wrap_succ (by omega), e3, rowsBad]
    rw [rowBad_eq]
    cases decide (x.intOf < 1)
    · cases decide (x.intOf > 4096)
      · cases (y.intOf != 0)
        · exact IH
        · cases decide (y.intOf < x.intOf)
          · cases decide (y.intOf > 4096)
            · exact IH
            · rfl
          · rfl
      · rfl
    · rfl
theorem f9_s0_eq (v14 : List V) (v15 : Int) (v16 : Int) (o0 : Bool) (o1 : List V) (o2 : Bool) (o3 : ByteArray) (o4 : Bool) (o5 : ByteArray) (hp : ((v15 == ((lenE 2 v14.length : Nat) : Int)) && (v16 == 0) && okR v14 && decide (v14.length ≤ 1000000000)) = true) : ∃ n, ∀ (R : Type) (κ : Ex → St → Option R), f9_l0 n v14 v15 v16 o0 o1 o2 o3 o4 o5 R κ = f9_s0 v14 v15 v16 o0 o1 o2 o3 o4 o5 R κ := by
  simp only [Bool.and_eq_true, decide_eq_true_eq, beq_iff_eq] at hp
  obtain ⟨⟨⟨rfl, rfl⟩, h3⟩, h4⟩ := hp
  exact ⟨lenE 2 v14.length + 1, fun R κ => f9_loop o0 o1 o2 o3 o4 o5 v14 h3 h4 R κ (lenE 2 v14.length) 0 (by omega)⟩
def t_f9_l0 (st : St) (R : Type) (κ : Ex → St → Option R) : Option R := bif ckS f9_l0_ls f9_l0_rs st then (bif ((((st.env 15).intOf) == ((lenE 2 ((st.env 14).cellsOf).length : Nat) : Int)) && (((st.env 16).intOf) == 0) && okR ((st.env 14).cellsOf) && decide (((st.env 14).cellsOf).length ≤ 1000000000)) then f9_s0 ((st.env 14).cellsOf) ((st.env 15).intOf) ((st.env 16).intOf) ((nthV (rowOf (st.regs (.loc 1))) 0).boolOf) ((nthV (rowOf (st.regs (.loc 1))) 1).cellsOf) ((nthV (rowOf (st.regs (.loc 1))) 2).boolOf) ((nthV (rowOf (st.regs (.loc 1))) 3).strOf) ((nthV (rowOf (st.regs (.loc 1))) 4).boolOf) ((nthV (rowOf (st.regs (.loc 1))) 5).strOf) R κ else none) else none
theorem t_f9_l0_ok : ∀ st0 R κ r, t_f9_l0 (forget C 9 [0, 1, 0, 1, 1, 1] st0) R κ = some r → ∃ ee ss, κ ee ss = some r ∧ RunP C prim 9 [0, 1, 0, 1, 1, 1] (forget C 9 [0, 1, 0, 1, 1, 1] st0) ee ss := by
  intro st0 R κ r h
  obtain ⟨hs, h⟩ := cond_some h
  obtain ⟨hp, h⟩ := cond_some h
  rw [canon (ls := f9_l0_ls) (rs := f9_l0_rs) (by kernel_rfl) st0 hs]
  obtain ⟨n, hn⟩ := f9_s0_eq _ _ _ _ _ _ _ _ _ hp
  rw [← hn] at h
  exact f9_l0_ok n _ _ _ _ _ _ _ _ _ R κ r h

def K_f9 : CallK := kCons 34 k34 <| kNil
theorem K_f9_ok : KOK C prim K_f9 := KOK.cons k34_ok <| KOK.nil
def T_f9 : Tab := tCons [0, 1, 0, 1, 1, 1] t_f9_l0 <| tNil
theorem T_f9_ok : TOK C prim 9 T_f9 := TOK.cons t_f9_l0_ok <| TOK.nil
def f9 (o0 : Bool) (o1 : List V) (o2 : Bool) (o3 : ByteArray) (o4 : Bool) (o5 : ByteArray) : Option (V × List Rg) :=
  bif ((((lenE 2 o1.length) : Nat) : Int) == 0) then
    some (.sc (.int .i64 23), [])
  else
    bif (decide ((((lenE 2 o1.length) : Nat) : Int) > 64)) then
      some (.sc (.int .i64 2), [])
    else
      bif (((((lenE 2 o1.length) : Nat) : Int) == ((lenE 2 o1.length : Nat) : Int)) && ((0 : Int) == 0) && okR o1 && decide (o1.length ≤ 1000000000)) then
        bif (rowsBad o1) then
          some (.sc (.int .i64 3), [])
        else
          bif o0 then
            bif (((o3.size : Nat) : Int) != 1) then
              some (.sc (.int .i64 5), [])
            else
              bif (strEq o3 (⟨#[10]⟩ : ByteArray)) then
                some (.sc (.int .i64 5), [])
              else
                bif (!o0) then
                  bif (!(strEq o3 (⟨#[]⟩ : ByteArray))) then
                    some (.sc (.int .i64 5), [])
                  else
                    bif ((decide (o5.size ≤ 1000000000)) && true) then
                      bif (hasB o5 (10 : Int)) then
                        some (.sc (.int .i64 5), [])
                      else
                        bif (decide (((o5.size : Nat) : Int) > 4096)) then
                          some (.sc (.int .i64 5), [])
                        else
                          some (.sc (.int .i64 0), [])
                    else none
                else
                  bif ((decide (o5.size ≤ 1000000000)) && true) then
                    bif (hasB o5 (10 : Int)) then
                      some (.sc (.int .i64 5), [])
                    else
                      bif (decide (((o5.size : Nat) : Int) > 4096)) then
                        some (.sc (.int .i64 5), [])
                      else
                        some (.sc (.int .i64 0), [])
                  else none
          else
            bif (!o0) then
              bif (!(strEq o3 (⟨#[]⟩ : ByteArray))) then
                some (.sc (.int .i64 5), [])
              else
                bif ((decide (o5.size ≤ 1000000000)) && true) then
                  bif (hasB o5 (10 : Int)) then
                    some (.sc (.int .i64 5), [])
                  else
                    bif (decide (((o5.size : Nat) : Int) > 4096)) then
                      some (.sc (.int .i64 5), [])
                    else
                      some (.sc (.int .i64 0), [])
                else none
            else
              bif ((decide (o5.size ≤ 1000000000)) && true) then
                bif (hasB o5 (10 : Int)) then
                  some (.sc (.int .i64 5), [])
                else
                  bif (decide (((o5.size : Nat) : Int) > 4096)) then
                    some (.sc (.int .i64 5), [])
                  else
                    some (.sc (.int .i64 0), [])
              else none
      else none
theorem f9_run (o0 : Bool) (o1 : List V) (o2 : Bool) (o3 : ByteArray) (o4 : Bool) (o5 : ByteArray) (z9 : V × List Rg) (h : f9 o0 o1 o2 o3 o4 o5 = some z9) : CallR C prim 9 [.ag [.sc (.bool o0), .sl 2 o1, .sc (.bool o2), .sc (.string o3), .sc (.bool o4), .sc (.string o5)]] [] z9 := by
  refine call_fn (K := K_f9) (T := T_f9) K_f9_ok T_f9_ok (by kernel_rfl) ?_
  refine Eq.trans ?_ h
  kernel_rfl

theorem f9_eq (o0 : Bool) (o1 : List V) (o2 : Bool) (o3 : ByteArray) (o4 : Bool) (o5 : ByteArray) (hp : (okR o1 && decide (o1.length ≤ 1000000000) && decide (o5.size ≤ 1000000000)) = true) : f9 o0 o1 o2 o3 o4 o5 = some (.sc (.int .i64 (cutE o0 o1 o3 o5)), []) := by
  simp only [Bool.and_eq_true] at hp
  obtain ⟨⟨h1, h2⟩, h3⟩ := hp
  unfold f9 cutE formBad
  rw [beq_self_eq_true, h1, h2, h3]
  cases (((lenE 2 o1.length : Nat) : Int) == 0) with
  | true => rfl
  | false =>
  cases decide (((lenE 2 o1.length : Nat) : Int) > 64) with
  | true => rfl
  | false =>
  cases rowsBad o1 with
  | true => rfl
  | false =>
  cases o0 <;> cases (((o3.size : Nat) : Int) != 1) <;> cases strEq o3 ⟨#[10]⟩ <;> cases strEq o3 ⟨#[]⟩ <;> cases hasB o5 10 <;> cases decide (((o5.size : Nat) : Int) > 4096) <;> rfl
def k9 : PrimT := fun vs gs => match vs, gs with
  | [.ag [.sc (.bool o0), .sl 2 o1, .sc (.bool o2), .sc (.string o3), .sc (.bool o4), .sc (.string o5)]], [] => ((okR o1 && decide (o1.length ≤ 1000000000) && decide (o5.size ≤ 1000000000)), .sc (.int .i64 (cutE o0 o1 o3 o5)), [])
  | _, _ => (false, .bad, [])
theorem k9_ok : ∀ vs gs x, k9 vs gs = (true, x) → CallR C prim 9 vs gs x := by
  intro vs gs x h
  unfold k9 at h
  split at h
  · simp only [Prod.mk.injEq] at h
    obtain ⟨hp, rfl⟩ := h
    exact f9_run _ _ _ _ _ _ _ (f9_eq _ _ _ _ _ _ hp)
  · cases h

def K_f38_l0 : CallK := kNil
theorem K_f38_l0_ok : KOK C prim K_f38_l0 := KOK.nil
def T_f38_l0 : Tab := tNil
theorem T_f38_l0_ok : TOK C prim 38 T_f38_l0 := TOK.nil
def f38_l0 : Nat → Int → Bool → List V → Int → Int → Bool → List V → Bool → ByteArray → Bool → ByteArray → (R : Type) → (Ex → St → Option R) → Option R
  | 0, _, _, _, _, _, _, _, _, _, _, _, _, _ => none
  | n + 1, n', is, v8, v9, v10, r00, r01, r02, r03, r04, r05, R, κ =>
    bif (decide (v10 < v9)) then
      bif (((decide ((0 : Int) ≤ v10)) && (decide (v10 < (((lenE 2 v8.length) : Nat) : Int)))) && true) then
        bif (((V.isInt .i64 (nthV v8 (((v10).toNat * 2) + 0))) && ((V.isInt .i64 (nthV v8 (((v10).toNat * 2) + 1))) && true)) && true) then
          bif (decide (n' ≥ (V.intOf (nthV v8 (((v10).toNat * 2) + 0))))) then
            bif ((V.intOf (nthV v8 (((v10).toNat * 2) + 1))) == 0) then
              f38_l0 n n' true v8 v9 (IntKind.wrap .i64 (v10 + 1)) r00 r01 r02 r03 r04 r05 R κ
            else
              bif (decide (n' ≤ (V.intOf (nthV v8 (((v10).toNat * 2) + 1))))) then
                f38_l0 n n' true v8 v9 (IntKind.wrap .i64 (v10 + 1)) r00 r01 r02 r03 r04 r05 R κ
              else
                f38_l0 n n' is v8 v9 (IntKind.wrap .i64 (v10 + 1)) r00 r01 r02 r03 r04 r05 R κ
          else
            f38_l0 n n' is v8 v9 (IntKind.wrap .i64 (v10 + 1)) r00 r01 r02 r03 r04 r05 R κ
        else none
      else none
    else
      κ (.ex 0) (mkS [(1, .ptrB (.par 0) 0), (3, .bad), (4, .sc (.bool is))] [(.par 0, some ⟨true, [.sc (.bool r00), .sl 2 r01, .sc (.bool r02), .sc (.string r03), .sc (.bool r04), .sc (.string r05)]⟩)])
def f38_l0_ls : List (Nat × Pat) := [(0, .i .i64), (1, .is (.ptrB (.par 0) 0)), (4, .b), (8, .sl 2), (9, .i .i64), (10, .i .i64)]
def f38_l0_rs : List RPat := [⟨.par 0, true, [.b, .sl 2, .b, .s, .b, .s]⟩]
theorem f38_l0_ok (n : Nat) : ∀ (n' : Int) (is : Bool) (v8 : List V) (v9 : Int) (v10 : Int) (r00 : Bool) (r01 : List V) (r02 : Bool) (r03 : ByteArray) (r04 : Bool) (r05 : ByteArray) (R : Type) (κ : Ex → St → Option R) (r : R), f38_l0 n n' is v8 v9 v10 r00 r01 r02 r03 r04 r05 R κ = some r → ∃ ee ss, κ ee ss = some r ∧ RunP C prim 38 [0, 1, 0, 1, 1] (mkS [(0, .sc (.int .i64 n')), (1, .ptrB (.par 0) 0), (4, .sc (.bool is)), (8, .sl 2 v8), (9, .sc (.int .i64 v9)), (10, .sc (.int .i64 v10))] [(.par 0, some ⟨true, [.sc (.bool r00), .sl 2 r01, .sc (.bool r02), .sc (.string r03), .sc (.bool r04), .sc (.string r05)]⟩)]) ee ss := by
  induction n with
  | zero => intro n' is v8 v9 v10 r00 r01 r02 r03 r04 r05 R κ r h; cases h
  | succ n ih =>
    intro n' is v8 v9 v10 r00 r01 r02 r03 r04 r05 R κ r h
    refine loop_round (K := K_f38_l0) (T := T_f38_l0) K_f38_l0_ok T_f38_l0_ok (p := [0, 1, 0, 1, 1]) (by kernel_rfl) (fun st => bif ckS f38_l0_ls f38_l0_rs st then f38_l0 n ((st.env 0).intOf) ((st.env 4).boolOf) ((st.env 8).cellsOf) ((st.env 9).intOf) ((st.env 10).intOf) ((nthV (rowOf (st.regs (.par 0))) 0).boolOf) ((nthV (rowOf (st.regs (.par 0))) 1).cellsOf) ((nthV (rowOf (st.regs (.par 0))) 2).boolOf) ((nthV (rowOf (st.regs (.par 0))) 3).strOf) ((nthV (rowOf (st.regs (.par 0))) 4).boolOf) ((nthV (rowOf (st.regs (.par 0))) 5).strOf) R κ else none) (fun st0 h0 => ?_) ?_
    · obtain ⟨hs, h0⟩ := cond_some h0
      rw [canon (ls := f38_l0_ls) (rs := f38_l0_rs) (by kernel_rfl) st0 hs]
      exact ih _ _ _ _ _ _ _ _ _ _ _ R κ r h0
    · refine Eq.trans ?_ h
      kernel_rfl

def f38_s0 (n' : Int) (is : Bool) (v8 : List V) (v9 : Int) (v10 : Int) (r00 : Bool) (r01 : List V) (r02 : Bool) (r03 : ByteArray) (r04 : Bool) (r05 : ByteArray) (R : Type) (κ : Ex → St → Option R) : Option R :=
  κ (.ex 0) (mkS [(1, .ptrB (.par 0) 0), (3, .bad), (4, .sc (.bool (anyR n' v8)))] [(.par 0, some ⟨true, [.sc (.bool r00), .sl 2 r01, .sc (.bool r02), .sc (.string r03), .sc (.bool r04), .sc (.string r05)]⟩)])
theorem f38_loop (n' : Int) (r00 : Bool) (r01 : List V) (r02 : Bool) (r03 : ByteArray) (r04 : Bool) (r05 : ByteArray) (s : List V) (hs : okR s = true) (hn : s.length ≤ 1000000000) (R : Type) (κ : Ex → St → Option R) : ∀ (k i : Nat) (is : Bool), i + k = lenE 2 s.length →
    f38_l0 (k + 1) n' is s ((lenE 2 s.length : Nat) : Int) ((i : Nat) : Int) r00 r01 r02 r03 r04 r05 R κ = κ (.ex 0) (mkS [(1, .ptrB (.par 0) 0), (3, .bad), (4, .sc (.bool (is || anyR n' (s.drop (2 * i)))))] [(.par 0, some ⟨true, [.sc (.bool r00), .sl 2 r01, .sc (.bool r02), .sc (.string r03), .sc (.bool r04), .sc (.string r05)]⟩)])
  | 0, i, is, h => by
    rw [f38_l0, dec_false (by omega), pair_end hs (by omega), show anyR n' [] = false from rfl, Bool.or_false]
    rfl
  | k + 1, i, is, h => by
    obtain ⟨x, y, e1, e2, e3, e4, e5⟩ := pair_at s i hs (by omega)
    have IH := f38_loop n' r00 r01 r02 r03 r04 r05 s hs hn R κ k (i + 1)
    have IHt := IH true (by omega)
    have IHi := IH is (by omega)
    have hb : lenE 2 s.length ≤ s.length := Nat.div_le_self _ _
    rw [f38_l0, dec_true (show ((i : Nat) : Int) < ((lenE 2 s.length : Nat) : Int) by omega), dec_true (show (0 : Int) ≤ ((i : Nat) : Int) by omega), Int.toNat_natCast, e1, e2, e4, e5, wrap_succ (by omega), e3, anyR]
    unfold rgI
    cases decide (n' ≥ x.intOf)
    · exact IHi
    · cases (y.intOf == 0)
      · cases decide (n' ≤ y.intOf)
        · exact IHi
        · rw [show (is || ((true && (false || true)) || anyR n' (s.drop (2 * (i + 1))))) = true by cases is <;> rfl]
          exact IHt
      · rw [show ∀ b, (is || ((true && (true || b)) || anyR n' (s.drop (2 * (i + 1))))) = true by intro b; cases is <;> rfl]
        exact IHt
theorem f38_s0_eq (n' : Int) (is : Bool) (v8 : List V) (v9 : Int) (v10 : Int) (r00 : Bool) (r01 : List V) (r02 : Bool) (r03 : ByteArray) (r04 : Bool) (r05 : ByteArray) (hp : ((v9 == ((lenE 2 v8.length : Nat) : Int)) && (v10 == 0) && !is && okR v8 && decide (v8.length ≤ 1000000000)) = true) : ∃ n, ∀ (R : Type) (κ : Ex → St → Option R), f38_l0 n n' is v8 v9 v10 r00 r01 r02 r03 r04 r05 R κ = f38_s0 n' is v8 v9 v10 r00 r01 r02 r03 r04 r05 R κ := by
  simp only [Bool.and_eq_true, decide_eq_true_eq, beq_iff_eq, Bool.not_eq_true'] at hp
  obtain ⟨⟨⟨⟨rfl, rfl⟩, rfl⟩, h3⟩, h4⟩ := hp
  exact ⟨lenE 2 v8.length + 1, fun R κ => f38_loop n' r00 r01 r02 r03 r04 r05 v8 h3 h4 R κ (lenE 2 v8.length) 0 false (by omega)⟩
def t_f38_l0 (st : St) (R : Type) (κ : Ex → St → Option R) : Option R := bif ckS f38_l0_ls f38_l0_rs st then (bif ((((st.env 9).intOf) == ((lenE 2 ((st.env 8).cellsOf).length : Nat) : Int)) && (((st.env 10).intOf) == 0) && !((st.env 4).boolOf) && okR ((st.env 8).cellsOf) && decide (((st.env 8).cellsOf).length ≤ 1000000000)) then f38_s0 ((st.env 0).intOf) ((st.env 4).boolOf) ((st.env 8).cellsOf) ((st.env 9).intOf) ((st.env 10).intOf) ((nthV (rowOf (st.regs (.par 0))) 0).boolOf) ((nthV (rowOf (st.regs (.par 0))) 1).cellsOf) ((nthV (rowOf (st.regs (.par 0))) 2).boolOf) ((nthV (rowOf (st.regs (.par 0))) 3).strOf) ((nthV (rowOf (st.regs (.par 0))) 4).boolOf) ((nthV (rowOf (st.regs (.par 0))) 5).strOf) R κ else none) else none
theorem t_f38_l0_ok : ∀ st0 R κ r, t_f38_l0 (forget C 38 [0, 1, 0, 1, 1] st0) R κ = some r → ∃ ee ss, κ ee ss = some r ∧ RunP C prim 38 [0, 1, 0, 1, 1] (forget C 38 [0, 1, 0, 1, 1] st0) ee ss := by
  intro st0 R κ r h
  obtain ⟨hs, h⟩ := cond_some h
  obtain ⟨hp, h⟩ := cond_some h
  rw [canon (ls := f38_l0_ls) (rs := f38_l0_rs) (by kernel_rfl) st0 hs]
  obtain ⟨n, hn⟩ := f38_s0_eq _ _ _ _ _ _ _ _ _ _ _ hp
  rw [← hn] at h
  exact f38_l0_ok n _ _ _ _ _ _ _ _ _ _ _ R κ r h

def K_f38 : CallK := kNil
theorem K_f38_ok : KOK C prim K_f38 := KOK.nil
def T_f38 : Tab := tCons [0, 1, 0, 1, 1] t_f38_l0 <| tNil
theorem T_f38_ok : TOK C prim 38 T_f38 := TOK.cons t_f38_l0_ok <| TOK.nil
def f38 (n' : Int) (r00 : Bool) (r01 : List V) (r02 : Bool) (r03 : ByteArray) (r04 : Bool) (r05 : ByteArray) : Option (V × List Rg) :=
  bif (((((lenE 2 r01.length) : Nat) : Int) == ((lenE 2 r01.length : Nat) : Int)) && ((0 : Int) == 0) && !false && okR r01 && decide (r01.length ≤ 1000000000)) then
    some (.sc (.bool (!((anyR n' r01) == r02))), [⟨true, [.sc (.bool r00), .sl 2 r01, .sc (.bool r02), .sc (.string r03), .sc (.bool r04), .sc (.string r05)]⟩])
  else none
theorem f38_run (n' : Int) (r00 : Bool) (r01 : List V) (r02 : Bool) (r03 : ByteArray) (r04 : Bool) (r05 : ByteArray) (z9 : V × List Rg) (h : f38 n' r00 r01 r02 r03 r04 r05 = some z9) : CallR C prim 38 [.sc (.int .i64 n'), .ptrB (.par 0) 0] [⟨true, [.sc (.bool r00), .sl 2 r01, .sc (.bool r02), .sc (.string r03), .sc (.bool r04), .sc (.string r05)]⟩] z9 := by
  refine call_fn (K := K_f38) (T := T_f38) K_f38_ok T_f38_ok (by kernel_rfl) ?_
  refine Eq.trans ?_ h
  kernel_rfl

theorem f38_eq (n' : Int) (r00 : Bool) (r01 : List V) (r02 : Bool) (r03 : ByteArray) (r04 : Bool) (r05 : ByteArray) (hp : (okR r01 && decide (r01.length ≤ 1000000000)) = true) : f38 n' r00 r01 r02 r03 r04 r05 = some (.sc (.bool (tkR r01 r02 n')), [⟨true, [.sc (.bool r00), .sl 2 r01, .sc (.bool r02), .sc (.string r03), .sc (.bool r04), .sc (.string r05)]⟩]) := by
  simp only [Bool.and_eq_true] at hp
  unfold f38
  rw [beq_self_eq_true, hp.1, hp.2]
  rfl
def k38 : PrimT := fun vs gs => match vs, gs with
  | [.sc (.int .i64 n'), .ptrB (.par 0) 0], [⟨true, [.sc (.bool r00), .sl 2 r01, .sc (.bool r02), .sc (.string r03), .sc (.bool r04), .sc (.string r05)]⟩] => ((okR r01 && decide (r01.length ≤ 1000000000)), .sc (.bool (tkR r01 r02 n')), [⟨true, [.sc (.bool r00), .sl 2 r01, .sc (.bool r02), .sc (.string r03), .sc (.bool r04), .sc (.string r05)]⟩])
  | _, _ => (false, .bad, [])
theorem k38_ok : ∀ vs gs x, k38 vs gs = (true, x) → CallR C prim 38 vs gs x := by
  intro vs gs x h
  unfold k38 at h
  split at h
  · simp only [Prod.mk.injEq] at h
    obtain ⟨hp, rfl⟩ := h
    exact f38_run _ _ _ _ _ _ _ _ (f38_eq _ _ _ _ _ _ _ hp)
  · cases h

def K_f60 : CallK := kCons 93 k93 <| kNil
theorem K_f60_ok : KOK C prim K_f60 := KOK.cons k93_ok <| KOK.nil
def T_f60 : Tab := tNil
theorem T_f60_ok : TOK C prim 60 T_f60 := TOK.nil
def f60 (c : Int) (r01 : List V) : Option (V × List Rg) :=
  bif (((roomy ((r01.length + 1) * 1)) && (roomy (r01.length + 1))) && true) then
    some (.sc .nilIface, [⟨true, [.slf, .own 5 false (r01 ++ [.sc (.int .u8 c)])]⟩])
  else none
theorem f60_run (c : Int) (r01 : List V) (z9 : V × List Rg) (h : f60 c r01 = some z9) : CallR C prim 60 [.ptrB (.par 0) 0, .sc (.int .u8 c)] [⟨true, [.slf, .own 5 false r01]⟩] z9 := by
  refine call_fn (K := K_f60) (T := T_f60) K_f60_ok T_f60_ok (by kernel_rfl) ?_
  refine Eq.trans ?_ h
  kernel_rfl

theorem f60_eq (c : Int) (r01 : List V) (hp : (decide (r01.length ≤ 100000000000)) = true) : f60 c r01 = some (.sc .nilIface, [⟨true, [.slf, .own 5 false (r01 ++ [.sc (.int .u8 c)])]⟩]) := by
  simp only [decide_eq_true_eq] at hp
  have r1 : roomy ((r01.length + 1) * 1) = true := dec_true (by omega)
  have r2 : roomy (r01.length + 1) = true := dec_true (by omega)
  unfold f60
  rw [r1, r2]
  rfl
def k60 : PrimT := fun vs gs => match vs, gs with
  | [.ptrB (.par 0) 0, .sc (.int .u8 c)], [⟨true, [.slf, .own 5 false r01]⟩] => ((decide (r01.length ≤ 100000000000)), .sc .nilIface, [⟨true, [.slf, .own 5 false (r01 ++ [.sc (.int .u8 c)])]⟩])
  | _, _ => (false, .bad, [])
theorem k60_ok : ∀ vs gs x, k60 vs gs = (true, x) → CallR C prim 60 vs gs x := by
  intro vs gs x h
  unfold k60 at h
  split at h
  · simp only [Prod.mk.injEq] at h
    obtain ⟨hp, rfl⟩ := h
    exact f60_run _ _ _ (f60_eq _ _ hp)
  · cases h

def K_f29_l0 : CallK := kCons 31 k31 <| kCons 59 k59 <| kCons 60 k60 <| kNil
theorem K_f29_l0_ok : KOK C prim K_f29_l0 := KOK.cons k31_ok <| KOK.cons k59_ok <| KOK.cons k60_ok <| KOK.nil
def T_f29_l0 : Tab := tNil
theorem T_f29_l0_ok : TOK C prim 29 T_f29_l0 := TOK.nil
def f29_l0 : Nat → ByteArray → Int → Int → Int → Bool → List V → Bool → ByteArray → Bool → ByteArray → List V → (R : Type) → (Ex → St → Option R) → Option R
  | 0, _, _, _, _, _, _, _, _, _, _, _, _, _ => none
  | n + 1, line, last, v9, v10, o0, o1, o2, o3, o4, o5, b1, R, κ =>
    bif (decide (v10 < v9)) then
      bif ((okR o1 && decide (o1.length ≤ 1000000000)) && true) then
        bif (!(tkR o1 o2 (IntKind.wrap .i64 (v10 + 1)))) then
          f29_l0 n line last v9 (IntKind.wrap .i64 (v10 + 1)) o0 o1 o2 o3 o4 o5 b1 R κ
        else
          bif (decide (last ≥ 0)) then
            bif (decide (v10 > (IntKind.wrap .i64 (last + 1)))) then
              bif ((roomB b1 o5) && true) then
                bif (((decide ((0 : Int) ≤ v10)) && (decide (v10 < ((line.size : Nat) : Int)))) && true) then
                  bif ((decide ((b1 ++ bytesV o5).length ≤ 100000000000)) && true) then
                    f29_l0 n line v10 v9 (IntKind.wrap .i64 (v10 + 1)) o0 o1 o2 o3 o4 o5 ((b1 ++ bytesV o5) ++ [.sc (.int .u8 ((line.data.getD (v10).toNat 0).toNat : Int))]) R κ
                  else none
                else none
              else none
            else
              bif (((decide ((0 : Int) ≤ v10)) && (decide (v10 < ((line.size : Nat) : Int)))) && true) then
                bif ((decide (b1.length ≤ 100000000000)) && true) then
                  f29_l0 n line v10 v9 (IntKind.wrap .i64 (v10 + 1)) o0 o1 o2 o3 o4 o5 (b1 ++ [.sc (.int .u8 ((line.data.getD (v10).toNat 0).toNat : Int))]) R κ
                else none
              else none
          else
            bif (((decide ((0 : Int) ≤ v10)) && (decide (v10 < ((line.size : Nat) : Int)))) && true) then
              bif ((decide (b1.length ≤ 100000000000)) && true) then
                f29_l0 n line v10 v9 (IntKind.wrap .i64 (v10 + 1)) o0 o1 o2 o3 o4 o5 (b1 ++ [.sc (.int .u8 ((line.data.getD (v10).toNat 0).toNat : Int))]) R κ
              else none
            else none
      else none
    else
      κ (.ex 0) (mkS [(4, .bad), (5, .ptrB (.loc 5) 0)] [(.loc 5, some ⟨true, [.slf, .own 5 false b1]⟩)])
def f29_l0_ls : List (Nat × Pat) := [(1, .s), (2, .is (.ptrB (.loc 2) 0)), (5, .is (.ptrB (.loc 5) 0)), (6, .i .i64), (9, .i .i64), (10, .i .i64)]
def f29_l0_rs : List RPat := [⟨.loc 2, true, [.b, .sl 2, .b, .s, .b, .s]⟩, ⟨.loc 5, true, [.is (.slf), .own 5 false]⟩]
theorem f29_l0_ok (n : Nat) : ∀ (line : ByteArray) (last : Int) (v9 : Int) (v10 : Int) (o0 : Bool) (o1 : List V) (o2 : Bool) (o3 : ByteArray) (o4 : Bool) (o5 : ByteArray) (b1 : List V) (R : Type) (κ : Ex → St → Option R) (r : R), f29_l0 n line last v9 v10 o0 o1 o2 o3 o4 o5 b1 R κ = some r → ∃ ee ss, κ ee ss = some r ∧ RunP C prim 29 [0, 1, 0, 1, 1, 1] (mkS [(1, .sc (.string line)), (2, .ptrB (.loc 2) 0), (5, .ptrB (.loc 5) 0), (6, .sc (.int .i64 last)), (9, .sc (.int .i64 v9)), (10, .sc (.int .i64 v10))] [(.loc 2, some ⟨true, [.sc (.bool o0), .sl 2 o1, .sc (.bool o2), .sc (.string o3), .sc (.bool o4), .sc (.string o5)]⟩), (.loc 5, some ⟨true, [.slf, .own 5 false b1]⟩)]) ee ss := by
  induction n with
  | zero => intro line last v9 v10 o0 o1 o2 o3 o4 o5 b1 R κ r h; cases h
  | succ n ih =>
    intro line last v9 v10 o0 o1 o2 o3 o4 o5 b1 R κ r h
    refine loop_round (K := K_f29_l0) (T := T_f29_l0) K_f29_l0_ok T_f29_l0_ok (p := [0, 1, 0, 1, 1, 1]) (by kernel_rfl) (fun st => bif ckS f29_l0_ls f29_l0_rs st then f29_l0 n ((st.env 1).strOf) ((st.env 6).intOf) ((st.env 9).intOf) ((st.env 10).intOf) ((nthV (rowOf (st.regs (.loc 2))) 0).boolOf) ((nthV (rowOf (st.regs (.loc 2))) 1).cellsOf) ((nthV (rowOf (st.regs (.loc 2))) 2).boolOf) ((nthV (rowOf (st.regs (.loc 2))) 3).strOf) ((nthV (rowOf (st.regs (.loc 2))) 4).boolOf) ((nthV (rowOf (st.regs (.loc 2))) 5).strOf) ((nthV (rowOf (st.regs (.loc 5))) 1).cellsOf) R κ else none) (fun st0 h0 => ?_) ?_
    · obtain ⟨hs, h0⟩ := cond_some h0
      rw [canon (ls := f29_l0_ls) (rs := f29_l0_rs) (by kernel_rfl) st0 hs]
      exact ih _ _ _ _ _ _ _ _ _ _ _ R κ r h0
    · refine Eq.trans ?_ h
      kernel_rfl

def f29_s0 (line : ByteArray) (last : Int) (v9 : Int) (v10 : Int) (o0 : Bool) (o1 : List V) (o2 : Bool) (o3 : ByteArray) (o4 : Bool) (o5 : ByteArray) (b1 : List V) (R : Type) (κ : Ex → St → Option R) : Option R :=
  κ (.ex 0) (mkS [(4, .bad), (5, .ptrB (.loc 5) 0)] [(.loc 5, some ⟨true, [.slf, .own 5 false (bytesV (bytB o1 o2 o5 line))]⟩)])
theorem bytF_step {l : List V} {c : Bool} {bt line : ByteArray} {k i : Nat} {sm : Bool} (ht : tkR l c ((i + 1 : Nat) : Int) = true) (hi : i < line.size) : bytesV (bytF l c bt line (k + 1) i sm) = bytesV (bif sm && !tkR l c ((i : Nat) : Int) then bt else ⟨#[]⟩) ++ ([V.sc (.int .u8 (((line.data.getD i 0).toNat : Nat) : Int))] ++ bytesV (bytF l c bt line k (i + 1) true)) := by
  rw [bytF, ht, cond_true, bytesV_app, bytesV_app, ext_one hi, List.append_assoc]
  rfl
theorem f29_loop (line : ByteArray) (o0 : Bool) (o1 : List V) (o2 : Bool) (o3 : ByteArray) (o4 : Bool) (o5 : ByteArray) (ho : okR o1 = true) (hn : o1.length ≤ 1000000000) (hl : line.size ≤ 100000) (h5 : o5.size ≤ 5000) (R : Type) (κ : Ex → St → Option R) : ∀ (k i : Nat) (last : Int) (sm : Bool) (b1 : List V), i + k = line.size → -1 ≤ last → last < ((i : Nat) : Int) → decide (last ≥ 0) = sm → (sm = true → decide (((i : Nat) : Int) > last + 1) = !tkR o1 o2 ((i : Nat) : Int)) → b1.length ≤ 6000 * i →
    f29_l0 (k + 1) line last ((line.size : Nat) : Int) ((i : Nat) : Int) o0 o1 o2 o3 o4 o5 b1 R κ = κ (.ex 0) (mkS [(4, .bad), (5, .ptrB (.loc 5) 0)] [(.loc 5, some ⟨true, [.slf, .own 5 false (b1 ++ bytesV (bytF o1 o2 o5 line k i sm))]⟩)])
  | 0, i, last, sm, b1, h, h1, h2, h3, h4, hb => by
    rw [f29_l0, dec_false (by omega), bytF, bytesV_nil, List.append_nil]
    rfl
  | k + 1, i, last, sm, b1, h, h1, h2, h3, h4, hb => by
    have hi : i < line.size := by omega
    cases ht : tkR o1 o2 ((i + 1 : Nat) : Int) with
    | false =>
      have IH := f29_loop line o0 o1 o2 o3 o4 o5 ho hn hl h5 R κ k (i + 1) last sm b1 (by omega) h1 (by omega) h3 (fun _ => by rw [ht, dec_true (by omega)]; rfl) (by omega)
      rw [f29_l0, dec_true (show ((i : Nat) : Int) < ((line.size : Nat) : Int) by omega), ho, dec_true hn, wrap_succ (by omega), ht, bytF, ht]
      exact IH
    | true =>
      have d1 : decide (b1.length ≤ 100000000000) = true := dec_true (by omega)
      have hr : roomB b1 o5 = true := dec_true (by omega)
      have d2 : decide ((b1 ++ bytesV o5).length ≤ 100000000000) = true := dec_true (by rw [List.length_append, bytesV_len]; omega)
      have IHa := f29_loop line o0 o1 o2 o3 o4 o5 ho hn hl h5 R κ k (i + 1) ((i : Nat) : Int) true (b1 ++ [.sc (.int .u8 (((line.data.getD i 0).toNat : Nat) : Int))]) (by omega) (by omega) (by omega) (dec_true (by omega)) (fun _ => by rw [ht, dec_false (by omega)]; rfl) (by simp only [List.length_append, List.length_cons, List.length_nil]; omega)
      have IHb := f29_loop line o0 o1 o2 o3 o4 o5 ho hn hl h5 R κ k (i + 1) ((i : Nat) : Int) true ((b1 ++ bytesV o5) ++ [.sc (.int .u8 (((line.data.getD i 0).toNat : Nat) : Int))]) (by omega) (by omega) (by omega) (dec_true (by omega)) (fun _ => by rw [ht, dec_false (by omega)]; rfl) (by simp only [List.length_append, List.length_cons, List.length_nil, bytesV_len]; omega)
      have ea : ∀ T, (b1 ++ [V.sc (.int .u8 (((line.data.getD i 0).toNat : Nat) : Int))]) ++ T = b1 ++ ([] ++ ([V.sc (.int .u8 (((line.data.getD i 0).toNat : Nat) : Int))] ++ T)) := fun T => by simp
      have eb : ∀ T, ((b1 ++ bytesV o5) ++ [V.sc (.int .u8 (((line.data.getD i 0).toNat : Nat) : Int))]) ++ T = b1 ++ (bytesV o5 ++ ([V.sc (.int .u8 (((line.data.getD i 0).toNat : Nat) : Int))] ++ T)) := fun T => by simp
      rw [ea] at IHa
      rw [eb] at IHb
      rw [f29_l0, dec_true (show ((i : Nat) : Int) < ((line.size : Nat) : Int) by omega), ho, dec_true hn, wrap_succ (by omega), ht, bytF_step ht hi, dec_true (show (0 : Int) ≤ ((i : Nat) : Int) by omega), Int.toNat_natCast, d1, d2, hr, h3]
      cases sm with
      | false => exact IHa
      | true =>
        have hq := h4 rfl
        rw [wrap_id (n := last + 1) (by omega) (by omega), hq]
        cases tkR o1 o2 ((i : Nat) : Int)
        · exact IHb
        · exact IHa
theorem f29_s0_eq (line : ByteArray) (last : Int) (v9 : Int) (v10 : Int) (o0 : Bool) (o1 : List V) (o2 : Bool) (o3 : ByteArray) (o4 : Bool) (o5 : ByteArray) (b1 : List V) (hp : ((last == -1) && (v9 == ((line.size : Nat) : Int)) && (v10 == 0) && (b1.length == 0) && okR o1 && decide (o1.length ≤ 1000000000) && decide (line.size ≤ 100000) && decide (o5.size ≤ 5000)) = true) : ∃ n, ∀ (R : Type) (κ : Ex → St → Option R), f29_l0 n line last v9 v10 o0 o1 o2 o3 o4 o5 b1 R κ = f29_s0 line last v9 v10 o0 o1 o2 o3 o4 o5 b1 R κ := by
  simp only [Bool.and_eq_true, decide_eq_true_eq, beq_iff_eq] at hp
  obtain ⟨⟨⟨⟨⟨⟨⟨rfl, rfl⟩, rfl⟩, h4⟩, h5⟩, h6⟩, h7⟩, h8⟩ := hp
  obtain rfl : b1 = [] := List.eq_nil_of_length_eq_zero h4
  exact ⟨line.size + 1, fun R κ => f29_loop line o0 o1 o2 o3 o4 o5 h5 h6 h7 h8 R κ line.size 0 (-1) false [] (by omega) (by omega) (by omega) rfl (fun h => by cases h) (Nat.zero_le _)⟩
def t_f29_l0 (st : St) (R : Type) (κ : Ex → St → Option R) : Option R := bif ckS f29_l0_ls f29_l0_rs st then (bif ((((st.env 6).intOf) == -1) && (((st.env 9).intOf) == ((((st.env 1).strOf).size : Nat) : Int)) && (((st.env 10).intOf) == 0) && (((nthV (rowOf (st.regs (.loc 5))) 1).cellsOf).length == 0) && okR ((nthV (rowOf (st.regs (.loc 2))) 1).cellsOf) && decide (((nthV (rowOf (st.regs (.loc 2))) 1).cellsOf).length ≤ 1000000000) && decide (((st.env 1).strOf).size ≤ 100000) && decide (((nthV (rowOf (st.regs (.loc 2))) 5).strOf).size ≤ 5000)) then f29_s0 ((st.env 1).strOf) ((st.env 6).intOf) ((st.env 9).intOf) ((st.env 10).intOf) ((nthV (rowOf (st.regs (.loc 2))) 0).boolOf) ((nthV (rowOf (st.regs (.loc 2))) 1).cellsOf) ((nthV (rowOf (st.regs (.loc 2))) 2).boolOf) ((nthV (rowOf (st.regs (.loc 2))) 3).strOf) ((nthV (rowOf (st.regs (.loc 2))) 4).boolOf) ((nthV (rowOf (st.regs (.loc 2))) 5).strOf) ((nthV (rowOf (st.regs (.loc 5))) 1).cellsOf) R κ else none) else none
theorem t_f29_l0_ok : ∀ st0 R κ r, t_f29_l0 (forget C 29 [0, 1, 0, 1, 1, 1] st0) R κ = some r → ∃ ee ss, κ ee ss = some r ∧ RunP C prim 29 [0, 1, 0, 1, 1, 1] (forget C 29 [0, 1, 0, 1, 1, 1] st0) ee ss := by
  intro st0 R κ r h
  obtain ⟨hs, h⟩ := cond_some h
  obtain ⟨hp, h⟩ := cond_some h
  rw [canon (ls := f29_l0_ls) (rs := f29_l0_rs) (by kernel_rfl) st0 hs]
  obtain ⟨n, hn⟩ := f29_s0_eq _ _ _ _ _ _ _ _ _ _ _ hp
  rw [← hn] at h
  exact f29_l0_ok n _ _ _ _ _ _ _ _ _ _ _ R κ r h

def K_f29 : CallK := kCons 61 k61 <| kNil
theorem K_f29_ok : KOK C prim K_f29 := KOK.cons k61_ok <| KOK.nil
def T_f29 : Tab := tCons [0, 1, 0, 1, 1, 1] t_f29_l0 <| tNil
theorem T_f29_ok : TOK C prim 29 T_f29 := TOK.cons t_f29_l0_ok <| TOK.nil
def f29 (o0 : Bool) (o1 : List V) (o2 : Bool) (o3 : ByteArray) (o4 : Bool) (o5 : ByteArray) (line : ByteArray) : Option (V × List Rg) :=
  bif ((((-1) : Int) == -1) && (((line.size : Nat) : Int) == ((line.size : Nat) : Int)) && ((0 : Int) == 0) && (([] : List V).length == 0) && okR o1 && decide (o1.length ≤ 1000000000) && decide (line.size ≤ 100000) && decide (o5.size ≤ 5000)) then
    bif ((((bytesV (bytB o1 o2 o5 line))).all okU8) && true) then
      some (.sc (.string (strOfCells (bytesV (bytB o1 o2 o5 line)))), [])
    else none
  else none
theorem f29_run (o0 : Bool) (o1 : List V) (o2 : Bool) (o3 : ByteArray) (o4 : Bool) (o5 : ByteArray) (line : ByteArray) (z9 : V × List Rg) (h : f29 o0 o1 o2 o3 o4 o5 line = some z9) : CallR C prim 29 [.ag [.sc (.bool o0), .sl 2 o1, .sc (.bool o2), .sc (.string o3), .sc (.bool o4), .sc (.string o5)], .sc (.string line)] [] z9 := by
  refine call_fn (K := K_f29) (T := T_f29) K_f29_ok T_f29_ok (by kernel_rfl) ?_
  refine Eq.trans ?_ h
  kernel_rfl

theorem f29_eq (o0 : Bool) (o1 : List V) (o2 : Bool) (o3 : ByteArray) (o4 : Bool) (o5 : ByteArray) (line : ByteArray) (hp : (okR o1 && decide (o1.length ≤ 1000000000) && decide (line.size ≤ 100000) && decide (o5.size ≤ 5000)) = true) : f29 o0 o1 o2 o3 o4 o5 line = some (.sc (.string (bytB o1 o2 o5 line)), []) := by
  simp only [Bool.and_eq_true] at hp
  obtain ⟨⟨⟨h1, h2⟩, h3⟩, h4⟩ := hp
  unfold f29
  rw [h1, h2, h3, h4, beq_self_eq_true ((line.size : Nat) : Int), okU8_bytesV, strOf_bytesV]
  rfl
def k29 : PrimT := fun vs gs => match vs, gs with
  | [.ag [.sc (.bool o0), .sl 2 o1, .sc (.bool o2), .sc (.string o3), .sc (.bool o4), .sc (.string o5)], .sc (.string line)], [] => ((okR o1 && decide (o1.length ≤ 1000000000) && decide (line.size ≤ 100000) && decide (o5.size ≤ 5000)), .sc (.string (bytB o1 o2 o5 line)), [])
  | _, _ => (false, .bad, [])
theorem k29_ok : ∀ vs gs x, k29 vs gs = (true, x) → CallR C prim 29 vs gs x := by
  intro vs gs x h
  unfold k29 at h
  split at h
  · simp only [Prod.mk.injEq] at h
    obtain ⟨hp, rfl⟩ := h
    exact f29_run _ _ _ _ _ _ _ _ (f29_eq _ _ _ _ _ _ _ hp)
  · cases h

def K_f15_l0 : CallK := kCons 38 k38 <| kNil
theorem K_f15_l0_ok : KOK C prim K_f15_l0 := KOK.cons k38_ok <| KOK.nil
def T_f15_l0 : Tab := tNil
theorem T_f15_l0_ok : TOK C prim 15 T_f15_l0 := TOK.nil
def f15_l0 : Nat → ByteArray → ByteArray → Bool → Int → Int → Bool → List V → Bool → ByteArray → Bool → ByteArray → List V → (R : Type) → (Ex → St → Option R) → Option R
  | 0, _, _, _, _, _, _, _, _, _, _, _, _, _, _ => none
  | n + 1, line, out, some', v29, v30, o0, o1, o2, o3, o4, o5, r28, R, κ =>
    bif (decide (v30 < v29)) then
      bif (((decide ((0 : Int) ≤ v30)) && (decide (v30 < (((lenE 2 r28.length) : Nat) : Int)))) && true) then
        bif (((V.isInt .i64 (nthV r28 (((v30).toNat * 2) + 0))) && ((V.isInt .i64 (nthV r28 ((((v30).toNat * 2) + 0) + 1))) && true)) && true) then
          bif ((okR o1 && decide (o1.length ≤ 1000000000)) && true) then
            bif (tkR o1 o2 (IntKind.wrap .i64 (v30 + 1))) then
              bif some' then
                bif ((decide ((out.size + o5.size) ≤ 9223372036854775807)) && true) then
                  bif (((((decide ((0 : Int) ≤ (V.intOf (nthV r28 (((v30).toNat * 2) + 0))))) && (decide ((V.intOf (nthV r28 (((v30).toNat * 2) + 0))) ≤ (V.intOf (nthV r28 ((((v30).toNat * 2) + 0) + 1)))))) && (decide ((V.intOf (nthV r28 ((((v30).toNat * 2) + 0) + 1))) ≤ ((line.size : Nat) : Int)))) && true) && true) then
                    bif ((decide (((out ++ o5).size + (line.extract ((V.intOf (nthV r28 (((v30).toNat * 2) + 0)))).toNat ((V.intOf (nthV r28 ((((v30).toNat * 2) + 0) + 1)))).toNat).size) ≤ 9223372036854775807)) && true) then
                      f15_l0 n line ((out ++ o5) ++ (line.extract ((V.intOf (nthV r28 (((v30).toNat * 2) + 0)))).toNat ((V.intOf (nthV r28 ((((v30).toNat * 2) + 0) + 1)))).toNat)) true v29 (IntKind.wrap .i64 (v30 + 1)) o0 o1 o2 o3 o4 o5 r28 R κ
                    else none
                  else none
                else none
              else
                bif (((((decide ((0 : Int) ≤ (V.intOf (nthV r28 (((v30).toNat * 2) + 0))))) && (decide ((V.intOf (nthV r28 (((v30).toNat * 2) + 0))) ≤ (V.intOf (nthV r28 ((((v30).toNat * 2) + 0) + 1)))))) && (decide ((V.intOf (nthV r28 ((((v30).toNat * 2) + 0) + 1))) ≤ ((line.size : Nat) : Int)))) && true) && true) then
                  bif ((decide ((out.size + (line.extract ((V.intOf (nthV r28 (((v30).toNat * 2) + 0)))).toNat ((V.intOf (nthV r28 ((((v30).toNat * 2) + 0) + 1)))).toNat).size) ≤ 9223372036854775807)) && true) then
                    f15_l0 n line (out ++ (line.extract ((V.intOf (nthV r28 (((v30).toNat * 2) + 0)))).toNat ((V.intOf (nthV r28 ((((v30).toNat * 2) + 0) + 1)))).toNat)) true v29 (IntKind.wrap .i64 (v30 + 1)) o0 o1 o2 o3 o4 o5 r28 R κ
                  else none
                else none
            else
              f15_l0 n line out some' v29 (IntKind.wrap .i64 (v30 + 1)) o0 o1 o2 o3 o4 o5 r28 R κ
          else none
        else none
      else none
    else
      κ (.ex 0) (mkS [(4, .bad), (5, .bad), (7, .sc (.string out))] [])
def f15_l0_ls : List (Nat × Pat) := [(1, .s), (2, .is (.ptrB (.loc 2) 0)), (6, .is (.fn 38 [] [.ptrB (.loc 2) 0])), (7, .s), (8, .b), (28, .is (.ref ⟨.loc 28, 0, [], 62, false⟩)), (29, .i .i64), (30, .i .i64)]
def f15_l0_rs : List RPat := [⟨.loc 2, true, [.b, .sl 2, .b, .s, .b, .s]⟩, ⟨.loc 28, false, [.own 62 false]⟩]
theorem f15_l0_ok (n : Nat) : ∀ (line : ByteArray) (out : ByteArray) (some' : Bool) (v29 : Int) (v30 : Int) (o0 : Bool) (o1 : List V) (o2 : Bool) (o3 : ByteArray) (o4 : Bool) (o5 : ByteArray) (r28 : List V) (R : Type) (κ : Ex → St → Option R) (r : R), f15_l0 n line out some' v29 v30 o0 o1 o2 o3 o4 o5 r28 R κ = some r → ∃ ee ss, κ ee ss = some r ∧ RunP C prim 15 [0, 1, 0, 1, 0, 1, 0, 1, 1, 1] (mkS [(1, .sc (.string line)), (2, .ptrB (.loc 2) 0), (6, .fn 38 [] [.ptrB (.loc 2) 0]), (7, .sc (.string out)), (8, .sc (.bool some')), (28, .ref ⟨.loc 28, 0, [], 62, false⟩), (29, .sc (.int .i64 v29)), (30, .sc (.int .i64 v30))] [(.loc 2, some ⟨true, [.sc (.bool o0), .sl 2 o1, .sc (.bool o2), .sc (.string o3), .sc (.bool o4), .sc (.string o5)]⟩), (.loc 28, some ⟨false, [.own 62 false r28]⟩)]) ee ss := by
  induction n with
  | zero => intro line out some' v29 v30 o0 o1 o2 o3 o4 o5 r28 R κ r h; cases h
  | succ n ih =>
    intro line out some' v29 v30 o0 o1 o2 o3 o4 o5 r28 R κ r h
    refine loop_round (K := K_f15_l0) (T := T_f15_l0) K_f15_l0_ok T_f15_l0_ok (p := [0, 1, 0, 1, 0, 1, 0, 1, 1, 1]) (by kernel_rfl) (fun st => bif ckS f15_l0_ls f15_l0_rs st then f15_l0 n ((st.env 1).strOf) ((st.env 7).strOf) ((st.env 8).boolOf) ((st.env 29).intOf) ((st.env 30).intOf) ((nthV (rowOf (st.regs (.loc 2))) 0).boolOf) ((nthV (rowOf (st.regs (.loc 2))) 1).cellsOf) ((nthV (rowOf (st.regs (.loc 2))) 2).boolOf) ((nthV (rowOf (st.regs (.loc 2))) 3).strOf) ((nthV (rowOf (st.regs (.loc 2))) 4).boolOf) ((nthV (rowOf (st.regs (.loc 2))) 5).strOf) ((nthV (rowOf (st.regs (.loc 28))) 0).cellsOf) R κ else none) (fun st0 h0 => ?_) ?_
    · obtain ⟨hs, h0⟩ := cond_some h0
      rw [canon (ls := f15_l0_ls) (rs := f15_l0_rs) (by kernel_rfl) st0 hs]
      exact ih _ _ _ _ _ _ _ _ _ _ _ _ R κ r h0
    · refine Eq.trans ?_ h
      kernel_rfl

def f15_s0 (line : ByteArray) (out : ByteArray) (some' : Bool) (v29 : Int) (v30 : Int) (o0 : Bool) (o1 : List V) (o2 : Bool) (o3 : ByteArray) (o4 : Bool) (o5 : ByteArray) (r28 : List V) (R : Type) (κ : Ex → St → Option R) : Option R :=
  κ (.ex 0) (mkS [(4, .bad), (5, .bad), (7, .sc (.string (fldB line o1 o2 o5 0 false r28)))] [])
theorem ap_size {a b : ByteArray} {n : Nat} (h : a.size + b.size ≤ n) (hn : n ≤ 9000000000000000000) : decide (a.size + b.size ≤ 9223372036854775807) = true := dec_true (by omega)
theorem f15_loop0 (line : ByteArray) (o0 : Bool) (o1 : List V) (o2 : Bool) (o3 : ByteArray) (o4 : Bool) (o5 : ByteArray) (ho : okR o1 = true) (hn : o1.length ≤ 1000000000) (hl : line.size ≤ 100000) (h5 : o5.size ≤ 5000) (l : List V) (hs : okSp line.size l = true) (hz : l.length ≤ 1000000) (R : Type) (κ : Ex → St → Option R) : ∀ (k i : Nat) (sm : Bool) (out : ByteArray), i + k = lenE 2 l.length → out.size ≤ 200000 * i →
    f15_l0 (k + 1) line out sm ((lenE 2 l.length : Nat) : Int) ((i : Nat) : Int) o0 o1 o2 o3 o4 o5 l R κ = κ (.ex 0) (mkS [(4, .bad), (5, .bad), (7, .sc (.string (out ++ fldB line o1 o2 o5 i sm (l.drop (2 * i)))))] [])
  | 0, i, sm, out, h, hb => by
    rw [f15_l0, dec_false (by omega), pair_end (okSp_R _ _ hs) (by omega), show fldB line o1 o2 o5 i sm [] = ⟨#[]⟩ from by simp [fldB], ba_nil']
    rfl
  | k + 1, i, sm, out, h, hb => by
    obtain ⟨x, y, e1, e2, e3, e4, e5⟩ := pair_at l i (okSp_R _ _ hs) (by omega)
    obtain ⟨_, _, a3, a4, a5⟩ := okSp_at line.size l i hs (by omega)
    have e2' : nthV l (i * 2 + 0 + 1) = y := e2
    rw [e1] at a3 a4
    rw [e2'] at a4 a5
    have hle : lenE 2 l.length ≤ l.length := Nat.div_le_self _ _
    have hx := ext_le line x.intOf.toNat y.intOf.toNat
    have IHf := f15_loop0 line o0 o1 o2 o3 o4 o5 ho hn hl h5 l hs hz R κ k (i + 1) sm out (by omega) (by omega)
    have IHa := f15_loop0 line o0 o1 o2 o3 o4 o5 ho hn hl h5 l hs hz R κ k (i + 1) true (out ++ line.extract x.intOf.toNat y.intOf.toNat) (by omega) (by rw [ba_size_append]; omega)
    have IHb := f15_loop0 line o0 o1 o2 o3 o4 o5 ho hn hl h5 l hs hz R κ k (i + 1) true ((out ++ o5) ++ line.extract x.intOf.toNat y.intOf.toNat) (by omega) (by rw [ba_size_append, ba_size_append]; omega)
    have d1 : decide (out.size + o5.size ≤ 9223372036854775807) = true := dec_true (by omega)
    have d2 : decide (out.size + (line.extract x.intOf.toNat y.intOf.toNat).size ≤ 9223372036854775807) = true := dec_true (by omega)
    have d3 : decide ((out ++ o5).size + (line.extract x.intOf.toNat y.intOf.toNat).size ≤ 9223372036854775807) = true := dec_true (by rw [ba_size_append]; omega)
    have ea : ∀ T : ByteArray, (out ++ line.extract x.intOf.toNat y.intOf.toNat) ++ T = out ++ (line.extract x.intOf.toNat y.intOf.toNat ++ T) := fun T => ba_asc _ _ _
    have eb : ∀ T : ByteArray, ((out ++ o5) ++ line.extract x.intOf.toNat y.intOf.toNat) ++ T = out ++ (o5 ++ (line.extract x.intOf.toNat y.intOf.toNat ++ T)) := fun T => by rw [ba_asc, ba_asc]
    rw [ea] at IHa
    rw [eb] at IHb
    rw [f15_l0, dec_true (show ((i : Nat) : Int) < ((lenE 2 l.length : Nat) : Int) by omega), dec_true (show (0 : Int) ≤ ((i : Nat) : Int) by omega), Int.toNat_natCast, e1, e2', e4, e5, ho, dec_true hn, wrap_succ (by omega), d1, d2, d3, dec_true a3, dec_true a4, dec_true a5, e3, fldB]
    cases tkR o1 o2 ((i + 1 : Nat) : Int)
    · exact IHf
    · cases sm
      · refine IHa.trans ?_
        simp only [cond_true, cond_false, ba_asc, ba_nil]
      · refine IHb.trans ?_
        simp only [cond_true, ba_asc]
theorem f15_s0_eq (line : ByteArray) (out : ByteArray) (some' : Bool) (v29 : Int) (v30 : Int) (o0 : Bool) (o1 : List V) (o2 : Bool) (o3 : ByteArray) (o4 : Bool) (o5 : ByteArray) (r28 : List V) (hp : ((v29 == ((lenE 2 r28.length : Nat) : Int)) && (v30 == 0) && !some' && (out.size == 0) && okSp line.size r28 && decide (r28.length ≤ 1000000) && okR o1 && decide (o1.length ≤ 1000000000) && decide (line.size ≤ 100000) && decide (o5.size ≤ 5000)) = true) : ∃ n, ∀ (R : Type) (κ : Ex → St → Option R), f15_l0 n line out some' v29 v30 o0 o1 o2 o3 o4 o5 r28 R κ = f15_s0 line out some' v29 v30 o0 o1 o2 o3 o4 o5 r28 R κ := by
  simp only [Bool.and_eq_true, decide_eq_true_eq, beq_iff_eq, Bool.not_eq_true'] at hp
  obtain ⟨⟨⟨⟨⟨⟨⟨⟨⟨rfl, rfl⟩, rfl⟩, h4⟩, h5⟩, h6⟩, h7⟩, h8⟩, h9⟩, h10⟩ := hp
  obtain rfl : out = ⟨#[]⟩ := ba_zero0 h4
  refine ⟨lenE 2 r28.length + 1, fun R κ => ?_⟩
  have := f15_loop0 line o0 o1 o2 o3 o4 o5 h7 h8 h9 h10 r28 h5 h6 R κ (lenE 2 r28.length) 0 false ⟨#[]⟩ (by omega) (Nat.zero_le _)
  rw [ba_nil, Nat.mul_zero, List.drop_zero] at this
  exact this
def t_f15_l0 (st : St) (R : Type) (κ : Ex → St → Option R) : Option R := bif ckS f15_l0_ls f15_l0_rs st then (bif ((((st.env 29).intOf) == ((lenE 2 ((nthV (rowOf (st.regs (.loc 28))) 0).cellsOf).length : Nat) : Int)) && (((st.env 30).intOf) == 0) && !((st.env 8).boolOf) && (((st.env 7).strOf).size == 0) && okSp ((st.env 1).strOf).size ((nthV (rowOf (st.regs (.loc 28))) 0).cellsOf) && decide (((nthV (rowOf (st.regs (.loc 28))) 0).cellsOf).length ≤ 1000000) && okR ((nthV (rowOf (st.regs (.loc 2))) 1).cellsOf) && decide (((nthV (rowOf (st.regs (.loc 2))) 1).cellsOf).length ≤ 1000000000) && decide (((st.env 1).strOf).size ≤ 100000) && decide (((nthV (rowOf (st.regs (.loc 2))) 5).strOf).size ≤ 5000)) then f15_s0 ((st.env 1).strOf) ((st.env 7).strOf) ((st.env 8).boolOf) ((st.env 29).intOf) ((st.env 30).intOf) ((nthV (rowOf (st.regs (.loc 2))) 0).boolOf) ((nthV (rowOf (st.regs (.loc 2))) 1).cellsOf) ((nthV (rowOf (st.regs (.loc 2))) 2).boolOf) ((nthV (rowOf (st.regs (.loc 2))) 3).strOf) ((nthV (rowOf (st.regs (.loc 2))) 4).boolOf) ((nthV (rowOf (st.regs (.loc 2))) 5).strOf) ((nthV (rowOf (st.regs (.loc 28))) 0).cellsOf) R κ else none) else none
theorem t_f15_l0_ok : ∀ st0 R κ r, t_f15_l0 (forget C 15 [0, 1, 0, 1, 0, 1, 0, 1, 1, 1] st0) R κ = some r → ∃ ee ss, κ ee ss = some r ∧ RunP C prim 15 [0, 1, 0, 1, 0, 1, 0, 1, 1, 1] (forget C 15 [0, 1, 0, 1, 0, 1, 0, 1, 1, 1] st0) ee ss := by
  intro st0 R κ r h
  obtain ⟨hs, h⟩ := cond_some h
  obtain ⟨hp, h⟩ := cond_some h
  rw [canon (ls := f15_l0_ls) (rs := f15_l0_rs) (by kernel_rfl) st0 hs]
  obtain ⟨n, hn⟩ := f15_s0_eq _ _ _ _ _ _ _ _ _ _ _ _ hp
  rw [← hn] at h
  exact f15_l0_ok n _ _ _ _ _ _ _ _ _ _ _ _ R κ r h

def K_f15_l1 : CallK := kCons 38 k38 <| kNil
theorem K_f15_l1_ok : KOK C prim K_f15_l1 := KOK.cons k38_ok <| KOK.nil
def T_f15_l1 : Tab := tNil
theorem T_f15_l1_ok : TOK C prim 15 T_f15_l1 := TOK.nil
def f15_l1 : Nat → ByteArray → ByteArray → Bool → Int → Int → Bool → List V → Bool → ByteArray → Bool → ByteArray → (R : Type) → (Ex → St → Option R) → Option R
  | 0, _, _, _, _, _, _, _, _, _, _, _, _, _ => none
  | n + 1, line, out, some', v55, v56, o0, o1, o2, o3, o4, o5, R, κ =>
    bif (decide (v56 < v55)) then
      bif ((okR o1 && decide (o1.length ≤ 1000000000)) && true) then
        bif (tkR o1 o2 (IntKind.wrap .i64 (v56 + 1))) then
          bif some' then
            bif ((okR o1 && decide (o1.length ≤ 1000000000)) && true) then
              bif (!(tkR o1 o2 v56)) then
                bif ((decide ((out.size + o5.size) ≤ 9223372036854775807)) && true) then
                  bif (((((decide ((0 : Int) ≤ v56)) && (decide (v56 ≤ (IntKind.wrap .i64 (v56 + 1))))) && (decide ((IntKind.wrap .i64 (v56 + 1)) ≤ ((line.size : Nat) : Int)))) && true) && true) then
                    bif ((decide (((out ++ o5).size + (line.extract (v56).toNat ((IntKind.wrap .i64 (v56 + 1))).toNat).size) ≤ 9223372036854775807)) && true) then
                      f15_l1 n line ((out ++ o5) ++ (line.extract (v56).toNat ((IntKind.wrap .i64 (v56 + 1))).toNat)) true v55 (IntKind.wrap .i64 (v56 + 1)) o0 o1 o2 o3 o4 o5 R κ
                    else none
                  else none
                else none
              else
                bif (((((decide ((0 : Int) ≤ v56)) && (decide (v56 ≤ (IntKind.wrap .i64 (v56 + 1))))) && (decide ((IntKind.wrap .i64 (v56 + 1)) ≤ ((line.size : Nat) : Int)))) && true) && true) then
                  bif ((decide ((out.size + (line.extract (v56).toNat ((IntKind.wrap .i64 (v56 + 1))).toNat).size) ≤ 9223372036854775807)) && true) then
                    f15_l1 n line (out ++ (line.extract (v56).toNat ((IntKind.wrap .i64 (v56 + 1))).toNat)) true v55 (IntKind.wrap .i64 (v56 + 1)) o0 o1 o2 o3 o4 o5 R κ
                  else none
                else none
            else none
          else
            bif (((((decide ((0 : Int) ≤ v56)) && (decide (v56 ≤ (IntKind.wrap .i64 (v56 + 1))))) && (decide ((IntKind.wrap .i64 (v56 + 1)) ≤ ((line.size : Nat) : Int)))) && true) && true) then
              bif ((decide ((out.size + (line.extract (v56).toNat ((IntKind.wrap .i64 (v56 + 1))).toNat).size) ≤ 9223372036854775807)) && true) then
                f15_l1 n line (out ++ (line.extract (v56).toNat ((IntKind.wrap .i64 (v56 + 1))).toNat)) true v55 (IntKind.wrap .i64 (v56 + 1)) o0 o1 o2 o3 o4 o5 R κ
              else none
            else none
        else
          f15_l1 n line out some' v55 (IntKind.wrap .i64 (v56 + 1)) o0 o1 o2 o3 o4 o5 R κ
      else none
    else
      κ (.ex 2) (mkS [(4, .bad), (5, .bad), (7, .sc (.string out))] [])
def f15_l1_ls : List (Nat × Pat) := [(1, .s), (2, .is (.ptrB (.loc 2) 0)), (6, .is (.fn 38 [] [.ptrB (.loc 2) 0])), (7, .s), (8, .b), (55, .i .i64), (56, .i .i64)]
def f15_l1_rs : List RPat := [⟨.loc 2, true, [.b, .sl 2, .b, .s, .b, .s]⟩]
theorem f15_l1_ok (n : Nat) : ∀ (line : ByteArray) (out : ByteArray) (some' : Bool) (v55 : Int) (v56 : Int) (o0 : Bool) (o1 : List V) (o2 : Bool) (o3 : ByteArray) (o4 : Bool) (o5 : ByteArray) (R : Type) (κ : Ex → St → Option R) (r : R), f15_l1 n line out some' v55 v56 o0 o1 o2 o3 o4 o5 R κ = some r → ∃ ee ss, κ ee ss = some r ∧ RunP C prim 15 [0, 1, 0, 1, 1, 1, 1] (mkS [(1, .sc (.string line)), (2, .ptrB (.loc 2) 0), (6, .fn 38 [] [.ptrB (.loc 2) 0]), (7, .sc (.string out)), (8, .sc (.bool some')), (55, .sc (.int .i64 v55)), (56, .sc (.int .i64 v56))] [(.loc 2, some ⟨true, [.sc (.bool o0), .sl 2 o1, .sc (.bool o2), .sc (.string o3), .sc (.bool o4), .sc (.string o5)]⟩)]) ee ss := by
  induction n with
  | zero => intro line out some' v55 v56 o0 o1 o2 o3 o4 o5 R κ r h; cases h
  | succ n ih =>
    intro line out some' v55 v56 o0 o1 o2 o3 o4 o5 R κ r h
    refine loop_round (K := K_f15_l1) (T := T_f15_l1) K_f15_l1_ok T_f15_l1_ok (p := [0, 1, 0, 1, 1, 1, 1]) (by kernel_rfl) (fun st => bif ckS f15_l1_ls f15_l1_rs st then f15_l1 n ((st.env 1).strOf) ((st.env 7).strOf) ((st.env 8).boolOf) ((st.env 55).intOf) ((st.env 56).intOf) ((nthV (rowOf (st.regs (.loc 2))) 0).boolOf) ((nthV (rowOf (st.regs (.loc 2))) 1).cellsOf) ((nthV (rowOf (st.regs (.loc 2))) 2).boolOf) ((nthV (rowOf (st.regs (.loc 2))) 3).strOf) ((nthV (rowOf (st.regs (.loc 2))) 4).boolOf) ((nthV (rowOf (st.regs (.loc 2))) 5).strOf) R κ else none) (fun st0 h0 => ?_) ?_
    · obtain ⟨hs, h0⟩ := cond_some h0
      rw [canon (ls := f15_l1_ls) (rs := f15_l1_rs) (by kernel_rfl) st0 hs]
      exact ih _ _ _ _ _ _ _ _ _ _ _ R κ r h0
    · refine Eq.trans ?_ h
      kernel_rfl

def f15_s1 (line : ByteArray) (out : ByteArray) (some' : Bool) (v55 : Int) (v56 : Int) (o0 : Bool) (o1 : List V) (o2 : Bool) (o3 : ByteArray) (o4 : Bool) (o5 : ByteArray) (R : Type) (κ : Ex → St → Option R) : Option R :=
  κ (.ex 2) (mkS [(4, .bad), (5, .bad), (7, .sc (.string (bytB o1 o2 o5 line)))] [])
theorem f15_loop1 (line : ByteArray) (o0 : Bool) (o1 : List V) (o2 : Bool) (o3 : ByteArray) (o4 : Bool) (o5 : ByteArray) (ho : okR o1 = true) (hn : o1.length ≤ 1000000000) (hl : line.size ≤ 100000) (h5 : o5.size ≤ 5000) (R : Type) (κ : Ex → St → Option R) : ∀ (k i : Nat) (sm : Bool) (out : ByteArray), i + k = line.size → out.size ≤ 6000 * i →
    f15_l1 (k + 1) line out sm ((line.size : Nat) : Int) ((i : Nat) : Int) o0 o1 o2 o3 o4 o5 R κ = κ (.ex 2) (mkS [(4, .bad), (5, .bad), (7, .sc (.string (out ++ bytF o1 o2 o5 line k i sm)))] [])
  | 0, i, sm, out, h, hb => by
    rw [f15_l1, dec_false (by omega), bytF, ba_nil']
    rfl
  | k + 1, i, sm, out, h, hb => by
    have hi : i < line.size := by omega
    have he : (line.extract i (i + 1)).size = 1 := by rw [ext_one hi]; rfl
    have IHf := f15_loop1 line o0 o1 o2 o3 o4 o5 ho hn hl h5 R κ k (i + 1) sm out (by omega) (by omega)
    have IHa := f15_loop1 line o0 o1 o2 o3 o4 o5 ho hn hl h5 R κ k (i + 1) true (out ++ line.extract i (i + 1)) (by omega) (by rw [ba_size_append]; omega)
    have IHb := f15_loop1 line o0 o1 o2 o3 o4 o5 ho hn hl h5 R κ k (i + 1) true ((out ++ o5) ++ line.extract i (i + 1)) (by omega) (by rw [ba_size_append, ba_size_append]; omega)
    have d1 : decide (out.size + o5.size ≤ 9223372036854775807) = true := dec_true (by omega)
    have d2 : decide (out.size + (line.extract i (i + 1)).size ≤ 9223372036854775807) = true := dec_true (by omega)
    have d3 : decide ((out ++ o5).size + (line.extract i (i + 1)).size ≤ 9223372036854775807) = true := dec_true (by rw [ba_size_append]; omega)
    have ea : ∀ T : ByteArray, (out ++ line.extract i (i + 1)) ++ T = out ++ (line.extract i (i + 1) ++ T) := fun T => ba_asc _ _ _
    have eb : ∀ T : ByteArray, ((out ++ o5) ++ line.extract i (i + 1)) ++ T = out ++ (o5 ++ (line.extract i (i + 1) ++ T)) := fun T => by rw [ba_asc, ba_asc]
    rw [ea] at IHa
    rw [eb] at IHb
    rw [f15_l1, dec_true (show ((i : Nat) : Int) < ((line.size : Nat) : Int) by omega), ho, dec_true hn, wrap_succ (by omega), Int.toNat_natCast, Int.toNat_natCast, d1, d2, d3, dec_true (show (0 : Int) ≤ ((i : Nat) : Int) by omega), dec_true (show ((i : Nat) : Int) ≤ ((i + 1 : Nat) : Int) by omega), dec_true (show ((i + 1 : Nat) : Int) ≤ ((line.size : Nat) : Int) by omega), bytF]
    cases tkR o1 o2 ((i + 1 : Nat) : Int)
    · exact IHf
    · cases sm
      · refine IHa.trans ?_
        simp only [cond_true, cond_false, Bool.false_and, ba_asc, ba_nil]
      · cases tkR o1 o2 ((i : Nat) : Int)
        · refine IHb.trans ?_
          simp only [cond_true, Bool.not_false, Bool.and_self, ba_asc]
        · refine IHa.trans ?_
          simp only [cond_true, cond_false, Bool.not_true, Bool.and_false, ba_asc, ba_nil]
theorem f15_s1_eq (line : ByteArray) (out : ByteArray) (some' : Bool) (v55 : Int) (v56 : Int) (o0 : Bool) (o1 : List V) (o2 : Bool) (o3 : ByteArray) (o4 : Bool) (o5 : ByteArray) (hp : ((v55 == ((line.size : Nat) : Int)) && (v56 == 0) && !some' && (out.size == 0) && okR o1 && decide (o1.length ≤ 1000000000) && decide (line.size ≤ 100000) && decide (o5.size ≤ 5000)) = true) : ∃ n, ∀ (R : Type) (κ : Ex → St → Option R), f15_l1 n line out some' v55 v56 o0 o1 o2 o3 o4 o5 R κ = f15_s1 line out some' v55 v56 o0 o1 o2 o3 o4 o5 R κ := by
  simp only [Bool.and_eq_true, decide_eq_true_eq, beq_iff_eq, Bool.not_eq_true'] at hp
  obtain ⟨⟨⟨⟨⟨⟨⟨rfl, rfl⟩, rfl⟩, h4⟩, h7⟩, h8⟩, h9⟩, h10⟩ := hp
  obtain rfl : out = ⟨#[]⟩ := ba_zero0 h4
  refine ⟨line.size + 1, fun R κ => ?_⟩
  have := f15_loop1 line o0 o1 o2 o3 o4 o5 h7 h8 h9 h10 R κ line.size 0 false ⟨#[]⟩ (by omega) (Nat.zero_le _)
  rw [ba_nil] at this
  exact this
def t_f15_l1 (st : St) (R : Type) (κ : Ex → St → Option R) : Option R := bif ckS f15_l1_ls f15_l1_rs st then (bif ((((st.env 55).intOf) == ((((st.env 1).strOf).size : Nat) : Int)) && (((st.env 56).intOf) == 0) && !((st.env 8).boolOf) && (((st.env 7).strOf).size == 0) && okR ((nthV (rowOf (st.regs (.loc 2))) 1).cellsOf) && decide (((nthV (rowOf (st.regs (.loc 2))) 1).cellsOf).length ≤ 1000000000) && decide (((st.env 1).strOf).size ≤ 100000) && decide (((nthV (rowOf (st.regs (.loc 2))) 5).strOf).size ≤ 5000)) then f15_s1 ((st.env 1).strOf) ((st.env 7).strOf) ((st.env 8).boolOf) ((st.env 55).intOf) ((st.env 56).intOf) ((nthV (rowOf (st.regs (.loc 2))) 0).boolOf) ((nthV (rowOf (st.regs (.loc 2))) 1).cellsOf) ((nthV (rowOf (st.regs (.loc 2))) 2).boolOf) ((nthV (rowOf (st.regs (.loc 2))) 3).strOf) ((nthV (rowOf (st.regs (.loc 2))) 4).boolOf) ((nthV (rowOf (st.regs (.loc 2))) 5).strOf) R κ else none) else none
theorem t_f15_l1_ok : ∀ st0 R κ r, t_f15_l1 (forget C 15 [0, 1, 0, 1, 1, 1, 1] st0) R κ = some r → ∃ ee ss, κ ee ss = some r ∧ RunP C prim 15 [0, 1, 0, 1, 1, 1, 1] (forget C 15 [0, 1, 0, 1, 1, 1, 1] st0) ee ss := by
  intro st0 R κ r h
  obtain ⟨hs, h⟩ := cond_some h
  obtain ⟨hp, h⟩ := cond_some h
  rw [canon (ls := f15_l1_ls) (rs := f15_l1_rs) (by kernel_rfl) st0 hs]
  obtain ⟨n, hn⟩ := f15_s1_eq _ _ _ _ _ _ _ _ _ _ _ hp
  rw [← hn] at h
  exact f15_l1_ok n _ _ _ _ _ _ _ _ _ _ _ R κ r h

def K_f15 : CallK := kCons 34 k34 <| kCons 39 k39 <| kNil
theorem K_f15_ok : KOK C prim K_f15 := KOK.cons k34_ok <| KOK.cons k39_ok <| KOK.nil
def T_f15 : Tab := tCons [0, 1, 0, 1, 0, 1, 0, 1, 1, 1] t_f15_l0 <| tCons [0, 1, 0, 1, 1, 1, 1] t_f15_l1 <| tNil
theorem T_f15_ok : TOK C prim 15 T_f15 := TOK.cons t_f15_l0_ok <| TOK.cons t_f15_l1_ok <| TOK.nil
def f15 (o0 : Bool) (o1 : List V) (o2 : Bool) (o3 : ByteArray) (o4 : Bool) (o5 : ByteArray) (line : ByteArray) : Option (V × List Rg) :=
  bif o0 then
    bif ((decide ((0 : Int) < ((o3.size : Nat) : Int))) && true) then
      bif ((decide (line.size ≤ 1000000000)) && true) then
        bif (!(hasB line ((o3.data.getD 0 0).toNat : Int))) then
          some (.tp [.sc (.string line), .sc (.bool (!o4))], [])
        else
          bif ((decide (line.size ≤ 1000000000)) && true) then
            bif (((((lenE 2 ((fieldsV line o3)).length) : Nat) : Int) == ((lenE 2 (fieldsV line o3).length : Nat) : Int)) && ((0 : Int) == 0) && !false && ((⟨#[]⟩ : ByteArray).size == 0) && okSp line.size (fieldsV line o3) && decide ((fieldsV line o3).length ≤ 1000000) && okR o1 && decide (o1.length ≤ 1000000000) && decide (line.size ≤ 100000) && decide (o5.size ≤ 5000)) then
              some (.tp [.sc (.string (fldB line o1 o2 o5 0 false (fieldsV line o3))), .sc (.bool true)], [])
            else none
          else none
      else none
    else none
  else
    bif ((((line.size : Nat) : Int) == ((line.size : Nat) : Int)) && ((0 : Int) == 0) && !false && ((⟨#[]⟩ : ByteArray).size == 0) && okR o1 && decide (o1.length ≤ 1000000000) && decide (line.size ≤ 100000) && decide (o5.size ≤ 5000)) then
      some (.tp [.sc (.string (bytB o1 o2 o5 line)), .sc (.bool true)], [])
    else none
theorem f15_run (o0 : Bool) (o1 : List V) (o2 : Bool) (o3 : ByteArray) (o4 : Bool) (o5 : ByteArray) (line : ByteArray) (z9 : V × List Rg) (h : f15 o0 o1 o2 o3 o4 o5 line = some z9) : CallR C prim 15 [.ag [.sc (.bool o0), .sl 2 o1, .sc (.bool o2), .sc (.string o3), .sc (.bool o4), .sc (.string o5)], .sc (.string line)] [] z9 := by
  refine call_fn (K := K_f15) (T := T_f15) K_f15_ok T_f15_ok (by kernel_rfl) ?_
  refine Eq.trans ?_ h
  kernel_rfl

theorem f15_eq (o0 : Bool) (o1 : List V) (o2 : Bool) (o3 : ByteArray) (o4 : Bool) (o5 : ByteArray) (line : ByteArray) (hp : (okR o1 && decide (o1.length ≤ 1000000000) && decide (line.size ≤ 100000) && decide (o5.size ≤ 5000) && (!o0 || one1 o3)) = true) : f15 o0 o1 o2 o3 o4 o5 line = some (.tp [.sc (.string (cutS o0 o1 o2 o3 o5 line)), .sc (.bool (cutK o0 o3 o4 line))], []) := by
  have hq := hp
  simp only [Bool.and_eq_true] at hp
  obtain ⟨⟨⟨⟨h1, h2⟩, h3⟩, h4⟩, h5⟩ := hp
  have h3' : line.size ≤ 100000 := of_decide_eq_true h3
  obtain ⟨_, _, a3⟩ := fldF_ok line o3 line.size line.size 0 0 (by omega) (Nat.le_refl _)
  have hlen : (fieldsV line o3).length ≤ 1000000 := by
    have : (fldC line o3).length ≤ 2 * line.size := a3
    unfold fieldsV
    simp only [List.length_append, List.length_cons, List.length_nil]
    omega
  unfold f15 cutS cutK
  rw [h1, h2, h3, h4, fieldsV_ok, dec_true hlen, dec_true (show line.size ≤ 1000000000 by omega), beq_self_eq_true ((lenE 2 (fieldsV line o3).length : Nat) : Int), beq_self_eq_true ((line.size : Nat) : Int)]
  cases o0 with
  | false => rfl
  | true =>
    have ho : one1 o3 = true := h5
    rw [dec_true (show (0 : Int) < ((o3.size : Nat) : Int) by rw [one1_size ho]; omega)]
    show (bif _ then _ else _) = _
    unfold in0
    cases hasB line (((o3.data.getD 0 0).toNat : Nat) : Int) <;> rfl
def k15 : PrimT := fun vs gs => match vs, gs with
  | [.ag [.sc (.bool o0), .sl 2 o1, .sc (.bool o2), .sc (.string o3), .sc (.bool o4), .sc (.string o5)], .sc (.string line)], [] => ((okR o1 && decide (o1.length ≤ 1000000000) && decide (line.size ≤ 100000) && decide (o5.size ≤ 5000) && (!o0 || one1 o3)), .tp [.sc (.string (cutS o0 o1 o2 o3 o5 line)), .sc (.bool (cutK o0 o3 o4 line))], [])
  | _, _ => (false, .bad, [])
theorem k15_ok : ∀ vs gs x, k15 vs gs = (true, x) → CallR C prim 15 vs gs x := by
  intro vs gs x h
  unfold k15 at h
  split at h
  · simp only [Prod.mk.injEq] at h
    obtain ⟨hp, rfl⟩ := h
    exact f15_run _ _ _ _ _ _ _ _ (f15_eq _ _ _ _ _ _ _ hp)
  · cases h

def K_f7_l1 : CallK := kCons 31 k31 <| kNil
theorem K_f7_l1_ok : KOK C prim K_f7_l1 := KOK.cons k31_ok <| KOK.nil
def T_f7_l1 : Tab := tNil
theorem T_f7_l1_ok : TOK C prim 7 T_f7_l1 := TOK.nil
def f7_l1 : Nat → List V → Int → Int → Int → Int → Bool → List V → Bool → ByteArray → Bool → ByteArray → List V → List V → List V → (R : Type) → (Ex → St → Option R) → Option R
  | 0, _, _, _, _, _, _, _, _, _, _, _, _, _, _, _, _ => none
  | n + 1, v26, v27, v28, v59, v60, o0, o1, o2, o3, o4, o5, out, words, r58, R, κ =>
    bif (decide (v60 < v59)) then
      bif (((decide ((0 : Int) ≤ v60)) && (decide (v60 < ((r58.length : Nat) : Int)))) && true) then
        bif (((V.isStr (nthV r58 (((v60).toNat * 1) + 0))) && true) && true) then
          bif ((okR o1 && decide (o1.length ≤ 1000000000)) && true) then
            bif (tkR o1 o2 (IntKind.wrap .i64 (v60 + 1))) then
              bif (((roomy ((words.length + 1) * 16)) && (roomy (words.length + 1))) && true) then
                f7_l1 n v26 v27 v28 v59 (IntKind.wrap .i64 (v60 + 1)) o0 o1 o2 o3 o4 o5 out (words ++ [.sc (.string (V.strOf (nthV r58 (((v60).toNat * 1) + 0))))]) r58 R κ
              else none
            else
              f7_l1 n v26 v27 v28 v59 (IntKind.wrap .i64 (v60 + 1)) o0 o1 o2 o3 o4 o5 out words r58 R κ
          else none
        else none
      else none
    else
      κ (.ex 3) (mkS [(2, .ptrB (.loc 2) 0), (4, .bad), (5, .bad), (8, .ref ⟨.loc 8, 0, [], 9, false⟩), (11, .ref ⟨.loc 11, 0, [], 9, false⟩), (26, .sl 1 v26), (27, .sc (.int .i64 v27)), (28, .sc (.int .i64 v28))] [(.loc 2, some ⟨true, [.sc (.bool o0), .sl 2 o1, .sc (.bool o2), .sc (.string o3), .sc (.bool o4), .sc (.string o5)]⟩), (.loc 8, some ⟨false, [.own 9 false out]⟩), (.loc 11, some ⟨false, [.own 9 false words]⟩)])
def f7_l1_ls : List (Nat × Pat) := [(2, .is (.ptrB (.loc 2) 0)), (8, .is (.ref ⟨.loc 8, 0, [], 9, false⟩)), (11, .is (.ref ⟨.loc 11, 0, [], 9, false⟩)), (26, .sl 1), (27, .i .i64), (28, .i .i64), (58, .is (.ref ⟨.loc 58, 0, [], 9, false⟩)), (59, .i .i64), (60, .i .i64)]
def f7_l1_rs : List RPat := [⟨.loc 2, true, [.b, .sl 2, .b, .s, .b, .s]⟩, ⟨.loc 8, false, [.own 9 false]⟩, ⟨.loc 11, false, [.own 9 false]⟩, ⟨.loc 58, false, [.own 9 false]⟩]
theorem f7_l1_ok (n : Nat) : ∀ (v26 : List V) (v27 : Int) (v28 : Int) (v59 : Int) (v60 : Int) (o0 : Bool) (o1 : List V) (o2 : Bool) (o3 : ByteArray) (o4 : Bool) (o5 : ByteArray) (out : List V) (words : List V) (r58 : List V) (R : Type) (κ : Ex → St → Option R) (r : R), f7_l1 n v26 v27 v28 v59 v60 o0 o1 o2 o3 o4 o5 out words r58 R κ = some r → ∃ ee ss, κ ee ss = some r ∧ RunP C prim 7 [0, 1, 0, 1, 1, 1, 0, 0, 1, 1, 0, 0, 1, 0, 1, 1, 1, 1] (mkS [(2, .ptrB (.loc 2) 0), (8, .ref ⟨.loc 8, 0, [], 9, false⟩), (11, .ref ⟨.loc 11, 0, [], 9, false⟩), (26, .sl 1 v26), (27, .sc (.int .i64 v27)), (28, .sc (.int .i64 v28)), (58, .ref ⟨.loc 58, 0, [], 9, false⟩), (59, .sc (.int .i64 v59)), (60, .sc (.int .i64 v60))] [(.loc 2, some ⟨true, [.sc (.bool o0), .sl 2 o1, .sc (.bool o2), .sc (.string o3), .sc (.bool o4), .sc (.string o5)]⟩), (.loc 8, some ⟨false, [.own 9 false out]⟩), (.loc 11, some ⟨false, [.own 9 false words]⟩), (.loc 58, some ⟨false, [.own 9 false r58]⟩)]) ee ss := by
  induction n with
  | zero => intro v26 v27 v28 v59 v60 o0 o1 o2 o3 o4 o5 out words r58 R κ r h; cases h
  | succ n ih =>
    intro v26 v27 v28 v59 v60 o0 o1 o2 o3 o4 o5 out words r58 R κ r h
    refine loop_round (K := K_f7_l1) (T := T_f7_l1) K_f7_l1_ok T_f7_l1_ok (p := [0, 1, 0, 1, 1, 1, 0, 0, 1, 1, 0, 0, 1, 0, 1, 1, 1, 1]) (by kernel_rfl) (fun st => bif ckS f7_l1_ls f7_l1_rs st then f7_l1 n ((st.env 26).cellsOf) ((st.env 27).intOf) ((st.env 28).intOf) ((st.env 59).intOf) ((st.env 60).intOf) ((nthV (rowOf (st.regs (.loc 2))) 0).boolOf) ((nthV (rowOf (st.regs (.loc 2))) 1).cellsOf) ((nthV (rowOf (st.regs (.loc 2))) 2).boolOf) ((nthV (rowOf (st.regs (.loc 2))) 3).strOf) ((nthV (rowOf (st.regs (.loc 2))) 4).boolOf) ((nthV (rowOf (st.regs (.loc 2))) 5).strOf) ((nthV (rowOf (st.regs (.loc 8))) 0).cellsOf) ((nthV (rowOf (st.regs (.loc 11))) 0).cellsOf) ((nthV (rowOf (st.regs (.loc 58))) 0).cellsOf) R κ else none) (fun st0 h0 => ?_) ?_
    · obtain ⟨hs, h0⟩ := cond_some h0
      rw [canon (ls := f7_l1_ls) (rs := f7_l1_rs) (by kernel_rfl) st0 hs]
      exact ih _ _ _ _ _ _ _ _ _ _ _ _ _ _ R κ r h0
    · refine Eq.trans ?_ h
      kernel_rfl

def f7_s1 (v26 : List V) (v27 : Int) (v28 : Int) (v59 : Int) (v60 : Int) (o0 : Bool) (o1 : List V) (o2 : Bool) (o3 : ByteArray) (o4 : Bool) (o5 : ByteArray) (out : List V) (words : List V) (r58 : List V) (R : Type) (κ : Ex → St → Option R) : Option R :=
  κ (.ex 3) (mkS [(2, .ptrB (.loc 2) 0), (4, .bad), (5, .bad), (8, .ref ⟨.loc 8, 0, [], 9, false⟩), (11, .ref ⟨.loc 11, 0, [], 9, false⟩), (26, .sl 1 v26), (27, .sc (.int .i64 v27)), (28, .sc (.int .i64 v28))] [(.loc 2, some ⟨true, [.sc (.bool o0), .sl 2 o1, .sc (.bool o2), .sc (.string o3), .sc (.bool o4), .sc (.string o5)]⟩), (.loc 8, some ⟨false, [.own 9 false out]⟩), (.loc 11, some ⟨false, [.own 9 false (fldW o1 o2 0 r58)]⟩)])
theorem roomC {n : Nat} (h : n ≤ 1000000) : roomy ((n + 1) * 16) = true ∧ roomy (n + 1) = true := ⟨dec_true (by omega), dec_true (by omega)⟩
theorem f7_loop1 (v26 : List V) (v27 v28 : Int) (o0 : Bool) (o1 : List V) (o2 : Bool) (o3 : ByteArray) (o4 : Bool) (o5 : ByteArray) (out : List V) (ho : okR o1 = true) (hn : o1.length ≤ 1000000000) (l : List V) (hl : l.all V.isStr = true) (hz : l.length ≤ 1000000) (R : Type) (κ : Ex → St → Option R) : ∀ (k i : Nat) (words : List V), i + k = l.length → words.length ≤ i →
    f7_l1 (k + 1) v26 v27 v28 ((l.length : Nat) : Int) ((i : Nat) : Int) o0 o1 o2 o3 o4 o5 out words l R κ = κ (.ex 3) (mkS [(2, .ptrB (.loc 2) 0), (4, .bad), (5, .bad), (8, .ref ⟨.loc 8, 0, [], 9, false⟩), (11, .ref ⟨.loc 11, 0, [], 9, false⟩), (26, .sl 1 v26), (27, .sc (.int .i64 v27)), (28, .sc (.int .i64 v28))] [(.loc 2, some ⟨true, [.sc (.bool o0), .sl 2 o1, .sc (.bool o2), .sc (.string o3), .sc (.bool o4), .sc (.string o5)]⟩), (.loc 8, some ⟨false, [.own 9 false out]⟩), (.loc 11, some ⟨false, [.own 9 false (words ++ fldW o1 o2 i (l.drop i))]⟩)])
  | 0, i, words, h, hw => by
    rw [f7_l1, dec_false (by omega), List.drop_of_length_le (by omega), fldW, List.append_nil]
    rfl
  | k + 1, i, words, h, hw => by
    have hi : i < l.length := by omega
    have i1 : l[i].isStr = true := List.all_eq_true.1 hl _ (List.getElem_mem hi)
    obtain ⟨r1, r2⟩ := roomC (n := words.length) (by omega)
    have IHf := f7_loop1 v26 v27 v28 o0 o1 o2 o3 o4 o5 out ho hn l hl hz R κ k (i + 1) words (by omega) (by omega)
    have IHt := f7_loop1 v26 v27 v28 o0 o1 o2 o3 o4 o5 out ho hn l hl hz R κ k (i + 1) (words ++ [.sc (.string l[i].strOf)]) (by omega) (by simp only [List.length_append, List.length_cons, List.length_nil]; omega)
    rw [List.append_assoc] at IHt
    rw [f7_l1, dec_true (show ((i : Nat) : Int) < ((l.length : Nat) : Int) by omega), dec_true (show (0 : Int) ≤ ((i : Nat) : Int) by omega), nth_at hi, i1, ho, dec_true hn, wrap_succ (by omega), r1, r2, List.drop_eq_getElem_cons hi, fldW]
    cases tkR o1 o2 ((i + 1 : Nat) : Int)
    · exact IHf
    · exact IHt
theorem f7_s1_eq (v26 : List V) (v27 : Int) (v28 : Int) (v59 : Int) (v60 : Int) (o0 : Bool) (o1 : List V) (o2 : Bool) (o3 : ByteArray) (o4 : Bool) (o5 : ByteArray) (out : List V) (words : List V) (r58 : List V) (hp : ((v59 == ((r58.length : Nat) : Int)) && (v60 == 0) && (words.length == 0) && r58.all V.isStr && decide (r58.length ≤ 1000000) && okR o1 && decide (o1.length ≤ 1000000000)) = true) : ∃ n, ∀ (R : Type) (κ : Ex → St → Option R), f7_l1 n v26 v27 v28 v59 v60 o0 o1 o2 o3 o4 o5 out words r58 R κ = f7_s1 v26 v27 v28 v59 v60 o0 o1 o2 o3 o4 o5 out words r58 R κ := by
  simp only [Bool.and_eq_true, decide_eq_true_eq, beq_iff_eq] at hp
  obtain ⟨⟨⟨⟨⟨⟨rfl, rfl⟩, h3⟩, h4⟩, h5⟩, h6⟩, h7⟩ := hp
  obtain rfl : words = [] := List.eq_nil_of_length_eq_zero h3
  exact ⟨r58.length + 1, fun R κ => f7_loop1 v26 v27 v28 o0 o1 o2 o3 o4 o5 out h6 h7 r58 h4 h5 R κ r58.length 0 [] (by omega) (Nat.le_refl _)⟩
def t_f7_l1 (st : St) (R : Type) (κ : Ex → St → Option R) : Option R := bif ckS f7_l1_ls f7_l1_rs st then (bif ((((st.env 59).intOf) == ((((nthV (rowOf (st.regs (.loc 58))) 0).cellsOf).length : Nat) : Int)) && (((st.env 60).intOf) == 0) && (((nthV (rowOf (st.regs (.loc 11))) 0).cellsOf).length == 0) && ((nthV (rowOf (st.regs (.loc 58))) 0).cellsOf).all V.isStr && decide (((nthV (rowOf (st.regs (.loc 58))) 0).cellsOf).length ≤ 1000000) && okR ((nthV (rowOf (st.regs (.loc 2))) 1).cellsOf) && decide (((nthV (rowOf (st.regs (.loc 2))) 1).cellsOf).length ≤ 1000000000)) then f7_s1 ((st.env 26).cellsOf) ((st.env 27).intOf) ((st.env 28).intOf) ((st.env 59).intOf) ((st.env 60).intOf) ((nthV (rowOf (st.regs (.loc 2))) 0).boolOf) ((nthV (rowOf (st.regs (.loc 2))) 1).cellsOf) ((nthV (rowOf (st.regs (.loc 2))) 2).boolOf) ((nthV (rowOf (st.regs (.loc 2))) 3).strOf) ((nthV (rowOf (st.regs (.loc 2))) 4).boolOf) ((nthV (rowOf (st.regs (.loc 2))) 5).strOf) ((nthV (rowOf (st.regs (.loc 8))) 0).cellsOf) ((nthV (rowOf (st.regs (.loc 11))) 0).cellsOf) ((nthV (rowOf (st.regs (.loc 58))) 0).cellsOf) R κ else none) else none
theorem t_f7_l1_ok : ∀ st0 R κ r, t_f7_l1 (forget C 7 [0, 1, 0, 1, 1, 1, 0, 0, 1, 1, 0, 0, 1, 0, 1, 1, 1, 1] st0) R κ = some r → ∃ ee ss, κ ee ss = some r ∧ RunP C prim 7 [0, 1, 0, 1, 1, 1, 0, 0, 1, 1, 0, 0, 1, 0, 1, 1, 1, 1] (forget C 7 [0, 1, 0, 1, 1, 1, 0, 0, 1, 1, 0, 0, 1, 0, 1, 1, 1, 1] st0) ee ss := by
  intro st0 R κ r h
  obtain ⟨hs, h⟩ := cond_some h
  obtain ⟨hp, h⟩ := cond_some h
  rw [canon (ls := f7_l1_ls) (rs := f7_l1_rs) (by kernel_rfl) st0 hs]
  obtain ⟨n, hn⟩ := f7_s1_eq _ _ _ _ _ _ _ _ _ _ _ _ _ _ hp
  rw [← hn] at h
  exact f7_l1_ok n _ _ _ _ _ _ _ _ _ _ _ _ _ _ R κ r h

def K_f7_l0 : CallK := kCons 24 k24 <| kCons 29 k29 <| kCons 30 k30 <| kCons 32 k32 <| kNil
theorem K_f7_l0_ok : KOK C prim K_f7_l0 := KOK.cons k24_ok <| KOK.cons k29_ok <| KOK.cons k30_ok <| KOK.cons k32_ok <| KOK.nil
def T_f7_l0 : Tab := tCons [0, 1, 0, 1, 1, 1, 0, 0, 1, 1, 0, 0, 1, 0, 1, 1, 1, 1] t_f7_l1 <| tNil
theorem T_f7_l0_ok : TOK C prim 7 T_f7_l0 := TOK.cons t_f7_l1_ok <| TOK.nil
def f7_l0 : Nat → List V → Int → Int → Bool → List V → Bool → ByteArray → Bool → ByteArray → List V → (R : Type) → (Ex → St → Option R) → Option R
  | 0, _, _, _, _, _, _, _, _, _, _, _, _ => none
  | n + 1, v26, v27, v28, o0, o1, o2, o3, o4, o5, out, R, κ =>
    bif (decide (v28 < v27)) then
      bif (((decide ((0 : Int) ≤ v28)) && (decide (v28 < ((v26.length : Nat) : Int)))) && true) then
        bif (((V.isStr (nthV v26 (((v28).toNat * 1) + 0))) && true) && true) then
          bif (!o0) then
            bif ((okR o1 && decide (o1.length ≤ 1000000000) && decide ((V.strOf (nthV v26 (((v28).toNat * 1) + 0))).size ≤ 100000) && decide (o5.size ≤ 5000)) && true) then
              bif (((roomy ((out.length + 1) * 16)) && (roomy (out.length + 1))) && true) then
                f7_l0 n v26 v27 (IntKind.wrap .i64 (v28 + 1)) o0 o1 o2 o3 o4 o5 (out ++ [.sc (.string (bytB o1 o2 o5 (V.strOf (nthV v26 (((v28).toNat * 1) + 0)))))]) R κ
              else none
            else none
          else
            bif ((one1 o3) && true) then
              bif (!(hasS (V.strOf (nthV v26 (((v28).toNat * 1) + 0))) o3)) then
                bif (!o4) then
                  bif (((roomy ((out.length + 1) * 16)) && (roomy (out.length + 1))) && true) then
                    f7_l0 n v26 v27 (IntKind.wrap .i64 (v28 + 1)) o0 o1 o2 o3 o4 o5 (out ++ [.sc (.string (V.strOf (nthV v26 (((v28).toNat * 1) + 0))))]) R κ
                  else none
                else
                  f7_l0 n v26 v27 (IntKind.wrap .i64 (v28 + 1)) o0 o1 o2 o3 o4 o5 out R κ
              else
                bif ((one1 o3 && decide ((V.strOf (nthV v26 (((v28).toNat * 1) + 0))).size ≤ 1000000000)) && true) then
                  bif ((((((splitQ o3 (V.strOf (nthV v26 (((v28).toNat * 1) + 0))))).length : Nat) : Int) == (((splitQ o3 (V.strOf (nthV v26 (((v28).toNat * 1) + 0)))).length : Nat) : Int)) && ((0 : Int) == 0) && (([] : List V).length == 0) && (splitQ o3 (V.strOf (nthV v26 (((v28).toNat * 1) + 0)))).all V.isStr && decide ((splitQ o3 (V.strOf (nthV v26 (((v28).toNat * 1) + 0)))).length ≤ 1000000) && okR o1 && decide (o1.length ≤ 1000000000)) then
                    bif ((decide (((fldW o1 o2 0 (splitQ o3 (V.strOf (nthV v26 (((v28).toNat * 1) + 0)))))).length ≤ 140737488355328) && decide ((joinB (fldW o1 o2 0 (splitQ o3 (V.strOf (nthV v26 (((v28).toNat * 1) + 0))))) o5).size ≤ 140737488355328) && (fldW o1 o2 0 (splitQ o3 (V.strOf (nthV v26 (((v28).toNat * 1) + 0))))).all V.isStr) && true) then
                      bif (((roomy ((out.length + 1) * 16)) && (roomy (out.length + 1))) && true) then
                        f7_l0 n v26 v27 (IntKind.wrap .i64 (v28 + 1)) o0 o1 o2 o3 o4 o5 (out ++ [.sc (.string (joinB (fldW o1 o2 0 (splitQ o3 (V.strOf (nthV v26 (((v28).toNat * 1) + 0))))) o5))]) R κ
                      else none
                    else none
                  else none
                else none
            else none
        else none
      else none
    else
      κ (.ex 0) (mkS [(4, .bad), (5, .bad), (8, .ref ⟨.loc 8, 0, [], 9, false⟩)] [(.loc 8, some ⟨false, [.own 9 false out]⟩)])
def f7_l0_ls : List (Nat × Pat) := [(2, .is (.ptrB (.loc 2) 0)), (8, .is (.ref ⟨.loc 8, 0, [], 9, false⟩)), (26, .sl 1), (27, .i .i64), (28, .i .i64)]
def f7_l0_rs : List RPat := [⟨.loc 2, true, [.b, .sl 2, .b, .s, .b, .s]⟩, ⟨.loc 8, false, [.own 9 false]⟩]
theorem f7_l0_ok (n : Nat) : ∀ (v26 : List V) (v27 : Int) (v28 : Int) (o0 : Bool) (o1 : List V) (o2 : Bool) (o3 : ByteArray) (o4 : Bool) (o5 : ByteArray) (out : List V) (R : Type) (κ : Ex → St → Option R) (r : R), f7_l0 n v26 v27 v28 o0 o1 o2 o3 o4 o5 out R κ = some r → ∃ ee ss, κ ee ss = some r ∧ RunP C prim 7 [0, 1, 0, 1, 1, 1, 1] (mkS [(2, .ptrB (.loc 2) 0), (8, .ref ⟨.loc 8, 0, [], 9, false⟩), (26, .sl 1 v26), (27, .sc (.int .i64 v27)), (28, .sc (.int .i64 v28))] [(.loc 2, some ⟨true, [.sc (.bool o0), .sl 2 o1, .sc (.bool o2), .sc (.string o3), .sc (.bool o4), .sc (.string o5)]⟩), (.loc 8, some ⟨false, [.own 9 false out]⟩)]) ee ss := by
  induction n with
  | zero => intro v26 v27 v28 o0 o1 o2 o3 o4 o5 out R κ r h; cases h
  | succ n ih =>
    intro v26 v27 v28 o0 o1 o2 o3 o4 o5 out R κ r h
    refine loop_round (K := K_f7_l0) (T := T_f7_l0) K_f7_l0_ok T_f7_l0_ok (p := [0, 1, 0, 1, 1, 1, 1]) (by kernel_rfl) (fun st => bif ckS f7_l0_ls f7_l0_rs st then f7_l0 n ((st.env 26).cellsOf) ((st.env 27).intOf) ((st.env 28).intOf) ((nthV (rowOf (st.regs (.loc 2))) 0).boolOf) ((nthV (rowOf (st.regs (.loc 2))) 1).cellsOf) ((nthV (rowOf (st.regs (.loc 2))) 2).boolOf) ((nthV (rowOf (st.regs (.loc 2))) 3).strOf) ((nthV (rowOf (st.regs (.loc 2))) 4).boolOf) ((nthV (rowOf (st.regs (.loc 2))) 5).strOf) ((nthV (rowOf (st.regs (.loc 8))) 0).cellsOf) R κ else none) (fun st0 h0 => ?_) ?_
    · obtain ⟨hs, h0⟩ := cond_some h0
      rw [canon (ls := f7_l0_ls) (rs := f7_l0_rs) (by kernel_rfl) st0 hs]
      exact ih _ _ _ _ _ _ _ _ _ _ R κ r h0
    · refine Eq.trans ?_ h
      kernel_rfl

def f7_s0 (v26 : List V) (v27 : Int) (v28 : Int) (o0 : Bool) (o1 : List V) (o2 : Bool) (o3 : ByteArray) (o4 : Bool) (o5 : ByteArray) (out : List V) (R : Type) (κ : Ex → St → Option R) : Option R :=
  κ (.ex 0) (mkS [(4, .bad), (5, .bad), (8, .ref ⟨.loc 8, 0, [], 9, false⟩)] [(.loc 8, some ⟨false, [.own 9 false (cutsV o0 o1 o2 o3 o4 o5 v26)]⟩)])
theorem f7_loop0 (o0 : Bool) (o1 : List V) (o2 : Bool) (o3 : ByteArray) (o4 : Bool) (o5 : ByteArray) (h5 : o5.size ≤ 5000) (hc : (!o0 || one1 o3) = true) (ho : okR o1 = true) (hn : o1.length ≤ 1000000000) (l : List V) (hl : l.all (leS 65536) = true) (hz : l.length ≤ 1000000) (R : Type) (κ : Ex → St → Option R) : ∀ (k i : Nat) (out : List V), i + k = l.length → out.length ≤ i →
    f7_l0 (k + 1) l ((l.length : Nat) : Int) ((i : Nat) : Int) o0 o1 o2 o3 o4 o5 out R κ = κ (.ex 0) (mkS [(4, .bad), (5, .bad), (8, .ref ⟨.loc 8, 0, [], 9, false⟩)] [(.loc 8, some ⟨false, [.own 9 false (out ++ cutsV o0 o1 o2 o3 o4 o5 (l.drop i))]⟩)])
  | 0, i, out, h, hw => by
    rw [f7_l0, dec_false (by omega), List.drop_of_length_le (by omega), cutsV, List.append_nil]
    rfl
  | k + 1, i, out, h, hw => by
    have hi : i < l.length := by omega
    obtain ⟨i1, i2⟩ := leS_spec (List.all_eq_true.1 hl _ (List.getElem_mem hi))
    obtain ⟨r1, r2⟩ := roomC (n := out.length) (by omega)
    have IHf := f7_loop0 o0 o1 o2 o3 o4 o5 h5 hc ho hn l hl hz R κ k (i + 1) out (by omega) (by omega)
    have IHt : ∀ b : ByteArray, f7_l0 (k + 1) l ((l.length : Nat) : Int) ((i + 1 : Nat) : Int) o0 o1 o2 o3 o4 o5 (out ++ [.sc (.string b)]) R κ = κ (.ex 0) (mkS [(4, .bad), (5, .bad), (8, .ref ⟨.loc 8, 0, [], 9, false⟩)] [(.loc 8, some ⟨false, [.own 9 false (out ++ (V.sc (.string b) :: cutsV o0 o1 o2 o3 o4 o5 (l.drop (i + 1))))]⟩)]) := by
      intro b
      have := f7_loop0 o0 o1 o2 o3 o4 o5 h5 hc ho hn l hl hz R κ k (i + 1) (out ++ [.sc (.string b)]) (by omega) (by simp only [List.length_append, List.length_cons, List.length_nil]; omega)
      rw [List.append_assoc] at this
      exact this
    rw [f7_l0, dec_true (show ((i : Nat) : Int) < ((l.length : Nat) : Int) by omega), dec_true (show (0 : Int) ≤ ((i : Nat) : Int) by omega), nth_at hi, i1, ho, dec_true hn, dec_true (show l[i].strOf.size ≤ 100000 by omega), dec_true h5, wrap_succ (by omega), r1, r2, List.drop_eq_getElem_cons hi, cutsV]
    unfold cutK cutS
    cases o0 with
    | false => exact IHt _
    | true =>
      have h1 : one1 o3 = true := hc
      obtain ⟨a1, a2⟩ := splitQ_ok o3 l[i].strOf
      obtain ⟨w1, w2⟩ := fldW_ok o1 o2 (splitQ o3 l[i].strOf) 0
      have hj := join_size o1 o2 h1 h5 i2
      rw [h1, hasS_in h1, dec_true (show l[i].strOf.size ≤ 1000000000 by omega), leS_str a1, dec_true (show (splitQ o3 l[i].strOf).length ≤ 1000000 by omega), dec_true (show (fldW o1 o2 0 (splitQ o3 l[i].strOf)).length ≤ 140737488355328 by omega), dec_true (show (joinB (fldW o1 o2 0 (splitQ o3 l[i].strOf)) o5).size ≤ 140737488355328 by omega), w2, cut_law h1, beq_self_eq_true (((splitQ o3 l[i].strOf).length : Nat) : Int)]
      cases in0 o3 l[i].strOf
      · cases o4
        · exact IHt _
        · exact IHf
      · exact IHt _
theorem f7_s0_eq (v26 : List V) (v27 : Int) (v28 : Int) (o0 : Bool) (o1 : List V) (o2 : Bool) (o3 : ByteArray) (o4 : Bool) (o5 : ByteArray) (out : List V) (hp : ((v27 == ((v26.length : Nat) : Int)) && (v28 == 0) && (out.length == 0) && v26.all (leS 65536) && decide (v26.length ≤ 1000000) && decide (o5.size ≤ 5000) && (!o0 || one1 o3) && okR o1 && decide (o1.length ≤ 1000000000)) = true) : ∃ n, ∀ (R : Type) (κ : Ex → St → Option R), f7_l0 n v26 v27 v28 o0 o1 o2 o3 o4 o5 out R κ = f7_s0 v26 v27 v28 o0 o1 o2 o3 o4 o5 out R κ := by
  simp only [Bool.and_eq_true, decide_eq_true_eq, beq_iff_eq] at hp
  obtain ⟨⟨⟨⟨⟨⟨⟨⟨rfl, rfl⟩, h3⟩, h4⟩, h5⟩, h6⟩, h7⟩, h8⟩, h9⟩ := hp
  obtain rfl : out = [] := List.eq_nil_of_length_eq_zero h3
  exact ⟨v26.length + 1, fun R κ => f7_loop0 o0 o1 o2 o3 o4 o5 h6 h7 h8 h9 v26 h4 h5 R κ v26.length 0 [] (by omega) (Nat.le_refl _)⟩
def t_f7_l0 (st : St) (R : Type) (κ : Ex → St → Option R) : Option R := bif ckS f7_l0_ls f7_l0_rs st then (bif ((((st.env 27).intOf) == ((((st.env 26).cellsOf).length : Nat) : Int)) && (((st.env 28).intOf) == 0) && (((nthV (rowOf (st.regs (.loc 8))) 0).cellsOf).length == 0) && ((st.env 26).cellsOf).all (leS 65536) && decide (((st.env 26).cellsOf).length ≤ 1000000) && decide (((nthV (rowOf (st.regs (.loc 2))) 5).strOf).size ≤ 5000) && (!((nthV (rowOf (st.regs (.loc 2))) 0).boolOf) || one1 ((nthV (rowOf (st.regs (.loc 2))) 3).strOf)) && okR ((nthV (rowOf (st.regs (.loc 2))) 1).cellsOf) && decide (((nthV (rowOf (st.regs (.loc 2))) 1).cellsOf).length ≤ 1000000000)) then f7_s0 ((st.env 26).cellsOf) ((st.env 27).intOf) ((st.env 28).intOf) ((nthV (rowOf (st.regs (.loc 2))) 0).boolOf) ((nthV (rowOf (st.regs (.loc 2))) 1).cellsOf) ((nthV (rowOf (st.regs (.loc 2))) 2).boolOf) ((nthV (rowOf (st.regs (.loc 2))) 3).strOf) ((nthV (rowOf (st.regs (.loc 2))) 4).boolOf) ((nthV (rowOf (st.regs (.loc 2))) 5).strOf) ((nthV (rowOf (st.regs (.loc 8))) 0).cellsOf) R κ else none) else none
theorem t_f7_l0_ok : ∀ st0 R κ r, t_f7_l0 (forget C 7 [0, 1, 0, 1, 1, 1, 1] st0) R κ = some r → ∃ ee ss, κ ee ss = some r ∧ RunP C prim 7 [0, 1, 0, 1, 1, 1, 1] (forget C 7 [0, 1, 0, 1, 1, 1, 1] st0) ee ss := by
  intro st0 R κ r h
  obtain ⟨hs, h⟩ := cond_some h
  obtain ⟨hp, h⟩ := cond_some h
  rw [canon (ls := f7_l0_ls) (rs := f7_l0_rs) (by kernel_rfl) st0 hs]
  obtain ⟨n, hn⟩ := f7_s0_eq _ _ _ _ _ _ _ _ _ _ hp
  rw [← hn] at h
  exact f7_l0_ok n _ _ _ _ _ _ _ _ _ _ R κ r h

def K_f7 : CallK := kCons 26 k26 <| kCons 27 k27 <| kCons 28 k28 <| kCons 33 k33 <| kNil
theorem K_f7_ok : KOK C prim K_f7 := KOK.cons k26_ok <| KOK.cons k27_ok <| KOK.cons k28_ok <| KOK.cons k33_ok <| KOK.nil
def T_f7 : Tab := tCons [0, 1, 0, 1, 1, 1, 1] t_f7_l0 <| tNil
theorem T_f7_ok : TOK C prim 7 T_f7 := TOK.cons t_f7_l0_ok <| TOK.nil
def f7 (o0 : Bool) (o1 : List V) (o2 : Bool) (o3 : ByteArray) (o4 : Bool) (o5 : ByteArray) (text : ByteArray) : Option (V × List Rg) :=
  bif ((okR o1 && decide (o1.length ≤ 1000000000) && decide (o5.size ≤ 1000000000)) && true) then
    bif ((cutE o0 o1 o3 o5) != 0) then
      some (.tp [.sc (.string ⟨#[]⟩), .sc (.int .i64 (cutE o0 o1 o3 o5))], [])
    else
      bif ((([.sc (.string text)] : List V).all shortS && decide (([.sc (.string text)] : List V).length ≤ 1000000000)) && true) then
        bif ((bif ([.sc (.string text)] : List V).any largeV then (2 : Int) else 0) != 0) then
          some (.tp [.sc (.string ⟨#[]⟩), .sc (.int .i64 (bif ([.sc (.string text)] : List V).any largeV then (2 : Int) else 0))], [])
        else
          bif ((decide (text.size ≤ 1000000000)) && true) then
            bif ((((((linesV text)).length : Nat) : Int) == (((linesV text).length : Nat) : Int)) && ((0 : Int) == 0) && (([] : List V).length == 0) && (linesV text).all (leS 65536) && decide ((linesV text).length ≤ 1000000) && decide (o5.size ≤ 5000) && (!o0 || one1 o3) && okR o1 && decide (o1.length ≤ 1000000000)) then
              bif (((cutsV o0 o1 o2 o3 o4 o5 (linesV text)).all V.isStr && decide ((cutsV o0 o1 o2 o3 o4 o5 (linesV text)).length ≤ 1000000000) && decide ((resB (cutsV o0 o1 o2 o3 o4 o5 (linesV text))).size ≤ 100000000000)) && true) then
                some (.tp [.sc (.string (resB (cutsV o0 o1 o2 o3 o4 o5 (linesV text)))), .sc (.int .i64 0)], [])
              else none
            else none
          else none
      else none
  else none
theorem f7_run (o0 : Bool) (o1 : List V) (o2 : Bool) (o3 : ByteArray) (o4 : Bool) (o5 : ByteArray) (text : ByteArray) (z9 : V × List Rg) (h : f7 o0 o1 o2 o3 o4 o5 text = some z9) : CallR C prim 7 [.ag [.sc (.bool o0), .sl 2 o1, .sc (.bool o2), .sc (.string o3), .sc (.bool o4), .sc (.string o5)], .sc (.string text)] [] z9 := by
  refine call_fn (K := K_f7) (T := T_f7) K_f7_ok T_f7_ok (by kernel_rfl) ?_
  refine Eq.trans ?_ h
  kernel_rfl

theorem f7_eq (o0 : Bool) (o1 : List V) (o2 : Bool) (o3 : ByteArray) (o4 : Bool) (o5 : ByteArray) (text : ByteArray) (hp : (okR o1 && decide (o1.length ≤ 10000000) && decide (o5.size ≤ 10000000) && decide (text.size ≤ 10000000)) = true) : f7 o0 o1 o2 o3 o4 o5 text = some (.tp [.sc (.string (cttS o0 o1 o2 o3 o4 o5 text)), .sc (.int .i64 (cttE o0 o1 o3 o5 text))], []) := by
  simp only [Bool.and_eq_true, decide_eq_true_eq] at hp
  obtain ⟨⟨⟨g1, g2⟩, g3⟩, g4⟩ := hp
  have h1 : ([.sc (.string text)] : List V).all shortS = true := by
    show ((true && decide (text.size ≤ 1000000000)) && true) = true
    rw [dec_true (show text.size ≤ 1000000000 by omega)]; rfl
  have h2 : ([.sc (.string text)] : List V).any largeV = largeB text := Bool.or_false _
  unfold f7 cttS cttE
  rw [g1, dec_true (show o1.length ≤ 1000000000 by omega), dec_true (show o5.size ≤ 1000000000 by omega), h1, h2]
  cases hE : cutE o0 o1 o3 o5 != 0 with
  | true =>
    have hz : (cutE o0 o1 o3 o5 == 0) = false := by rw [bne_iff_ne] at hE; exact beq_eq_false_iff_ne.2 hE
    rw [show (bif true then cutE o0 o1 o3 o5 else bif largeB text then 2 else 0) = cutE o0 o1 o3 o5 from rfl, hz]; rfl
  | false =>
  have hE0 : cutE o0 o1 o3 o5 = 0 := by simpa using hE
  obtain ⟨c1, c2⟩ := cutE_zero hE0
  cases h5 : largeB text with
  | true => rfl
  | false =>
  obtain ⟨a3, a4, a5⟩ := cut_ok o1 o2 o4 c1 c2 h5
  obtain ⟨l1, l2⟩ := large_no h5
  rw [dec_true (show text.size ≤ 1000000000 by omega), all_leS l1 (linesV_leS text), dec_true (show (linesV text).length ≤ 1000000 by omega), c1, dec_true c2, a3, dec_true a4, dec_true a5, beq_self_eq_true (((linesV text).length : Nat) : Int)]
  rfl
def k7 : PrimT := fun vs gs => match vs, gs with
  | [.ag [.sc (.bool o0), .sl 2 o1, .sc (.bool o2), .sc (.string o3), .sc (.bool o4), .sc (.string o5)], .sc (.string text)], [] => ((okR o1 && decide (o1.length ≤ 10000000) && decide (o5.size ≤ 10000000) && decide (text.size ≤ 10000000)), .tp [.sc (.string (cttS o0 o1 o2 o3 o4 o5 text)), .sc (.int .i64 (cttE o0 o1 o3 o5 text))], [])
  | _, _ => (false, .bad, [])
theorem k7_ok : ∀ vs gs x, k7 vs gs = (true, x) → CallR C prim 7 vs gs x := by
  intro vs gs x h
  unfold k7 at h
  split at h
  · simp only [Prod.mk.injEq] at h
    obtain ⟨hp, rfl⟩ := h
    exact f7_run _ _ _ _ _ _ _ _ (f7_eq _ _ _ _ _ _ _ hp)
  · cases h

def K_f11 : CallK := kNil
theorem K_f11_ok : KOK C prim K_f11 := KOK.nil
def T_f11 : Tab := tNil
theorem T_f11_ok : TOK C prim 11 T_f11 := TOK.nil
def f11 (s : ByteArray) : Option (V × List Rg) :=
  some (.sc (.bool (decide (((s.size : Nat) : Int) ≤ 3000))), [])
theorem f11_run (s : ByteArray) (z9 : V × List Rg) (h : f11 s = some z9) : CallR C prim 11 [.sc (.string s)] [] z9 := by
  refine call_fn (K := K_f11) (T := T_f11) K_f11_ok T_f11_ok (by kernel_rfl) ?_
  refine Eq.trans ?_ h
  kernel_rfl

theorem f11_eq (s : ByteArray) : f11 s = some (.sc (.bool (decide (((s.size : Nat) : Int) ≤ 3000))), []) := by rfl
def k11 : PrimT := fun vs gs => match vs, gs with
  | [.sc (.string s)], [] => (true, .sc (.bool (decide (((s.size : Nat) : Int) ≤ 3000))), [])
  | _, _ => (false, .bad, [])
theorem k11_ok : ∀ vs gs x, k11 vs gs = (true, x) → CallR C prim 11 vs gs x := by
  intro vs gs x h
  unfold k11 at h
  split at h
  · simp only [Prod.mk.injEq, true_and] at h
    subst h
    exact f11_run _ _ (f11_eq _)
  · cases h

def K_f3_l0 : CallK := kCons 15 k15 <| kNil
theorem K_f3_l0_ok : KOK C prim K_f3_l0 := KOK.cons k15_ok <| KOK.nil
def T_f3_l0 : Tab := tNil
theorem T_f3_l0_ok : TOK C prim 3 T_f3_l0 := TOK.nil
def f3_l0 : Nat → ByteArray → Int → List V → Int → Int → Bool → List V → Bool → ByteArray → Bool → ByteArray → List V → (R : Type) → (Ex → St → Option R) → Option R
  | 0, _, _, _, _, _, _, _, _, _, _, _, _, _, _ => none
  | n + 1, t, e, v42, v43, v44, o0, o1, o2, o3, o4, o5, l, R, κ =>
    bif (decide (v44 < v43)) then
      bif (((decide ((0 : Int) ≤ v44)) && (decide (v44 < ((v42.length : Nat) : Int)))) && true) then
        bif (((V.isStr (nthV v42 (((v44).toNat * 1) + 0))) && true) && true) then
          bif ((okR o1 && decide (o1.length ≤ 1000000000) && decide ((V.strOf (nthV v42 (((v44).toNat * 1) + 0))).size ≤ 100000) && decide (o5.size ≤ 5000) && (!o0 || one1 o3)) && true) then
            bif (cutK o0 o3 o4 (V.strOf (nthV v42 (((v44).toNat * 1) + 0)))) then
              bif (((roomy ((l.length + 1) * 16)) && (roomy (l.length + 1))) && true) then
                f3_l0 n t e v42 v43 (IntKind.wrap .i64 (v44 + 1)) o0 o1 o2 o3 o4 o5 (l ++ [.sc (.string (cutS o0 o1 o2 o3 o5 (V.strOf (nthV v42 (((v44).toNat * 1) + 0)))))]) R κ
              else none
            else
              f3_l0 n t e v42 v43 (IntKind.wrap .i64 (v44 + 1)) o0 o1 o2 o3 o4 o5 l R κ
          else none
        else none
      else none
    else
      κ (.ex 0) (mkS [(4, .bad), (5, .sc (.string t)), (6, .sc (.int .i64 e)), (8, .ref ⟨.loc 8, 0, [], 9, false⟩)] [(.loc 8, some ⟨false, [.own 9 false l]⟩)])
def f3_l0_ls : List (Nat × Pat) := [(2, .is (.ptrB (.loc 2) 0)), (5, .s), (6, .i .i64), (8, .is (.ref ⟨.loc 8, 0, [], 9, false⟩)), (42, .sl 1), (43, .i .i64), (44, .i .i64)]
def f3_l0_rs : List RPat := [⟨.loc 2, true, [.b, .sl 2, .b, .s, .b, .s]⟩, ⟨.loc 8, false, [.own 9 false]⟩]
theorem f3_l0_ok (n : Nat) : ∀ (t : ByteArray) (e : Int) (v42 : List V) (v43 : Int) (v44 : Int) (o0 : Bool) (o1 : List V) (o2 : Bool) (o3 : ByteArray) (o4 : Bool) (o5 : ByteArray) (l : List V) (R : Type) (κ : Ex → St → Option R) (r : R), f3_l0 n t e v42 v43 v44 o0 o1 o2 o3 o4 o5 l R κ = some r → ∃ ee ss, κ ee ss = some r ∧ RunP C prim 3 [0, 1, 0, 1, 1, 1, 1, 1] (mkS [(2, .ptrB (.loc 2) 0), (5, .sc (.string t)), (6, .sc (.int .i64 e)), (8, .ref ⟨.loc 8, 0, [], 9, false⟩), (42, .sl 1 v42), (43, .sc (.int .i64 v43)), (44, .sc (.int .i64 v44))] [(.loc 2, some ⟨true, [.sc (.bool o0), .sl 2 o1, .sc (.bool o2), .sc (.string o3), .sc (.bool o4), .sc (.string o5)]⟩), (.loc 8, some ⟨false, [.own 9 false l]⟩)]) ee ss := by
  induction n with
  | zero => intro t e v42 v43 v44 o0 o1 o2 o3 o4 o5 l R κ r h; cases h
  | succ n ih =>
    intro t e v42 v43 v44 o0 o1 o2 o3 o4 o5 l R κ r h
    refine loop_round (K := K_f3_l0) (T := T_f3_l0) K_f3_l0_ok T_f3_l0_ok (p := [0, 1, 0, 1, 1, 1, 1, 1]) (by kernel_rfl) (fun st => bif ckS f3_l0_ls f3_l0_rs st then f3_l0 n ((st.env 5).strOf) ((st.env 6).intOf) ((st.env 42).cellsOf) ((st.env 43).intOf) ((st.env 44).intOf) ((nthV (rowOf (st.regs (.loc 2))) 0).boolOf) ((nthV (rowOf (st.regs (.loc 2))) 1).cellsOf) ((nthV (rowOf (st.regs (.loc 2))) 2).boolOf) ((nthV (rowOf (st.regs (.loc 2))) 3).strOf) ((nthV (rowOf (st.regs (.loc 2))) 4).boolOf) ((nthV (rowOf (st.regs (.loc 2))) 5).strOf) ((nthV (rowOf (st.regs (.loc 8))) 0).cellsOf) R κ else none) (fun st0 h0 => ?_) ?_
    · obtain ⟨hs, h0⟩ := cond_some h0
      rw [canon (ls := f3_l0_ls) (rs := f3_l0_rs) (by kernel_rfl) st0 hs]
      exact ih _ _ _ _ _ _ _ _ _ _ _ _ R κ r h0
    · refine Eq.trans ?_ h
      kernel_rfl

def f3_s0 (t : ByteArray) (e : Int) (v42 : List V) (v43 : Int) (v44 : Int) (o0 : Bool) (o1 : List V) (o2 : Bool) (o3 : ByteArray) (o4 : Bool) (o5 : ByteArray) (l : List V) (R : Type) (κ : Ex → St → Option R) : Option R :=
  κ (.ex 0) (mkS [(4, .bad), (5, .sc (.string t)), (6, .sc (.int .i64 e)), (8, .ref ⟨.loc 8, 0, [], 9, false⟩)] [(.loc 8, some ⟨false, [.own 9 false (cutsV o0 o1 o2 o3 o4 o5 v42)]⟩)])
theorem f3_loop (t : ByteArray) (e : Int) (o0 : Bool) (o1 : List V) (o2 : Bool) (o3 : ByteArray) (o4 : Bool) (o5 : ByteArray) (h5 : o5.size ≤ 5000) (hc : (!o0 || one1 o3) = true) (ho : okR o1 = true) (hn : o1.length ≤ 1000000000) (l : List V) (hl : l.all (leS 65536) = true) (hz : l.length ≤ 1000000) (R : Type) (κ : Ex → St → Option R) : ∀ (k i : Nat) (out : List V), i + k = l.length → out.length ≤ i →
    f3_l0 (k + 1) t e l ((l.length : Nat) : Int) ((i : Nat) : Int) o0 o1 o2 o3 o4 o5 out R κ = κ (.ex 0) (mkS [(4, .bad), (5, .sc (.string t)), (6, .sc (.int .i64 e)), (8, .ref ⟨.loc 8, 0, [], 9, false⟩)] [(.loc 8, some ⟨false, [.own 9 false (out ++ cutsV o0 o1 o2 o3 o4 o5 (l.drop i))]⟩)])
  | 0, i, out, h, hw => by
    rw [f3_l0, dec_false (by omega), List.drop_of_length_le (by omega), cutsV, List.append_nil]
    rfl
  | k + 1, i, out, h, hw => by
    have hi : i < l.length := by omega
    obtain ⟨i1, i2⟩ := leS_spec (List.all_eq_true.1 hl _ (List.getElem_mem hi))
    obtain ⟨r1, r2⟩ := roomC (n := out.length) (by omega)
    have IHf := f3_loop t e o0 o1 o2 o3 o4 o5 h5 hc ho hn l hl hz R κ k (i + 1) out (by omega) (by omega)
    have IHt := f3_loop t e o0 o1 o2 o3 o4 o5 h5 hc ho hn l hl hz R κ k (i + 1) (out ++ [.sc (.string (cutS o0 o1 o2 o3 o5 l[i].strOf))]) (by omega) (by simp only [List.length_append, List.length_cons, List.length_nil]; omega)
    rw [List.append_assoc] at IHt
    rw [f3_l0, dec_true (show ((i : Nat) : Int) < ((l.length : Nat) : Int) by omega), dec_true (show (0 : Int) ≤ ((i : Nat) : Int) by omega), nth_at hi, i1, ho, dec_true hn, dec_true (show l[i].strOf.size ≤ 100000 by omega), dec_true h5, hc, wrap_succ (by omega), r1, r2, List.drop_eq_getElem_cons hi, cutsV]
    cases cutK o0 o3 o4 l[i].strOf
    · exact IHf
    · exact IHt
theorem f3_s0_eq (t : ByteArray) (e : Int) (v42 : List V) (v43 : Int) (v44 : Int) (o0 : Bool) (o1 : List V) (o2 : Bool) (o3 : ByteArray) (o4 : Bool) (o5 : ByteArray) (l : List V) (hp : ((v43 == ((v42.length : Nat) : Int)) && (v44 == 0) && (l.length == 0) && v42.all (leS 65536) && decide (v42.length ≤ 1000000) && decide (o5.size ≤ 5000) && (!o0 || one1 o3) && okR o1 && decide (o1.length ≤ 1000000000)) = true) : ∃ n, ∀ (R : Type) (κ : Ex → St → Option R), f3_l0 n t e v42 v43 v44 o0 o1 o2 o3 o4 o5 l R κ = f3_s0 t e v42 v43 v44 o0 o1 o2 o3 o4 o5 l R κ := by
  simp only [Bool.and_eq_true, decide_eq_true_eq, beq_iff_eq] at hp
  obtain ⟨⟨⟨⟨⟨⟨⟨⟨rfl, rfl⟩, h3⟩, h4⟩, h5⟩, h6⟩, h7⟩, h8⟩, h9⟩ := hp
  obtain rfl : l = [] := List.eq_nil_of_length_eq_zero h3
  exact ⟨v42.length + 1, fun R κ => f3_loop t e o0 o1 o2 o3 o4 o5 h6 h7 h8 h9 v42 h4 h5 R κ v42.length 0 [] (by omega) (Nat.le_refl _)⟩
def t_f3_l0 (st : St) (R : Type) (κ : Ex → St → Option R) : Option R := bif ckS f3_l0_ls f3_l0_rs st then (bif ((((st.env 43).intOf) == ((((st.env 42).cellsOf).length : Nat) : Int)) && (((st.env 44).intOf) == 0) && (((nthV (rowOf (st.regs (.loc 8))) 0).cellsOf).length == 0) && ((st.env 42).cellsOf).all (leS 65536) && decide (((st.env 42).cellsOf).length ≤ 1000000) && decide (((nthV (rowOf (st.regs (.loc 2))) 5).strOf).size ≤ 5000) && (!((nthV (rowOf (st.regs (.loc 2))) 0).boolOf) || one1 ((nthV (rowOf (st.regs (.loc 2))) 3).strOf)) && okR ((nthV (rowOf (st.regs (.loc 2))) 1).cellsOf) && decide (((nthV (rowOf (st.regs (.loc 2))) 1).cellsOf).length ≤ 1000000000)) then f3_s0 ((st.env 5).strOf) ((st.env 6).intOf) ((st.env 42).cellsOf) ((st.env 43).intOf) ((st.env 44).intOf) ((nthV (rowOf (st.regs (.loc 2))) 0).boolOf) ((nthV (rowOf (st.regs (.loc 2))) 1).cellsOf) ((nthV (rowOf (st.regs (.loc 2))) 2).boolOf) ((nthV (rowOf (st.regs (.loc 2))) 3).strOf) ((nthV (rowOf (st.regs (.loc 2))) 4).boolOf) ((nthV (rowOf (st.regs (.loc 2))) 5).strOf) ((nthV (rowOf (st.regs (.loc 8))) 0).cellsOf) R κ else none) else none
theorem t_f3_l0_ok : ∀ st0 R κ r, t_f3_l0 (forget C 3 [0, 1, 0, 1, 1, 1, 1, 1] st0) R κ = some r → ∃ ee ss, κ ee ss = some r ∧ RunP C prim 3 [0, 1, 0, 1, 1, 1, 1, 1] (forget C 3 [0, 1, 0, 1, 1, 1, 1, 1] st0) ee ss := by
  intro st0 R κ r h
  obtain ⟨hs, h⟩ := cond_some h
  obtain ⟨hp, h⟩ := cond_some h
  rw [canon (ls := f3_l0_ls) (rs := f3_l0_rs) (by kernel_rfl) st0 hs]
  obtain ⟨n, hn⟩ := f3_s0_eq _ _ _ _ _ _ _ _ _ _ _ _ hp
  rw [← hn] at h
  exact f3_l0_ok n _ _ _ _ _ _ _ _ _ _ _ _ R κ r h

def K_f3 : CallK := kCons 7 k7 <| kCons 8 k8 <| kCons 9 k9 <| kCons 10 k10 <| kCons 11 k11 <| kCons 12 k12 <| kCons 13 k13 <| kCons 14 k14 <| kCons 16 k16 <| kNil
theorem K_f3_ok : KOK C prim K_f3 := KOK.cons k7_ok <| KOK.cons k8_ok <| KOK.cons k9_ok <| KOK.cons k10_ok <| KOK.cons k11_ok <| KOK.cons k12_ok <| KOK.cons k13_ok <| KOK.cons k14_ok <| KOK.cons k16_ok <| KOK.nil
def T_f3 : Tab := tCons [0, 1, 0, 1, 1, 1, 1, 1] t_f3_l0 <| tNil
theorem T_f3_ok : TOK C prim 3 T_f3 := TOK.cons t_f3_l0_ok <| TOK.nil
def f3 (o0 : Bool) (o1 : List V) (o2 : Bool) (o3 : ByteArray) (o4 : Bool) (o5 : ByteArray) (s : ByteArray) : Option (V × List Rg) :=
  bif ((okR o1 && decide (o1.length ≤ 10000000) && decide (o5.size ≤ 10000000) && decide (s.size ≤ 10000000)) && true) then
    bif ((okR o1 && decide (o1.length ≤ 1000000000) && decide (o5.size ≤ 1000000000)) && true) then
      bif ((([.sc (.string s)] : List V).all shortS && decide (([.sc (.string s)] : List V).length ≤ 1000000000)) && true) then
        bif ((([.sc (.int .i64 (cutE o0 o1 o3 o5)), .sc (.int .i64 (bif ([.sc (.string s)] : List V).any largeV then (2 : Int) else 0))] : List V).all (V.isInt .i64) && decide (([.sc (.int .i64 (cutE o0 o1 o3 o5)), .sc (.int .i64 (bif ([.sc (.string s)] : List V).any largeV then (2 : Int) else 0))] : List V).length ≤ 1000000000)) && true) then
          bif ((firstBy V.intOf ([.sc (.int .i64 (cutE o0 o1 o3 o5)), .sc (.int .i64 (bif ([.sc (.string s)] : List V).any largeV then (2 : Int) else 0))] : List V)) != 0) then
            some (.sc (.bool (outc (cttS o0 o1 o2 o3 o4 o5 s) (cttE o0 o1 o3 o5 s) (cttS o0 o1 o2 o3 o4 o5 s) (firstBy V.intOf ([.sc (.int .i64 (cutE o0 o1 o3 o5)), .sc (.int .i64 (bif ([.sc (.string s)] : List V).any largeV then (2 : Int) else 0))] : List V)))), [])
          else
            bif (!(decide (((s.size : Nat) : Int) ≤ 3000))) then
              some (.sc (.bool (outc (cttS o0 o1 o2 o3 o4 o5 s) (cttE o0 o1 o3 o5 s) (cttS o0 o1 o2 o3 o4 o5 s) (firstBy V.intOf ([.sc (.int .i64 (cutE o0 o1 o3 o5)), .sc (.int .i64 (bif ([.sc (.string s)] : List V).any largeV then (2 : Int) else 0))] : List V)))), [])
            else
              bif ((decide (s.size ≤ 1000000000)) && true) then
                bif ((((((linesV s)).length : Nat) : Int) == (((linesV s).length : Nat) : Int)) && ((0 : Int) == 0) && (([] : List V).length == 0) && (linesV s).all (leS 65536) && decide ((linesV s).length ≤ 1000000) && decide (o5.size ≤ 5000) && (!o0 || one1 o3) && okR o1 && decide (o1.length ≤ 1000000000)) then
                  bif (((cutsV o0 o1 o2 o3 o4 o5 (linesV s)).all V.isStr && decide ((cutsV o0 o1 o2 o3 o4 o5 (linesV s)).length ≤ 1000000000) && decide ((resB (cutsV o0 o1 o2 o3 o4 o5 (linesV s))).size ≤ 100000000000)) && true) then
                    some (.sc (.bool (outc (cttS o0 o1 o2 o3 o4 o5 s) (cttE o0 o1 o3 o5 s) (resB (cutsV o0 o1 o2 o3 o4 o5 (linesV s))) (0 : Int))), [])
                  else none
                else none
              else none
        else none
      else none
    else none
  else none
theorem f3_run (o0 : Bool) (o1 : List V) (o2 : Bool) (o3 : ByteArray) (o4 : Bool) (o5 : ByteArray) (s : ByteArray) (z9 : V × List Rg) (h : f3 o0 o1 o2 o3 o4 o5 s = some z9) : CallR C prim 3 [.ag [.sc (.bool o0), .sl 2 o1, .sc (.bool o2), .sc (.string o3), .sc (.bool o4), .sc (.string o5)], .sc (.string s)] [] z9 := by
  refine call_fn (K := K_f3) (T := T_f3) K_f3_ok T_f3_ok (by kernel_rfl) ?_
  refine Eq.trans ?_ h
  kernel_rfl

theorem outc_no {s : ByteArray} {e f : Int} (hf : (f != 0) = true) (hs : s = ⟨#[]⟩) (he : e = f) : outc s e ⟨#[]⟩ f = true := by
  unfold outc
  rw [hf, hs, he, strEq_self, beq_self_eq_true]; rfl
theorem outc_yes (s : ByteArray) : outc s 0 s 0 = true := by
  unfold outc
  rw [strEq_self]; rfl
theorem cut_want (o0 : Bool) (o1 : List V) (o3 o5 s : ByteArray) : firstBy V.intOf ([.sc (.int .i64 (cutE o0 o1 o3 o5)), .sc (.int .i64 (bif largeB s then (2 : Int) else 0))] : List V) = cttE o0 o1 o3 o5 s := by
  unfold cttE
  show (bif cutE o0 o1 o3 o5 != 0 then cutE o0 o1 o3 o5 else (bif (bif largeB s then (2 : Int) else 0) != 0 then (bif largeB s then (2 : Int) else 0) else 0)) = _
  cases largeB s <;> rfl
theorem f3_eq (o0 : Bool) (o1 : List V) (o2 : Bool) (o3 : ByteArray) (o4 : Bool) (o5 : ByteArray) (s : ByteArray) (hp : (okR o1 && decide (o1.length ≤ 10000000) && decide (o5.size ≤ 10000000) && decide (s.size ≤ 10000000)) = true) : f3 o0 o1 o2 o3 o4 o5 s = some (.sc (.bool true), []) := by
  have hq := hp
  simp only [Bool.and_eq_true, decide_eq_true_eq] at hp
  obtain ⟨⟨⟨g1, g2⟩, g3⟩, g4⟩ := hp
  have h1 : ([.sc (.string s)] : List V).all shortS = true := by
    show ((true && decide (s.size ≤ 1000000000)) && true) = true
    rw [dec_true (show s.size ≤ 1000000000 by omega)]; rfl
  have h2 : ([.sc (.string s)] : List V).any largeV = largeB s := Bool.or_false _
  unfold f3
  rw [hq, g1, dec_true (show o1.length ≤ 1000000000 by omega), dec_true (show o5.size ≤ 1000000000 by omega), h1, h2, cut_want]
  cases h : cttE o0 o1 o3 o5 s != 0 with
  | true =>
    have hz : (cttE o0 o1 o3 o5 s == 0) = false := by rw [bne_iff_ne] at h; exact beq_eq_false_iff_ne.2 h
    have hs : cttS o0 o1 o2 o3 o4 o5 s = ⟨#[]⟩ := by unfold cttS; rw [hz]; rfl
    rw [hs, outc_no h rfl rfl]
    rfl
  | false =>
    have h0 : cttE o0 o1 o3 o5 s = 0 := by simpa using h
    obtain ⟨e1, e2⟩ := cttE_zero h0
    obtain ⟨c1, c2⟩ := cutE_zero e1
    obtain ⟨l1, l2⟩ := large_no e2
    obtain ⟨a3, a4, a5⟩ := cut_ok o1 o2 o4 c1 c2 e2
    have hS : cttS o0 o1 o2 o3 o4 o5 s = resB (cutsV o0 o1 o2 o3 o4 o5 (linesV s)) := by unfold cttS; rw [h0]; rfl
    rw [hS, h0, outc_yes, dec_true (show s.size ≤ 1000000000 by omega), all_leS l1 (linesV_leS s), dec_true (show (linesV s).length ≤ 1000000 by omega), c1, dec_true c2, a3, dec_true a4, dec_true a5, beq_self_eq_true (((linesV s).length : Nat) : Int)]
    cases (!(decide (((s.size : Nat) : Int) ≤ 3000))) <;> rfl
def k3 : PrimT := fun vs gs => match vs, gs with
  | [.ag [.sc (.bool o0), .sl 2 o1, .sc (.bool o2), .sc (.string o3), .sc (.bool o4), .sc (.string o5)], .sc (.string s)], [] => ((okR o1 && decide (o1.length ≤ 10000000) && decide (o5.size ≤ 10000000) && decide (s.size ≤ 10000000)), .sc (.bool true), [])
  | _, _ => (false, .bad, [])
theorem k3_ok : ∀ vs gs x, k3 vs gs = (true, x) → CallR C prim 3 vs gs x := by
  intro vs gs x h
  unfold k3 at h
  split at h
  · simp only [Prod.mk.injEq] at h
    obtain ⟨hp, rfl⟩ := h
    exact f3_run _ _ _ _ _ _ _ _ (f3_eq _ _ _ _ _ _ _ hp)
  · cases h
end Go.Ab
