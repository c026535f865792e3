/- Functions of a law, as the machine runs them. -/
import Derived.Test.YtbeemjiaohaamaaGreatDoorDUQ
import Derived.Test.YtbeemjiaohaamaaGreatDoorZUQ
namespace Go.Ab
open Go Go.Proofs Go.RowKit
set_option linter.unusedSimpArgs false
set_option linter.unusedVariables false

def K_f122 : CallK := kNil
theorem K_f122_ok : KOK C prim K_f122 := KOK.nil
def T_f122 : Tab := tNil
theorem T_f122_ok : TOK C prim 122 T_f122 := TOK.nil
def f122 (s : ByteArray) : Option (V × List Rg) :=
  bif (decide (((s.size : Nat) : Int) ≥ 1)) then
    bif ((((decide ((0 : Int) ≤ (IntKind.wrap .i64 (((s.size : Nat) : Int) - 1)))) && (decide ((IntKind.wrap .i64 (((s.size : Nat) : Int) - 1)) ≤ ((s.size : Nat) : Int)))) && true) && true) then
      some (.sc (.bool (strEq (s.extract ((IntKind.wrap .i64 (((s.size : Nat) : Int) - 1))).toNat (((s.size : Nat) : Int)).toNat) (⟨#[10]⟩ : ByteArray))), [])
    else none
  else
    some (.sc (.bool false), [])
theorem f122_run (s : ByteArray) (z9 : V × List Rg) (h : f122 s = some z9) : CallR C prim 122 [.sc (.string s), .sc (.string ⟨#[10]⟩)] [] z9 := by
  refine call_fn (K := K_f122) (T := T_f122) K_f122_ok T_f122_ok (by kernel_rfl) ?_
  refine Eq.trans ?_ h
  kernel_rfl

theorem f122_eq (s : ByteArray) (hp : (decide (s.size ≤ 1000000000)) = true) : f122 s = some (.sc (.bool (endNl s)), []) := by
  simp only [decide_eq_true_eq] at hp
  unfold f122
  rcases snoc_cases s.data.toList with h | ⟨t, b, h⟩
  · have hs : s.size = 0 := by rw [bl_size, h]; rfl
    rw [end_nil s h, hs]; rfl
  · have hs : s.size = t.length + 1 := by rw [bl_size, h]; simp
    have e1 : IntKind.wrap .i64 (((s.size : Nat) : Int) - 1) = ((t.length : Nat) : Int) := by rw [wrap_id (by omega) (by omega)]; omega
    have e : s.extract t.length (t.length + 1) = ⟨#[b]⟩ := ba_ext (by rw [bl_extract, h, List.take_of_length_le (by simp)]; simp)
    rw [end_snoc s h, e1, dec_true (show ((s.size : Nat) : Int) ≥ 1 by omega), dec_true (show (0 : Int) ≤ ((t.length : Nat) : Int) by omega), dec_true (show ((t.length : Nat) : Int) ≤ ((s.size : Nat) : Int) by omega), Int.toNat_natCast, Int.toNat_natCast, hs, e]
    have : strEq (⟨#[b]⟩ : ByteArray) ⟨#[10]⟩ = (b == 10) := by
      rw [Bool.eq_iff_iff, strEq_iff]
      constructor
      · intro h'
        have := congrArg (fun x : ByteArray => x.data.toList) h'
        simpa using this
      · intro h'
        rw [beq_iff_eq] at h'
        rw [h']
    rw [this]
    rfl
def k122 : PrimT := fun vs gs => match vs, gs with
  | [.sc (.string s), .sc (.string q1)], [] => ((strEq q1 (⟨#[10]⟩ : ByteArray) && (decide (s.size ≤ 1000000000))), .sc (.bool (endNl s)), [])
  | _, _ => (false, .bad, [])
theorem k122_ok : ∀ vs gs x, k122 vs gs = (true, x) → CallR C prim 122 vs gs x := by
  intro vs gs x h
  unfold k122 at h
  split at h
  · simp only [Prod.mk.injEq] at h
    obtain ⟨hp, rfl⟩ := h
    rw [Bool.and_eq_true] at hp
    obtain ⟨hq, hp⟩ := hp
    obtain rfl := (strEq_iff _ _).1 hq
    exact f122_run _ _ (f122_eq _ hp)
  · cases h

def K_f92 : CallK := kCons 122 k122 <| kNil
theorem K_f92_ok : KOK C prim K_f92 := KOK.cons k122_ok <| KOK.nil
def T_f92 : Tab := tNil
theorem T_f92_ok : TOK C prim 92 T_f92 := TOK.nil
def f92 (s : ByteArray) : Option (V × List Rg) :=
  bif ((decide (s.size ≤ 1000000000)) && true) then
    bif (endNl s) then
      bif ((((decide ((0 : Int) ≤ (IntKind.wrap .i64 (((s.size : Nat) : Int) - 1)))) && (decide ((IntKind.wrap .i64 (((s.size : Nat) : Int) - 1)) ≤ ((s.size : Nat) : Int)))) && true) && true) then
        some (.sc (.string (s.extract 0 ((IntKind.wrap .i64 (((s.size : Nat) : Int) - 1))).toNat)), [])
      else none
    else
      some (.sc (.string s), [])
  else none
theorem f92_run (s : ByteArray) (z9 : V × List Rg) (h : f92 s = some z9) : CallR C prim 92 [.sc (.string s), .sc (.string ⟨#[10]⟩)] [] z9 := by
  refine call_fn (K := K_f92) (T := T_f92) K_f92_ok T_f92_ok (by kernel_rfl) ?_
  refine Eq.trans ?_ h
  kernel_rfl

theorem endNl_pos (s : ByteArray) (h : endNl s = true) : 1 ≤ s.size := by
  rcases snoc_cases s.data.toList with h' | ⟨t, b, h'⟩
  · rw [end_nil s h'] at h; cases h
  · rw [bl_size, h']; simp
theorem f92_eq (s : ByteArray) (hp : (decide (s.size ≤ 1000000000)) = true) : f92 s = some (.sc (.string (trimNl s)), []) := by
  have hq := hp
  simp only [decide_eq_true_eq] at hp
  unfold f92 trimNl
  rw [hq]
  cases h : endNl s with
  | false => rfl
  | true =>
    have h1 := endNl_pos s h
    rw [wrap_id (n := ((s.size : Nat) : Int) - 1) (by omega) (by omega), dec_true (show (0 : Int) ≤ ((s.size : Nat) : Int) - 1 by omega), dec_true (show ((s.size : Nat) : Int) - 1 ≤ ((s.size : Nat) : Int) by omega), show ((s.size : Int) - 1).toNat = s.size - 1 by omega]
    rfl
def k92 : PrimT := fun vs gs => match vs, gs with
  | [.sc (.string s), .sc (.string q1)], [] => ((strEq q1 (⟨#[10]⟩ : ByteArray) && (decide (s.size ≤ 1000000000))), .sc (.string (trimNl s)), [])
  | _, _ => (false, .bad, [])
theorem k92_ok : ∀ vs gs x, k92 vs gs = (true, x) → CallR C prim 92 vs gs x := by
  intro vs gs x h
  unfold k92 at h
  split at h
  · simp only [Prod.mk.injEq] at h
    obtain ⟨hp, rfl⟩ := h
    rw [Bool.and_eq_true] at hp
    obtain ⟨hq, hp⟩ := hp
    obtain rfl := (strEq_iff _ _).1 hq
    exact f92_run _ _ (f92_eq _ hp)
  · cases h

def K_f58 : CallK := kCons 92 k92 <| kNil
theorem K_f58_ok : KOK C prim K_f58 := KOK.cons k92_ok <| KOK.nil
def T_f58 : Tab := tNil
theorem T_f58_ok : TOK C prim 58 T_f58 := TOK.nil
def f58 (s : ByteArray) : Option (V × List Rg) :=
  bif ((decide (s.size ≤ 1000000000)) && true) then
    some (.sc (.string (trimNl s)), [])
  else none
theorem f58_run (s : ByteArray) (z9 : V × List Rg) (h : f58 s = some z9) : CallR C prim 58 [.sc (.string s), .sc (.string ⟨#[10]⟩)] [] z9 := by
  refine call_fn (K := K_f58) (T := T_f58) K_f58_ok T_f58_ok (by kernel_rfl) ?_
  refine Eq.trans ?_ h
  kernel_rfl

theorem f58_eq (s : ByteArray) (hp : (decide (s.size ≤ 1000000000)) = true) : f58 s = some (.sc (.string (trimNl s)), []) := by
  unfold f58
  rw [hp]
  rfl
def k58 : PrimT := fun vs gs => match vs, gs with
  | [.sc (.string s), .sc (.string q1)], [] => ((strEq q1 (⟨#[10]⟩ : ByteArray) && (decide (s.size ≤ 1000000000))), .sc (.string (trimNl s)), [])
  | _, _ => (false, .bad, [])
theorem k58_ok : ∀ vs gs x, k58 vs gs = (true, x) → CallR C prim 58 vs gs x := by
  intro vs gs x h
  unfold k58 at h
  split at h
  · simp only [Prod.mk.injEq] at h
    obtain ⟨hp, rfl⟩ := h
    rw [Bool.and_eq_true] at hp
    obtain ⟨hq, hp⟩ := hp
    obtain rfl := (strEq_iff _ _).1 hq
    exact f58_run _ _ (f58_eq _ hp)
  · cases h

def K_f91 : CallK := kCons 118 k118 <| kNil
theorem K_f91_ok : KOK C prim K_f91 := KOK.cons k118_ok <| KOK.nil
def T_f91 : Tab := tNil
theorem T_f91_ok : TOK C prim 91 T_f91 := TOK.nil
def f91 (s : ByteArray) : Option (V × List Rg) :=
  bif (strEq (⟨#[10]⟩ : ByteArray) s) then
    some (.sc (.int .i64 0), [])
  else
    some (.sc (.int .i64 (idxB s 10)), [])
theorem f91_run (s : ByteArray) (z9 : V × List Rg) (h : f91 s = some z9) : CallR C prim 91 [.sc (.string s), .sc (.string ⟨#[10]⟩)] [] z9 := by
  refine call_fn (K := K_f91) (T := T_f91) K_f91_ok T_f91_ok (by kernel_rfl) ?_
  refine Eq.trans ?_ h
  kernel_rfl

theorem f91_eq (s : ByteArray) : f91 s = some (.sc (.int .i64 (idxB s 10)), []) := by
  unfold f91
  cases h : strEq (⟨#[10]⟩ : ByteArray) s with
  | false => rfl
  | true =>
    rw [strEq_iff] at h
    subst h
    rfl
def k91 : PrimT := fun vs gs => match vs, gs with
  | [.sc (.string s), .sc (.string q1)], [] => ((strEq q1 (⟨#[10]⟩ : ByteArray) && true), .sc (.int .i64 (idxB s 10)), [])
  | _, _ => (false, .bad, [])
theorem k91_ok : ∀ vs gs x, k91 vs gs = (true, x) → CallR C prim 91 vs gs x := by
  intro vs gs x h
  unfold k91 at h
  split at h
  · simp only [Prod.mk.injEq] at h
    obtain ⟨hp, rfl⟩ := h
    rw [Bool.and_eq_true] at hp
    obtain ⟨hq, hp⟩ := hp
    obtain rfl := (strEq_iff _ _).1 hq
    exact f91_run _ _ (f91_eq _)
  · cases h

def K_f57 : CallK := kCons 91 k91 <| kNil
theorem K_f57_ok : KOK C prim K_f57 := KOK.cons k91_ok <| KOK.nil
def T_f57 : Tab := tNil
theorem T_f57_ok : TOK C prim 57 T_f57 := TOK.nil
def f57 (s : ByteArray) : Option (V × List Rg) :=
  some (.sc (.int .i64 (idxB s 10)), [])
theorem f57_run (s : ByteArray) (z9 : V × List Rg) (h : f57 s = some z9) : CallR C prim 57 [.sc (.string s), .sc (.string ⟨#[10]⟩)] [] z9 := by
  refine call_fn (K := K_f57) (T := T_f57) K_f57_ok T_f57_ok (by kernel_rfl) ?_
  refine Eq.trans ?_ h
  kernel_rfl

def k57 : PrimT := fun vs gs => match vs, gs with
  | [.sc (.string s), .sc (.string sep)], [] => (isNl sep, .sc (.int .i64 (idxB s 10)), [])
  | _, _ => (false, .bad, [])
theorem k57_ok : ∀ vs gs x, k57 vs gs = (true, x) → CallR C prim 57 vs gs x := by
  intro vs gs x h
  unfold k57 at h
  split at h
  · next s sep =>
    simp only [Prod.mk.injEq] at h
    obtain ⟨hp, rfl⟩ := h
    rw [isNl_eq hp]
    exact f57_run s _ rfl
  · cases h

def K_f62_l0 : CallK := kCons 57 k57 <| kNil
theorem K_f62_l0_ok : KOK C prim K_f62_l0 := KOK.cons k57_ok <| KOK.nil
def T_f62_l0 : Tab := tNil
theorem T_f62_l0_ok : TOK C prim 62 T_f62_l0 := TOK.nil
def f62_l0 : Nat → ByteArray → ByteArray → Int → Int → Int → List V → (R : Type) → (Ex → St → Option R) → Option R
  | 0, _, _, _, _, _, _, _, _ => none
  | n + 1, s, sep, sepSave, n', i, a, R, κ =>
    bif (decide (i < n')) then
      bif ((isNl sep) && true) then
        bif (decide ((idxB s 10) < 0)) then
          κ (.ex 0) (mkS [(0, .sc (.string s)), (8, .bad), (9, .ref ⟨.loc 9, 0, [], 9, false⟩), (10, .sc (.int .i64 i))] [(.loc 9, some ⟨false, [.own 9 false a]⟩)])
        else
          bif ((((decide ((0 : Int) ≤ (IntKind.wrap .i64 ((idxB s 10) + sepSave)))) && (decide ((IntKind.wrap .i64 ((idxB s 10) + sepSave)) ≤ ((s.size : Nat) : Int)))) && true) && true) then
            bif (((decide ((0 : Int) ≤ i)) && (decide (i < ((a.length : Nat) : Int)))) && true) then
              bif ((((decide ((0 : Int) ≤ (IntKind.wrap .i64 ((idxB s 10) + ((sep.size : Nat) : Int))))) && (decide ((IntKind.wrap .i64 ((idxB s 10) + ((sep.size : Nat) : Int))) ≤ ((s.size : Nat) : Int)))) && true) && true) then
                f62_l0 n (s.extract ((IntKind.wrap .i64 ((idxB s 10) + ((sep.size : Nat) : Int)))).toNat (((s.size : Nat) : Int)).toNat) sep sepSave n' (IntKind.wrap .i64 (i + 1)) (a.set (((i).toNat * 1) + 0) (.sc (.string (s.extract 0 ((IntKind.wrap .i64 ((idxB s 10) + sepSave))).toNat)))) R κ
              else none
            else none
          else none
      else none
    else
      κ (.ex 0) (mkS [(0, .sc (.string s)), (8, .bad), (9, .ref ⟨.loc 9, 0, [], 9, false⟩), (10, .sc (.int .i64 i))] [(.loc 9, some ⟨false, [.own 9 false a]⟩)])
def f62_l0_ls : List (Nat × Pat) := [(0, .s), (1, .s), (2, .i .i64), (3, .i .i64), (9, .is (.ref ⟨.loc 9, 0, [], 9, false⟩)), (10, .i .i64)]
def f62_l0_rs : List RPat := [⟨.loc 9, false, [.own 9 false]⟩]
theorem f62_l0_ok (n : Nat) : ∀ (s : ByteArray) (sep : ByteArray) (sepSave : Int) (n' : Int) (i : Int) (a : List V) (R : Type) (κ : Ex → St → Option R) (r : R), f62_l0 n s sep sepSave n' i a R κ = some r → ∃ ee ss, κ ee ss = some r ∧ RunP C prim 62 [0, 0, 1, 1, 1, 1, 1, 1, 1, 1] (mkS [(0, .sc (.string s)), (1, .sc (.string sep)), (2, .sc (.int .i64 sepSave)), (3, .sc (.int .i64 n')), (9, .ref ⟨.loc 9, 0, [], 9, false⟩), (10, .sc (.int .i64 i))] [(.loc 9, some ⟨false, [.own 9 false a]⟩)]) ee ss := by
  induction n with
  | zero => intro s sep sepSave n' i a R κ r h; cases h
  | succ n ih =>
    intro s sep sepSave n' i a R κ r h
    refine loop_round (K := K_f62_l0) (T := T_f62_l0) K_f62_l0_ok T_f62_l0_ok (p := [0, 0, 1, 1, 1, 1, 1, 1, 1, 1]) (by kernel_rfl) (fun st => bif ckS f62_l0_ls f62_l0_rs st then f62_l0 n ((st.env 0).strOf) ((st.env 1).strOf) ((st.env 2).intOf) ((st.env 3).intOf) ((st.env 10).intOf) ((nthV (rowOf (st.regs (.loc 9))) 0).cellsOf) R κ else none) (fun st0 h0 => ?_) ?_
    · obtain ⟨hs, h0⟩ := cond_some h0
      rw [canon (ls := f62_l0_ls) (rs := f62_l0_rs) (by kernel_rfl) st0 hs]
      exact ih _ _ _ _ _ _ R κ r h0
    · refine Eq.trans ?_ h
      kernel_rfl

def f62_s0 (s : ByteArray) (sep : ByteArray) (sepSave : Int) (n' : Int) (i : Int) (a : List V) (R : Type) (κ : Ex → St → Option R) : Option R :=
  κ (.ex 0) (mkS [(0, .sc (.string (lastP s))), (8, .bad), (9, .ref ⟨.loc 9, 0, [], 9, false⟩), (10, .sc (.int .i64 n'))] [(.loc 9, some ⟨false, [.own 9 false (headP s ++ a.drop n'.toNat)]⟩)])
theorem idx_len (s : ByteArray) : ((headP s).length = 0 → idxB s 10 < 0) ∧ (0 < (headP s).length → ∃ m : Nat, idxB s 10 = (m : Int) ∧ m < s.size ∧ headP s = strV (s.data.toList.take m) :: headP (s.extract (m + 1) s.size) ∧ lastP s = lastP (s.extract (m + 1) s.size)) := by
  have hd : ∀ m : Nat, (s.extract (m + 1) s.size).data.toList = s.data.toList.drop (m + 1) := by
    intro m
    rw [bl_extract, List.take_of_length_le (by rw [bl_size]; exact Nat.le_refl _)]
  have hx : idxB s 10 = Lib.indexByte s.data.toList 10 := rfl
  constructor
  · intro h
    rw [hx]
    rcases (show Lib.indexByte s.data.toList 10 < 0 ∨ 0 ≤ Lib.indexByte s.data.toList 10 by omega) with h' | h'
    · exact h'
    · obtain ⟨h1, _, _⟩ := head_idx s.data.toList [] (Lib.indexByte s.data.toList 10).toNat (by omega)
      unfold headP at h
      rw [h1] at h
      cases h
  · intro h
    obtain ⟨m, hm⟩ := head_pos s.data.toList [] h
    obtain ⟨h1, h2, h3⟩ := head_idx s.data.toList [] m hm
    refine ⟨m, by rw [hx]; exact hm, by rw [bl_size]; exact h3, ?_, ?_⟩
    · unfold headP
      rw [h1, hd]
      rfl
    · unfold lastP
      rw [h2, hd]
theorem last_neg (s : ByteArray) (h : (headP s).length = 0) : headP s = [] ∧ lastP s = s := by
  have h1 : Lib.indexByte s.data.toList 10 < 0 := (idx_len s).1 h
  obtain ⟨h2, h3⟩ := head_neg s.data.toList [] h1
  refine ⟨h2, ba_ext ?_⟩
  unfold lastP
  rw [h3]
  simp
theorem f62_loop (sep : ByteArray) (hsep : isNl sep = true) (N : Nat) (hN : N ≤ 1000000000) (R : Type) (κ : Ex → St → Option R) : ∀ (k : Nat) (s : ByteArray) (i : Nat) (a : List V), (headP s).length = k → i + k = N → a.length = N + 1 → s.size ≤ 1000000000 →
    f62_l0 (k + 1) s sep 0 ((N : Nat) : Int) ((i : Nat) : Int) a R κ = κ (.ex 0) (mkS [(0, .sc (.string (lastP s))), (8, .bad), (9, .ref ⟨.loc 9, 0, [], 9, false⟩), (10, .sc (.int .i64 ((N : Nat) : Int)))] [(.loc 9, some ⟨false, [.own 9 false (a.take i ++ (headP s ++ a.drop N))]⟩)])
  | 0, s, i, a, h, h1, h2, h3 => by
    obtain ⟨h4, h5⟩ := last_neg s h
    obtain rfl : i = N := by omega
    rw [f62_l0, dec_false (by omega), cond_false, h4, h5, List.nil_append, List.take_append_drop]
  | k + 1, s, i, a, h, h1, h2, h3 => by
    obtain ⟨m, g1, g2, g3, g4⟩ := (idx_len s).2 (by omega)
    have hz : (sep.size : Nat) = 1 := by rw [isNl_eq hsep]; rfl
    have hk : (headP (s.extract (m + 1) s.size)).length = k := by rw [g3] at h; simpa using h
    have hs : (s.extract (m + 1) s.size).size ≤ 1000000000 := by rw [bl_size, bl_extract, List.length_drop, List.length_take]; rw [bl_size] at h3; omega
    have IH := f62_loop sep hsep N hN R κ k (s.extract (m + 1) s.size) (i + 1) (a.set i (strV (s.data.toList.take m))) hk (by omega) (by rw [List.length_set]; exact h2) hs
    rw [f62_l0, dec_true (show ((i : Nat) : Int) < ((N : Nat) : Int) by omega), hsep, g1, dec_false (show ¬ ((m : Nat) : Int) < 0 by omega), Int.add_zero, wrap_id (n := ((m : Nat) : Int)) (by omega) (by omega), hz, wrap_id (n := ((m : Nat) : Int) + ((1 : Nat) : Int)) (by omega) (by omega), wrap_succ (by omega), dec_true (show (0 : Int) ≤ ((m : Nat) : Int) by omega), dec_true (show ((m : Nat) : Int) ≤ ((s.size : Nat) : Int) by omega), dec_true (show (0 : Int) ≤ ((i : Nat) : Int) by omega), dec_true (show ((i : Nat) : Int) < ((a.length : Nat) : Int) by omega), dec_true (show (0 : Int) ≤ ((m : Nat) : Int) + ((1 : Nat) : Int) by omega), dec_true (show ((m : Nat) : Int) + ((1 : Nat) : Int) ≤ ((s.size : Nat) : Int) by omega)]
    simp only [Bool.and_self, cond_true, cond_false, Int.toNat_natCast, Nat.mul_one, Nat.add_zero, strV_extract s 0 m, List.drop_zero, show (((m : Nat) : Int) + ((1 : Nat) : Int)).toNat = m + 1 by omega, IH, g4]
    have : (a.set i (strV (s.data.toList.take m))).take (i + 1) ++ (headP (s.extract (m + 1) s.size) ++ (a.set i (strV (s.data.toList.take m))).drop N) = a.take i ++ (headP s ++ a.drop N) := by
      rw [g3, List.take_add_one, List.take_set_of_le (by omega), List.getElem?_set_self (by omega), List.drop_set_of_lt (by omega)]
      simp
    rw [this]
theorem f62_s0_eq (s : ByteArray) (sep : ByteArray) (sepSave : Int) (n' : Int) (i : Int) (a : List V) (hp : (isNl sep && (sepSave == 0) && (i == 0) && (n' == cntN s) && decide ((a.length : Int) = n' + 1) && decide (s.size ≤ 1000000000)) = true) : ∃ n, ∀ (R : Type) (κ : Ex → St → Option R), f62_l0 n s sep sepSave n' i a R κ = f62_s0 s sep sepSave n' i a R κ := by
  simp only [Bool.and_eq_true, decide_eq_true_eq, beq_iff_eq] at hp
  obtain ⟨⟨⟨⟨⟨g1, rfl⟩, rfl⟩, rfl⟩, g5⟩, g6⟩ := hp
  have hN := headP_le s
  refine ⟨(headP s).length + 1, fun R κ => ?_⟩
  unfold cntN at *
  have := f62_loop sep g1 (headP s).length (by omega) R κ (headP s).length s 0 a rfl (by omega) (by omega) g6
  rw [f62_s0, Int.toNat_natCast]
  exact this
def t_f62_l0 (st : St) (R : Type) (κ : Ex → St → Option R) : Option R := bif ckS f62_l0_ls f62_l0_rs st then (bif (isNl ((st.env 1).strOf) && (((st.env 2).intOf) == 0) && (((st.env 10).intOf) == 0) && (((st.env 3).intOf) == cntN ((st.env 0).strOf)) && decide ((((nthV (rowOf (st.regs (.loc 9))) 0).cellsOf).length : Int) = ((st.env 3).intOf) + 1) && decide (((st.env 0).strOf).size ≤ 1000000000)) then f62_s0 ((st.env 0).strOf) ((st.env 1).strOf) ((st.env 2).intOf) ((st.env 3).intOf) ((st.env 10).intOf) ((nthV (rowOf (st.regs (.loc 9))) 0).cellsOf) R κ else none) else none
theorem t_f62_l0_ok : ∀ st0 R κ r, t_f62_l0 (forget C 62 [0, 0, 1, 1, 1, 1, 1, 1, 1, 1] st0) R κ = some r → ∃ ee ss, κ ee ss = some r ∧ RunP C prim 62 [0, 0, 1, 1, 1, 1, 1, 1, 1, 1] (forget C 62 [0, 0, 1, 1, 1, 1, 1, 1, 1, 1] st0) ee ss := by
  intro st0 R κ r h
  obtain ⟨hs, h⟩ := cond_some h
  obtain ⟨hp, h⟩ := cond_some h
  rw [canon (ls := f62_l0_ls) (rs := f62_l0_rs) (by kernel_rfl) st0 hs]
  obtain ⟨n, hn⟩ := f62_s0_eq _ _ _ _ _ _ hp
  rw [← hn] at h
  exact f62_l0_ok n _ _ _ _ _ _ R κ r h

def K_f62 : CallK := kCons 95 k95 <| kNil
theorem K_f62_ok : KOK C prim K_f62 := KOK.cons k95_ok <| KOK.nil
def T_f62 : Tab := tCons [0, 0, 1, 1, 1, 1, 1, 1, 1, 1] t_f62_l0 <| tNil
theorem T_f62_ok : TOK C prim 62 T_f62 := TOK.cons t_f62_l0_ok <| TOK.nil
def f62 (s : ByteArray) : Option (V × List Rg) :=
  bif ((((((((((decide ((0 : Int) ≤ (bif (decide ((IntKind.wrap .i64 (((s.size : Nat) : Int) + 1)) < (IntKind.wrap .i64 ((cntB s (⟨#[10]⟩ : ByteArray)) + 1)))) then (IntKind.wrap .i64 (((s.size : Nat) : Int) + 1)) else (IntKind.wrap .i64 ((cntB s (⟨#[10]⟩ : ByteArray)) + 1))))) && (decide ((bif (decide ((IntKind.wrap .i64 (((s.size : Nat) : Int) + 1)) < (IntKind.wrap .i64 ((cntB s (⟨#[10]⟩ : ByteArray)) + 1)))) then (IntKind.wrap .i64 (((s.size : Nat) : Int) + 1)) else (IntKind.wrap .i64 ((cntB s (⟨#[10]⟩ : ByteArray)) + 1))) ≤ (bif (decide ((IntKind.wrap .i64 (((s.size : Nat) : Int) + 1)) < (IntKind.wrap .i64 ((cntB s (⟨#[10]⟩ : ByteArray)) + 1)))) then (IntKind.wrap .i64 (((s.size : Nat) : Int) + 1)) else (IntKind.wrap .i64 ((cntB s (⟨#[10]⟩ : ByteArray)) + 1)))))) && true) && true) && true) && true) && true) && (roomy (((bif (decide ((IntKind.wrap .i64 (((s.size : Nat) : Int) + 1)) < (IntKind.wrap .i64 ((cntB s (⟨#[10]⟩ : ByteArray)) + 1)))) then (IntKind.wrap .i64 (((s.size : Nat) : Int) + 1)) else (IntKind.wrap .i64 ((cntB s (⟨#[10]⟩ : ByteArray)) + 1)))).toNat * 16))) && (roomy ((bif (decide ((IntKind.wrap .i64 (((s.size : Nat) : Int) + 1)) < (IntKind.wrap .i64 ((cntB s (⟨#[10]⟩ : ByteArray)) + 1)))) then (IntKind.wrap .i64 (((s.size : Nat) : Int) + 1)) else (IntKind.wrap .i64 ((cntB s (⟨#[10]⟩ : ByteArray)) + 1)))).toNat)) && true) then
    bif (isNl (⟨#[10]⟩ : ByteArray) && ((0 : Int) == 0) && ((0 : Int) == 0) && ((IntKind.wrap .i64 ((bif (decide ((IntKind.wrap .i64 (((s.size : Nat) : Int) + 1)) < (IntKind.wrap .i64 ((cntB s (⟨#[10]⟩ : ByteArray)) + 1)))) then (IntKind.wrap .i64 (((s.size : Nat) : Int) + 1)) else (IntKind.wrap .i64 ((cntB s (⟨#[10]⟩ : ByteArray)) + 1))) - 1)) == cntN s) && decide ((((List.replicate ((bif (decide ((IntKind.wrap .i64 (((s.size : Nat) : Int) + 1)) < (IntKind.wrap .i64 ((cntB s (⟨#[10]⟩ : ByteArray)) + 1)))) then (IntKind.wrap .i64 (((s.size : Nat) : Int) + 1)) else (IntKind.wrap .i64 ((cntB s (⟨#[10]⟩ : ByteArray)) + 1)))).toNat ([.sc (.string ⟨#[]⟩)] : List V)).flatten).length : Int) = (IntKind.wrap .i64 ((bif (decide ((IntKind.wrap .i64 (((s.size : Nat) : Int) + 1)) < (IntKind.wrap .i64 ((cntB s (⟨#[10]⟩ : ByteArray)) + 1)))) then (IntKind.wrap .i64 (((s.size : Nat) : Int) + 1)) else (IntKind.wrap .i64 ((cntB s (⟨#[10]⟩ : ByteArray)) + 1))) - 1)) + 1) && decide (s.size ≤ 1000000000)) then
      bif (((decide ((0 : Int) ≤ (IntKind.wrap .i64 ((bif (decide ((IntKind.wrap .i64 (((s.size : Nat) : Int) + 1)) < (IntKind.wrap .i64 ((cntB s (⟨#[10]⟩ : ByteArray)) + 1)))) then (IntKind.wrap .i64 (((s.size : Nat) : Int) + 1)) else (IntKind.wrap .i64 ((cntB s (⟨#[10]⟩ : ByteArray)) + 1))) - 1)))) && (decide ((IntKind.wrap .i64 ((bif (decide ((IntKind.wrap .i64 (((s.size : Nat) : Int) + 1)) < (IntKind.wrap .i64 ((cntB s (⟨#[10]⟩ : ByteArray)) + 1)))) then (IntKind.wrap .i64 (((s.size : Nat) : Int) + 1)) else (IntKind.wrap .i64 ((cntB s (⟨#[10]⟩ : ByteArray)) + 1))) - 1)) < ((((headP s ++ ((List.replicate ((bif (decide ((IntKind.wrap .i64 (((s.size : Nat) : Int) + 1)) < (IntKind.wrap .i64 ((cntB s (⟨#[10]⟩ : ByteArray)) + 1)))) then (IntKind.wrap .i64 (((s.size : Nat) : Int) + 1)) else (IntKind.wrap .i64 ((cntB s (⟨#[10]⟩ : ByteArray)) + 1)))).toNat ([.sc (.string ⟨#[]⟩)] : List V)).flatten).drop (IntKind.wrap .i64 ((bif (decide ((IntKind.wrap .i64 (((s.size : Nat) : Int) + 1)) < (IntKind.wrap .i64 ((cntB s (⟨#[10]⟩ : ByteArray)) + 1)))) then (IntKind.wrap .i64 (((s.size : Nat) : Int) + 1)) else (IntKind.wrap .i64 ((cntB s (⟨#[10]⟩ : ByteArray)) + 1))) - 1)).toNat)).length : Nat) : Int)))) && true) then
        bif (((((decide ((0 : Int) ≤ (IntKind.wrap .i64 ((IntKind.wrap .i64 ((bif (decide ((IntKind.wrap .i64 (((s.size : Nat) : Int) + 1)) < (IntKind.wrap .i64 ((cntB s (⟨#[10]⟩ : ByteArray)) + 1)))) then (IntKind.wrap .i64 (((s.size : Nat) : Int) + 1)) else (IntKind.wrap .i64 ((cntB s (⟨#[10]⟩ : ByteArray)) + 1))) - 1)) + 1)))) && (decide ((IntKind.wrap .i64 ((IntKind.wrap .i64 ((bif (decide ((IntKind.wrap .i64 (((s.size : Nat) : Int) + 1)) < (IntKind.wrap .i64 ((cntB s (⟨#[10]⟩ : ByteArray)) + 1)))) then (IntKind.wrap .i64 (((s.size : Nat) : Int) + 1)) else (IntKind.wrap .i64 ((cntB s (⟨#[10]⟩ : ByteArray)) + 1))) - 1)) + 1)) ≤ (((((headP s ++ ((List.replicate ((bif (decide ((IntKind.wrap .i64 (((s.size : Nat) : Int) + 1)) < (IntKind.wrap .i64 ((cntB s (⟨#[10]⟩ : ByteArray)) + 1)))) then (IntKind.wrap .i64 (((s.size : Nat) : Int) + 1)) else (IntKind.wrap .i64 ((cntB s (⟨#[10]⟩ : ByteArray)) + 1)))).toNat ([.sc (.string ⟨#[]⟩)] : List V)).flatten).drop (IntKind.wrap .i64 ((bif (decide ((IntKind.wrap .i64 (((s.size : Nat) : Int) + 1)) < (IntKind.wrap .i64 ((cntB s (⟨#[10]⟩ : ByteArray)) + 1)))) then (IntKind.wrap .i64 (((s.size : Nat) : Int) + 1)) else (IntKind.wrap .i64 ((cntB s (⟨#[10]⟩ : ByteArray)) + 1))) - 1)).toNat).set ((((IntKind.wrap .i64 ((bif (decide ((IntKind.wrap .i64 (((s.size : Nat) : Int) + 1)) < (IntKind.wrap .i64 ((cntB s (⟨#[10]⟩ : ByteArray)) + 1)))) then (IntKind.wrap .i64 (((s.size : Nat) : Int) + 1)) else (IntKind.wrap .i64 ((cntB s (⟨#[10]⟩ : ByteArray)) + 1))) - 1))).toNat * 1) + 0) (.sc (.string (lastP s))))).length : Nat) : Int)))) && true) && true) && true) then
          some (.own 9 false (((headP s ++ ((List.replicate ((bif (decide ((IntKind.wrap .i64 (((s.size : Nat) : Int) + 1)) < (IntKind.wrap .i64 ((cntB s (⟨#[10]⟩ : ByteArray)) + 1)))) then (IntKind.wrap .i64 (((s.size : Nat) : Int) + 1)) else (IntKind.wrap .i64 ((cntB s (⟨#[10]⟩ : ByteArray)) + 1)))).toNat ([.sc (.string ⟨#[]⟩)] : List V)).flatten).drop (IntKind.wrap .i64 ((bif (decide ((IntKind.wrap .i64 (((s.size : Nat) : Int) + 1)) < (IntKind.wrap .i64 ((cntB s (⟨#[10]⟩ : ByteArray)) + 1)))) then (IntKind.wrap .i64 (((s.size : Nat) : Int) + 1)) else (IntKind.wrap .i64 ((cntB s (⟨#[10]⟩ : ByteArray)) + 1))) - 1)).toNat).set ((((IntKind.wrap .i64 ((bif (decide ((IntKind.wrap .i64 (((s.size : Nat) : Int) + 1)) < (IntKind.wrap .i64 ((cntB s (⟨#[10]⟩ : ByteArray)) + 1)))) then (IntKind.wrap .i64 (((s.size : Nat) : Int) + 1)) else (IntKind.wrap .i64 ((cntB s (⟨#[10]⟩ : ByteArray)) + 1))) - 1))).toNat * 1) + 0) (.sc (.string (lastP s)))).take (((IntKind.wrap .i64 ((IntKind.wrap .i64 ((bif (decide ((IntKind.wrap .i64 (((s.size : Nat) : Int) + 1)) < (IntKind.wrap .i64 ((cntB s (⟨#[10]⟩ : ByteArray)) + 1)))) then (IntKind.wrap .i64 (((s.size : Nat) : Int) + 1)) else (IntKind.wrap .i64 ((cntB s (⟨#[10]⟩ : ByteArray)) + 1))) - 1)) + 1))).toNat * 1)), [])
        else none
      else none
    else none
  else none
theorem f62_run (s : ByteArray) (z9 : V × List Rg) (h : f62 s = some z9) : CallR C prim 62 [.sc (.string s), .sc (.string ⟨#[10]⟩), .sc (.int .i64 0), .sc (.int .i64 (-1))] [] z9 := by
  refine call_fn (K := K_f62) (T := T_f62) K_f62_ok T_f62_ok (by kernel_rfl) ?_
  refine Eq.trans ?_ h
  kernel_rfl

theorem cntB_nl (s : ByteArray) : cntB s (⟨#[10]⟩ : ByteArray) = (((headP s).length : Nat) : Int) := by
  unfold headP
  rw [head_len]
  rfl
theorem rep_flat {α : Type} (n : Nat) (x : α) : (List.replicate n [x]).flatten = List.replicate n x := by
  induction n with
  | zero => rfl
  | succ n ih => rw [List.replicate_succ, List.flatten_cons, ih, List.replicate_succ]; rfl
theorem f62_eq (s : ByteArray) (hp : (decide (s.size ≤ 1000000000)) = true) : f62 s = some (.own 9 false (splitV s), []) := by
  simp only [decide_eq_true_eq] at hp
  have hN := headP_le s
  have hw2 : IntKind.wrap .i64 (((s.size : Nat) : Int) + 1) = ((s.size + 1 : Nat) : Int) := wrap_succ (by omega)
  have hw1 : IntKind.wrap .i64 ((((headP s).length : Nat) : Int) + 1) = (((headP s).length + 1 : Nat) : Int) := wrap_succ (by omega)
  have hlt : decide (((s.size + 1 : Nat) : Int) < (((headP s).length + 1 : Nat) : Int)) = false := dec_false (by omega)
  have hw3 : IntKind.wrap .i64 ((((headP s).length + 1 : Nat) : Int) - 1) = (((headP s).length : Nat) : Int) := by rw [wrap_id (by omega) (by omega)]; omega
  unfold f62
  simp only [cntB_nl, hw1, hw2, hlt, cond_false, hw3, Int.toNat_natCast, rep_flat, List.length_replicate, List.drop_replicate, Nat.mul_one, Nat.add_zero]
  have e1 : (headP s).length + 1 - (headP s).length = 1 := by omega
  have e2 : (headP s ++ List.replicate 1 (V.sc (.string ⟨#[]⟩))).set (headP s).length (.sc (.string (lastP s))) = splitV s := by
    rw [List.set_append_right _ _ (Nat.le_refl _), Nat.sub_self]
    rfl
  have e3 : (splitV s).length = (headP s).length + 1 := by unfold splitV; simp
  have e4 : (headP s ++ List.replicate 1 (V.sc (.string ⟨#[]⟩))).length = (headP s).length + 1 := by simp
  rw [e1, e2, e4, e3, List.take_of_length_le (by omega)]
  have r1 : roomy (((headP s).length + 1) * 16) = true := dec_true (by omega)
  have r2 : roomy ((headP s).length + 1) = true := dec_true (by omega)
  have d1 : decide ((0 : Int) ≤ (((headP s).length + 1 : Nat) : Int)) = true := dec_true (by omega)
  have d2 : decide ((((headP s).length + 1 : Nat) : Int) ≤ (((headP s).length + 1 : Nat) : Int)) = true := dec_true (by omega)
  have d3 : decide ((0 : Int) ≤ (((headP s).length : Nat) : Int)) = true := dec_true (by omega)
  have d4 : decide ((((headP s).length : Nat) : Int) < (((headP s).length + 1 : Nat) : Int)) = true := dec_true (by omega)
  have d5 : decide ((((headP s).length + 1 : Nat) : Int) = (((headP s).length : Nat) : Int) + 1) = true := dec_true (by omega)
  have d6 : ((((headP s).length : Nat) : Int) == cntN s) = true := beq_self_eq_true _
  rw [r1, r2, d1, d2, d3, d4, d5, d6, dec_true hp]
  rfl
def k62 : PrimT := fun vs gs => match vs, gs with
  | [.sc (.string s), .sc (.string q1), .sc (.int .i64 0), .sc (.int .i64 (-1))], [] => ((strEq q1 (⟨#[10]⟩ : ByteArray) && (decide (s.size ≤ 1000000000))), .own 9 false (splitV s), [])
  | _, _ => (false, .bad, [])
theorem k62_ok : ∀ vs gs x, k62 vs gs = (true, x) → CallR C prim 62 vs gs x := by
  intro vs gs x h
  unfold k62 at h
  split at h
  · simp only [Prod.mk.injEq] at h
    obtain ⟨hp, rfl⟩ := h
    rw [Bool.and_eq_true] at hp
    obtain ⟨hq, hp⟩ := hp
    obtain rfl := (strEq_iff _ _).1 hq
    exact f62_run _ _ (f62_eq _ hp)
  · cases h

def K_f30 : CallK := kCons 62 k62 <| kNil
theorem K_f30_ok : KOK C prim K_f30 := KOK.cons k62_ok <| KOK.nil
def T_f30 : Tab := tNil
theorem T_f30_ok : TOK C prim 30 T_f30 := TOK.nil
def f30 (s : ByteArray) : Option (V × List Rg) :=
  bif ((decide (s.size ≤ 1000000000)) && true) then
    some (.own 9 false (splitV s), [])
  else none
theorem f30_run (s : ByteArray) (z9 : V × List Rg) (h : f30 s = some z9) : CallR C prim 30 [.sc (.string s), .sc (.string ⟨#[10]⟩)] [] z9 := by
  refine call_fn (K := K_f30) (T := T_f30) K_f30_ok T_f30_ok (by kernel_rfl) ?_
  refine Eq.trans ?_ h
  kernel_rfl

theorem f30_eq (s : ByteArray) (hp : (decide (s.size ≤ 1000000000)) = true) : f30 s = some (.own 9 false (splitV s), []) := by
  unfold f30
  rw [hp]
  rfl
def k30 : PrimT := fun vs gs => match vs, gs with
  | [.sc (.string s), .sc (.string q1)], [] => ((strEq q1 (⟨#[10]⟩ : ByteArray) && (decide (s.size ≤ 1000000000))), .own 9 false (splitV s), [])
  | _, _ => (false, .bad, [])
theorem k30_ok : ∀ vs gs x, k30 vs gs = (true, x) → CallR C prim 30 vs gs x := by
  intro vs gs x h
  unfold k30 at h
  split at h
  · simp only [Prod.mk.injEq] at h
    obtain ⟨hp, rfl⟩ := h
    rw [Bool.and_eq_true] at hp
    obtain ⟨hq, hp⟩ := hp
    obtain rfl := (strEq_iff _ _).1 hq
    exact f30_run _ _ (f30_eq _ hp)
  · cases h

def K_f28 : CallK := kCons 30 k30 <| kCons 58 k58 <| kNil
theorem K_f28_ok : KOK C prim K_f28 := KOK.cons k30_ok <| KOK.cons k58_ok <| KOK.nil
def T_f28 : Tab := tNil
theorem T_f28_ok : TOK C prim 28 T_f28 := TOK.nil
def f28 (text : ByteArray) : Option (V × List Rg) :=
  bif (strEq text (⟨#[]⟩ : ByteArray)) then
    some (.sl 1 [], [])
  else
    bif ((decide (text.size ≤ 1000000000)) && true) then
      bif ((decide ((trimNl text).size ≤ 1000000000)) && true) then
        some (.sl 1 (splitV (trimNl text)), [])
      else none
    else none
theorem f28_run (text : ByteArray) (z9 : V × List Rg) (h : f28 text = some z9) : CallR C prim 28 [.sc (.string text)] [] z9 := by
  refine call_fn (K := K_f28) (T := T_f28) K_f28_ok T_f28_ok (by kernel_rfl) ?_
  refine Eq.trans ?_ h
  kernel_rfl

theorem f28_eq (text : ByteArray) (hp : (decide (text.size ≤ 1000000000)) = true) : f28 text = some (.sl 1 (linesV text), []) := by
  have hq := hp
  simp only [decide_eq_true_eq] at hp
  unfold f28
  cases h : strEq text (⟨#[]⟩ : ByteArray) with
  | true =>
    rw [strEq_iff] at h
    rw [linesV_nil text (by rw [h])]
    rfl
  | false =>
    have hne : text.data.toList ≠ [] := by
      intro h'
      have : text = ⟨#[]⟩ := ba_ext (by rw [h'])
      rw [this, strEq_self] at h
      cases h
    have ht : (trimNl text).size ≤ 1000000000 := by
      unfold trimNl
      cases endNl text
      · exact hp
      · rw [cond_true, bl_size, bl_extract, List.length_drop, List.length_take]; rw [bl_size] at hp; omega
    rw [linesV_trim text hne, dec_true ht, hq]
    rfl
def k28 : PrimT := fun vs gs => match vs, gs with
  | [.sc (.string text)], [] => ((decide (text.size ≤ 1000000000)), .sl 1 (linesV text), [])
  | _, _ => (false, .bad, [])
theorem k28_ok : ∀ vs gs x, k28 vs gs = (true, x) → CallR C prim 28 vs gs x := by
  intro vs gs x h
  unfold k28 at h
  split at h
  · simp only [Prod.mk.injEq] at h
    obtain ⟨hp, rfl⟩ := h
    exact f28_run _ _ (f28_eq _ hp)
  · cases h

def K_f55 : CallK := kCons 28 k28 <| kNil
theorem K_f55_ok : KOK C prim K_f55 := KOK.cons k28_ok <| KOK.nil
def T_f55 : Tab := tNil
theorem T_f55_ok : TOK C prim 55 T_f55 := TOK.nil
def f55 (text : ByteArray) : Option (V × List Rg) :=
  bif (decide (((text.size : Nat) : Int) > 65536)) then
    some (.sc (.bool true), [])
  else
    bif ((decide (text.size ≤ 1000000000)) && true) then
      some (.sc (.bool (decide (((((linesV text)).length : Nat) : Int) > 4096))), [])
    else none
theorem f55_run (text : ByteArray) (z9 : V × List Rg) (h : f55 text = some z9) : CallR C prim 55 [.sc (.string text)] [] z9 := by
  refine call_fn (K := K_f55) (T := T_f55) K_f55_ok T_f55_ok (by kernel_rfl) ?_
  refine Eq.trans ?_ h
  kernel_rfl

theorem f55_eq (text : ByteArray) (hp : (decide (text.size ≤ 1000000000)) = true) : f55 text = some (.sc (.bool (largeB text)), []) := by
  unfold f55 largeB
  rw [hp]
  cases decide (((text.size : Nat) : Int) > 65536) <;> rfl
def k55 : PrimT := fun vs gs => match vs, gs with
  | [.sc (.string text)], [] => ((decide (text.size ≤ 1000000000)), .sc (.bool (largeB text)), [])
  | _, _ => (false, .bad, [])
theorem k55_ok : ∀ vs gs x, k55 vs gs = (true, x) → CallR C prim 55 vs gs x := by
  intro vs gs x h
  unfold k55 at h
  split at h
  · simp only [Prod.mk.injEq] at h
    obtain ⟨hp, rfl⟩ := h
    exact f55_run _ _ (f55_eq _ hp)
  · cases h

def K_f14_l0 : CallK := kNil
theorem K_f14_l0_ok : KOK C prim K_f14_l0 := KOK.nil
def T_f14_l0 : Tab := tNil
theorem T_f14_l0_ok : TOK C prim 14 T_f14_l0 := TOK.nil
def f14_l0 : Nat → ByteArray → Int → Int → Int → List V → (R : Type) → (Ex → St → Option R) → Option R
  | 0, _, _, _, _, _, _, _ => none
  | n + 1, text, from', v7, v8, l, R, κ =>
    bif (decide (v8 < v7)) then
      bif (((decide ((0 : Int) ≤ v8)) && (decide (v8 < ((text.size : Nat) : Int)))) && true) then
        bif (((text.data.getD (v8).toNat 0).toNat : Int) == 10) then
          bif (((((decide ((0 : Int) ≤ from')) && (decide (from' ≤ v8))) && (decide (v8 ≤ ((text.size : Nat) : Int)))) && true) && true) then
            bif (((roomy ((l.length + 1) * 16)) && (roomy (l.length + 1))) && true) then
              f14_l0 n text (IntKind.wrap .i64 (v8 + 1)) v7 (IntKind.wrap .i64 (v8 + 1)) (l ++ [.sc (.string (text.extract (from').toNat (v8).toNat))]) R κ
            else none
          else none
        else
          f14_l0 n text from' v7 (IntKind.wrap .i64 (v8 + 1)) l R κ
      else none
    else
      κ (.ex 0) (mkS [(0, .sc (.string text)), (2, .bad), (3, .ref ⟨.loc 3, 0, [], 9, false⟩), (4, .sc (.int .i64 from'))] [(.loc 3, some ⟨false, [.own 9 false l]⟩)])
def f14_l0_ls : List (Nat × Pat) := [(0, .s), (3, .is (.ref ⟨.loc 3, 0, [], 9, false⟩)), (4, .i .i64), (7, .i .i64), (8, .i .i64)]
def f14_l0_rs : List RPat := [⟨.loc 3, false, [.own 9 false]⟩]
theorem f14_l0_ok (n : Nat) : ∀ (text : ByteArray) (from' : Int) (v7 : Int) (v8 : Int) (l : List V) (R : Type) (κ : Ex → St → Option R) (r : R), f14_l0 n text from' v7 v8 l R κ = some r → ∃ ee ss, κ ee ss = some r ∧ RunP C prim 14 [0, 1, 0, 1, 1, 1] (mkS [(0, .sc (.string text)), (3, .ref ⟨.loc 3, 0, [], 9, false⟩), (4, .sc (.int .i64 from')), (7, .sc (.int .i64 v7)), (8, .sc (.int .i64 v8))] [(.loc 3, some ⟨false, [.own 9 false l]⟩)]) ee ss := by
  induction n with
  | zero => intro text from' v7 v8 l R κ r h; cases h
  | succ n ih =>
    intro text from' v7 v8 l R κ r h
    refine loop_round (K := K_f14_l0) (T := T_f14_l0) K_f14_l0_ok T_f14_l0_ok (p := [0, 1, 0, 1, 1, 1]) (by kernel_rfl) (fun st => bif ckS f14_l0_ls f14_l0_rs st then f14_l0 n ((st.env 0).strOf) ((st.env 4).intOf) ((st.env 7).intOf) ((st.env 8).intOf) ((nthV (rowOf (st.regs (.loc 3))) 0).cellsOf) R κ else none) (fun st0 h0 => ?_) ?_
    · obtain ⟨hs, h0⟩ := cond_some h0
      rw [canon (ls := f14_l0_ls) (rs := f14_l0_rs) (by kernel_rfl) st0 hs]
      exact ih _ _ _ _ _ R κ r h0
    · refine Eq.trans ?_ h
      kernel_rfl

def f14_s0 (text : ByteArray) (from' : Int) (v7 : Int) (v8 : Int) (l : List V) (R : Type) (κ : Ex → St → Option R) : Option R :=
  κ (.ex 0) (mkS [(0, .sc (.string text)), (2, .bad), (3, .ref ⟨.loc 3, 0, [], 9, false⟩), (4, .sc (.int .i64 (fromP text)))] [(.loc 3, some ⟨false, [.own 9 false (headP text)]⟩)])
theorem f14_loop (text : ByteArray) (ht : text.size ≤ 1000000000) (R : Type) (κ : Ex → St → Option R) : ∀ (k i fr : Nat) (l : List V), i + k = text.size → fr ≤ i → l.length ≤ i →
    f14_l0 (k + 1) text ((fr : Nat) : Int) ((text.size : Nat) : Int) ((i : Nat) : Int) l R κ = κ (.ex 0) (mkS [(0, .sc (.string text)), (2, .bad), (3, .ref ⟨.loc 3, 0, [], 9, false⟩), (4, .sc (.int .i64 (((text.size : Nat) : Int) - (((lastL ((text.data.toList.take i).drop fr) (text.data.toList.drop i)).length : Nat) : Int))))] [(.loc 3, some ⟨false, [.own 9 false (l ++ headL ((text.data.toList.take i).drop fr) (text.data.toList.drop i))]⟩)])
  | 0, i, fr, l, h, h1, h2 => by
    have hl := bl_size text
    obtain rfl : i = text.size := by omega
    rw [f14_l0, dec_false (by omega), cond_false, List.drop_of_length_le (l := text.data.toList) (i := text.size) (by omega), headL, lastL, List.append_nil, List.length_drop, List.length_take, show ((min text.size text.data.toList.length - fr : Nat) : Int) = ((text.size : Nat) : Int) - (fr : Int) by omega, show ((text.size : Nat) : Int) - (((text.size : Nat) : Int) - (fr : Int)) = (fr : Int) by omega]
  | k + 1, i, fr, l, h, h1, h2 => by
    have hl := bl_size text
    have hlt : i < text.data.toList.length := by omega
    have hb : ((text.data.getD i 0).toNat : Int) = ((text.data.toList[i]).toNat : Int) := by rw [getD_list' text i hlt]
    have hc : ((((text.data.toList[i]).toNat : Nat) : Int) == 10) = (text.data.toList[i] == 10) := by
      rw [Bool.eq_iff_iff, beq_iff_eq, beq_iff_eq, ← UInt8.toNat_inj]
      show _ ↔ (text.data.toList[i]).toNat = 10
      omega
    have r1 : roomy ((l.length + 1) * 16) = true := dec_true (by omega)
    have r2 : roomy (l.length + 1) = true := dec_true (by omega)
    rw [f14_l0, dec_true (show ((i : Nat) : Int) < ((text.size : Nat) : Int) by omega), dec_true (show (0 : Int) ≤ ((i : Nat) : Int) by omega), Int.toNat_natCast, hb, hc, dec_true (show (0 : Int) ≤ ((fr : Nat) : Int) by omega), dec_true (show ((fr : Nat) : Int) ≤ ((i : Nat) : Int) by omega), dec_true (show ((i : Nat) : Int) ≤ ((text.size : Nat) : Int) by omega), r1, r2, Int.toNat_natCast, strV_extract, wrap_succ (by omega), List.drop_eq_getElem_cons hlt, headL_cons, lastL_cons]
    cases hx : text.data.toList[i] == 10 with
    | true =>
      have IH := f14_loop text ht R κ k (i + 1) (i + 1) (l ++ [strV ((text.data.toList.take i).drop fr)]) (by omega) (Nat.le_refl _) (by simp; omega)
      rw [List.drop_of_length_le (l := text.data.toList.take (i + 1)) (by rw [List.length_take]; omega), List.append_assoc] at IH
      simp only [Bool.and_self, cond_true]
      exact IH
    | false =>
      have IH := f14_loop text ht R κ k (i + 1) fr l (by omega) (by omega) (by omega)
      rw [List.take_add_one, List.getElem?_eq_getElem hlt, Option.toList_some, List.drop_append_of_le_length (by rw [List.length_take]; omega)] at IH
      simp only [Bool.and_self, cond_true, cond_false]
      exact IH
theorem f14_s0_eq (text : ByteArray) (from' : Int) (v7 : Int) (v8 : Int) (l : List V) (hp : ((v7 == ((text.size : Nat) : Int)) && (v8 == 0) && (from' == 0) && (l.length == 0) && decide (text.size ≤ 1000000000)) = true) : ∃ n, ∀ (R : Type) (κ : Ex → St → Option R), f14_l0 n text from' v7 v8 l R κ = f14_s0 text from' v7 v8 l R κ := by
  simp only [Bool.and_eq_true, decide_eq_true_eq, beq_iff_eq] at hp
  obtain ⟨⟨⟨⟨rfl, rfl⟩, rfl⟩, g4⟩, g5⟩ := hp
  obtain rfl : l = [] := List.eq_nil_of_length_eq_zero g4
  refine ⟨text.size + 1, fun R κ => ?_⟩
  have := f14_loop text g5 R κ text.size 0 0 [] (by omega) (Nat.le_refl _) (Nat.le_refl _)
  have e : fromP text = ((text.size : Nat) : Int) - (((lastL ((text.data.toList.take 0).drop 0) (text.data.toList.drop 0)).length : Nat) : Int) := by
    unfold fromP; rw [lastP_size]; rfl
  rw [f14_s0, e]
  exact this
def t_f14_l0 (st : St) (R : Type) (κ : Ex → St → Option R) : Option R := bif ckS f14_l0_ls f14_l0_rs st then (bif ((((st.env 7).intOf) == ((((st.env 0).strOf).size : Nat) : Int)) && (((st.env 8).intOf) == 0) && (((st.env 4).intOf) == 0) && (((nthV (rowOf (st.regs (.loc 3))) 0).cellsOf).length == 0) && decide (((st.env 0).strOf).size ≤ 1000000000)) then f14_s0 ((st.env 0).strOf) ((st.env 4).intOf) ((st.env 7).intOf) ((st.env 8).intOf) ((nthV (rowOf (st.regs (.loc 3))) 0).cellsOf) R κ else none) else none
theorem t_f14_l0_ok : ∀ st0 R κ r, t_f14_l0 (forget C 14 [0, 1, 0, 1, 1, 1] st0) R κ = some r → ∃ ee ss, κ ee ss = some r ∧ RunP C prim 14 [0, 1, 0, 1, 1, 1] (forget C 14 [0, 1, 0, 1, 1, 1] st0) ee ss := by
  intro st0 R κ r h
  obtain ⟨hs, h⟩ := cond_some h
  obtain ⟨hp, h⟩ := cond_some h
  rw [canon (ls := f14_l0_ls) (rs := f14_l0_rs) (by kernel_rfl) st0 hs]
  obtain ⟨n, hn⟩ := f14_s0_eq _ _ _ _ _ hp
  rw [← hn] at h
  exact f14_l0_ok n _ _ _ _ _ R κ r h

def K_f14 : CallK := kNil
theorem K_f14_ok : KOK C prim K_f14 := KOK.nil
def T_f14 : Tab := tCons [0, 1, 0, 1, 1, 1] t_f14_l0 <| tNil
theorem T_f14_ok : TOK C prim 14 T_f14 := TOK.cons t_f14_l0_ok <| TOK.nil
def f14 (text : ByteArray) : Option (V × List Rg) :=
  bif ((((text.size : Nat) : Int) == ((text.size : Nat) : Int)) && ((0 : Int) == 0) && ((0 : Int) == 0) && (([] : List V).length == 0) && decide (text.size ≤ 1000000000)) then
    bif (decide ((fromP text) < ((text.size : Nat) : Int))) then
      bif ((((decide ((0 : Int) ≤ (fromP text))) && (decide ((fromP text) ≤ ((text.size : Nat) : Int)))) && true) && true) then
        bif (((roomy ((((headP text)).length + 1) * 16)) && (roomy (((headP text)).length + 1))) && true) then
          some (.sl 1 ((headP text) ++ [.sc (.string (text.extract ((fromP text)).toNat (((text.size : Nat) : Int)).toNat))]), [])
        else none
      else none
    else
      some (.sl 1 (headP text), [])
  else none
theorem f14_run (text : ByteArray) (z9 : V × List Rg) (h : f14 text = some z9) : CallR C prim 14 [.sc (.string text)] [] z9 := by
  refine call_fn (K := K_f14) (T := T_f14) K_f14_ok T_f14_ok (by kernel_rfl) ?_
  refine Eq.trans ?_ h
  kernel_rfl

theorem from_last (s : ByteArray) : V.sc (.string (s.extract (fromP s).toNat s.size)) = .sc (.string (lastP s)) := by
  have key : ∀ (l cur : List UInt8), (cur ++ l).drop (cur.length + l.length - (lastL cur l).length) = lastL cur l := by
    intro l
    induction l with
    | nil => intro cur; simp [lastL]
    | cons b r ih =>
      intro cur
      have h1 := ih []
      have h2 := ih (cur ++ [b])
      rw [lastL_cons]
      cases b == 10 with
      | false =>
        simp only [cond_false]
        rw [List.append_assoc, List.singleton_append, List.length_append] at h2
        rw [List.length_cons, show cur.length + (r.length + 1) = cur.length + [b].length + r.length by simp; omega]
        exact h2
      | true =>
        simp only [cond_true]
        have hle := last_le r []
        simp only [List.length_nil, Nat.zero_add, List.nil_append] at h1 hle
        rw [List.length_cons, show cur.length + (r.length + 1) - (lastL [] r).length = (cur ++ [b]).length + (r.length - (lastL [] r).length) by simp; omega, show cur ++ b :: r = (cur ++ [b]) ++ r by simp, List.drop_length_add_append]
        exact h1
  have hle := lastP_le s
  have h := key s.data.toList []
  simp only [List.length_nil, Nat.zero_add, List.nil_append] at h
  congr 1
  congr 1
  refine ba_ext ?_
  have hf : (fromP s).toNat = s.data.toList.length - (lastL [] s.data.toList).length := by
    unfold fromP; rw [← lastP_size, ← bl_size]; omega
  rw [bl_extract, List.take_of_length_le (by rw [bl_size]; exact Nat.le_refl _), hf, h]
  rfl
theorem f14_eq (text : ByteArray) (hp : (decide (text.size ≤ 1000000000)) = true) : f14 text = some (.sl 1 (linesV text), []) := by
  have hq := hp
  simp only [decide_eq_true_eq] at hp
  have hl := lastP_le text
  have hh := headP_le text
  have r1 : roomy (((headP text).length + 1) * 16) = true := dec_true (by omega)
  have r2 : roomy ((headP text).length + 1) = true := dec_true (by omega)
  unfold f14 linesV splitV
  rw [hq, beq_self_eq_true, Int.toNat_natCast, from_last, r1, r2]
  by_cases hz : (lastP text).size = 0
  · rw [dec_false (show ¬ fromP text < ((text.size : Nat) : Int) by unfold fromP; omega), hz]
    rfl
  · have hz2 : ((lastP text).size == 0) = false := by simpa using hz
    rw [dec_true (show fromP text < ((text.size : Nat) : Int) by unfold fromP; omega), dec_true (show (0 : Int) ≤ fromP text by unfold fromP; omega), dec_true (show fromP text ≤ ((text.size : Nat) : Int) by unfold fromP; omega), hz2]
    rfl
def k14 : PrimT := fun vs gs => match vs, gs with
  | [.sc (.string text)], [] => ((decide (text.size ≤ 1000000000)), .sl 1 (linesV text), [])
  | _, _ => (false, .bad, [])
theorem k14_ok : ∀ vs gs x, k14 vs gs = (true, x) → CallR C prim 14 vs gs x := by
  intro vs gs x h
  unfold k14 at h
  split at h
  · simp only [Prod.mk.injEq] at h
    obtain ⟨hp, rfl⟩ := h
    exact f14_run _ _ (f14_eq _ hp)
  · cases h

def K_f36 : CallK := kCons 14 k14 <| kNil
theorem K_f36_ok : KOK C prim K_f36 := KOK.cons k14_ok <| KOK.nil
def T_f36 : Tab := tNil
theorem T_f36_ok : TOK C prim 36 T_f36 := TOK.nil
def f36 (text : ByteArray) : Option (V × List Rg) :=
  bif (decide (((text.size : Nat) : Int) > 65536)) then
    some (.sc (.bool true), [])
  else
    bif ((decide (text.size ≤ 1000000000)) && true) then
      some (.sc (.bool (decide (((((linesV text)).length : Nat) : Int) > 4096))), [])
    else none
theorem f36_run (text : ByteArray) (z9 : V × List Rg) (h : f36 text = some z9) : CallR C prim 36 [.sc (.string text)] [] z9 := by
  refine call_fn (K := K_f36) (T := T_f36) K_f36_ok T_f36_ok (by kernel_rfl) ?_
  refine Eq.trans ?_ h
  kernel_rfl

theorem f36_eq (text : ByteArray) (hp : (decide (text.size ≤ 1000000000)) = true) : f36 text = some (.sc (.bool (largeB text)), []) := by
  unfold f36 largeB
  rw [hp]
  cases decide (((text.size : Nat) : Int) > 65536) <;> rfl
def k36 : PrimT := fun vs gs => match vs, gs with
  | [.sc (.string text)], [] => ((decide (text.size ≤ 1000000000)), .sc (.bool (largeB text)), [])
  | _, _ => (false, .bad, [])
theorem k36_ok : ∀ vs gs x, k36 vs gs = (true, x) → CallR C prim 36 vs gs x := by
  intro vs gs x h
  unfold k36 at h
  split at h
  · simp only [Prod.mk.injEq] at h
    obtain ⟨hp, rfl⟩ := h
    exact f36_run _ _ (f36_eq _ hp)
  · cases h

def K_f66a_l0 : CallK := kCons 55 k55 <| kNil
theorem K_f66a_l0_ok : KOK C prim K_f66a_l0 := KOK.cons k55_ok <| KOK.nil
def T_f66a_l0 : Tab := tNil
theorem T_f66a_l0_ok : TOK C prim 66 T_f66a_l0 := TOK.nil
def f66a_l0 : Nat → List V → Int → Int → (R : Type) → (Ex → St → Option R) → Option R
  | 0, _, _, _, _, _ => none
  | n + 1, s, v7, v8, R, κ =>
    bif (decide (v8 < v7)) then
      bif (((decide ((0 : Int) ≤ v8)) && (decide (v8 < ((s.length : Nat) : Int)))) && true) then
        bif (((V.isStr (nthV s (((v8).toNat * 1) + 0))) && true) && true) then
          bif ((decide ((V.strOf (nthV s (((v8).toNat * 1) + 0))).size ≤ 1000000000)) && true) then
            bif (largeB (V.strOf (nthV s (((v8).toNat * 1) + 0)))) then
              κ .rt (mkS [(4, .sc (.int .i64 v8))] [])
            else
              f66a_l0 n s v7 (IntKind.wrap .i64 (v8 + 1)) R κ
          else none
        else none
      else none
    else
      κ (.ex 0) (mkS [(4, .bad)] [])
def f66a_l0_ls : List (Nat × Pat) := [(0, .sl 1), (1, .is (.fn 55 [] [])), (7, .i .i64), (8, .i .i64)]
def f66a_l0_rs : List RPat := []
theorem f66a_l0_ok (n : Nat) : ∀ (s : List V) (v7 : Int) (v8 : Int) (R : Type) (κ : Ex → St → Option R) (r : R), f66a_l0 n s v7 v8 R κ = some r → ∃ ee ss, κ ee ss = some r ∧ RunP C prim 66 [0, 1, 0, 1] (mkS [(0, .sl 1 s), (1, .fn 55 [] []), (7, .sc (.int .i64 v7)), (8, .sc (.int .i64 v8))] []) ee ss := by
  induction n with
  | zero => intro s v7 v8 R κ r h; cases h
  | succ n ih =>
    intro s v7 v8 R κ r h
    refine loop_round (K := K_f66a_l0) (T := T_f66a_l0) K_f66a_l0_ok T_f66a_l0_ok (p := [0, 1, 0, 1]) (by kernel_rfl) (fun st => bif ckS f66a_l0_ls f66a_l0_rs st then f66a_l0 n ((st.env 0).cellsOf) ((st.env 7).intOf) ((st.env 8).intOf) R κ else none) (fun st0 h0 => ?_) ?_
    · obtain ⟨hs, h0⟩ := cond_some h0
      rw [canon (ls := f66a_l0_ls) (rs := f66a_l0_rs) (by kernel_rfl) st0 hs]
      exact ih _ _ _ R κ r h0
    · refine Eq.trans ?_ h
      kernel_rfl

def f66a_s0 (s : List V) (v7 : Int) (v8 : Int) (R : Type) (κ : Ex → St → Option R) : Option R :=
  bif (s.any largeV) then
    κ .rt (mkS [(4, .sc (.int .i64 ((fstN largeV s : Nat) : Int)))] [])
  else
    κ (.ex 0) (mkS [(4, .bad)] [])
theorem f66a_loop (s : List V) (hs : s.all shortS = true) (hl : s.length ≤ 1000000000) (R : Type) (κ : Ex → St → Option R) : ∀ (k i : Nat), i + k = s.length →
    f66a_l0 (k + 1) s ((s.length : Nat) : Int) ((i : Nat) : Int) R κ = bif (s.drop i).any largeV then κ .rt (mkS [(4, .sc (.int .i64 ((i + fstN largeV (s.drop i) : Nat) : Int)))] []) else κ (.ex 0) (mkS [(4, .bad)] [])
  | 0, i, h => by
    rw [f66a_l0, dec_false (by omega), cond_false, List.drop_of_length_le (by omega)]
    rfl
  | k + 1, i, h => by
    have hlt : i < s.length := by omega
    obtain ⟨g1, g2⟩ := shortS_spec (List.all_eq_true.1 hs _ (List.getElem_mem hlt))
    have IH := f66a_loop s hs hl R κ k (i + 1) (by omega)
    rw [f66a_l0, dec_true (show ((i : Nat) : Int) < ((s.length : Nat) : Int) by omega), dec_true (show (0 : Int) ≤ ((i : Nat) : Int) by omega), nth_at hlt, g1, dec_true g2, wrap_succ (by omega), IH, any_drop hlt, fstN_drop hlt]
    cases hb : largeV s[i] with
    | true =>
      have hb' : largeB s[i].strOf = true := hb
      rw [hb']
      simp only [Bool.and_self, cond_true, Bool.true_or, Nat.add_zero]
    | false =>
      have hb' : largeB s[i].strOf = false := hb
      rw [hb']
      simp only [Bool.and_self, cond_true, cond_false, Bool.false_or]
      rw [show i + 1 + fstN largeV (s.drop (i + 1)) = i + (fstN largeV (s.drop (i + 1)) + 1) by omega]
theorem f66a_s0_eq (s : List V) (v7 : Int) (v8 : Int) (hp : ((v7 == ((s.length : Nat) : Int)) && (v8 == 0) && s.all shortS && decide (s.length ≤ 1000000000)) = true) : ∃ n, ∀ (R : Type) (κ : Ex → St → Option R), f66a_l0 n s v7 v8 R κ = f66a_s0 s v7 v8 R κ := by
  simp only [Bool.and_eq_true, decide_eq_true_eq, beq_iff_eq] at hp
  obtain ⟨⟨⟨rfl, rfl⟩, g3⟩, g4⟩ := hp
  refine ⟨s.length + 1, fun R κ => ?_⟩
  have := f66a_loop s g3 g4 R κ s.length 0 (by omega)
  rw [List.drop_zero, Nat.zero_add] at this
  exact this
def t_f66a_l0 (st : St) (R : Type) (κ : Ex → St → Option R) : Option R := bif ckS f66a_l0_ls f66a_l0_rs st then (bif ((((st.env 7).intOf) == ((((st.env 0).cellsOf).length : Nat) : Int)) && (((st.env 8).intOf) == 0) && ((st.env 0).cellsOf).all shortS && decide (((st.env 0).cellsOf).length ≤ 1000000000)) then f66a_s0 ((st.env 0).cellsOf) ((st.env 7).intOf) ((st.env 8).intOf) R κ else none) else none
theorem t_f66a_l0_ok : ∀ st0 R κ r, t_f66a_l0 (forget C 66 [0, 1, 0, 1] st0) R κ = some r → ∃ ee ss, κ ee ss = some r ∧ RunP C prim 66 [0, 1, 0, 1] (forget C 66 [0, 1, 0, 1] st0) ee ss := by
  intro st0 R κ r h
  obtain ⟨hs, h⟩ := cond_some h
  obtain ⟨hp, h⟩ := cond_some h
  rw [canon (ls := f66a_l0_ls) (rs := f66a_l0_rs) (by kernel_rfl) st0 hs]
  obtain ⟨n, hn⟩ := f66a_s0_eq _ _ _ hp
  rw [← hn] at h
  exact f66a_l0_ok n _ _ _ R κ r h

def K_f66a : CallK := kNil
theorem K_f66a_ok : KOK C prim K_f66a := KOK.nil
def T_f66a : Tab := tCons [0, 1, 0, 1] t_f66a_l0 <| tNil
theorem T_f66a_ok : TOK C prim 66 T_f66a := TOK.cons t_f66a_l0_ok <| TOK.nil
def f66a (s : List V) : Option (V × List Rg) :=
  bif ((((s.length : Nat) : Int) == ((s.length : Nat) : Int)) && ((0 : Int) == 0) && s.all shortS && decide (s.length ≤ 1000000000)) then
    bif (s.any largeV) then
      some (.sc (.int .i64 ((fstN largeV s : Nat) : Int)), [])
    else
      some (.sc (.int .i64 (-1)), [])
  else none
theorem f66a_run (s : List V) (z9 : V × List Rg) (h : f66a s = some z9) : CallR C prim 66 [.sl 1 s, .fn 55 [] []] [] z9 := by
  refine call_fn (K := K_f66a) (T := T_f66a) K_f66a_ok T_f66a_ok (by kernel_rfl) ?_
  refine Eq.trans ?_ h
  kernel_rfl

theorem f66a_eq (s : List V) (hp : (s.all shortS && decide (s.length ≤ 1000000000)) = true) : f66a s = some (.sc (.int .i64 (idxV largeV s)), []) := by
  simp only [Bool.and_eq_true, decide_eq_true_eq] at hp
  unfold f66a idxV
  rw [beq_self_eq_true, hp.1, dec_true hp.2]
  cases s.any largeV <;> rfl
def k66a : PrimT := fun vs gs => match vs, gs with
  | [.sl 1 s, .fn 55 [] []], [] => ((s.all shortS && decide (s.length ≤ 1000000000)), .sc (.int .i64 (idxV largeV s)), [])
  | _, _ => (false, .bad, [])
theorem k66a_ok : ∀ vs gs x, k66a vs gs = (true, x) → CallR C prim 66 vs gs x := by
  intro vs gs x h
  unfold k66a at h
  split at h
  · simp only [Prod.mk.injEq] at h
    obtain ⟨hp, rfl⟩ := h
    exact f66a_run _ _ (f66a_eq _ hp)
  · cases h

def K_f66b_l0 : CallK := kCons 36 k36 <| kNil
theorem K_f66b_l0_ok : KOK C prim K_f66b_l0 := KOK.cons k36_ok <| KOK.nil
def T_f66b_l0 : Tab := tNil
theorem T_f66b_l0_ok : TOK C prim 66 T_f66b_l0 := TOK.nil
def f66b_l0 : Nat → List V → Int → Int → (R : Type) → (Ex → St → Option R) → Option R
  | 0, _, _, _, _, _ => none
  | n + 1, s, v7, v8, R, κ =>
    bif (decide (v8 < v7)) then
      bif (((decide ((0 : Int) ≤ v8)) && (decide (v8 < ((s.length : Nat) : Int)))) && true) then
        bif (((V.isStr (nthV s (((v8).toNat * 1) + 0))) && true) && true) then
          bif ((decide ((V.strOf (nthV s (((v8).toNat * 1) + 0))).size ≤ 1000000000)) && true) then
            bif (largeB (V.strOf (nthV s (((v8).toNat * 1) + 0)))) then
              κ .rt (mkS [(4, .sc (.int .i64 v8))] [])
            else
              f66b_l0 n s v7 (IntKind.wrap .i64 (v8 + 1)) R κ
          else none
        else none
      else none
    else
      κ (.ex 0) (mkS [(4, .bad)] [])
def f66b_l0_ls : List (Nat × Pat) := [(0, .sl 1), (1, .is (.fn 36 [] [])), (7, .i .i64), (8, .i .i64)]
def f66b_l0_rs : List RPat := []
theorem f66b_l0_ok (n : Nat) : ∀ (s : List V) (v7 : Int) (v8 : Int) (R : Type) (κ : Ex → St → Option R) (r : R), f66b_l0 n s v7 v8 R κ = some r → ∃ ee ss, κ ee ss = some r ∧ RunP C prim 66 [0, 1, 0, 1] (mkS [(0, .sl 1 s), (1, .fn 36 [] []), (7, .sc (.int .i64 v7)), (8, .sc (.int .i64 v8))] []) ee ss := by
  induction n with
  | zero => intro s v7 v8 R κ r h; cases h
  | succ n ih =>
    intro s v7 v8 R κ r h
    refine loop_round (K := K_f66b_l0) (T := T_f66b_l0) K_f66b_l0_ok T_f66b_l0_ok (p := [0, 1, 0, 1]) (by kernel_rfl) (fun st => bif ckS f66b_l0_ls f66b_l0_rs st then f66b_l0 n ((st.env 0).cellsOf) ((st.env 7).intOf) ((st.env 8).intOf) R κ else none) (fun st0 h0 => ?_) ?_
    · obtain ⟨hs, h0⟩ := cond_some h0
      rw [canon (ls := f66b_l0_ls) (rs := f66b_l0_rs) (by kernel_rfl) st0 hs]
      exact ih _ _ _ R κ r h0
    · refine Eq.trans ?_ h
      kernel_rfl

def f66b_s0 (s : List V) (v7 : Int) (v8 : Int) (R : Type) (κ : Ex → St → Option R) : Option R :=
  bif (s.any largeV) then
    κ .rt (mkS [(4, .sc (.int .i64 ((fstN largeV s : Nat) : Int)))] [])
  else
    κ (.ex 0) (mkS [(4, .bad)] [])
theorem f66b_loop (s : List V) (hs : s.all shortS = true) (hl : s.length ≤ 1000000000) (R : Type) (κ : Ex → St → Option R) : ∀ (k i : Nat), i + k = s.length →
    f66b_l0 (k + 1) s ((s.length : Nat) : Int) ((i : Nat) : Int) R κ = bif (s.drop i).any largeV then κ .rt (mkS [(4, .sc (.int .i64 ((i + fstN largeV (s.drop i) : Nat) : Int)))] []) else κ (.ex 0) (mkS [(4, .bad)] [])
  | 0, i, h => by
    rw [f66b_l0, dec_false (by omega), cond_false, List.drop_of_length_le (by omega)]
    rfl
  | k + 1, i, h => by
    have hlt : i < s.length := by omega
    obtain ⟨g1, g2⟩ := shortS_spec (List.all_eq_true.1 hs _ (List.getElem_mem hlt))
    have IH := f66b_loop s hs hl R κ k (i + 1) (by omega)
    rw [f66b_l0, dec_true (show ((i : Nat) : Int) < ((s.length : Nat) : Int) by omega), dec_true (show (0 : Int) ≤ ((i : Nat) : Int) by omega), nth_at hlt, g1, dec_true g2, wrap_succ (by omega), IH, any_drop hlt, fstN_drop hlt]
    cases hb : largeV s[i] with
    | true =>
      have hb' : largeB s[i].strOf = true := hb
      rw [hb']
      simp only [Bool.and_self, cond_true, Bool.true_or, Nat.add_zero]
    | false =>
      have hb' : largeB s[i].strOf = false := hb
      rw [hb']
      simp only [Bool.and_self, cond_true, cond_false, Bool.false_or]
      rw [show i + 1 + fstN largeV (s.drop (i + 1)) = i + (fstN largeV (s.drop (i + 1)) + 1) by omega]
theorem f66b_s0_eq (s : List V) (v7 : Int) (v8 : Int) (hp : ((v7 == ((s.length : Nat) : Int)) && (v8 == 0) && s.all shortS && decide (s.length ≤ 1000000000)) = true) : ∃ n, ∀ (R : Type) (κ : Ex → St → Option R), f66b_l0 n s v7 v8 R κ = f66b_s0 s v7 v8 R κ := by
  simp only [Bool.and_eq_true, decide_eq_true_eq, beq_iff_eq] at hp
  obtain ⟨⟨⟨rfl, rfl⟩, g3⟩, g4⟩ := hp
  refine ⟨s.length + 1, fun R κ => ?_⟩
  have := f66b_loop s g3 g4 R κ s.length 0 (by omega)
  rw [List.drop_zero, Nat.zero_add] at this
  exact this
def t_f66b_l0 (st : St) (R : Type) (κ : Ex → St → Option R) : Option R := bif ckS f66b_l0_ls f66b_l0_rs st then (bif ((((st.env 7).intOf) == ((((st.env 0).cellsOf).length : Nat) : Int)) && (((st.env 8).intOf) == 0) && ((st.env 0).cellsOf).all shortS && decide (((st.env 0).cellsOf).length ≤ 1000000000)) then f66b_s0 ((st.env 0).cellsOf) ((st.env 7).intOf) ((st.env 8).intOf) R κ else none) else none
theorem t_f66b_l0_ok : ∀ st0 R κ r, t_f66b_l0 (forget C 66 [0, 1, 0, 1] st0) R κ = some r → ∃ ee ss, κ ee ss = some r ∧ RunP C prim 66 [0, 1, 0, 1] (forget C 66 [0, 1, 0, 1] st0) ee ss := by
  intro st0 R κ r h
  obtain ⟨hs, h⟩ := cond_some h
  obtain ⟨hp, h⟩ := cond_some h
  rw [canon (ls := f66b_l0_ls) (rs := f66b_l0_rs) (by kernel_rfl) st0 hs]
  obtain ⟨n, hn⟩ := f66b_s0_eq _ _ _ hp
  rw [← hn] at h
  exact f66b_l0_ok n _ _ _ R κ r h

def K_f66b : CallK := kNil
theorem K_f66b_ok : KOK C prim K_f66b := KOK.nil
def T_f66b : Tab := tCons [0, 1, 0, 1] t_f66b_l0 <| tNil
theorem T_f66b_ok : TOK C prim 66 T_f66b := TOK.cons t_f66b_l0_ok <| TOK.nil
def f66b (s : List V) : Option (V × List Rg) :=
  bif ((((s.length : Nat) : Int) == ((s.length : Nat) : Int)) && ((0 : Int) == 0) && s.all shortS && decide (s.length ≤ 1000000000)) then
    bif (s.any largeV) then
      some (.sc (.int .i64 ((fstN largeV s : Nat) : Int)), [])
    else
      some (.sc (.int .i64 (-1)), [])
  else none
theorem f66b_run (s : List V) (z9 : V × List Rg) (h : f66b s = some z9) : CallR C prim 66 [.sl 1 s, .fn 36 [] []] [] z9 := by
  refine call_fn (K := K_f66b) (T := T_f66b) K_f66b_ok T_f66b_ok (by kernel_rfl) ?_
  refine Eq.trans ?_ h
  kernel_rfl

theorem f66b_eq (s : List V) (hp : (s.all shortS && decide (s.length ≤ 1000000000)) = true) : f66b s = some (.sc (.int .i64 (idxV largeV s)), []) := by
  simp only [Bool.and_eq_true, decide_eq_true_eq] at hp
  unfold f66b idxV
  rw [beq_self_eq_true, hp.1, dec_true hp.2]
  cases s.any largeV <;> rfl
def k66b : PrimT := fun vs gs => match vs, gs with
  | [.sl 1 s, .fn 36 [] []], [] => ((s.all shortS && decide (s.length ≤ 1000000000)), .sc (.int .i64 (idxV largeV s)), [])
  | _, _ => (false, .bad, [])
theorem k66b_ok : ∀ vs gs x, k66b vs gs = (true, x) → CallR C prim 66 vs gs x := by
  intro vs gs x h
  unfold k66b at h
  split at h
  · simp only [Prod.mk.injEq] at h
    obtain ⟨hp, rfl⟩ := h
    exact f66b_run _ _ (f66b_eq _ hp)
  · cases h

def k66 : PrimT := fun vs gs => bif isFn 55 vs then k66a vs gs else k66b vs gs
theorem k66_ok : ∀ vs gs x, k66 vs gs = (true, x) → CallR C prim 66 vs gs x := by
  intro vs gs x h
  unfold k66 at h
  cases hb0 : isFn 55 vs with
  | true => rw [hb0] at h; exact k66a_ok vs gs x h
  | false =>
  rw [hb0] at h
  exact k66b_ok vs gs x h

def K_f35a : CallK := kCons 66 k66 <| kNil
theorem K_f35a_ok : KOK C prim K_f35a := KOK.cons k66_ok <| KOK.nil
def T_f35a : Tab := tNil
theorem T_f35a_ok : TOK C prim 35 T_f35a := TOK.nil
def f35a (s : List V) : Option (V × List Rg) :=
  bif ((s.all shortS && decide (s.length ≤ 1000000000)) && true) then
    some (.sc (.bool (decide ((idxV largeV s) ≥ 0))), [])
  else none
theorem f35a_run (s : List V) (z9 : V × List Rg) (h : f35a s = some z9) : CallR C prim 35 [.sl 1 s, .fn 55 [] []] [] z9 := by
  refine call_fn (K := K_f35a) (T := T_f35a) K_f35a_ok T_f35a_ok (by kernel_rfl) ?_
  refine Eq.trans ?_ h
  kernel_rfl

theorem f35a_eq (s : List V) (hp : (s.all shortS && decide (s.length ≤ 1000000000)) = true) : f35a s = some (.sc (.bool (s.any largeV)), []) := by
  unfold f35a
  rw [hp, idxV_ge]
  rfl
def k35a : PrimT := fun vs gs => match vs, gs with
  | [.sl 1 s, .fn 55 [] []], [] => ((s.all shortS && decide (s.length ≤ 1000000000)), .sc (.bool (s.any largeV)), [])
  | _, _ => (false, .bad, [])
theorem k35a_ok : ∀ vs gs x, k35a vs gs = (true, x) → CallR C prim 35 vs gs x := by
  intro vs gs x h
  unfold k35a at h
  split at h
  · simp only [Prod.mk.injEq] at h
    obtain ⟨hp, rfl⟩ := h
    exact f35a_run _ _ (f35a_eq _ hp)
  · cases h

def K_f35b : CallK := kCons 66 k66 <| kNil
theorem K_f35b_ok : KOK C prim K_f35b := KOK.cons k66_ok <| KOK.nil
def T_f35b : Tab := tNil
theorem T_f35b_ok : TOK C prim 35 T_f35b := TOK.nil
def f35b (s : List V) : Option (V × List Rg) :=
  bif ((s.all shortS && decide (s.length ≤ 1000000000)) && true) then
    some (.sc (.bool (decide ((idxV largeV s) ≥ 0))), [])
  else none
theorem f35b_run (s : List V) (z9 : V × List Rg) (h : f35b s = some z9) : CallR C prim 35 [.sl 1 s, .fn 36 [] []] [] z9 := by
  refine call_fn (K := K_f35b) (T := T_f35b) K_f35b_ok T_f35b_ok (by kernel_rfl) ?_
  refine Eq.trans ?_ h
  kernel_rfl

theorem f35b_eq (s : List V) (hp : (s.all shortS && decide (s.length ≤ 1000000000)) = true) : f35b s = some (.sc (.bool (s.any largeV)), []) := by
  unfold f35b
  rw [hp, idxV_ge]
  rfl
def k35b : PrimT := fun vs gs => match vs, gs with
  | [.sl 1 s, .fn 36 [] []], [] => ((s.all shortS && decide (s.length ≤ 1000000000)), .sc (.bool (s.any largeV)), [])
  | _, _ => (false, .bad, [])
theorem k35b_ok : ∀ vs gs x, k35b vs gs = (true, x) → CallR C prim 35 vs gs x := by
  intro vs gs x h
  unfold k35b at h
  split at h
  · simp only [Prod.mk.injEq] at h
    obtain ⟨hp, rfl⟩ := h
    exact f35b_run _ _ (f35b_eq _ hp)
  · cases h

def k35 : PrimT := fun vs gs => bif isFn 55 vs then k35a vs gs else k35b vs gs
theorem k35_ok : ∀ vs gs x, k35 vs gs = (true, x) → CallR C prim 35 vs gs x := by
  intro vs gs x h
  unfold k35 at h
  cases hb0 : isFn 55 vs with
  | true => rw [hb0] at h; exact k35a_ok vs gs x h
  | false =>
  rw [hb0] at h
  exact k35b_ok vs gs x h

def K_f27 : CallK := kCons 35 k35 <| kNil
theorem K_f27_ok : KOK C prim K_f27 := KOK.cons k35_ok <| KOK.nil
def T_f27 : Tab := tNil
theorem T_f27_ok : TOK C prim 27 T_f27 := TOK.nil
def f27 (texts : List V) : Option (V × List Rg) :=
  bif ((texts.all shortS && decide (texts.length ≤ 1000000000)) && true) then
    bif (texts.any largeV) then
      some (.sc (.int .i64 2), [])
    else
      some (.sc (.int .i64 0), [])
  else none
theorem f27_run (texts : List V) (z9 : V × List Rg) (h : f27 texts = some z9) : CallR C prim 27 [.sl 1 texts] [] z9 := by
  refine call_fn (K := K_f27) (T := T_f27) K_f27_ok T_f27_ok (by kernel_rfl) ?_
  refine Eq.trans ?_ h
  kernel_rfl

theorem f27_eq (texts : List V) (hp : (texts.all shortS && decide (texts.length ≤ 1000000000)) = true) : f27 texts = some (.sc (.int .i64 (bif texts.any largeV then (2 : Int) else 0)), []) := by
  unfold f27
  rw [hp]
  cases texts.any largeV <;> rfl
def k27 : PrimT := fun vs gs => match vs, gs with
  | [.sl 1 texts], [] => ((texts.all shortS && decide (texts.length ≤ 1000000000)), .sc (.int .i64 (bif texts.any largeV then (2 : Int) else 0)), [])
  | _, _ => (false, .bad, [])
theorem k27_ok : ∀ vs gs x, k27 vs gs = (true, x) → CallR C prim 27 vs gs x := by
  intro vs gs x h
  unfold k27 at h
  split at h
  · simp only [Prod.mk.injEq] at h
    obtain ⟨hp, rfl⟩ := h
    exact f27_run _ _ (f27_eq _ hp)
  · cases h

def K_f10 : CallK := kCons 35 k35 <| kNil
theorem K_f10_ok : KOK C prim K_f10 := KOK.cons k35_ok <| KOK.nil
def T_f10 : Tab := tNil
theorem T_f10_ok : TOK C prim 10 T_f10 := TOK.nil
def f10 (texts : List V) : Option (V × List Rg) :=
  bif ((texts.all shortS && decide (texts.length ≤ 1000000000)) && true) then
    bif (texts.any largeV) then
      some (.sc (.int .i64 2), [])
    else
      some (.sc (.int .i64 0), [])
  else none
theorem f10_run (texts : List V) (z9 : V × List Rg) (h : f10 texts = some z9) : CallR C prim 10 [.sl 1 texts] [] z9 := by
  refine call_fn (K := K_f10) (T := T_f10) K_f10_ok T_f10_ok (by kernel_rfl) ?_
  refine Eq.trans ?_ h
  kernel_rfl

theorem f10_eq (texts : List V) (hp : (texts.all shortS && decide (texts.length ≤ 1000000000)) = true) : f10 texts = some (.sc (.int .i64 (bif texts.any largeV then (2 : Int) else 0)), []) := by
  unfold f10
  rw [hp]
  cases texts.any largeV <;> rfl
def k10 : PrimT := fun vs gs => match vs, gs with
  | [.sl 1 texts], [] => ((texts.all shortS && decide (texts.length ≤ 1000000000)), .sc (.int .i64 (bif texts.any largeV then (2 : Int) else 0)), [])
  | _, _ => (false, .bad, [])
theorem k10_ok : ∀ vs gs x, k10 vs gs = (true, x) → CallR C prim 10 vs gs x := by
  intro vs gs x h
  unfold k10 at h
  split at h
  · simp only [Prod.mk.injEq] at h
    obtain ⟨hp, rfl⟩ := h
    exact f10_run _ _ (f10_eq _ hp)
  · cases h

def K_f40 : CallK := kNil
theorem K_f40_ok : KOK C prim K_f40 := KOK.nil
def T_f40 : Tab := tNil
theorem T_f40_ok : TOK C prim 40 T_f40 := TOK.nil
def f40 (n' : Int) (low : Int) (high : Int) : Option (V × List Rg) :=
  bif (decide (n' ≥ low)) then
    some (.sc (.bool (decide (n' ≤ high))), [])
  else
    some (.sc (.bool false), [])
theorem f40_run (n' : Int) (low : Int) (high : Int) (z9 : V × List Rg) (h : f40 n' low high = some z9) : CallR C prim 40 [.sc (.int .i64 n'), .sc (.int .i64 low), .sc (.int .i64 high)] [] z9 := by
  refine call_fn (K := K_f40) (T := T_f40) K_f40_ok T_f40_ok (by kernel_rfl) ?_
  refine Eq.trans ?_ h
  kernel_rfl

theorem f40_eq (n' : Int) (low : Int) (high : Int) : f40 n' low high = some (.sc (.bool (decide (n' ≥ low) && decide (n' ≤ high))), []) := by
  unfold f40
  cases decide (n' ≥ low) <;> rfl
def k40 : PrimT := fun vs gs => match vs, gs with
  | [.sc (.int .i64 n'), .sc (.int .i64 low), .sc (.int .i64 high)], [] => (true, .sc (.bool (decide (n' ≥ low) && decide (n' ≤ high))), [])
  | _, _ => (false, .bad, [])
theorem k40_ok : ∀ vs gs x, k40 vs gs = (true, x) → CallR C prim 40 vs gs x := by
  intro vs gs x h
  unfold k40 at h
  split at h
  · simp only [Prod.mk.injEq, true_and] at h
    subst h
    exact f40_run _ _ _ _ (f40_eq _ _ _)
  · cases h

def K_f18 : CallK := kNil
theorem K_f18_ok : KOK C prim K_f18 := KOK.nil
def T_f18 : Tab := tNil
theorem T_f18_ok : TOK C prim 18 T_f18 := TOK.nil
def f18 (n' : Int) (low : Int) (high : Int) : Option (V × List Rg) :=
  bif (decide (n' ≥ low)) then
    some (.sc (.bool (decide (n' ≤ high))), [])
  else
    some (.sc (.bool false), [])
theorem f18_run (n' : Int) (low : Int) (high : Int) (z9 : V × List Rg) (h : f18 n' low high = some z9) : CallR C prim 18 [.sc (.int .i64 n'), .sc (.int .i64 low), .sc (.int .i64 high)] [] z9 := by
  refine call_fn (K := K_f18) (T := T_f18) K_f18_ok T_f18_ok (by kernel_rfl) ?_
  refine Eq.trans ?_ h
  kernel_rfl

theorem f18_eq (n' : Int) (low : Int) (high : Int) : f18 n' low high = some (.sc (.bool (decide (n' ≥ low) && decide (n' ≤ high))), []) := by
  unfold f18
  cases decide (n' ≥ low) <;> rfl
def k18 : PrimT := fun vs gs => match vs, gs with
  | [.sc (.int .i64 n'), .sc (.int .i64 low), .sc (.int .i64 high)], [] => (true, .sc (.bool (decide (n' ≥ low) && decide (n' ≤ high))), [])
  | _, _ => (false, .bad, [])
theorem k18_ok : ∀ vs gs x, k18 vs gs = (true, x) → CallR C prim 18 vs gs x := by
  intro vs gs x h
  unfold k18 at h
  split at h
  · simp only [Prod.mk.injEq, true_and] at h
    subst h
    exact f18_run _ _ _ _ (f18_eq _ _ _)
  · cases h

def K_f19 : CallK := kNil
theorem K_f19_ok : KOK C prim K_f19 := KOK.nil
def T_f19 : Tab := tNil
theorem T_f19_ok : TOK C prim 19 T_f19 := TOK.nil
def f19 (is : Bool) (e : Int) : Option (V × List Rg) :=
  bif is then
    some (.sc (.int .i64 e), [])
  else
    some (.sc (.int .i64 0), [])
theorem f19_run (is : Bool) (e : Int) (z9 : V × List Rg) (h : f19 is e = some z9) : CallR C prim 19 [.sc (.bool is), .sc (.int .i64 e)] [] z9 := by
  refine call_fn (K := K_f19) (T := T_f19) K_f19_ok T_f19_ok (by kernel_rfl) ?_
  refine Eq.trans ?_ h
  kernel_rfl

theorem f19_eq (is : Bool) (e : Int) : f19 is e = some (.sc (.int .i64 (bif is then e else 0)), []) := by cases is <;> rfl
def k19 : PrimT := fun vs gs => match vs, gs with
  | [.sc (.bool is), .sc (.int .i64 e)], [] => (true, .sc (.int .i64 (bif is then e else 0)), [])
  | _, _ => (false, .bad, [])
theorem k19_ok : ∀ vs gs x, k19 vs gs = (true, x) → CallR C prim 19 vs gs x := by
  intro vs gs x h
  unfold k19 at h
  split at h
  · simp only [Prod.mk.injEq, true_and] at h
    subst h
    exact f19_run _ _ _ (f19_eq _ _)
  · cases h

def K_f13 : CallK := kNil
theorem K_f13_ok : KOK C prim K_f13 := KOK.nil
def T_f13 : Tab := tNil
theorem T_f13_ok : TOK C prim 13 T_f13 := TOK.nil
def f13 (s : ByteArray) (e : Int) (want : ByteArray) (f : Int) : Option (V × List Rg) :=
  bif (f != 0) then
    bif (strEq s (⟨#[]⟩ : ByteArray)) then
      some (.sc (.bool (e == f)), [])
    else
      some (.sc (.bool false), [])
  else
    bif (strEq s want) then
      some (.sc (.bool (e == 0)), [])
    else
      some (.sc (.bool false), [])
theorem f13_run (s : ByteArray) (e : Int) (want : ByteArray) (f : Int) (z9 : V × List Rg) (h : f13 s e want f = some z9) : CallR C prim 13 [.sc (.string s), .sc (.int .i64 e), .sc (.string want), .sc (.int .i64 f)] [] z9 := by
  refine call_fn (K := K_f13) (T := T_f13) K_f13_ok T_f13_ok (by kernel_rfl) ?_
  refine Eq.trans ?_ h
  kernel_rfl

theorem f13_eq (s : ByteArray) (e : Int) (want : ByteArray) (f : Int) : f13 s e want f = some (.sc (.bool (outc s e want f)), []) := by
  unfold f13 outc
  cases f != 0
  · cases strEq s want <;> rfl
  · cases strEq s ⟨#[]⟩ <;> rfl
def k13 : PrimT := fun vs gs => match vs, gs with
  | [.sc (.string s), .sc (.int .i64 e), .sc (.string want), .sc (.int .i64 f)], [] => (true, .sc (.bool (outc s e want f)), [])
  | _, _ => (false, .bad, [])
theorem k13_ok : ∀ vs gs x, k13 vs gs = (true, x) → CallR C prim 13 vs gs x := by
  intro vs gs x h
  unfold k13 at h
  split at h
  · simp only [Prod.mk.injEq, true_and] at h
    subst h
    exact f13_run _ _ _ _ _ (f13_eq _ _ _ _)
  · cases h

def K_f8_l0 : CallK := kNil
theorem K_f8_l0_ok : KOK C prim K_f8_l0 := KOK.nil
def T_f8_l0 : Tab := tNil
theorem T_f8_l0_ok : TOK C prim 8 T_f8_l0 := TOK.nil
def f8_l0 : Nat → List V → Int → Int → (R : Type) → (Ex → St → Option R) → Option R
  | 0, _, _, _, _, _ => none
  | n + 1, v5, v6, v7, R, κ =>
    bif (decide (v7 < v6)) then
      bif (((decide ((0 : Int) ≤ v7)) && (decide (v7 < ((v5.length : Nat) : Int)))) && true) then
        bif (((V.isInt .i64 (nthV v5 (((v7).toNat * 1) + 0))) && true) && true) then
          bif ((V.intOf (nthV v5 (((v7).toNat * 1) + 0))) != 0) then
            κ .rt (mkS [(2, .sc (.int .i64 (V.intOf (nthV v5 (((v7).toNat * 1) + 0)))))] [])
          else
            f8_l0 n v5 v6 (IntKind.wrap .i64 (v7 + 1)) R κ
        else none
      else none
    else
      κ (.ex 0) (mkS [(2, .bad)] [])
def f8_l0_ls : List (Nat × Pat) := [(5, .sl 1), (6, .i .i64), (7, .i .i64)]
def f8_l0_rs : List RPat := []
theorem f8_l0_ok (n : Nat) : ∀ (v5 : List V) (v6 : Int) (v7 : Int) (R : Type) (κ : Ex → St → Option R) (r : R), f8_l0 n v5 v6 v7 R κ = some r → ∃ ee ss, κ ee ss = some r ∧ RunP C prim 8 [0, 1, 0, 1] (mkS [(5, .sl 1 v5), (6, .sc (.int .i64 v6)), (7, .sc (.int .i64 v7))] []) ee ss := by
  induction n with
  | zero => intro v5 v6 v7 R κ r h; cases h
  | succ n ih =>
    intro v5 v6 v7 R κ r h
    refine loop_round (K := K_f8_l0) (T := T_f8_l0) K_f8_l0_ok T_f8_l0_ok (p := [0, 1, 0, 1]) (by kernel_rfl) (fun st => bif ckS f8_l0_ls f8_l0_rs st then f8_l0 n ((st.env 5).cellsOf) ((st.env 6).intOf) ((st.env 7).intOf) R κ else none) (fun st0 h0 => ?_) ?_
    · obtain ⟨hs, h0⟩ := cond_some h0
      rw [canon (ls := f8_l0_ls) (rs := f8_l0_rs) (by kernel_rfl) st0 hs]
      exact ih _ _ _ R κ r h0
    · refine Eq.trans ?_ h
      kernel_rfl

def f8_s0 (v5 : List V) (v6 : Int) (v7 : Int) (R : Type) (κ : Ex → St → Option R) : Option R :=
  bif (firstBy V.intOf v5 != 0) then
    κ .rt (mkS [(2, .sc (.int .i64 (firstBy V.intOf v5)))] [])
  else
    κ (.ex 0) (mkS [(2, .bad)] [])
theorem f8_s0_eq (v5 : List V) (v6 : Int) (v7 : Int) (hp : ((v6 == ((v5.length : Nat) : Int)) && (v7 == 0) && v5.all (V.isInt .i64) && decide (v5.length ≤ 1000000000)) = true) : ∃ n, ∀ (R : Type) (κ : Ex → St → Option R), f8_l0 n v5 v6 v7 R κ = f8_s0 v5 v6 v7 R κ := by
  simp only [Bool.and_eq_true, decide_eq_true_eq, beq_iff_eq] at hp
  obtain ⟨⟨⟨rfl, rfl⟩, h3⟩, h4⟩ := hp
  refine ⟨v5.length + 1, fun R κ => ?_⟩
  refine errLoop (fun n k => f8_l0 n v5 ((v5.length : Nat) : Int) k R κ) v5 V.intOf (fun e => κ .rt (mkS [(2, .sc (.int .i64 e))] [])) (κ (.ex 0) (mkS [(2, .bad)] [])) ?_ ?_ v5.length 0 (by omega) _ (by omega)
  · intro n k hk
    have hs : V.isInt .i64 v5[k] = true := List.all_eq_true.1 h3 _ (List.getElem_mem hk)
    show f8_l0 (n + 1) v5 ((v5.length : Nat) : Int) (k : Int) R κ = _
    rw [f8_l0, dec_true (show (k : Int) < ((v5.length : Nat) : Int) by omega), dec_true (show (0 : Int) ≤ (k : Int) by omega), nth_at hk, hs, wrap_succ (by omega)]
    rfl
  · intro n
    show f8_l0 (n + 1) v5 ((v5.length : Nat) : Int) ((v5.length : Nat) : Int) R κ = _
    rw [f8_l0, dec_false (by omega)]
    rfl
def t_f8_l0 (st : St) (R : Type) (κ : Ex → St → Option R) : Option R := bif ckS f8_l0_ls f8_l0_rs st then (bif ((((st.env 6).intOf) == ((((st.env 5).cellsOf).length : Nat) : Int)) && (((st.env 7).intOf) == 0) && ((st.env 5).cellsOf).all (V.isInt .i64) && decide (((st.env 5).cellsOf).length ≤ 1000000000)) then f8_s0 ((st.env 5).cellsOf) ((st.env 6).intOf) ((st.env 7).intOf) R κ else none) else none
theorem t_f8_l0_ok : ∀ st0 R κ r, t_f8_l0 (forget C 8 [0, 1, 0, 1] st0) R κ = some r → ∃ ee ss, κ ee ss = some r ∧ RunP C prim 8 [0, 1, 0, 1] (forget C 8 [0, 1, 0, 1] st0) ee ss := by
  intro st0 R κ r h
  obtain ⟨hs, h⟩ := cond_some h
  obtain ⟨hp, h⟩ := cond_some h
  rw [canon (ls := f8_l0_ls) (rs := f8_l0_rs) (by kernel_rfl) st0 hs]
  obtain ⟨n, hn⟩ := f8_s0_eq _ _ _ hp
  rw [← hn] at h
  exact f8_l0_ok n _ _ _ R κ r h

def K_f8 : CallK := kNil
theorem K_f8_ok : KOK C prim K_f8 := KOK.nil
def T_f8 : Tab := tCons [0, 1, 0, 1] t_f8_l0 <| tNil
theorem T_f8_ok : TOK C prim 8 T_f8 := TOK.cons t_f8_l0_ok <| TOK.nil
def f8 (l : List V) : Option (V × List Rg) :=
  bif ((((l.length : Nat) : Int) == ((l.length : Nat) : Int)) && ((0 : Int) == 0) && l.all (V.isInt .i64) && decide (l.length ≤ 1000000000)) then
    bif (firstBy V.intOf l != 0) then
      some (.sc (.int .i64 (firstBy V.intOf l)), [])
    else
      some (.sc (.int .i64 0), [])
  else none
theorem f8_run (l : List V) (z9 : V × List Rg) (h : f8 l = some z9) : CallR C prim 8 [.sl 1 l] [] z9 := by
  refine call_fn (K := K_f8) (T := T_f8) K_f8_ok T_f8_ok (by kernel_rfl) ?_
  refine Eq.trans ?_ h
  kernel_rfl

theorem f8_eq (l : List V) (hp : (l.all (V.isInt .i64) && decide (l.length ≤ 1000000000)) = true) : f8 l = some (.sc (.int .i64 (firstBy V.intOf l)), []) := by
  simp only [Bool.and_eq_true, decide_eq_true_eq] at hp
  unfold f8
  rw [hp.1, dec_true hp.2]
  simp only [beq_self_eq_true, Bool.and_true, cond_true]
  exact zero_or (x := firstBy V.intOf l) (fun e => some (V.sc (.int .i64 e), []))
def k8 : PrimT := fun vs gs => match vs, gs with
  | [.sl 1 l], [] => ((l.all (V.isInt .i64) && decide (l.length ≤ 1000000000)), .sc (.int .i64 (firstBy V.intOf l)), [])
  | _, _ => (false, .bad, [])
theorem k8_ok : ∀ vs gs x, k8 vs gs = (true, x) → CallR C prim 8 vs gs x := by
  intro vs gs x h
  unfold k8 at h
  split at h
  · simp only [Prod.mk.injEq] at h
    obtain ⟨hp, rfl⟩ := h
    exact f8_run _ _ (f8_eq _ hp)
  · cases h

def K_f133 : CallK := kNil
theorem K_f133_ok : KOK C prim K_f133 := KOK.nil
def T_f133 : Tab := tNil
theorem T_f133_ok : TOK C prim 133 T_f133 := TOK.nil
def f133 (x : ByteArray) : Option (V × List Rg) :=
  some (.sc (.bool (!(strEq x x))), [])
theorem f133_run (x : ByteArray) (z9 : V × List Rg) (h : f133 x = some z9) : CallR C prim 133 [.sc (.string x)] [] z9 := by
  refine call_fn (K := K_f133) (T := T_f133) K_f133_ok T_f133_ok (by kernel_rfl) ?_
  refine Eq.trans ?_ h
  kernel_rfl

theorem f133_eq (x : ByteArray) : f133 x = some (.sc (.bool false), []) := by
  unfold f133
  rw [strEq_self]
  rfl
def k133 : PrimT := fun vs gs => match vs, gs with
  | [.sc (.string x)], [] => (true, .sc (.bool false), [])
  | _, _ => (false, .bad, [])
theorem k133_ok : ∀ vs gs x, k133 vs gs = (true, x) → CallR C prim 133 vs gs x := by
  intro vs gs x h
  unfold k133 at h
  split at h
  · simp only [Prod.mk.injEq, true_and] at h
    subst h
    exact f133_run _ _ (f133_eq _)
  · cases h

def K_f59 : CallK := kCons 93 k93 <| kNil
theorem K_f59_ok : KOK C prim K_f59 := KOK.cons k93_ok <| KOK.nil
def T_f59 : Tab := tNil
theorem T_f59_ok : TOK C prim 59 T_f59 := TOK.nil
def f59 (s : ByteArray) (r01 : List V) : Option (V × List Rg) :=
  bif (((roomy ((r01.length + ((bytesV s)).length) * 1)) && (roomy (r01.length + ((bytesV s)).length))) && true) then
    some (.tp [.sc (.int .i64 ((s.size : Nat) : Int)), .sc .nilIface], [⟨true, [.slf, .own 5 false (r01 ++ (bytesV s))]⟩])
  else none
theorem f59_run (s : ByteArray) (r01 : List V) (z9 : V × List Rg) (h : f59 s r01 = some z9) : CallR C prim 59 [.ptrB (.par 0) 0, .sc (.string s)] [⟨true, [.slf, .own 5 false r01]⟩] z9 := by
  refine call_fn (K := K_f59) (T := T_f59) K_f59_ok T_f59_ok (by kernel_rfl) ?_
  refine Eq.trans ?_ h
  kernel_rfl

theorem f59_eq (s : ByteArray) (r01 : List V) (hp : (roomB r01 s) = true) : f59 s r01 = some (.tp [.sc (.int .i64 ((s.size : Nat) : Int)), .sc .nilIface], [⟨true, [.slf, .own 5 false (r01 ++ bytesV s)]⟩]) := by
  unfold roomB at hp
  have h := of_decide_eq_true hp
  unfold f59 roomy
  rw [bytesV_len, dec_true (by omega), dec_true (by omega)]
  rfl
def k59 : PrimT := fun vs gs => match vs, gs with
  | [.ptrB (.par 0) 0, .sc (.string s)], [⟨true, [.slf, .own 5 false r01]⟩] => ((roomB r01 s), .tp [.sc (.int .i64 ((s.size : Nat) : Int)), .sc .nilIface], [⟨true, [.slf, .own 5 false (r01 ++ bytesV s)]⟩])
  | _, _ => (false, .bad, [])
theorem k59_ok : ∀ vs gs x, k59 vs gs = (true, x) → CallR C prim 59 vs gs x := by
  intro vs gs x h
  unfold k59 at h
  split at h
  · simp only [Prod.mk.injEq] at h
    obtain ⟨hp, rfl⟩ := h
    exact f59_run _ _ _ (f59_eq _ _ hp)
  · cases h

def K_f33_l0 : CallK := kCons 59 k59 <| kNil
theorem K_f33_l0_ok : KOK C prim K_f33_l0 := KOK.cons k59_ok <| KOK.nil
def T_f33_l0 : Tab := tNil
theorem T_f33_l0_ok : TOK C prim 33 T_f33_l0 := TOK.nil
def f33_l0 : Nat → List V → Int → Int → List V → (R : Type) → (Ex → St → Option R) → Option R
  | 0, _, _, _, _, _, _ => none
  | n + 1, v6, v7, v8, b1, R, κ =>
    bif (decide (v8 < v7)) then
      bif (((decide ((0 : Int) ≤ v8)) && (decide (v8 < ((v6.length : Nat) : Int)))) && true) then
        bif (((V.isStr (nthV v6 (((v8).toNat * 1) + 0))) && true) && true) then
          bif ((decide (((V.strOf (nthV v6 (((v8).toNat * 1) + 0))).size + 1) ≤ 9223372036854775807)) && true) then
            bif ((roomB b1 ((V.strOf (nthV v6 (((v8).toNat * 1) + 0))) ++ (⟨#[10]⟩ : ByteArray))) && true) then
              f33_l0 n v6 v7 (IntKind.wrap .i64 (v8 + 1)) (b1 ++ bytesV ((V.strOf (nthV v6 (((v8).toNat * 1) + 0))) ++ (⟨#[10]⟩ : ByteArray))) R κ
            else none
          else none
        else none
      else none
    else
      κ (.ex 0) (mkS [(2, .bad), (3, .ptrB (.loc 3) 0)] [(.loc 3, some ⟨true, [.slf, .own 5 false b1]⟩)])
def f33_l0_ls : List (Nat × Pat) := [(3, .is (.ptrB (.loc 3) 0)), (6, .sl 1), (7, .i .i64), (8, .i .i64)]
def f33_l0_rs : List RPat := [⟨.loc 3, true, [.is (.slf), .own 5 false]⟩]
theorem f33_l0_ok (n : Nat) : ∀ (v6 : List V) (v7 : Int) (v8 : Int) (b1 : List V) (R : Type) (κ : Ex → St → Option R) (r : R), f33_l0 n v6 v7 v8 b1 R κ = some r → ∃ ee ss, κ ee ss = some r ∧ RunP C prim 33 [0, 1, 0, 1, 1] (mkS [(3, .ptrB (.loc 3) 0), (6, .sl 1 v6), (7, .sc (.int .i64 v7)), (8, .sc (.int .i64 v8))] [(.loc 3, some ⟨true, [.slf, .own 5 false b1]⟩)]) ee ss := by
  induction n with
  | zero => intro v6 v7 v8 b1 R κ r h; cases h
  | succ n ih =>
    intro v6 v7 v8 b1 R κ r h
    refine loop_round (K := K_f33_l0) (T := T_f33_l0) K_f33_l0_ok T_f33_l0_ok (p := [0, 1, 0, 1, 1]) (by kernel_rfl) (fun st => bif ckS f33_l0_ls f33_l0_rs st then f33_l0 n ((st.env 6).cellsOf) ((st.env 7).intOf) ((st.env 8).intOf) ((nthV (rowOf (st.regs (.loc 3))) 1).cellsOf) R κ else none) (fun st0 h0 => ?_) ?_
    · obtain ⟨hs, h0⟩ := cond_some h0
      rw [canon (ls := f33_l0_ls) (rs := f33_l0_rs) (by kernel_rfl) st0 hs]
      exact ih _ _ _ _ R κ r h0
    · refine Eq.trans ?_ h
      kernel_rfl

def f33_s0 (v6 : List V) (v7 : Int) (v8 : Int) (b1 : List V) (R : Type) (κ : Ex → St → Option R) : Option R :=
  κ (.ex 0) (mkS [(2, .bad), (3, .ptrB (.loc 3) 0)] [(.loc 3, some ⟨true, [.slf, .own 5 false (b1 ++ bytesV (resB v6))]⟩)])
theorem f33_l0_c (v6 : List V) (hu : v6.all V.isStr = true) (hl : v6.length ≤ 1000000000) : ∀ (m k : Nat) (r : List V), k + m = v6.length → r.length + (resB (v6.drop k)).size ≤ 100000000000 → ∀ n, m < n → ∀ (R : Type) (κ : Ex → St → Option R), f33_l0 n v6 ((v6.length : Nat) : Int) (k : Int) r R κ = κ (.ex 0) (mkS [(2, .bad), (3, .ptrB (.loc 3) 0)] [(.loc 3, some ⟨true, [.slf, .own 5 false (r ++ bytesV (resB (v6.drop k)))]⟩)]) := by
  intro m
  induction m with
  | zero =>
    intro k r hk hs n hn R κ
    obtain ⟨n, rfl⟩ : ∃ j, n = j + 1 := ⟨n - 1, by omega⟩
    rw [List.drop_of_length_le (by omega), f33_l0, dec_false (by omega)]
    unfold resB
    rw [bytesV_nil, List.append_nil]
    rfl
  | succ m ih =>
    intro k r hk hs n hn R κ
    obtain ⟨n, rfl⟩ : ∃ j, n = j + 1 := ⟨n - 1, by omega⟩
    have hlt : k < v6.length := by omega
    have hx : V.isStr v6[k] = true := List.all_eq_true.1 hu _ (List.getElem_mem hlt)
    rw [List.drop_eq_getElem_cons hlt] at hs ⊢
    unfold resB at hs ⊢
    have e10 : (⟨#[10]⟩ : ByteArray).size = 1 := rfl
    simp only [ba_size_append, e10] at hs
    have hroom : roomB r (v6[k].strOf ++ (⟨#[10]⟩ : ByteArray)) = true := by
      unfold roomB
      rw [ba_size_append, e10]
      exact dec_true (by omega)
    rw [f33_l0, dec_true (show (k : Int) < ((v6.length : Nat) : Int) by omega), dec_true (show (0 : Int) ≤ (k : Int) by omega), nth_at hlt, hx, dec_true (show v6[k].strOf.size + 1 ≤ 9223372036854775807 by omega), hroom, wrap_succ (by omega),
      ih (k + 1) _ (by omega) (by rw [List.length_append, bytesV_len, ba_size_append, e10]; omega) n (by omega) R κ, bytesV_app _ (resB _), List.append_assoc]
    rfl
theorem f33_s0_eq (v6 : List V) (v7 : Int) (v8 : Int) (b1 : List V) (hp : ((v7 == ((v6.length : Nat) : Int)) && (v8 == 0) && v6.all V.isStr && decide (v6.length ≤ 1000000000) && decide (b1.length + (resB v6).size ≤ 100000000000)) = true) : ∃ n, ∀ (R : Type) (κ : Ex → St → Option R), f33_l0 n v6 v7 v8 b1 R κ = f33_s0 v6 v7 v8 b1 R κ := by
  simp only [Bool.and_eq_true, decide_eq_true_eq, beq_iff_eq] at hp
  obtain ⟨⟨⟨⟨rfl, rfl⟩, h3⟩, h4⟩, h5⟩ := hp
  exact ⟨v6.length + 1, fun R κ => f33_l0_c v6 h3 h4 v6.length 0 b1 (by omega) h5 _ (by omega) R κ⟩
def t_f33_l0 (st : St) (R : Type) (κ : Ex → St → Option R) : Option R := bif ckS f33_l0_ls f33_l0_rs st then (bif ((((st.env 7).intOf) == ((((st.env 6).cellsOf).length : Nat) : Int)) && (((st.env 8).intOf) == 0) && ((st.env 6).cellsOf).all V.isStr && decide (((st.env 6).cellsOf).length ≤ 1000000000) && decide (((nthV (rowOf (st.regs (.loc 3))) 1).cellsOf).length + (resB ((st.env 6).cellsOf)).size ≤ 100000000000)) then f33_s0 ((st.env 6).cellsOf) ((st.env 7).intOf) ((st.env 8).intOf) ((nthV (rowOf (st.regs (.loc 3))) 1).cellsOf) R κ else none) else none
theorem t_f33_l0_ok : ∀ st0 R κ r, t_f33_l0 (forget C 33 [0, 1, 0, 1, 1] st0) R κ = some r → ∃ ee ss, κ ee ss = some r ∧ RunP C prim 33 [0, 1, 0, 1, 1] (forget C 33 [0, 1, 0, 1, 1] st0) ee ss := by
  intro st0 R κ r h
  obtain ⟨hs, h⟩ := cond_some h
  obtain ⟨hp, h⟩ := cond_some h
  rw [canon (ls := f33_l0_ls) (rs := f33_l0_rs) (by kernel_rfl) st0 hs]
  obtain ⟨n, hn⟩ := f33_s0_eq _ _ _ _ hp
  rw [← hn] at h
  exact f33_l0_ok n _ _ _ _ R κ r h

def K_f33 : CallK := kCons 61 k61 <| kNil
theorem K_f33_ok : KOK C prim K_f33 := KOK.cons k61_ok <| KOK.nil
def T_f33 : Tab := tCons [0, 1, 0, 1, 1] t_f33_l0 <| tNil
theorem T_f33_ok : TOK C prim 33 T_f33 := TOK.cons t_f33_l0_ok <| TOK.nil
def f33 (l : List V) : Option (V × List Rg) :=
  bif ((((l.length : Nat) : Int) == ((l.length : Nat) : Int)) && ((0 : Int) == 0) && l.all V.isStr && decide (l.length ≤ 1000000000) && decide (([] : List V).length + (resB l).size ≤ 100000000000)) then
    bif ((((([] : List V) ++ bytesV (resB l))).all okU8) && true) then
      some (.sc (.string (strOfCells (([] : List V) ++ bytesV (resB l)))), [])
    else none
  else none
theorem f33_run (l : List V) (z9 : V × List Rg) (h : f33 l = some z9) : CallR C prim 33 [.sl 1 l] [] z9 := by
  refine call_fn (K := K_f33) (T := T_f33) K_f33_ok T_f33_ok (by kernel_rfl) ?_
  refine Eq.trans ?_ h
  kernel_rfl

theorem f33_eq (l : List V) (hp : (l.all V.isStr && decide (l.length ≤ 1000000000) && decide ((resB l).size ≤ 100000000000)) = true) : f33 l = some (.sc (.string (resB l)), []) := by
  simp only [Bool.and_eq_true, decide_eq_true_eq] at hp
  unfold f33
  rw [hp.1.1, dec_true hp.1.2, dec_true (show ([] : List V).length + (resB l).size ≤ 100000000000 by simp; omega), List.nil_append, okU8_bytesV, strOf_bytesV]
  simp only [beq_self_eq_true, Bool.and_true, cond_true]
def k33 : PrimT := fun vs gs => match vs, gs with
  | [.sl 1 l], [] => ((l.all V.isStr && decide (l.length ≤ 1000000000) && decide ((resB l).size ≤ 100000000000)), .sc (.string (resB l)), [])
  | _, _ => (false, .bad, [])
theorem k33_ok : ∀ vs gs x, k33 vs gs = (true, x) → CallR C prim 33 vs gs x := by
  intro vs gs x h
  unfold k33 at h
  split at h
  · simp only [Prod.mk.injEq] at h
    obtain ⟨hp, rfl⟩ := h
    exact f33_run _ _ (f33_eq _ hp)
  · cases h

def K_f16_l0 : CallK := kNil
theorem K_f16_l0_ok : KOK C prim K_f16_l0 := KOK.nil
def T_f16_l0 : Tab := tNil
theorem T_f16_l0_ok : TOK C prim 16 T_f16_l0 := TOK.nil
def f16_l0 : Nat → ByteArray → List V → Int → Int → (R : Type) → (Ex → St → Option R) → Option R
  | 0, _, _, _, _, _, _ => none
  | n + 1, s, v6, v7, v8, R, κ =>
    bif (decide (v8 < v7)) then
      bif (((decide ((0 : Int) ≤ v8)) && (decide (v8 < ((v6.length : Nat) : Int)))) && true) then
        bif (((V.isStr (nthV v6 (((v8).toNat * 1) + 0))) && true) && true) then
          bif ((decide (((V.strOf (nthV v6 (((v8).toNat * 1) + 0))).size + 1) ≤ 9223372036854775807)) && true) then
            bif ((decide ((s.size + ((V.strOf (nthV v6 (((v8).toNat * 1) + 0))) ++ (⟨#[10]⟩ : ByteArray)).size) ≤ 9223372036854775807)) && true) then
              f16_l0 n (s ++ ((V.strOf (nthV v6 (((v8).toNat * 1) + 0))) ++ (⟨#[10]⟩ : ByteArray))) v6 v7 (IntKind.wrap .i64 (v8 + 1)) R κ
            else none
          else none
        else none
      else none
    else
      κ (.ex 0) (mkS [(2, .bad), (3, .sc (.string s))] [])
def f16_l0_ls : List (Nat × Pat) := [(3, .s), (6, .sl 1), (7, .i .i64), (8, .i .i64)]
def f16_l0_rs : List RPat := []
theorem f16_l0_ok (n : Nat) : ∀ (s : ByteArray) (v6 : List V) (v7 : Int) (v8 : Int) (R : Type) (κ : Ex → St → Option R) (r : R), f16_l0 n s v6 v7 v8 R κ = some r → ∃ ee ss, κ ee ss = some r ∧ RunP C prim 16 [0, 1, 0, 1, 1] (mkS [(3, .sc (.string s)), (6, .sl 1 v6), (7, .sc (.int .i64 v7)), (8, .sc (.int .i64 v8))] []) ee ss := by
  induction n with
  | zero => intro s v6 v7 v8 R κ r h; cases h
  | succ n ih =>
    intro s v6 v7 v8 R κ r h
    refine loop_round (K := K_f16_l0) (T := T_f16_l0) K_f16_l0_ok T_f16_l0_ok (p := [0, 1, 0, 1, 1]) (by kernel_rfl) (fun st => bif ckS f16_l0_ls f16_l0_rs st then f16_l0 n ((st.env 3).strOf) ((st.env 6).cellsOf) ((st.env 7).intOf) ((st.env 8).intOf) R κ else none) (fun st0 h0 => ?_) ?_
    · obtain ⟨hs, h0⟩ := cond_some h0
      rw [canon (ls := f16_l0_ls) (rs := f16_l0_rs) (by kernel_rfl) st0 hs]
      exact ih _ _ _ _ R κ r h0
    · refine Eq.trans ?_ h
      kernel_rfl

def f16_s0 (s : ByteArray) (v6 : List V) (v7 : Int) (v8 : Int) (R : Type) (κ : Ex → St → Option R) : Option R :=
  κ (.ex 0) (mkS [(2, .bad), (3, .sc (.string (s ++ resB v6)))] [])
theorem f16_l0_c (v6 : List V) (hu : v6.all V.isStr = true) (hl : v6.length ≤ 1000000000) : ∀ (m k : Nat) (s : ByteArray), k + m = v6.length → s.size + (resB (v6.drop k)).size ≤ 100000000000 → ∀ n, m < n → ∀ (R : Type) (κ : Ex → St → Option R), f16_l0 n s v6 ((v6.length : Nat) : Int) (k : Int) R κ = κ (.ex 0) (mkS [(2, .bad), (3, .sc (.string (s ++ resB (v6.drop k))))] []) := by
  intro m
  induction m with
  | zero =>
    intro k s hk hs n hn R κ
    obtain ⟨n, rfl⟩ : ∃ j, n = j + 1 := ⟨n - 1, by omega⟩
    rw [List.drop_of_length_le (by omega), f16_l0, dec_false (by omega)]
    unfold resB
    rw [ba_nil']
    rfl
  | succ m ih =>
    intro k s hk hs n hn R κ
    obtain ⟨n, rfl⟩ : ∃ j, n = j + 1 := ⟨n - 1, by omega⟩
    have hlt : k < v6.length := by omega
    have hx : V.isStr v6[k] = true := List.all_eq_true.1 hu _ (List.getElem_mem hlt)
    rw [List.drop_eq_getElem_cons hlt] at hs ⊢
    unfold resB at hs ⊢
    have e10 : (⟨#[10]⟩ : ByteArray).size = 1 := rfl
    simp only [ba_size_append, e10] at hs
    rw [f16_l0, dec_true (show (k : Int) < ((v6.length : Nat) : Int) by omega), dec_true (show (0 : Int) ≤ (k : Int) by omega), nth_at hlt, hx, ba_size_append, e10, dec_true (show v6[k].strOf.size + 1 ≤ 9223372036854775807 by omega), dec_true (show s.size + (v6[k].strOf.size + 1) ≤ 9223372036854775807 by omega), wrap_succ (by omega),
      ih (k + 1) _ (by omega) (by simp only [ba_size_append, e10]; omega) n (by omega) R κ, ba_assoc s]
    rfl
theorem f16_s0_eq (s : ByteArray) (v6 : List V) (v7 : Int) (v8 : Int) (hp : ((v7 == ((v6.length : Nat) : Int)) && (v8 == 0) && v6.all V.isStr && decide (v6.length ≤ 1000000000) && decide (s.size + (resB v6).size ≤ 100000000000)) = true) : ∃ n, ∀ (R : Type) (κ : Ex → St → Option R), f16_l0 n s v6 v7 v8 R κ = f16_s0 s v6 v7 v8 R κ := by
  simp only [Bool.and_eq_true, decide_eq_true_eq, beq_iff_eq] at hp
  obtain ⟨⟨⟨⟨rfl, rfl⟩, h3⟩, h4⟩, h5⟩ := hp
  exact ⟨v6.length + 1, fun R κ => f16_l0_c v6 h3 h4 v6.length 0 s (by omega) h5 _ (by omega) R κ⟩
def t_f16_l0 (st : St) (R : Type) (κ : Ex → St → Option R) : Option R := bif ckS f16_l0_ls f16_l0_rs st then (bif ((((st.env 7).intOf) == ((((st.env 6).cellsOf).length : Nat) : Int)) && (((st.env 8).intOf) == 0) && ((st.env 6).cellsOf).all V.isStr && decide (((st.env 6).cellsOf).length ≤ 1000000000) && decide (((st.env 3).strOf).size + (resB ((st.env 6).cellsOf)).size ≤ 100000000000)) then f16_s0 ((st.env 3).strOf) ((st.env 6).cellsOf) ((st.env 7).intOf) ((st.env 8).intOf) R κ else none) else none
theorem t_f16_l0_ok : ∀ st0 R κ r, t_f16_l0 (forget C 16 [0, 1, 0, 1, 1] st0) R κ = some r → ∃ ee ss, κ ee ss = some r ∧ RunP C prim 16 [0, 1, 0, 1, 1] (forget C 16 [0, 1, 0, 1, 1] st0) ee ss := by
  intro st0 R κ r h
  obtain ⟨hs, h⟩ := cond_some h
  obtain ⟨hp, h⟩ := cond_some h
  rw [canon (ls := f16_l0_ls) (rs := f16_l0_rs) (by kernel_rfl) st0 hs]
  obtain ⟨n, hn⟩ := f16_s0_eq _ _ _ _ hp
  rw [← hn] at h
  exact f16_l0_ok n _ _ _ _ R κ r h

def K_f16 : CallK := kNil
theorem K_f16_ok : KOK C prim K_f16 := KOK.nil
def T_f16 : Tab := tCons [0, 1, 0, 1, 1] t_f16_l0 <| tNil
theorem T_f16_ok : TOK C prim 16 T_f16 := TOK.cons t_f16_l0_ok <| TOK.nil
def f16 (l : List V) : Option (V × List Rg) :=
  bif ((((l.length : Nat) : Int) == ((l.length : Nat) : Int)) && ((0 : Int) == 0) && l.all V.isStr && decide (l.length ≤ 1000000000) && decide ((⟨#[]⟩ : ByteArray).size + (resB l).size ≤ 100000000000)) then
    some (.sc (.string ((⟨#[]⟩ : ByteArray) ++ resB l)), [])
  else none
theorem f16_run (l : List V) (z9 : V × List Rg) (h : f16 l = some z9) : CallR C prim 16 [.sl 1 l] [] z9 := by
  refine call_fn (K := K_f16) (T := T_f16) K_f16_ok T_f16_ok (by kernel_rfl) ?_
  refine Eq.trans ?_ h
  kernel_rfl

theorem f16_eq (l : List V) (hp : (l.all V.isStr && decide (l.length ≤ 1000000000) && decide ((resB l).size ≤ 100000000000)) = true) : f16 l = some (.sc (.string (resB l)), []) := by
  simp only [Bool.and_eq_true, decide_eq_true_eq] at hp
  have e0 : (⟨#[]⟩ : ByteArray).size = 0 := rfl
  unfold f16
  rw [hp.1.1, dec_true hp.1.2, e0, dec_true (by omega), ba_nil]
  simp only [beq_self_eq_true, Bool.and_true, cond_true]
def k16 : PrimT := fun vs gs => match vs, gs with
  | [.sl 1 l], [] => ((l.all V.isStr && decide (l.length ≤ 1000000000) && decide ((resB l).size ≤ 100000000000)), .sc (.string (resB l)), [])
  | _, _ => (false, .bad, [])
theorem k16_ok : ∀ vs gs x, k16 vs gs = (true, x) → CallR C prim 16 vs gs x := by
  intro vs gs x h
  unfold k16 at h
  split at h
  · simp only [Prod.mk.injEq] at h
    obtain ⟨hp, rfl⟩ := h
    exact f16_run _ _ (f16_eq _ hp)
  · cases h

def K_f104 : CallK := kNil
theorem K_f104_ok : KOK C prim K_f104 := KOK.nil
def T_f104 : Tab := tNil
theorem T_f104_ok : TOK C prim 104 T_f104 := TOK.nil
def f104 (c : Int) : Option (V × List Rg) :=
  bif (c == 9) then
    some (.sc (.bool true), [])
  else
    some (.sc (.bool (c == 32)), [])
theorem f104_run (c : Int) (z9 : V × List Rg) (h : f104 c = some z9) : CallR C prim 104 [.sc (.int .u8 c)] [] z9 := by
  refine call_fn (K := K_f104) (T := T_f104) K_f104_ok T_f104_ok (by kernel_rfl) ?_
  refine Eq.trans ?_ h
  kernel_rfl

theorem f104_eq (c : Int) : f104 c = some (.sc (.bool (blankI c)), []) := by
  unfold f104 blankI
  cases c == 9 <;> rfl
def k104 : PrimT := fun vs gs => match vs, gs with
  | [.sc (.int .u8 c)], [] => (true, .sc (.bool (blankI c)), [])
  | _, _ => (false, .bad, [])
theorem k104_ok : ∀ vs gs x, k104 vs gs = (true, x) → CallR C prim 104 vs gs x := by
  intro vs gs x h
  unfold k104 at h
  split at h
  · simp only [Prod.mk.injEq, true_and] at h
    subst h
    exact f104_run _ _ (f104_eq _)
  · cases h

def K_f71 : CallK := kNil
theorem K_f71_ok : KOK C prim K_f71 := KOK.nil
def T_f71 : Tab := tNil
theorem T_f71_ok : TOK C prim 71 T_f71 := TOK.nil
def f71 (c : Int) : Option (V × List Rg) :=
  bif (c == 9) then
    some (.sc (.bool true), [])
  else
    some (.sc (.bool (c == 32)), [])
theorem f71_run (c : Int) (z9 : V × List Rg) (h : f71 c = some z9) : CallR C prim 71 [.sc (.int .u8 c)] [] z9 := by
  refine call_fn (K := K_f71) (T := T_f71) K_f71_ok T_f71_ok (by kernel_rfl) ?_
  refine Eq.trans ?_ h
  kernel_rfl

theorem f71_eq (c : Int) : f71 c = some (.sc (.bool (blankI c)), []) := by
  unfold f71 blankI
  cases c == 9 <;> rfl
def k71 : PrimT := fun vs gs => match vs, gs with
  | [.sc (.int .u8 c)], [] => (true, .sc (.bool (blankI c)), [])
  | _, _ => (false, .bad, [])
theorem k71_ok : ∀ vs gs x, k71 vs gs = (true, x) → CallR C prim 71 vs gs x := by
  intro vs gs x h
  unfold k71 at h
  split at h
  · simp only [Prod.mk.injEq, true_and] at h
    subst h
    exact f71_run _ _ (f71_eq _)
  · cases h

def K_f72_l0 : CallK := kCons 104 k104 <| kNil
theorem K_f72_l0_ok : KOK C prim K_f72_l0 := KOK.cons k104_ok <| KOK.nil
def T_f72_l0 : Tab := tNil
theorem T_f72_l0_ok : TOK C prim 72 T_f72_l0 := TOK.nil
def f72_l0 : Nat → ByteArray → ByteArray → Int → Int → Int → List V → (R : Type) → (Ex → St → Option R) → Option R
  | 0, _, _, _, _, _, _, _, _ => none
  | n + 1, line, separator, from', v9, v10, out, R, κ =>
    bif (decide (v10 < v9)) then
      bif (strEq separator (⟨#[]⟩ : ByteArray)) then
        bif (decide (v10 > 0)) then
          bif (((decide ((0 : Int) ≤ v10)) && (decide (v10 < ((line.size : Nat) : Int)))) && true) then
            bif (blankI ((line.data.getD (v10).toNat 0).toNat : Int)) then
              bif (((decide ((0 : Int) ≤ (IntKind.wrap .i64 (v10 - 1)))) && (decide ((IntKind.wrap .i64 (v10 - 1)) < ((line.size : Nat) : Int)))) && true) then
                bif (!(blankI ((line.data.getD ((IntKind.wrap .i64 (v10 - 1))).toNat 0).toNat : Int))) then
                  bif (((roomy (((lenE 2 out.length) + 1) * 16)) && (roomy ((lenE 2 out.length) + 1))) && true) then
                    f72_l0 n line separator v10 v9 (IntKind.wrap .i64 (v10 + 1)) (out ++ [.sc (.int .i64 from'), .sc (.int .i64 v10)]) R κ
                  else none
                else
                  bif (!(strEq separator (⟨#[]⟩ : ByteArray))) then
                    bif (((decide ((0 : Int) ≤ v10)) && (decide (v10 < ((line.size : Nat) : Int)))) && true) then
                      bif ((decide ((0 : Int) < ((separator.size : Nat) : Int))) && true) then
                        bif (((line.data.getD (v10).toNat 0).toNat : Int) == ((separator.data.getD 0 0).toNat : Int)) then
                          bif (((roomy (((lenE 2 out.length) + 1) * 16)) && (roomy ((lenE 2 out.length) + 1))) && true) then
                            f72_l0 n line separator (IntKind.wrap .i64 (v10 + 1)) v9 (IntKind.wrap .i64 (v10 + 1)) (out ++ [.sc (.int .i64 from'), .sc (.int .i64 v10)]) R κ
                          else none
                        else
                          f72_l0 n line separator from' v9 (IntKind.wrap .i64 (v10 + 1)) out R κ
                      else none
                    else none
                  else
                    f72_l0 n line separator from' v9 (IntKind.wrap .i64 (v10 + 1)) out R κ
              else none
            else
              bif (!(strEq separator (⟨#[]⟩ : ByteArray))) then
                bif (((decide ((0 : Int) ≤ v10)) && (decide (v10 < ((line.size : Nat) : Int)))) && true) then
                  bif ((decide ((0 : Int) < ((separator.size : Nat) : Int))) && true) then
                    bif (((line.data.getD (v10).toNat 0).toNat : Int) == ((separator.data.getD 0 0).toNat : Int)) then
                      bif (((roomy (((lenE 2 out.length) + 1) * 16)) && (roomy ((lenE 2 out.length) + 1))) && true) then
                        f72_l0 n line separator (IntKind.wrap .i64 (v10 + 1)) v9 (IntKind.wrap .i64 (v10 + 1)) (out ++ [.sc (.int .i64 from'), .sc (.int .i64 v10)]) R κ
                      else none
                    else
                      f72_l0 n line separator from' v9 (IntKind.wrap .i64 (v10 + 1)) out R κ
                  else none
                else none
              else
                f72_l0 n line separator from' v9 (IntKind.wrap .i64 (v10 + 1)) out R κ
          else none
        else
          bif (!(strEq separator (⟨#[]⟩ : ByteArray))) then
            bif (((decide ((0 : Int) ≤ v10)) && (decide (v10 < ((line.size : Nat) : Int)))) && true) then
              bif ((decide ((0 : Int) < ((separator.size : Nat) : Int))) && true) then
                bif (((line.data.getD (v10).toNat 0).toNat : Int) == ((separator.data.getD 0 0).toNat : Int)) then
                  bif (((roomy (((lenE 2 out.length) + 1) * 16)) && (roomy ((lenE 2 out.length) + 1))) && true) then
                    f72_l0 n line separator (IntKind.wrap .i64 (v10 + 1)) v9 (IntKind.wrap .i64 (v10 + 1)) (out ++ [.sc (.int .i64 from'), .sc (.int .i64 v10)]) R κ
                  else none
                else
                  f72_l0 n line separator from' v9 (IntKind.wrap .i64 (v10 + 1)) out R κ
              else none
            else none
          else
            f72_l0 n line separator from' v9 (IntKind.wrap .i64 (v10 + 1)) out R κ
      else
        bif (!(strEq separator (⟨#[]⟩ : ByteArray))) then
          bif (((decide ((0 : Int) ≤ v10)) && (decide (v10 < ((line.size : Nat) : Int)))) && true) then
            bif ((decide ((0 : Int) < ((separator.size : Nat) : Int))) && true) then
              bif (((line.data.getD (v10).toNat 0).toNat : Int) == ((separator.data.getD 0 0).toNat : Int)) then
                bif (((roomy (((lenE 2 out.length) + 1) * 16)) && (roomy ((lenE 2 out.length) + 1))) && true) then
                  f72_l0 n line separator (IntKind.wrap .i64 (v10 + 1)) v9 (IntKind.wrap .i64 (v10 + 1)) (out ++ [.sc (.int .i64 from'), .sc (.int .i64 v10)]) R κ
                else none
              else
                f72_l0 n line separator from' v9 (IntKind.wrap .i64 (v10 + 1)) out R κ
            else none
          else none
        else
          f72_l0 n line separator from' v9 (IntKind.wrap .i64 (v10 + 1)) out R κ
    else
      κ (.ex 0) (mkS [(0, .sc (.string line)), (4, .bad), (5, .ref ⟨.loc 5, 0, [], 121, false⟩), (6, .sc (.int .i64 from'))] [(.loc 5, some ⟨false, [.own 121 false out]⟩)])
def f72_l0_ls : List (Nat × Pat) := [(0, .s), (1, .s), (5, .is (.ref ⟨.loc 5, 0, [], 121, false⟩)), (6, .i .i64), (9, .i .i64), (10, .i .i64)]
def f72_l0_rs : List RPat := [⟨.loc 5, false, [.own 121 false]⟩]
theorem f72_l0_ok (n : Nat) : ∀ (line : ByteArray) (separator : ByteArray) (from' : Int) (v9 : Int) (v10 : Int) (out : List V) (R : Type) (κ : Ex → St → Option R) (r : R), f72_l0 n line separator from' v9 v10 out R κ = some r → ∃ ee ss, κ ee ss = some r ∧ RunP C prim 72 [0, 1, 0, 1, 1, 1] (mkS [(0, .sc (.string line)), (1, .sc (.string separator)), (5, .ref ⟨.loc 5, 0, [], 121, false⟩), (6, .sc (.int .i64 from')), (9, .sc (.int .i64 v9)), (10, .sc (.int .i64 v10))] [(.loc 5, some ⟨false, [.own 121 false out]⟩)]) ee ss := by
  induction n with
  | zero => intro line separator from' v9 v10 out R κ r h; cases h
  | succ n ih =>
    intro line separator from' v9 v10 out R κ r h
    refine loop_round (K := K_f72_l0) (T := T_f72_l0) K_f72_l0_ok T_f72_l0_ok (p := [0, 1, 0, 1, 1, 1]) (by kernel_rfl) (fun st => bif ckS f72_l0_ls f72_l0_rs st then f72_l0 n ((st.env 0).strOf) ((st.env 1).strOf) ((st.env 6).intOf) ((st.env 9).intOf) ((st.env 10).intOf) ((nthV (rowOf (st.regs (.loc 5))) 0).cellsOf) R κ else none) (fun st0 h0 => ?_) ?_
    · obtain ⟨hs, h0⟩ := cond_some h0
      rw [canon (ls := f72_l0_ls) (rs := f72_l0_rs) (by kernel_rfl) st0 hs]
      exact ih _ _ _ _ _ _ R κ r h0
    · refine Eq.trans ?_ h
      kernel_rfl

def f72_s0 (line : ByteArray) (separator : ByteArray) (from' : Int) (v9 : Int) (v10 : Int) (out : List V) (R : Type) (κ : Ex → St → Option R) : Option R :=
  κ (.ex 0) (mkS [(0, .sc (.string line)), (4, .bad), (5, .ref ⟨.loc 5, 0, [], 121, false⟩), (6, .sc (.int .i64 ((fldZ line separator : Nat) : Int)))] [(.loc 5, some ⟨false, [.own 121 false (fldC line separator)]⟩)])
theorem f72_step (n : Nat) (line sep : ByteArray) (fr i : Nat) (out : List V) (hi : i < line.size) (hs : line.size ≤ 1000000000) (ho : out.length ≤ 2000000000) (R : Type) (κ : Ex → St → Option R) :
    f72_l0 (n + 1) line sep ((fr : Nat) : Int) ((line.size : Nat) : Int) ((i : Nat) : Int) out R κ = bif cutAt line sep i then f72_l0 n line sep ((nxF sep i : Nat) : Int) ((line.size : Nat) : Int) ((i + 1 : Nat) : Int) (out ++ [celI fr, celI i]) R κ else f72_l0 n line sep ((fr : Nat) : Int) ((line.size : Nat) : Int) ((i + 1 : Nat) : Int) out R κ := by
  have r1 : roomy ((lenE 2 out.length + 1) * 16) = true := dec_true (by have : lenE 2 out.length = out.length / 2 := rfl; omega)
  have r2 : roomy (lenE 2 out.length + 1) = true := dec_true (by have : lenE 2 out.length = out.length / 2 := rfl; omega)
  have b : (((line.data.getD i 0).toNat : Nat) : Int) = byteI line i := rfl
  have b0 : (((sep.data.getD 0 0).toNat : Nat) : Int) = byteI sep 0 := rfl
  rw [f72_l0, dec_true (show ((i : Nat) : Int) < ((line.size : Nat) : Int) by omega), dec_true (show (0 : Int) ≤ ((i : Nat) : Int) by omega), Int.toNat_natCast, wrap_succ (by omega), r1, r2, b, b0]
  unfold cutAt nxF
  cases he : strEq sep (⟨#[]⟩ : ByteArray) with
  | true =>
    cases i with
    | zero =>
      rw [dec_false (show ¬ ((0 : Nat) : Int) > 0 by omega), dec_false (show ¬ (0 < 0) by omega)]
      rfl
    | succ j =>
      have hw : IntKind.wrap .i64 (((j + 1 : Nat) : Int) - 1) = ((j : Nat) : Int) := by rw [wrap_id (by omega) (by omega)]; omega
      have bj : (((line.data.getD j 0).toNat : Nat) : Int) = byteI line j := rfl
      rw [dec_true (show ((j + 1 : Nat) : Int) > 0 by omega), dec_true (show 0 < j + 1 by omega), hw, dec_true (show (0 : Int) ≤ ((j : Nat) : Int) by omega), dec_true (show ((j : Nat) : Int) < ((line.size : Nat) : Int) by omega), Int.toNat_natCast, bj, Nat.add_sub_cancel]
      cases blankI (byteI line (j + 1)) <;> cases blankI (byteI line j) <;> rfl
  | false =>
    have hz : 0 < sep.size := by
      rcases Nat.eq_zero_or_pos sep.size with h' | h'
      · have : sep = ⟨#[]⟩ := ba_ext (by rw [bl_size] at h'; exact List.eq_nil_of_length_eq_zero h')
        rw [this, strEq_self] at he; cases he
      · exact h'
    rw [dec_true (show (0 : Int) < ((sep.size : Nat) : Int) by omega)]
    cases byteI line i == byteI sep 0 <;> rfl
theorem f72_loop (line sep : ByteArray) (hs : line.size ≤ 1000000000) (R : Type) (κ : Ex → St → Option R) : ∀ (k i fr : Nat) (out : List V), i + k = line.size → out.length ≤ 2 * i →
    f72_l0 (k + 1) line sep ((fr : Nat) : Int) ((line.size : Nat) : Int) ((i : Nat) : Int) out R κ = κ (.ex 0) (mkS [(0, .sc (.string line)), (4, .bad), (5, .ref ⟨.loc 5, 0, [], 121, false⟩), (6, .sc (.int .i64 (((fldF line sep k i fr).2 : Nat) : Int)))] [(.loc 5, some ⟨false, [.own 121 false (out ++ (fldF line sep k i fr).1)]⟩)])
  | 0, i, fr, out, h, ho => by
    rw [f72_l0, dec_false (by omega), fldF, List.append_nil]
    rfl
  | k + 1, i, fr, out, h, ho => by
    rw [f72_step _ _ _ _ _ _ (by omega) hs (by omega), fldF]
    cases cutAt line sep i with
    | true =>
      simp only [cond_true]
      rw [f72_loop line sep hs R κ k (i + 1) (nxF sep i) _ (by omega) (by simp; omega)]
      simp only [List.append_assoc, List.cons_append, List.nil_append]
    | false =>
      simp only [cond_false]
      exact f72_loop line sep hs R κ k (i + 1) fr out (by omega) (by omega)
theorem f72_s0_eq (line : ByteArray) (separator : ByteArray) (from' : Int) (v9 : Int) (v10 : Int) (out : List V) (hp : ((v9 == ((line.size : Nat) : Int)) && (v10 == 0) && (from' == 0) && (out.length == 0) && decide (line.size ≤ 1000000000)) = true) : ∃ n, ∀ (R : Type) (κ : Ex → St → Option R), f72_l0 n line separator from' v9 v10 out R κ = f72_s0 line separator from' v9 v10 out R κ := by
  simp only [Bool.and_eq_true, decide_eq_true_eq, beq_iff_eq] at hp
  obtain ⟨⟨⟨⟨rfl, rfl⟩, rfl⟩, h4⟩, h5⟩ := hp
  obtain rfl : out = [] := List.eq_nil_of_length_eq_zero h4
  exact ⟨line.size + 1, fun R κ => f72_loop line separator h5 R κ line.size 0 0 [] (by omega) (Nat.le_refl _)⟩
def t_f72_l0 (st : St) (R : Type) (κ : Ex → St → Option R) : Option R := bif ckS f72_l0_ls f72_l0_rs st then (bif ((((st.env 9).intOf) == ((((st.env 0).strOf).size : Nat) : Int)) && (((st.env 10).intOf) == 0) && (((st.env 6).intOf) == 0) && (((nthV (rowOf (st.regs (.loc 5))) 0).cellsOf).length == 0) && decide (((st.env 0).strOf).size ≤ 1000000000)) then f72_s0 ((st.env 0).strOf) ((st.env 1).strOf) ((st.env 6).intOf) ((st.env 9).intOf) ((st.env 10).intOf) ((nthV (rowOf (st.regs (.loc 5))) 0).cellsOf) R κ else none) else none
theorem t_f72_l0_ok : ∀ st0 R κ r, t_f72_l0 (forget C 72 [0, 1, 0, 1, 1, 1] st0) R κ = some r → ∃ ee ss, κ ee ss = some r ∧ RunP C prim 72 [0, 1, 0, 1, 1, 1] (forget C 72 [0, 1, 0, 1, 1, 1] st0) ee ss := by
  intro st0 R κ r h
  obtain ⟨hs, h⟩ := cond_some h
  obtain ⟨hp, h⟩ := cond_some h
  rw [canon (ls := f72_l0_ls) (rs := f72_l0_rs) (by kernel_rfl) st0 hs]
  obtain ⟨n, hn⟩ := f72_s0_eq _ _ _ _ _ _ hp
  rw [← hn] at h
  exact f72_l0_ok n _ _ _ _ _ _ R κ r h

def K_f72 : CallK := kNil
theorem K_f72_ok : KOK C prim K_f72 := KOK.nil
def T_f72 : Tab := tCons [0, 1, 0, 1, 1, 1] t_f72_l0 <| tNil
theorem T_f72_ok : TOK C prim 72 T_f72 := TOK.cons t_f72_l0_ok <| TOK.nil
def f72 (line : ByteArray) (separator : ByteArray) : Option (V × List Rg) :=
  bif ((((line.size : Nat) : Int) == ((line.size : Nat) : Int)) && ((0 : Int) == 0) && ((0 : Int) == 0) && (([] : List V).length == 0) && decide (line.size ≤ 1000000000)) then
    bif (((roomy (((lenE 2 ((fldC line separator)).length) + 1) * 16)) && (roomy ((lenE 2 ((fldC line separator)).length) + 1))) && true) then
      some (.own 121 false ((fldC line separator) ++ [.sc (.int .i64 ((fldZ line separator : Nat) : Int)), .sc (.int .i64 ((line.size : Nat) : Int))]), [])
    else none
  else none
theorem f72_run (line : ByteArray) (separator : ByteArray) (z9 : V × List Rg) (h : f72 line separator = some z9) : CallR C prim 72 [.sc (.string line), .sc (.string separator)] [] z9 := by
  refine call_fn (K := K_f72) (T := T_f72) K_f72_ok T_f72_ok (by kernel_rfl) ?_
  refine Eq.trans ?_ h
  kernel_rfl

theorem fld_room (line sep : ByteArray) (hs : line.size ≤ 1000000000) : roomy ((lenE 2 (fldC line sep).length + 1) * 16) = true ∧ roomy (lenE 2 (fldC line sep).length + 1) = true := by
  obtain ⟨_, _, h⟩ := fldF_ok line sep line.size line.size 0 0 (by omega) (Nat.le_refl _)
  have e : lenE 2 (fldC line sep).length = (fldF line sep line.size 0 0).1.length / 2 := rfl
  exact ⟨dec_true (by omega), dec_true (by omega)⟩
theorem f72_eq (line : ByteArray) (separator : ByteArray) (hp : (decide (line.size ≤ 1000000000)) = true) : f72 line separator = some (.own 121 false (fieldsV line separator), []) := by
  have hq := hp
  simp only [decide_eq_true_eq] at hp
  obtain ⟨r1, r2⟩ := fld_room line separator hp
  unfold f72
  rw [hq, beq_self_eq_true, r1, r2]
  rfl
def k72 : PrimT := fun vs gs => match vs, gs with
  | [.sc (.string line), .sc (.string separator)], [] => ((decide (line.size ≤ 1000000000)), .own 121 false (fieldsV line separator), [])
  | _, _ => (false, .bad, [])
theorem k72_ok : ∀ vs gs x, k72 vs gs = (true, x) → CallR C prim 72 vs gs x := by
  intro vs gs x h
  unfold k72 at h
  split at h
  · simp only [Prod.mk.injEq] at h
    obtain ⟨hp, rfl⟩ := h
    exact f72_run _ _ _ (f72_eq _ _ hp)
  · cases h

def K_f39_l0 : CallK := kCons 71 k71 <| kNil
theorem K_f39_l0_ok : KOK C prim K_f39_l0 := KOK.cons k71_ok <| KOK.nil
def T_f39_l0 : Tab := tNil
theorem T_f39_l0_ok : TOK C prim 39 T_f39_l0 := TOK.nil
def f39_l0 : Nat → ByteArray → ByteArray → Int → Int → Int → List V → (R : Type) → (Ex → St → Option R) → Option R
  | 0, _, _, _, _, _, _, _, _ => none
  | n + 1, line, separator, from', v9, v10, l, R, κ =>
    bif (decide (v10 < v9)) then
      bif (strEq separator (⟨#[]⟩ : ByteArray)) then
        bif (decide (v10 > 0)) then
          bif (((decide ((0 : Int) ≤ v10)) && (decide (v10 < ((line.size : Nat) : Int)))) && true) then
            bif (blankI ((line.data.getD (v10).toNat 0).toNat : Int)) then
              bif (((decide ((0 : Int) ≤ (IntKind.wrap .i64 (v10 - 1)))) && (decide ((IntKind.wrap .i64 (v10 - 1)) < ((line.size : Nat) : Int)))) && true) then
                bif (!(blankI ((line.data.getD ((IntKind.wrap .i64 (v10 - 1))).toNat 0).toNat : Int))) then
                  bif (((roomy (((lenE 2 l.length) + 1) * 16)) && (roomy ((lenE 2 l.length) + 1))) && true) then
                    f39_l0 n line separator v10 v9 (IntKind.wrap .i64 (v10 + 1)) (l ++ [.sc (.int .i64 from'), .sc (.int .i64 v10)]) R κ
                  else none
                else
                  f39_l0 n line separator from' v9 (IntKind.wrap .i64 (v10 + 1)) l R κ
              else none
            else
              f39_l0 n line separator from' v9 (IntKind.wrap .i64 (v10 + 1)) l R κ
          else none
        else
          f39_l0 n line separator from' v9 (IntKind.wrap .i64 (v10 + 1)) l R κ
      else
        bif (((decide ((0 : Int) ≤ v10)) && (decide (v10 < ((line.size : Nat) : Int)))) && true) then
          bif ((decide ((0 : Int) < ((separator.size : Nat) : Int))) && true) then
            bif (((line.data.getD (v10).toNat 0).toNat : Int) == ((separator.data.getD 0 0).toNat : Int)) then
              bif (((roomy (((lenE 2 l.length) + 1) * 16)) && (roomy ((lenE 2 l.length) + 1))) && true) then
                f39_l0 n line separator (IntKind.wrap .i64 (v10 + 1)) v9 (IntKind.wrap .i64 (v10 + 1)) (l ++ [.sc (.int .i64 from'), .sc (.int .i64 v10)]) R κ
              else none
            else
              f39_l0 n line separator from' v9 (IntKind.wrap .i64 (v10 + 1)) l R κ
          else none
        else none
    else
      κ (.ex 0) (mkS [(0, .sc (.string line)), (4, .bad), (5, .ref ⟨.loc 5, 0, [], 62, false⟩), (6, .sc (.int .i64 from'))] [(.loc 5, some ⟨false, [.own 62 false l]⟩)])
def f39_l0_ls : List (Nat × Pat) := [(0, .s), (1, .s), (5, .is (.ref ⟨.loc 5, 0, [], 62, false⟩)), (6, .i .i64), (9, .i .i64), (10, .i .i64)]
def f39_l0_rs : List RPat := [⟨.loc 5, false, [.own 62 false]⟩]
theorem f39_l0_ok (n : Nat) : ∀ (line : ByteArray) (separator : ByteArray) (from' : Int) (v9 : Int) (v10 : Int) (l : List V) (R : Type) (κ : Ex → St → Option R) (r : R), f39_l0 n line separator from' v9 v10 l R κ = some r → ∃ ee ss, κ ee ss = some r ∧ RunP C prim 39 [0, 1, 0, 1, 1, 1] (mkS [(0, .sc (.string line)), (1, .sc (.string separator)), (5, .ref ⟨.loc 5, 0, [], 62, false⟩), (6, .sc (.int .i64 from')), (9, .sc (.int .i64 v9)), (10, .sc (.int .i64 v10))] [(.loc 5, some ⟨false, [.own 62 false l]⟩)]) ee ss := by
  induction n with
  | zero => intro line separator from' v9 v10 l R κ r h; cases h
  | succ n ih =>
    intro line separator from' v9 v10 l R κ r h
    refine loop_round (K := K_f39_l0) (T := T_f39_l0) K_f39_l0_ok T_f39_l0_ok (p := [0, 1, 0, 1, 1, 1]) (by kernel_rfl) (fun st => bif ckS f39_l0_ls f39_l0_rs st then f39_l0 n ((st.env 0).strOf) ((st.env 1).strOf) ((st.env 6).intOf) ((st.env 9).intOf) ((st.env 10).intOf) ((nthV (rowOf (st.regs (.loc 5))) 0).cellsOf) R κ else none) (fun st0 h0 => ?_) ?_
    · obtain ⟨hs, h0⟩ := cond_some h0
      rw [canon (ls := f39_l0_ls) (rs := f39_l0_rs) (by kernel_rfl) st0 hs]
      exact ih _ _ _ _ _ _ R κ r h0
    · refine Eq.trans ?_ h
      kernel_rfl

def f39_s0 (line : ByteArray) (separator : ByteArray) (from' : Int) (v9 : Int) (v10 : Int) (l : List V) (R : Type) (κ : Ex → St → Option R) : Option R :=
  κ (.ex 0) (mkS [(0, .sc (.string line)), (4, .bad), (5, .ref ⟨.loc 5, 0, [], 62, false⟩), (6, .sc (.int .i64 ((fldZ line separator : Nat) : Int)))] [(.loc 5, some ⟨false, [.own 62 false (fldC line separator)]⟩)])
theorem f39_step (n : Nat) (line sep : ByteArray) (fr i : Nat) (out : List V) (hi : i < line.size) (hs : line.size ≤ 1000000000) (ho : out.length ≤ 2000000000) (R : Type) (κ : Ex → St → Option R) :
    f39_l0 (n + 1) line sep ((fr : Nat) : Int) ((line.size : Nat) : Int) ((i : Nat) : Int) out R κ = bif cutAt line sep i then f39_l0 n line sep ((nxF sep i : Nat) : Int) ((line.size : Nat) : Int) ((i + 1 : Nat) : Int) (out ++ [celI fr, celI i]) R κ else f39_l0 n line sep ((fr : Nat) : Int) ((line.size : Nat) : Int) ((i + 1 : Nat) : Int) out R κ := by
  have r1 : roomy ((lenE 2 out.length + 1) * 16) = true := dec_true (by have : lenE 2 out.length = out.length / 2 := rfl; omega)
  have r2 : roomy (lenE 2 out.length + 1) = true := dec_true (by have : lenE 2 out.length = out.length / 2 := rfl; omega)
  have b : (((line.data.getD i 0).toNat : Nat) : Int) = byteI line i := rfl
  have b0 : (((sep.data.getD 0 0).toNat : Nat) : Int) = byteI sep 0 := rfl
  rw [f39_l0, dec_true (show ((i : Nat) : Int) < ((line.size : Nat) : Int) by omega), dec_true (show (0 : Int) ≤ ((i : Nat) : Int) by omega), Int.toNat_natCast, wrap_succ (by omega), r1, r2, b, b0]
  unfold cutAt nxF
  cases he : strEq sep (⟨#[]⟩ : ByteArray) with
  | true =>
    cases i with
    | zero =>
      rw [dec_false (show ¬ ((0 : Nat) : Int) > 0 by omega), dec_false (show ¬ (0 < 0) by omega)]
      rfl
    | succ j =>
      have hw : IntKind.wrap .i64 (((j + 1 : Nat) : Int) - 1) = ((j : Nat) : Int) := by rw [wrap_id (by omega) (by omega)]; omega
      have bj : (((line.data.getD j 0).toNat : Nat) : Int) = byteI line j := rfl
      rw [dec_true (show ((j + 1 : Nat) : Int) > 0 by omega), dec_true (show 0 < j + 1 by omega), hw, dec_true (show (0 : Int) ≤ ((j : Nat) : Int) by omega), dec_true (show ((j : Nat) : Int) < ((line.size : Nat) : Int) by omega), Int.toNat_natCast, bj, Nat.add_sub_cancel]
      cases blankI (byteI line (j + 1)) <;> cases blankI (byteI line j) <;> rfl
  | false =>
    have hz : 0 < sep.size := by
      rcases Nat.eq_zero_or_pos sep.size with h' | h'
      · have : sep = ⟨#[]⟩ := ba_ext (by rw [bl_size] at h'; exact List.eq_nil_of_length_eq_zero h')
        rw [this, strEq_self] at he; cases he
      · exact h'
    rw [dec_true (show (0 : Int) < ((sep.size : Nat) : Int) by omega)]
    cases byteI line i == byteI sep 0 <;> rfl
theorem f39_loop (line sep : ByteArray) (hs : line.size ≤ 1000000000) (R : Type) (κ : Ex → St → Option R) : ∀ (k i fr : Nat) (out : List V), i + k = line.size → out.length ≤ 2 * i →
    f39_l0 (k + 1) line sep ((fr : Nat) : Int) ((line.size : Nat) : Int) ((i : Nat) : Int) out R κ = κ (.ex 0) (mkS [(0, .sc (.string line)), (4, .bad), (5, .ref ⟨.loc 5, 0, [], 62, false⟩), (6, .sc (.int .i64 (((fldF line sep k i fr).2 : Nat) : Int)))] [(.loc 5, some ⟨false, [.own 62 false (out ++ (fldF line sep k i fr).1)]⟩)])
  | 0, i, fr, out, h, ho => by
    rw [f39_l0, dec_false (by omega), fldF, List.append_nil]
    rfl
  | k + 1, i, fr, out, h, ho => by
    rw [f39_step _ _ _ _ _ _ (by omega) hs (by omega), fldF]
    cases cutAt line sep i with
    | true =>
      simp only [cond_true]
      rw [f39_loop line sep hs R κ k (i + 1) (nxF sep i) _ (by omega) (by simp; omega)]
      simp only [List.append_assoc, List.cons_append, List.nil_append]
    | false =>
      simp only [cond_false]
      exact f39_loop line sep hs R κ k (i + 1) fr out (by omega) (by omega)
theorem f39_s0_eq (line : ByteArray) (separator : ByteArray) (from' : Int) (v9 : Int) (v10 : Int) (l : List V) (hp : ((v9 == ((line.size : Nat) : Int)) && (v10 == 0) && (from' == 0) && (l.length == 0) && decide (line.size ≤ 1000000000)) = true) : ∃ n, ∀ (R : Type) (κ : Ex → St → Option R), f39_l0 n line separator from' v9 v10 l R κ = f39_s0 line separator from' v9 v10 l R κ := by
  simp only [Bool.and_eq_true, decide_eq_true_eq, beq_iff_eq] at hp
  obtain ⟨⟨⟨⟨rfl, rfl⟩, rfl⟩, h4⟩, h5⟩ := hp
  obtain rfl : l = [] := List.eq_nil_of_length_eq_zero h4
  exact ⟨line.size + 1, fun R κ => f39_loop line separator h5 R κ line.size 0 0 [] (by omega) (Nat.le_refl _)⟩
def t_f39_l0 (st : St) (R : Type) (κ : Ex → St → Option R) : Option R := bif ckS f39_l0_ls f39_l0_rs st then (bif ((((st.env 9).intOf) == ((((st.env 0).strOf).size : Nat) : Int)) && (((st.env 10).intOf) == 0) && (((st.env 6).intOf) == 0) && (((nthV (rowOf (st.regs (.loc 5))) 0).cellsOf).length == 0) && decide (((st.env 0).strOf).size ≤ 1000000000)) then f39_s0 ((st.env 0).strOf) ((st.env 1).strOf) ((st.env 6).intOf) ((st.env 9).intOf) ((st.env 10).intOf) ((nthV (rowOf (st.regs (.loc 5))) 0).cellsOf) R κ else none) else none
theorem t_f39_l0_ok : ∀ st0 R κ r, t_f39_l0 (forget C 39 [0, 1, 0, 1, 1, 1] st0) R κ = some r → ∃ ee ss, κ ee ss = some r ∧ RunP C prim 39 [0, 1, 0, 1, 1, 1] (forget C 39 [0, 1, 0, 1, 1, 1] st0) ee ss := by
  intro st0 R κ r h
  obtain ⟨hs, h⟩ := cond_some h
  obtain ⟨hp, h⟩ := cond_some h
  rw [canon (ls := f39_l0_ls) (rs := f39_l0_rs) (by kernel_rfl) st0 hs]
  obtain ⟨n, hn⟩ := f39_s0_eq _ _ _ _ _ _ hp
  rw [← hn] at h
  exact f39_l0_ok n _ _ _ _ _ _ R κ r h

def K_f39 : CallK := kNil
theorem K_f39_ok : KOK C prim K_f39 := KOK.nil
def T_f39 : Tab := tCons [0, 1, 0, 1, 1, 1] t_f39_l0 <| tNil
theorem T_f39_ok : TOK C prim 39 T_f39 := TOK.cons t_f39_l0_ok <| TOK.nil
def f39 (line : ByteArray) (separator : ByteArray) : Option (V × List Rg) :=
  bif ((((line.size : Nat) : Int) == ((line.size : Nat) : Int)) && ((0 : Int) == 0) && ((0 : Int) == 0) && (([] : List V).length == 0) && decide (line.size ≤ 1000000000)) then
    bif (((roomy (((lenE 2 ((fldC line separator)).length) + 1) * 16)) && (roomy ((lenE 2 ((fldC line separator)).length) + 1))) && true) then
      some (.own 62 false ((fldC line separator) ++ [.sc (.int .i64 ((fldZ line separator : Nat) : Int)), .sc (.int .i64 ((line.size : Nat) : Int))]), [])
    else none
  else none
theorem f39_run (line : ByteArray) (separator : ByteArray) (z9 : V × List Rg) (h : f39 line separator = some z9) : CallR C prim 39 [.sc (.string line), .sc (.string separator)] [] z9 := by
  refine call_fn (K := K_f39) (T := T_f39) K_f39_ok T_f39_ok (by kernel_rfl) ?_
  refine Eq.trans ?_ h
  kernel_rfl

theorem f39_eq (line : ByteArray) (separator : ByteArray) (hp : (decide (line.size ≤ 1000000000)) = true) : f39 line separator = some (.own 62 false (fieldsV line separator), []) := by
  have hq := hp
  simp only [decide_eq_true_eq] at hp
  obtain ⟨r1, r2⟩ := fld_room line separator hp
  unfold f39
  rw [hq, beq_self_eq_true, r1, r2]
  rfl
def k39 : PrimT := fun vs gs => match vs, gs with
  | [.sc (.string line), .sc (.string separator)], [] => ((decide (line.size ≤ 1000000000)), .own 62 false (fieldsV line separator), [])
  | _, _ => (false, .bad, [])
theorem k39_ok : ∀ vs gs x, k39 vs gs = (true, x) → CallR C prim 39 vs gs x := by
  intro vs gs x h
  unfold k39 at h
  split at h
  · simp only [Prod.mk.injEq] at h
    obtain ⟨hp, rfl⟩ := h
    exact f39_run _ _ _ (f39_eq _ _ hp)
  · cases h

def K_f73_l0 : CallK := kNil
theorem K_f73_l0_ok : KOK C prim K_f73_l0 := KOK.nil
def T_f73_l0 : Tab := tNil
theorem T_f73_l0_ok : TOK C prim 73 T_f73_l0 := TOK.nil
def f73_l0 : Nat → Int → Int → List V → (R : Type) → (Ex → St → Option R) → Option R
  | 0, _, _, _, _, _ => none
  | n + 1, v9, v10, b, R, κ =>
    bif (decide (v10 < v9)) then
      bif (((decide ((0 : Int) ≤ v10)) && (decide (v10 < ((b.length : Nat) : Int)))) && true) then
        bif (((V.isInt .u8 (nthV b (((v10).toNat * 1) + 0))) && true) && true) then
          bif (decide ((V.intOf (nthV b (((v10).toNat * 1) + 0))) ≥ 97)) then
            bif (decide ((V.intOf (nthV b (((v10).toNat * 1) + 0))) ≤ 122)) then
              bif (((decide ((0 : Int) ≤ v10)) && (decide (v10 < ((b.length : Nat) : Int)))) && true) then
                f73_l0 n v9 (IntKind.wrap .i64 (v10 + 1)) (b.set (((v10).toNat * 1) + 0) (.sc (.int .u8 (IntKind.wrap .u8 ((IntKind.wrap .u8 ((V.intOf (nthV b (((v10).toNat * 1) + 0))) - 97)) + 65))))) R κ
              else none
            else
              f73_l0 n v9 (IntKind.wrap .i64 (v10 + 1)) b R κ
          else
            f73_l0 n v9 (IntKind.wrap .i64 (v10 + 1)) b R κ
        else none
      else none
    else
      κ (.ex 0) (mkS [(2, .bad), (3, .ref ⟨.loc 3, 0, [], 5, false⟩)] [(.loc 3, some ⟨false, [.own 5 false b]⟩)])
def f73_l0_ls : List (Nat × Pat) := [(3, .is (.ref ⟨.loc 3, 0, [], 5, false⟩)), (8, .is (.ref ⟨.loc 3, 0, [], 5, false⟩)), (9, .i .i64), (10, .i .i64)]
def f73_l0_rs : List RPat := [⟨.loc 3, false, [.own 5 false]⟩]
theorem f73_l0_ok (n : Nat) : ∀ (v9 : Int) (v10 : Int) (b : List V) (R : Type) (κ : Ex → St → Option R) (r : R), f73_l0 n v9 v10 b R κ = some r → ∃ ee ss, κ ee ss = some r ∧ RunP C prim 73 [0, 1, 0, 1, 1] (mkS [(3, .ref ⟨.loc 3, 0, [], 5, false⟩), (8, .ref ⟨.loc 3, 0, [], 5, false⟩), (9, .sc (.int .i64 v9)), (10, .sc (.int .i64 v10))] [(.loc 3, some ⟨false, [.own 5 false b]⟩)]) ee ss := by
  induction n with
  | zero => intro v9 v10 b R κ r h; cases h
  | succ n ih =>
    intro v9 v10 b R κ r h
    refine loop_round (K := K_f73_l0) (T := T_f73_l0) K_f73_l0_ok T_f73_l0_ok (p := [0, 1, 0, 1, 1]) (by kernel_rfl) (fun st => bif ckS f73_l0_ls f73_l0_rs st then f73_l0 n ((st.env 9).intOf) ((st.env 10).intOf) ((nthV (rowOf (st.regs (.loc 3))) 0).cellsOf) R κ else none) (fun st0 h0 => ?_) ?_
    · obtain ⟨hs, h0⟩ := cond_some h0
      rw [canon (ls := f73_l0_ls) (rs := f73_l0_rs) (by kernel_rfl) st0 hs]
      exact ih _ _ _ R κ r h0
    · refine Eq.trans ?_ h
      kernel_rfl

def f73_s0 (v9 : Int) (v10 : Int) (b : List V) (R : Type) (κ : Ex → St → Option R) : Option R :=
  κ (.ex 0) (mkS [(2, .bad), (3, .ref ⟨.loc 3, 0, [], 5, false⟩)] [(.loc 3, some ⟨false, [.own 5 false (b.map capV)]⟩)])
theorem set_take {b : List V} {i : Nat} (h : i < b.length) (c : V) : (b.set i c).take (i + 1) = b.take i ++ [c] := by
  rw [List.take_add_one, List.take_set_of_le (Nat.le_refl _), List.getElem?_set_self h]; rfl
theorem set_drop (b : List V) (i : Nat) (c : V) : (b.set i c).drop (i + 1) = b.drop (i + 1) := List.drop_set_of_lt (by omega)
theorem take_one {b : List V} {i : Nat} (h : i < b.length) : b.take (i + 1) = b.take i ++ [b[i]] := by
  rw [List.take_add_one, List.getElem?_eq_getElem h]; rfl
theorem okU8_at {x : V} (h : okU8 x = true) : ∃ n : Int, x = .sc (.int .u8 n) ∧ 0 ≤ n ∧ n < 256 := by
  unfold okU8 at h
  split at h
  · next n => simp only [Bool.and_eq_true, decide_eq_true_eq] at h; exact ⟨n, rfl, h.1, h.2⟩
  · cases h
theorem f73_loop (R : Type) (κ : Ex → St → Option R) : ∀ (k i : Nat) (b : List V), i + k = b.length → b.length ≤ 1000000000 → (b.drop i).all okU8 = true →
    f73_l0 (k + 1) ((b.length : Nat) : Int) ((i : Nat) : Int) b R κ = κ (.ex 0) (mkS [(2, .bad), (3, .ref ⟨.loc 3, 0, [], 5, false⟩)] [(.loc 3, some ⟨false, [.own 5 false (b.take i ++ (b.drop i).map capV)]⟩)])
  | 0, i, b, h, hn, hu => by
    rw [f73_l0, dec_false (by omega), List.drop_of_length_le (by omega), List.map_nil, List.append_nil, List.take_of_length_le (by omega)]
    rfl
  | k + 1, i, b, h, hn, hu => by
    have hi : i < b.length := by omega
    rw [List.drop_eq_getElem_cons hi, List.all_cons, Bool.and_eq_true] at hu
    obtain ⟨n, hx, n1, n2⟩ := okU8_at hu.1
    have i1 : V.isInt .u8 b[i] = true := by rw [hx]; rfl
    have i2 : V.intOf b[i] = n := by rw [hx]; rfl
    have IH0 := f73_loop R κ k (i + 1) b (by omega) hn hu.2
    rw [f73_l0, dec_true (show ((i : Nat) : Int) < ((b.length : Nat) : Int) by omega), dec_true (show (0 : Int) ≤ ((i : Nat) : Int) by omega), nth_at hi, i1, i2, wrap_succ (by omega), List.drop_eq_getElem_cons hi, List.map_cons]
    have same : (bif decide (n ≥ 97) && decide (n ≤ 122) then n - 32 else n) = n → capV b[i] = b[i] := by
      intro e
      unfold capV capI
      rw [i2, e, hx]
    by_cases c1 : n ≥ 97
    · by_cases c2 : n ≤ 122
      · have hw1 : IntKind.wrap .u8 (n - 97) = n - 97 := IntWalk.u8_in _ (by omega)
        have hw2 : IntKind.wrap .u8 (n - 97 + 65) = n - 32 := by rw [IntWalk.u8_in _ (by omega)]; omega
        have hc : capV b[i] = .sc (.int .u8 (n - 32)) := by
          unfold capV capI
          rw [i2, dec_true c1, dec_true c2]; rfl
        have IH := f73_loop R κ k (i + 1) (b.set i (.sc (.int .u8 (n - 32)))) (by rw [List.length_set]; omega) (by rw [List.length_set]; exact hn) (by rw [set_drop]; exact hu.2)
        rw [List.length_set, set_take hi, set_drop] at IH
        rw [dec_true c1, dec_true c2, hw1, hw2, hc]
        simp only [Int.toNat_natCast, Nat.mul_one, Nat.add_zero, Bool.and_self, cond_true]
        rw [IH, List.append_assoc]
        rfl
      · have hs := same (by rw [dec_false c2, Bool.and_false]; rfl)
        rw [dec_true c1, dec_false c2, hs]
        simp only [Bool.and_self, cond_true, cond_false]
        rw [IH0, take_one hi, List.append_assoc]
        rfl
    · have hs := same (by rw [dec_false c1, Bool.false_and]; rfl)
      rw [dec_false c1, hs]
      simp only [Bool.and_self, cond_true, cond_false]
      rw [IH0, take_one hi, List.append_assoc]
      rfl
theorem f73_s0_eq (v9 : Int) (v10 : Int) (b : List V) (hp : ((v9 == ((b.length : Nat) : Int)) && (v10 == 0) && b.all okU8 && decide (b.length ≤ 1000000000)) = true) : ∃ n, ∀ (R : Type) (κ : Ex → St → Option R), f73_l0 n v9 v10 b R κ = f73_s0 v9 v10 b R κ := by
  simp only [Bool.and_eq_true, decide_eq_true_eq, beq_iff_eq] at hp
  obtain ⟨⟨⟨rfl, rfl⟩, h3⟩, h4⟩ := hp
  exact ⟨b.length + 1, fun R κ => f73_loop R κ b.length 0 b (by omega) h4 h3⟩
def t_f73_l0 (st : St) (R : Type) (κ : Ex → St → Option R) : Option R := bif ckS f73_l0_ls f73_l0_rs st then (bif ((((st.env 9).intOf) == ((((nthV (rowOf (st.regs (.loc 3))) 0).cellsOf).length : Nat) : Int)) && (((st.env 10).intOf) == 0) && ((nthV (rowOf (st.regs (.loc 3))) 0).cellsOf).all okU8 && decide (((nthV (rowOf (st.regs (.loc 3))) 0).cellsOf).length ≤ 1000000000)) then f73_s0 ((st.env 9).intOf) ((st.env 10).intOf) ((nthV (rowOf (st.regs (.loc 3))) 0).cellsOf) R κ else none) else none
theorem t_f73_l0_ok : ∀ st0 R κ r, t_f73_l0 (forget C 73 [0, 1, 0, 1, 1] st0) R κ = some r → ∃ ee ss, κ ee ss = some r ∧ RunP C prim 73 [0, 1, 0, 1, 1] (forget C 73 [0, 1, 0, 1, 1] st0) ee ss := by
  intro st0 R κ r h
  obtain ⟨hs, h⟩ := cond_some h
  obtain ⟨hp, h⟩ := cond_some h
  rw [canon (ls := f73_l0_ls) (rs := f73_l0_rs) (by kernel_rfl) st0 hs]
  obtain ⟨n, hn⟩ := f73_s0_eq _ _ _ hp
  rw [← hn] at h
  exact f73_l0_ok n _ _ _ R κ r h

def K_f73 : CallK := kNil
theorem K_f73_ok : KOK C prim K_f73 := KOK.nil
def T_f73 : Tab := tCons [0, 1, 0, 1, 1] t_f73_l0 <| tNil
theorem T_f73_ok : TOK C prim 73 T_f73 := TOK.cons t_f73_l0_ok <| TOK.nil
def f73 (s : ByteArray) : Option (V × List Rg) :=
  bif (((roomy s.size) && true) && true) then
    bif ((((((bytesV s)).length : Nat) : Int) == (((bytesV s).length : Nat) : Int)) && ((0 : Int) == 0) && (bytesV s).all okU8 && decide ((bytesV s).length ≤ 1000000000)) then
      bif ((allU8 ((bytesV s).map capV)) && true) then
        some (.sc (.string (strOfCells ((bytesV s).map capV))), [])
      else none
    else none
  else none
theorem f73_run (s : ByteArray) (z9 : V × List Rg) (h : f73 s = some z9) : CallR C prim 73 [.sc (.string s)] [] z9 := by
  refine call_fn (K := K_f73) (T := T_f73) K_f73_ok T_f73_ok (by kernel_rfl) ?_
  refine Eq.trans ?_ h
  kernel_rfl

theorem allU8_cap : ∀ l : List V, allU8 (l.map capV) = true
  | [] => rfl
  | x :: l => by
    rw [List.map_cons]
    unfold allU8
    rw [allU8_cap l]
    rfl
theorem f73_eq (s : ByteArray) (hp : (decide (s.size ≤ 1000000000)) = true) : f73 s = some (.sc (.string (capB s)), []) := by
  simp only [decide_eq_true_eq] at hp
  have hl := bytesV_len s
  unfold f73
  rw [show roomy s.size = true from dec_true (by omega), okU8_bytesV, dec_true (show (bytesV s).length ≤ 1000000000 by omega), beq_self_eq_true, allU8_cap]
  rfl
def k73 : PrimT := fun vs gs => match vs, gs with
  | [.sc (.string s)], [] => ((decide (s.size ≤ 1000000000)), .sc (.string (capB s)), [])
  | _, _ => (false, .bad, [])
theorem k73_ok : ∀ vs gs x, k73 vs gs = (true, x) → CallR C prim 73 vs gs x := by
  intro vs gs x h
  unfold k73 at h
  split at h
  · simp only [Prod.mk.injEq] at h
    obtain ⟨hp, rfl⟩ := h
    exact f73_run _ _ (f73_eq _ hp)
  · cases h

def K_f75_l0 : CallK := kNil
theorem K_f75_l0_ok : KOK C prim K_f75_l0 := KOK.nil
def T_f75_l0 : Tab := tNil
theorem T_f75_l0_ok : TOK C prim 75 T_f75_l0 := TOK.nil
def f75_l0 : Nat → ByteArray → Int → Int → List V → (R : Type) → (Ex → St → Option R) → Option R
  | 0, _, _, _, _, _, _ => none
  | n + 1, s, v10, v11, out, R, κ =>
    bif (decide (v11 < v10)) then
      bif (((decide ((0 : Int) ≤ v11)) && (decide (v11 < ((s.size : Nat) : Int)))) && true) then
        bif (decide (((s.data.getD (v11).toNat 0).toNat : Int) ≥ 97)) then
          bif (decide (((s.data.getD (v11).toNat 0).toNat : Int) ≤ 122)) then
            bif (((decide ((0 : Int) ≤ v11)) && (decide (v11 < ((out.length : Nat) : Int)))) && true) then
              f75_l0 n s v10 (IntKind.wrap .i64 (v11 + 1)) (out.set (((v11).toNat * 1) + 0) (.sc (.int .u8 (IntKind.wrap .u8 (((s.data.getD (v11).toNat 0).toNat : Int) - 32))))) R κ
            else none
          else
            bif (((decide ((0 : Int) ≤ v11)) && (decide (v11 < ((out.length : Nat) : Int)))) && true) then
              f75_l0 n s v10 (IntKind.wrap .i64 (v11 + 1)) (out.set (((v11).toNat * 1) + 0) (.sc (.int .u8 ((s.data.getD (v11).toNat 0).toNat : Int)))) R κ
            else none
        else
          bif (((decide ((0 : Int) ≤ v11)) && (decide (v11 < ((out.length : Nat) : Int)))) && true) then
            f75_l0 n s v10 (IntKind.wrap .i64 (v11 + 1)) (out.set (((v11).toNat * 1) + 0) (.sc (.int .u8 ((s.data.getD (v11).toNat 0).toNat : Int)))) R κ
          else none
      else none
    else
      κ (.ex 0) (mkS [(2, .bad), (3, .ref ⟨.loc 3, 0, [], 5, false⟩)] [(.loc 3, some ⟨false, [.own 5 false out]⟩)])
def f75_l0_ls : List (Nat × Pat) := [(0, .s), (3, .is (.ref ⟨.loc 3, 0, [], 5, false⟩)), (10, .i .i64), (11, .i .i64)]
def f75_l0_rs : List RPat := [⟨.loc 3, false, [.own 5 false]⟩]
theorem f75_l0_ok (n : Nat) : ∀ (s : ByteArray) (v10 : Int) (v11 : Int) (out : List V) (R : Type) (κ : Ex → St → Option R) (r : R), f75_l0 n s v10 v11 out R κ = some r → ∃ ee ss, κ ee ss = some r ∧ RunP C prim 75 [0, 1, 0, 1, 1] (mkS [(0, .sc (.string s)), (3, .ref ⟨.loc 3, 0, [], 5, false⟩), (10, .sc (.int .i64 v10)), (11, .sc (.int .i64 v11))] [(.loc 3, some ⟨false, [.own 5 false out]⟩)]) ee ss := by
  induction n with
  | zero => intro s v10 v11 out R κ r h; cases h
  | succ n ih =>
    intro s v10 v11 out R κ r h
    refine loop_round (K := K_f75_l0) (T := T_f75_l0) K_f75_l0_ok T_f75_l0_ok (p := [0, 1, 0, 1, 1]) (by kernel_rfl) (fun st => bif ckS f75_l0_ls f75_l0_rs st then f75_l0 n ((st.env 0).strOf) ((st.env 10).intOf) ((st.env 11).intOf) ((nthV (rowOf (st.regs (.loc 3))) 0).cellsOf) R κ else none) (fun st0 h0 => ?_) ?_
    · obtain ⟨hs, h0⟩ := cond_some h0
      rw [canon (ls := f75_l0_ls) (rs := f75_l0_rs) (by kernel_rfl) st0 hs]
      exact ih _ _ _ _ R κ r h0
    · refine Eq.trans ?_ h
      kernel_rfl

def f75_s0 (s : ByteArray) (v10 : Int) (v11 : Int) (out : List V) (R : Type) (κ : Ex → St → Option R) : Option R :=
  κ (.ex 0) (mkS [(2, .bad), (3, .ref ⟨.loc 3, 0, [], 5, false⟩)] [(.loc 3, some ⟨false, [.own 5 false ((bytesV s).map capV)]⟩)])
theorem f75_loop (s : ByteArray) (hs : s.size ≤ 1000000000) (R : Type) (κ : Ex → St → Option R) : ∀ (k i : Nat) (b : List V), i + k = s.size → b.length = s.size →
    f75_l0 (k + 1) s ((s.size : Nat) : Int) ((i : Nat) : Int) b R κ = κ (.ex 0) (mkS [(2, .bad), (3, .ref ⟨.loc 3, 0, [], 5, false⟩)] [(.loc 3, some ⟨false, [.own 5 false (b.take i ++ ((bytesV s).drop i).map capV)]⟩)])
  | 0, i, b, h, hb => by
    have hl := bytesV_len s
    rw [f75_l0, dec_false (by omega), List.drop_of_length_le (l := bytesV s) (by omega), List.map_nil, List.append_nil, List.take_of_length_le (by omega)]
    rfl
  | k + 1, i, b, h, hb => by
    have hl := bytesV_len s
    have hsz := bl_size s
    have hi : i < b.length := by omega
    have hi2 : i < (bytesV s).length := by omega
    have hx : (((s.data.getD i 0).toNat : Nat) : Int) = V.intOf (bytesV s)[i] := by
      have hq : i < s.data.toList.length := by omega
      have e : (bytesV s)[i] = V.sc (.int .u8 (((s.data.toList[i]).toNat : Nat) : Int)) := by simp [bytesV]
      rw [getD_list' s i hq, e]; rfl
    have hu := List.all_eq_true.1 (okU8_bytesV s) _ (List.getElem_mem hi2)
    obtain ⟨n, hn, n1, n2⟩ := okU8_at hu
    have i2 : V.intOf (bytesV s)[i] = n := by rw [hn]; rfl
    have IH := fun c => f75_loop s hs R κ k (i + 1) (b.set i c) (by omega) (by rw [List.length_set]; exact hb)
    simp only [set_take hi] at IH
    rw [f75_l0, dec_true (show ((i : Nat) : Int) < ((s.size : Nat) : Int) by omega), dec_true (show (0 : Int) ≤ ((i : Nat) : Int) by omega), dec_true (show ((i : Nat) : Int) < ((b.length : Nat) : Int) by omega), Int.toNat_natCast, hx, i2, wrap_succ (by omega), List.drop_eq_getElem_cons hi2, List.map_cons]
    simp only [Nat.mul_one, Nat.add_zero]
    have hc : capV (bytesV s)[i] = .sc (.int .u8 (bif decide (n ≥ 97) && decide (n ≤ 122) then n - 32 else n)) := by unfold capV capI; rw [i2]
    rw [hc]
    by_cases c1 : n ≥ 97
    · by_cases c2 : n ≤ 122
      · rw [dec_true c1, dec_true c2, IntWalk.u8_in (n - 32) (by omega)]
        simp only [Bool.and_self, cond_true]
        rw [IH, List.append_assoc]
        rfl
      · rw [dec_true c1, dec_false c2]
        simp only [Bool.and_self, Bool.and_false, cond_true, cond_false]
        rw [IH, List.append_assoc]
        rfl
    · rw [dec_false c1]
      simp only [Bool.and_self, Bool.false_and, cond_true, cond_false]
      rw [IH, List.append_assoc]
      rfl
theorem f75_s0_eq (s : ByteArray) (v10 : Int) (v11 : Int) (out : List V) (hp : ((v10 == ((s.size : Nat) : Int)) && (v11 == 0) && (((out.length : Nat) : Int) == ((s.size : Nat) : Int)) && decide (s.size ≤ 1000000000)) = true) : ∃ n, ∀ (R : Type) (κ : Ex → St → Option R), f75_l0 n s v10 v11 out R κ = f75_s0 s v10 v11 out R κ := by
  simp only [Bool.and_eq_true, decide_eq_true_eq, beq_iff_eq] at hp
  obtain ⟨⟨⟨rfl, rfl⟩, h3⟩, h4⟩ := hp
  refine ⟨s.size + 1, fun R κ => ?_⟩
  exact f75_loop s h4 R κ s.size 0 out (by omega) (by omega)
def t_f75_l0 (st : St) (R : Type) (κ : Ex → St → Option R) : Option R := bif ckS f75_l0_ls f75_l0_rs st then (bif ((((st.env 10).intOf) == ((((st.env 0).strOf).size : Nat) : Int)) && (((st.env 11).intOf) == 0) && (((((nthV (rowOf (st.regs (.loc 3))) 0).cellsOf).length : Nat) : Int) == ((((st.env 0).strOf).size : Nat) : Int)) && decide (((st.env 0).strOf).size ≤ 1000000000)) then f75_s0 ((st.env 0).strOf) ((st.env 10).intOf) ((st.env 11).intOf) ((nthV (rowOf (st.regs (.loc 3))) 0).cellsOf) R κ else none) else none
theorem t_f75_l0_ok : ∀ st0 R κ r, t_f75_l0 (forget C 75 [0, 1, 0, 1, 1] st0) R κ = some r → ∃ ee ss, κ ee ss = some r ∧ RunP C prim 75 [0, 1, 0, 1, 1] (forget C 75 [0, 1, 0, 1, 1] st0) ee ss := by
  intro st0 R κ r h
  obtain ⟨hs, h⟩ := cond_some h
  obtain ⟨hp, h⟩ := cond_some h
  rw [canon (ls := f75_l0_ls) (rs := f75_l0_rs) (by kernel_rfl) st0 hs]
  obtain ⟨n, hn⟩ := f75_s0_eq _ _ _ _ hp
  rw [← hn] at h
  exact f75_l0_ok n _ _ _ _ R κ r h

def K_f75 : CallK := kNil
theorem K_f75_ok : KOK C prim K_f75 := KOK.nil
def T_f75 : Tab := tCons [0, 1, 0, 1, 1] t_f75_l0 <| tNil
theorem T_f75_ok : TOK C prim 75 T_f75 := TOK.cons t_f75_l0_ok <| TOK.nil
def f75 (s : ByteArray) : Option (V × List Rg) :=
  bif ((((((((((decide ((0 : Int) ≤ ((s.size : Nat) : Int))) && (decide (((s.size : Nat) : Int) ≤ ((s.size : Nat) : Int)))) && true) && true) && true) && true) && true) && (roomy ((((s.size : Nat) : Int)).toNat * 1))) && (roomy (((s.size : Nat) : Int)).toNat)) && true) then
    bif ((((s.size : Nat) : Int) == ((s.size : Nat) : Int)) && ((0 : Int) == 0) && (((((List.replicate (((s.size : Nat) : Int)).toNat ([.sc (.int .u8 0)] : List V)).flatten).length : Nat) : Int) == ((s.size : Nat) : Int)) && decide (s.size ≤ 1000000000)) then
      bif ((allU8 ((bytesV s).map capV)) && true) then
        some (.sc (.string (strOfCells ((bytesV s).map capV))), [])
      else none
    else none
  else none
theorem f75_run (s : ByteArray) (z9 : V × List Rg) (h : f75 s = some z9) : CallR C prim 75 [.sc (.string s)] [] z9 := by
  refine call_fn (K := K_f75) (T := T_f75) K_f75_ok T_f75_ok (by kernel_rfl) ?_
  refine Eq.trans ?_ h
  kernel_rfl

theorem rep_flatC {α : Type} (n : Nat) (x : α) : (List.replicate n [x]).flatten = List.replicate n x := by
  induction n with
  | zero => rfl
  | succ n ih => rw [List.replicate_succ, List.flatten_cons, ih, List.replicate_succ]; rfl
theorem f75_eq (s : ByteArray) (hp : (decide (s.size ≤ 1000000000)) = true) : f75 s = some (.sc (.string (capB s)), []) := by
  have hq := hp
  simp only [decide_eq_true_eq] at hp
  have r1 : roomy (s.size * 1) = true := dec_true (by omega)
  have r2 : roomy s.size = true := dec_true (by omega)
  unfold f75
  rw [Int.toNat_natCast, rep_flatC, List.length_replicate, hq, r1, r2, dec_true (show (0 : Int) ≤ ((s.size : Nat) : Int) by omega), dec_true (show ((s.size : Nat) : Int) ≤ ((s.size : Nat) : Int) by omega), allU8_cap]
  simp only [beq_self_eq_true]
  rfl
def k75 : PrimT := fun vs gs => match vs, gs with
  | [.sc (.string s)], [] => ((decide (s.size ≤ 1000000000)), .sc (.string (capB s)), [])
  | _, _ => (false, .bad, [])
theorem k75_ok : ∀ vs gs x, k75 vs gs = (true, x) → CallR C prim 75 vs gs x := by
  intro vs gs x h
  unfold k75 at h
  split at h
  · simp only [Prod.mk.injEq] at h
    obtain ⟨hp, rfl⟩ := h
    exact f75_run _ _ (f75_eq _ hp)
  · cases h

def K_f41 : CallK := kCons 72 k72 <| kCons 73 k73 <| kNil
theorem K_f41_ok : KOK C prim K_f41 := KOK.cons k72_ok <| KOK.cons k73_ok <| KOK.nil
def T_f41 : Tab := tNil
theorem T_f41_ok : TOK C prim 41 T_f41 := TOK.nil
def f41 (o0 : Int) (o1 : Int) (o2 : Int) (o3 : Bool) (o4 : Bool) (o5 : Bool) (o6 : Bool) (line : ByteArray) : Option (V × List Rg) :=
  bif ((decide (line.size ≤ 1000000000)) && true) then
    bif (decide (o0 > 0)) then
      bif (((decide ((0 : Int) ≤ (IntKind.wrap .i64 ((bif (decide ((((lenE 2 ((fieldsV line (⟨#[]⟩ : ByteArray))).length) : Nat) : Int) < o0)) then (((lenE 2 ((fieldsV line (⟨#[]⟩ : ByteArray))).length) : Nat) : Int) else o0) - 1)))) && (decide ((IntKind.wrap .i64 ((bif (decide ((((lenE 2 ((fieldsV line (⟨#[]⟩ : ByteArray))).length) : Nat) : Int) < o0)) then (((lenE 2 ((fieldsV line (⟨#[]⟩ : ByteArray))).length) : Nat) : Int) else o0) - 1)) < (((lenE 2 ((fieldsV line (⟨#[]⟩ : ByteArray))).length) : Nat) : Int)))) && true) then
        bif (((V.isInt .i64 (nthV (fieldsV line (⟨#[]⟩ : ByteArray)) ((((IntKind.wrap .i64 ((bif (decide ((((lenE 2 ((fieldsV line (⟨#[]⟩ : ByteArray))).length) : Nat) : Int) < o0)) then (((lenE 2 ((fieldsV line (⟨#[]⟩ : ByteArray))).length) : Nat) : Int) else o0) - 1))).toNat * 2) + 1))) && true) && true) then
          bif ((((decide ((0 : Int) ≤ (bif (decide (((line.size : Nat) : Int) < (IntKind.wrap .i64 ((V.intOf (nthV (fieldsV line (⟨#[]⟩ : ByteArray)) ((((IntKind.wrap .i64 ((bif (decide ((((lenE 2 ((fieldsV line (⟨#[]⟩ : ByteArray))).length) : Nat) : Int) < o0)) then (((lenE 2 ((fieldsV line (⟨#[]⟩ : ByteArray))).length) : Nat) : Int) else o0) - 1))).toNat * 2) + 1))) + o1)))) then ((line.size : Nat) : Int) else (IntKind.wrap .i64 ((V.intOf (nthV (fieldsV line (⟨#[]⟩ : ByteArray)) ((((IntKind.wrap .i64 ((bif (decide ((((lenE 2 ((fieldsV line (⟨#[]⟩ : ByteArray))).length) : Nat) : Int) < o0)) then (((lenE 2 ((fieldsV line (⟨#[]⟩ : ByteArray))).length) : Nat) : Int) else o0) - 1))).toNat * 2) + 1))) + o1))))) && (decide ((bif (decide (((line.size : Nat) : Int) < (IntKind.wrap .i64 ((V.intOf (nthV (fieldsV line (⟨#[]⟩ : ByteArray)) ((((IntKind.wrap .i64 ((bif (decide ((((lenE 2 ((fieldsV line (⟨#[]⟩ : ByteArray))).length) : Nat) : Int) < o0)) then (((lenE 2 ((fieldsV line (⟨#[]⟩ : ByteArray))).length) : Nat) : Int) else o0) - 1))).toNat * 2) + 1))) + o1)))) then ((line.size : Nat) : Int) else (IntKind.wrap .i64 ((V.intOf (nthV (fieldsV line (⟨#[]⟩ : ByteArray)) ((((IntKind.wrap .i64 ((bif (decide ((((lenE 2 ((fieldsV line (⟨#[]⟩ : ByteArray))).length) : Nat) : Int) < o0)) then (((lenE 2 ((fieldsV line (⟨#[]⟩ : ByteArray))).length) : Nat) : Int) else o0) - 1))).toNat * 2) + 1))) + o1))) ≤ ((line.size : Nat) : Int)))) && true) && true) then
            bif (decide (o2 > 0)) then
              bif ((((decide ((0 : Int) ≤ (bif (decide ((((line.extract ((bif (decide (((line.size : Nat) : Int) < (IntKind.wrap .i64 ((V.intOf (nthV (fieldsV line (⟨#[]⟩ : ByteArray)) ((((IntKind.wrap .i64 ((bif (decide ((((lenE 2 ((fieldsV line (⟨#[]⟩ : ByteArray))).length) : Nat) : Int) < o0)) then (((lenE 2 ((fieldsV line (⟨#[]⟩ : ByteArray))).length) : Nat) : Int) else o0) - 1))).toNat * 2) + 1))) + o1)))) then ((line.size : Nat) : Int) else (IntKind.wrap .i64 ((V.intOf (nthV (fieldsV line (⟨#[]⟩ : ByteArray)) ((((IntKind.wrap .i64 ((bif (decide ((((lenE 2 ((fieldsV line (⟨#[]⟩ : ByteArray))).length) : Nat) : Int) < o0)) then (((lenE 2 ((fieldsV line (⟨#[]⟩ : ByteArray))).length) : Nat) : Int) else o0) - 1))).toNat * 2) + 1))) + o1)))).toNat (((line.size : Nat) : Int)).toNat).size : Nat) : Int) < o2)) then (((line.extract ((bif (decide (((line.size : Nat) : Int) < (IntKind.wrap .i64 ((V.intOf (nthV (fieldsV line (⟨#[]⟩ : ByteArray)) ((((IntKind.wrap .i64 ((bif (decide ((((lenE 2 ((fieldsV line (⟨#[]⟩ : ByteArray))).length) : Nat) : Int) < o0)) then (((lenE 2 ((fieldsV line (⟨#[]⟩ : ByteArray))).length) : Nat) : Int) else o0) - 1))).toNat * 2) + 1))) + o1)))) then ((line.size : Nat) : Int) else (IntKind.wrap .i64 ((V.intOf (nthV (fieldsV line (⟨#[]⟩ : ByteArray)) ((((IntKind.wrap .i64 ((bif (decide ((((lenE 2 ((fieldsV line (⟨#[]⟩ : ByteArray))).length) : Nat) : Int) < o0)) then (((lenE 2 ((fieldsV line (⟨#[]⟩ : ByteArray))).length) : Nat) : Int) else o0) - 1))).toNat * 2) + 1))) + o1)))).toNat (((line.size : Nat) : Int)).toNat).size : Nat) : Int) else o2))) && (decide ((bif (decide ((((line.extract ((bif (decide (((line.size : Nat) : Int) < (IntKind.wrap .i64 ((V.intOf (nthV (fieldsV line (⟨#[]⟩ : ByteArray)) ((((IntKind.wrap .i64 ((bif (decide ((((lenE 2 ((fieldsV line (⟨#[]⟩ : ByteArray))).length) : Nat) : Int) < o0)) then (((lenE 2 ((fieldsV line (⟨#[]⟩ : ByteArray))).length) : Nat) : Int) else o0) - 1))).toNat * 2) + 1))) + o1)))) then ((line.size : Nat) : Int) else (IntKind.wrap .i64 ((V.intOf (nthV (fieldsV line (⟨#[]⟩ : ByteArray)) ((((IntKind.wrap .i64 ((bif (decide ((((lenE 2 ((fieldsV line (⟨#[]⟩ : ByteArray))).length) : Nat) : Int) < o0)) then (((lenE 2 ((fieldsV line (⟨#[]⟩ : ByteArray))).length) : Nat) : Int) else o0) - 1))).toNat * 2) + 1))) + o1)))).toNat (((line.size : Nat) : Int)).toNat).size : Nat) : Int) < o2)) then (((line.extract ((bif (decide (((line.size : Nat) : Int) < (IntKind.wrap .i64 ((V.intOf (nthV (fieldsV line (⟨#[]⟩ : ByteArray)) ((((IntKind.wrap .i64 ((bif (decide ((((lenE 2 ((fieldsV line (⟨#[]⟩ : ByteArray))).length) : Nat) : Int) < o0)) then (((lenE 2 ((fieldsV line (⟨#[]⟩ : ByteArray))).length) : Nat) : Int) else o0) - 1))).toNat * 2) + 1))) + o1)))) then ((line.size : Nat) : Int) else (IntKind.wrap .i64 ((V.intOf (nthV (fieldsV line (⟨#[]⟩ : ByteArray)) ((((IntKind.wrap .i64 ((bif (decide ((((lenE 2 ((fieldsV line (⟨#[]⟩ : ByteArray))).length) : Nat) : Int) < o0)) then (((lenE 2 ((fieldsV line (⟨#[]⟩ : ByteArray))).length) : Nat) : Int) else o0) - 1))).toNat * 2) + 1))) + o1)))).toNat (((line.size : Nat) : Int)).toNat).size : Nat) : Int) else o2) ≤ (((line.extract ((bif (decide (((line.size : Nat) : Int) < (IntKind.wrap .i64 ((V.intOf (nthV (fieldsV line (⟨#[]⟩ : ByteArray)) ((((IntKind.wrap .i64 ((bif (decide ((((lenE 2 ((fieldsV line (⟨#[]⟩ : ByteArray))).length) : Nat) : Int) < o0)) then (((lenE 2 ((fieldsV line (⟨#[]⟩ : ByteArray))).length) : Nat) : Int) else o0) - 1))).toNat * 2) + 1))) + o1)))) then ((line.size : Nat) : Int) else (IntKind.wrap .i64 ((V.intOf (nthV (fieldsV line (⟨#[]⟩ : ByteArray)) ((((IntKind.wrap .i64 ((bif (decide ((((lenE 2 ((fieldsV line (⟨#[]⟩ : ByteArray))).length) : Nat) : Int) < o0)) then (((lenE 2 ((fieldsV line (⟨#[]⟩ : ByteArray))).length) : Nat) : Int) else o0) - 1))).toNat * 2) + 1))) + o1)))).toNat (((line.size : Nat) : Int)).toNat).size : Nat) : Int)))) && true) && true) then
                bif o3 then
                  bif ((decide (((line.extract ((bif (decide (((line.size : Nat) : Int) < (IntKind.wrap .i64 ((V.intOf (nthV (fieldsV line (⟨#[]⟩ : ByteArray)) ((((IntKind.wrap .i64 ((bif (decide ((((lenE 2 ((fieldsV line (⟨#[]⟩ : ByteArray))).length) : Nat) : Int) < o0)) then (((lenE 2 ((fieldsV line (⟨#[]⟩ : ByteArray))).length) : Nat) : Int) else o0) - 1))).toNat * 2) + 1))) + o1)))) then ((line.size : Nat) : Int) else (IntKind.wrap .i64 ((V.intOf (nthV (fieldsV line (⟨#[]⟩ : ByteArray)) ((((IntKind.wrap .i64 ((bif (decide ((((lenE 2 ((fieldsV line (⟨#[]⟩ : ByteArray))).length) : Nat) : Int) < o0)) then (((lenE 2 ((fieldsV line (⟨#[]⟩ : ByteArray))).length) : Nat) : Int) else o0) - 1))).toNat * 2) + 1))) + o1)))).toNat (((line.size : Nat) : Int)).toNat).extract 0 ((bif (decide ((((line.extract ((bif (decide (((line.size : Nat) : Int) < (IntKind.wrap .i64 ((V.intOf (nthV (fieldsV line (⟨#[]⟩ : ByteArray)) ((((IntKind.wrap .i64 ((bif (decide ((((lenE 2 ((fieldsV line (⟨#[]⟩ : ByteArray))).length) : Nat) : Int) < o0)) then (((lenE 2 ((fieldsV line (⟨#[]⟩ : ByteArray))).length) : Nat) : Int) else o0) - 1))).toNat * 2) + 1))) + o1)))) then ((line.size : Nat) : Int) else (IntKind.wrap .i64 ((V.intOf (nthV (fieldsV line (⟨#[]⟩ : ByteArray)) ((((IntKind.wrap .i64 ((bif (decide ((((lenE 2 ((fieldsV line (⟨#[]⟩ : ByteArray))).length) : Nat) : Int) < o0)) then (((lenE 2 ((fieldsV line (⟨#[]⟩ : ByteArray))).length) : Nat) : Int) else o0) - 1))).toNat * 2) + 1))) + o1)))).toNat (((line.size : Nat) : Int)).toNat).size : Nat) : Int) < o2)) then (((line.extract ((bif (decide (((line.size : Nat) : Int) < (IntKind.wrap .i64 ((V.intOf (nthV (fieldsV line (⟨#[]⟩ : ByteArray)) ((((IntKind.wrap .i64 ((bif (decide ((((lenE 2 ((fieldsV line (⟨#[]⟩ : ByteArray))).length) : Nat) : Int) < o0)) then (((lenE 2 ((fieldsV line (⟨#[]⟩ : ByteArray))).length) : Nat) : Int) else o0) - 1))).toNat * 2) + 1))) + o1)))) then ((line.size : Nat) : Int) else (IntKind.wrap .i64 ((V.intOf (nthV (fieldsV line (⟨#[]⟩ : ByteArray)) ((((IntKind.wrap .i64 ((bif (decide ((((lenE 2 ((fieldsV line (⟨#[]⟩ : ByteArray))).length) : Nat) : Int) < o0)) then (((lenE 2 ((fieldsV line (⟨#[]⟩ : ByteArray))).length) : Nat) : Int) else o0) - 1))).toNat * 2) + 1))) + o1)))).toNat (((line.size : Nat) : Int)).toNat).size : Nat) : Int) else o2)).toNat).size ≤ 1000000000)) && true) then
                    some (.sc (.string (capB ((line.extract ((bif (decide (((line.size : Nat) : Int) < (IntKind.wrap .i64 ((V.intOf (nthV (fieldsV line (⟨#[]⟩ : ByteArray)) ((((IntKind.wrap .i64 ((bif (decide ((((lenE 2 ((fieldsV line (⟨#[]⟩ : ByteArray))).length) : Nat) : Int) < o0)) then (((lenE 2 ((fieldsV line (⟨#[]⟩ : ByteArray))).length) : Nat) : Int) else o0) - 1))).toNat * 2) + 1))) + o1)))) then ((line.size : Nat) : Int) else (IntKind.wrap .i64 ((V.intOf (nthV (fieldsV line (⟨#[]⟩ : ByteArray)) ((((IntKind.wrap .i64 ((bif (decide ((((lenE 2 ((fieldsV line (⟨#[]⟩ : ByteArray))).length) : Nat) : Int) < o0)) then (((lenE 2 ((fieldsV line (⟨#[]⟩ : ByteArray))).length) : Nat) : Int) else o0) - 1))).toNat * 2) + 1))) + o1)))).toNat (((line.size : Nat) : Int)).toNat).extract 0 ((bif (decide ((((line.extract ((bif (decide (((line.size : Nat) : Int) < (IntKind.wrap .i64 ((V.intOf (nthV (fieldsV line (⟨#[]⟩ : ByteArray)) ((((IntKind.wrap .i64 ((bif (decide ((((lenE 2 ((fieldsV line (⟨#[]⟩ : ByteArray))).length) : Nat) : Int) < o0)) then (((lenE 2 ((fieldsV line (⟨#[]⟩ : ByteArray))).length) : Nat) : Int) else o0) - 1))).toNat * 2) + 1))) + o1)))) then ((line.size : Nat) : Int) else (IntKind.wrap .i64 ((V.intOf (nthV (fieldsV line (⟨#[]⟩ : ByteArray)) ((((IntKind.wrap .i64 ((bif (decide ((((lenE 2 ((fieldsV line (⟨#[]⟩ : ByteArray))).length) : Nat) : Int) < o0)) then (((lenE 2 ((fieldsV line (⟨#[]⟩ : ByteArray))).length) : Nat) : Int) else o0) - 1))).toNat * 2) + 1))) + o1)))).toNat (((line.size : Nat) : Int)).toNat).size : Nat) : Int) < o2)) then (((line.extract ((bif (decide (((line.size : Nat) : Int) < (IntKind.wrap .i64 ((V.intOf (nthV (fieldsV line (⟨#[]⟩ : ByteArray)) ((((IntKind.wrap .i64 ((bif (decide ((((lenE 2 ((fieldsV line (⟨#[]⟩ : ByteArray))).length) : Nat) : Int) < o0)) then (((lenE 2 ((fieldsV line (⟨#[]⟩ : ByteArray))).length) : Nat) : Int) else o0) - 1))).toNat * 2) + 1))) + o1)))) then ((line.size : Nat) : Int) else (IntKind.wrap .i64 ((V.intOf (nthV (fieldsV line (⟨#[]⟩ : ByteArray)) ((((IntKind.wrap .i64 ((bif (decide ((((lenE 2 ((fieldsV line (⟨#[]⟩ : ByteArray))).length) : Nat) : Int) < o0)) then (((lenE 2 ((fieldsV line (⟨#[]⟩ : ByteArray))).length) : Nat) : Int) else o0) - 1))).toNat * 2) + 1))) + o1)))).toNat (((line.size : Nat) : Int)).toNat).size : Nat) : Int) else o2)).toNat))), [])
                  else none
                else
                  some (.sc (.string ((line.extract ((bif (decide (((line.size : Nat) : Int) < (IntKind.wrap .i64 ((V.intOf (nthV (fieldsV line (⟨#[]⟩ : ByteArray)) ((((IntKind.wrap .i64 ((bif (decide ((((lenE 2 ((fieldsV line (⟨#[]⟩ : ByteArray))).length) : Nat) : Int) < o0)) then (((lenE 2 ((fieldsV line (⟨#[]⟩ : ByteArray))).length) : Nat) : Int) else o0) - 1))).toNat * 2) + 1))) + o1)))) then ((line.size : Nat) : Int) else (IntKind.wrap .i64 ((V.intOf (nthV (fieldsV line (⟨#[]⟩ : ByteArray)) ((((IntKind.wrap .i64 ((bif (decide ((((lenE 2 ((fieldsV line (⟨#[]⟩ : ByteArray))).length) : Nat) : Int) < o0)) then (((lenE 2 ((fieldsV line (⟨#[]⟩ : ByteArray))).length) : Nat) : Int) else o0) - 1))).toNat * 2) + 1))) + o1)))).toNat (((line.size : Nat) : Int)).toNat).extract 0 ((bif (decide ((((line.extract ((bif (decide (((line.size : Nat) : Int) < (IntKind.wrap .i64 ((V.intOf (nthV (fieldsV line (⟨#[]⟩ : ByteArray)) ((((IntKind.wrap .i64 ((bif (decide ((((lenE 2 ((fieldsV line (⟨#[]⟩ : ByteArray))).length) : Nat) : Int) < o0)) then (((lenE 2 ((fieldsV line (⟨#[]⟩ : ByteArray))).length) : Nat) : Int) else o0) - 1))).toNat * 2) + 1))) + o1)))) then ((line.size : Nat) : Int) else (IntKind.wrap .i64 ((V.intOf (nthV (fieldsV line (⟨#[]⟩ : ByteArray)) ((((IntKind.wrap .i64 ((bif (decide ((((lenE 2 ((fieldsV line (⟨#[]⟩ : ByteArray))).length) : Nat) : Int) < o0)) then (((lenE 2 ((fieldsV line (⟨#[]⟩ : ByteArray))).length) : Nat) : Int) else o0) - 1))).toNat * 2) + 1))) + o1)))).toNat (((line.size : Nat) : Int)).toNat).size : Nat) : Int) < o2)) then (((line.extract ((bif (decide (((line.size : Nat) : Int) < (IntKind.wrap .i64 ((V.intOf (nthV (fieldsV line (⟨#[]⟩ : ByteArray)) ((((IntKind.wrap .i64 ((bif (decide ((((lenE 2 ((fieldsV line (⟨#[]⟩ : ByteArray))).length) : Nat) : Int) < o0)) then (((lenE 2 ((fieldsV line (⟨#[]⟩ : ByteArray))).length) : Nat) : Int) else o0) - 1))).toNat * 2) + 1))) + o1)))) then ((line.size : Nat) : Int) else (IntKind.wrap .i64 ((V.intOf (nthV (fieldsV line (⟨#[]⟩ : ByteArray)) ((((IntKind.wrap .i64 ((bif (decide ((((lenE 2 ((fieldsV line (⟨#[]⟩ : ByteArray))).length) : Nat) : Int) < o0)) then (((lenE 2 ((fieldsV line (⟨#[]⟩ : ByteArray))).length) : Nat) : Int) else o0) - 1))).toNat * 2) + 1))) + o1)))).toNat (((line.size : Nat) : Int)).toNat).size : Nat) : Int) else o2)).toNat)), [])
              else none
            else
              bif o3 then
                bif ((decide ((line.extract ((bif (decide (((line.size : Nat) : Int) < (IntKind.wrap .i64 ((V.intOf (nthV (fieldsV line (⟨#[]⟩ : ByteArray)) ((((IntKind.wrap .i64 ((bif (decide ((((lenE 2 ((fieldsV line (⟨#[]⟩ : ByteArray))).length) : Nat) : Int) < o0)) then (((lenE 2 ((fieldsV line (⟨#[]⟩ : ByteArray))).length) : Nat) : Int) else o0) - 1))).toNat * 2) + 1))) + o1)))) then ((line.size : Nat) : Int) else (IntKind.wrap .i64 ((V.intOf (nthV (fieldsV line (⟨#[]⟩ : ByteArray)) ((((IntKind.wrap .i64 ((bif (decide ((((lenE 2 ((fieldsV line (⟨#[]⟩ : ByteArray))).length) : Nat) : Int) < o0)) then (((lenE 2 ((fieldsV line (⟨#[]⟩ : ByteArray))).length) : Nat) : Int) else o0) - 1))).toNat * 2) + 1))) + o1)))).toNat (((line.size : Nat) : Int)).toNat).size ≤ 1000000000)) && true) then
                  some (.sc (.string (capB (line.extract ((bif (decide (((line.size : Nat) : Int) < (IntKind.wrap .i64 ((V.intOf (nthV (fieldsV line (⟨#[]⟩ : ByteArray)) ((((IntKind.wrap .i64 ((bif (decide ((((lenE 2 ((fieldsV line (⟨#[]⟩ : ByteArray))).length) : Nat) : Int) < o0)) then (((lenE 2 ((fieldsV line (⟨#[]⟩ : ByteArray))).length) : Nat) : Int) else o0) - 1))).toNat * 2) + 1))) + o1)))) then ((line.size : Nat) : Int) else (IntKind.wrap .i64 ((V.intOf (nthV (fieldsV line (⟨#[]⟩ : ByteArray)) ((((IntKind.wrap .i64 ((bif (decide ((((lenE 2 ((fieldsV line (⟨#[]⟩ : ByteArray))).length) : Nat) : Int) < o0)) then (((lenE 2 ((fieldsV line (⟨#[]⟩ : ByteArray))).length) : Nat) : Int) else o0) - 1))).toNat * 2) + 1))) + o1)))).toNat (((line.size : Nat) : Int)).toNat))), [])
                else none
              else
                some (.sc (.string (line.extract ((bif (decide (((line.size : Nat) : Int) < (IntKind.wrap .i64 ((V.intOf (nthV (fieldsV line (⟨#[]⟩ : ByteArray)) ((((IntKind.wrap .i64 ((bif (decide ((((lenE 2 ((fieldsV line (⟨#[]⟩ : ByteArray))).length) : Nat) : Int) < o0)) then (((lenE 2 ((fieldsV line (⟨#[]⟩ : ByteArray))).length) : Nat) : Int) else o0) - 1))).toNat * 2) + 1))) + o1)))) then ((line.size : Nat) : Int) else (IntKind.wrap .i64 ((V.intOf (nthV (fieldsV line (⟨#[]⟩ : ByteArray)) ((((IntKind.wrap .i64 ((bif (decide ((((lenE 2 ((fieldsV line (⟨#[]⟩ : ByteArray))).length) : Nat) : Int) < o0)) then (((lenE 2 ((fieldsV line (⟨#[]⟩ : ByteArray))).length) : Nat) : Int) else o0) - 1))).toNat * 2) + 1))) + o1)))).toNat (((line.size : Nat) : Int)).toNat)), [])
          else none
        else none
      else none
    else
      bif ((((decide ((0 : Int) ≤ (bif (decide (((line.size : Nat) : Int) < (IntKind.wrap .i64 ((0 : Int) + o1)))) then ((line.size : Nat) : Int) else (IntKind.wrap .i64 ((0 : Int) + o1))))) && (decide ((bif (decide (((line.size : Nat) : Int) < (IntKind.wrap .i64 ((0 : Int) + o1)))) then ((line.size : Nat) : Int) else (IntKind.wrap .i64 ((0 : Int) + o1))) ≤ ((line.size : Nat) : Int)))) && true) && true) then
        bif (decide (o2 > 0)) then
          bif ((((decide ((0 : Int) ≤ (bif (decide ((((line.extract ((bif (decide (((line.size : Nat) : Int) < (IntKind.wrap .i64 ((0 : Int) + o1)))) then ((line.size : Nat) : Int) else (IntKind.wrap .i64 ((0 : Int) + o1)))).toNat (((line.size : Nat) : Int)).toNat).size : Nat) : Int) < o2)) then (((line.extract ((bif (decide (((line.size : Nat) : Int) < (IntKind.wrap .i64 ((0 : Int) + o1)))) then ((line.size : Nat) : Int) else (IntKind.wrap .i64 ((0 : Int) + o1)))).toNat (((line.size : Nat) : Int)).toNat).size : Nat) : Int) else o2))) && (decide ((bif (decide ((((line.extract ((bif (decide (((line.size : Nat) : Int) < (IntKind.wrap .i64 ((0 : Int) + o1)))) then ((line.size : Nat) : Int) else (IntKind.wrap .i64 ((0 : Int) + o1)))).toNat (((line.size : Nat) : Int)).toNat).size : Nat) : Int) < o2)) then (((line.extract ((bif (decide (((line.size : Nat) : Int) < (IntKind.wrap .i64 ((0 : Int) + o1)))) then ((line.size : Nat) : Int) else (IntKind.wrap .i64 ((0 : Int) + o1)))).toNat (((line.size : Nat) : Int)).toNat).size : Nat) : Int) else o2) ≤ (((line.extract ((bif (decide (((line.size : Nat) : Int) < (IntKind.wrap .i64 ((0 : Int) + o1)))) then ((line.size : Nat) : Int) else (IntKind.wrap .i64 ((0 : Int) + o1)))).toNat (((line.size : Nat) : Int)).toNat).size : Nat) : Int)))) && true) && true) then
            bif o3 then
              bif ((decide (((line.extract ((bif (decide (((line.size : Nat) : Int) < (IntKind.wrap .i64 ((0 : Int) + o1)))) then ((line.size : Nat) : Int) else (IntKind.wrap .i64 ((0 : Int) + o1)))).toNat (((line.size : Nat) : Int)).toNat).extract 0 ((bif (decide ((((line.extract ((bif (decide (((line.size : Nat) : Int) < (IntKind.wrap .i64 ((0 : Int) + o1)))) then ((line.size : Nat) : Int) else (IntKind.wrap .i64 ((0 : Int) + o1)))).toNat (((line.size : Nat) : Int)).toNat).size : Nat) : Int) < o2)) then (((line.extract ((bif (decide (((line.size : Nat) : Int) < (IntKind.wrap .i64 ((0 : Int) + o1)))) then ((line.size : Nat) : Int) else (IntKind.wrap .i64 ((0 : Int) + o1)))).toNat (((line.size : Nat) : Int)).toNat).size : Nat) : Int) else o2)).toNat).size ≤ 1000000000)) && true) then
                some (.sc (.string (capB ((line.extract ((bif (decide (((line.size : Nat) : Int) < (IntKind.wrap .i64 ((0 : Int) + o1)))) then ((line.size : Nat) : Int) else (IntKind.wrap .i64 ((0 : Int) + o1)))).toNat (((line.size : Nat) : Int)).toNat).extract 0 ((bif (decide ((((line.extract ((bif (decide (((line.size : Nat) : Int) < (IntKind.wrap .i64 ((0 : Int) + o1)))) then ((line.size : Nat) : Int) else (IntKind.wrap .i64 ((0 : Int) + o1)))).toNat (((line.size : Nat) : Int)).toNat).size : Nat) : Int) < o2)) then (((line.extract ((bif (decide (((line.size : Nat) : Int) < (IntKind.wrap .i64 ((0 : Int) + o1)))) then ((line.size : Nat) : Int) else (IntKind.wrap .i64 ((0 : Int) + o1)))).toNat (((line.size : Nat) : Int)).toNat).size : Nat) : Int) else o2)).toNat))), [])
              else none
            else
              some (.sc (.string ((line.extract ((bif (decide (((line.size : Nat) : Int) < (IntKind.wrap .i64 ((0 : Int) + o1)))) then ((line.size : Nat) : Int) else (IntKind.wrap .i64 ((0 : Int) + o1)))).toNat (((line.size : Nat) : Int)).toNat).extract 0 ((bif (decide ((((line.extract ((bif (decide (((line.size : Nat) : Int) < (IntKind.wrap .i64 ((0 : Int) + o1)))) then ((line.size : Nat) : Int) else (IntKind.wrap .i64 ((0 : Int) + o1)))).toNat (((line.size : Nat) : Int)).toNat).size : Nat) : Int) < o2)) then (((line.extract ((bif (decide (((line.size : Nat) : Int) < (IntKind.wrap .i64 ((0 : Int) + o1)))) then ((line.size : Nat) : Int) else (IntKind.wrap .i64 ((0 : Int) + o1)))).toNat (((line.size : Nat) : Int)).toNat).size : Nat) : Int) else o2)).toNat)), [])
          else none
        else
          bif o3 then
            bif ((decide ((line.extract ((bif (decide (((line.size : Nat) : Int) < (IntKind.wrap .i64 ((0 : Int) + o1)))) then ((line.size : Nat) : Int) else (IntKind.wrap .i64 ((0 : Int) + o1)))).toNat (((line.size : Nat) : Int)).toNat).size ≤ 1000000000)) && true) then
              some (.sc (.string (capB (line.extract ((bif (decide (((line.size : Nat) : Int) < (IntKind.wrap .i64 ((0 : Int) + o1)))) then ((line.size : Nat) : Int) else (IntKind.wrap .i64 ((0 : Int) + o1)))).toNat (((line.size : Nat) : Int)).toNat))), [])
            else none
          else
            some (.sc (.string (line.extract ((bif (decide (((line.size : Nat) : Int) < (IntKind.wrap .i64 ((0 : Int) + o1)))) then ((line.size : Nat) : Int) else (IntKind.wrap .i64 ((0 : Int) + o1)))).toNat (((line.size : Nat) : Int)).toNat)), [])
      else none
  else none
theorem f41_run (o0 : Int) (o1 : Int) (o2 : Int) (o3 : Bool) (o4 : Bool) (o5 : Bool) (o6 : Bool) (line : ByteArray) (z9 : V × List Rg) (h : f41 o0 o1 o2 o3 o4 o5 o6 line = some z9) : CallR C prim 41 [.ag [.sc (.int .i64 o0), .sc (.int .i64 o1), .sc (.int .i64 o2), .sc (.bool o3), .sc (.bool o4), .sc (.bool o5), .sc (.bool o6)], .sc (.string line)] [] z9 := by
  refine call_fn (K := K_f41) (T := T_f41) K_f41_ok T_f41_ok (by kernel_rfl) ?_
  refine Eq.trans ?_ h
  kernel_rfl

theorem tail41 (E : ByteArray) (B : Int) (fold : Bool) (h : E.size ≤ 1000000000) : (bif (decide (B > 0)) then
      bif ((((decide ((0 : Int) ≤ mnI ((E.size : Nat) : Int) B)) && (decide (mnI ((E.size : Nat) : Int) B ≤ ((E.size : Nat) : Int)))) && true) && true) then
        bif fold then
          bif ((decide ((E.extract 0 (mnI ((E.size : Nat) : Int) B).toNat).size ≤ 1000000000)) && true) then
            some (V.sc (.string (capB (E.extract 0 (mnI ((E.size : Nat) : Int) B).toNat))), ([] : List Rg))
          else none
        else
          some (.sc (.string (E.extract 0 (mnI ((E.size : Nat) : Int) B).toNat)), [])
      else none
    else
      bif fold then
        bif ((decide (E.size ≤ 1000000000)) && true) then
          some (.sc (.string (capB E)), [])
        else none
      else
        some (.sc (.string E), [])) = some (.sc (.string (keyT E B fold)), []) := by
  have hx : ∀ n, (E.extract 0 n).size ≤ 1000000000 := fun n => Nat.le_trans (ext_le E 0 n) h
  have hm := mnI_eq ((E.size : Nat) : Int) B
  unfold keyT clipT
  rw [dec_true h, dec_true (hx _)]
  by_cases h1 : B > 0
  · rw [dec_true h1, dec_true (show (0 : Int) ≤ mnI ((E.size : Nat) : Int) B by omega), dec_true (show mnI ((E.size : Nat) : Int) B ≤ ((E.size : Nat) : Int) by omega)]
    by_cases h2 : B < ((E.size : Nat) : Int)
    · rw [dec_true h2, show mnI ((E.size : Nat) : Int) B = B by omega]
      cases fold <;> rfl
    · have he : E.extract 0 (mnI ((E.size : Nat) : Int) B).toNat = E := by
        rw [show (mnI ((E.size : Nat) : Int) B).toNat = E.size by omega, ext_tail]
        exact ba_ext (by rw [List.drop_zero]; rfl)
      rw [dec_false h2, he]
      cases fold <;> rfl
  · rw [dec_false h1]
    cases fold <;> rfl
theorem f41_eq (o0 : Int) (o1 : Int) (o2 : Int) (o3 : Bool) (o4 : Bool) (o5 : Bool) (o6 : Bool) (line : ByteArray) (hp : (okU o0 o1 o2 && decide (line.size ≤ 1000000000)) = true) : f41 o0 o1 o2 o3 o4 o5 o6 line = some (.sc (.string (keyU o0 o1 o2 o3 line)), []) := by
  simp only [Bool.and_eq_true, decide_eq_true_eq] at hp
  obtain ⟨h1, h2⟩ := hp
  obtain ⟨⟨f1, f2⟩, ⟨s1, s2⟩, ⟨b1, b2⟩⟩ := okU_spec h1
  obtain ⟨g1, g2⟩ := begU_ok line f1
  have hx : ∀ a, (line.extract a (((line.size : Nat) : Int)).toNat).size ≤ 1000000000 := fun a => Nat.le_trans (ext_le line a _) h2
  have m1 := mnI_eq ((line.size : Nat) : Int) (begU o0 line + o1)
  have hp0 := fldN_pos line
  have w3 : ∀ a b : Int, (bif (decide (a < b)) then a else b) = mnI a b := fun _ _ => rfl
  unfold f41 keyU
  rw [dec_true h2]
  simp only [w3]
  by_cases hF : o0 > 0
  · have hb := begU_snd line hF
    have m2 := mnI_eq ((fldN line : Nat) : Int) o0
    obtain ⟨_, i1, _, _, _⟩ := okSp_at line.size (fieldsV line ⟨#[]⟩) (mnI ((fldN line : Nat) : Int) o0 - 1).toNat (fieldsV_ok line ⟨#[]⟩) (show (mnI ((fldN line : Nat) : Int) o0 - 1).toNat < fldN line by omega)
    have i2 : V.isInt .i64 (nthV (fieldsV line ⟨#[]⟩) ((mnI ((fldN line : Nat) : Int) o0 - 1).toNat * 2 + 1)) = true := i1
    rw [dec_true hF, show ((lenE 2 (fieldsV line ⟨#[]⟩).length : Nat) : Int) = ((fldN line : Nat) : Int) from rfl, wrap_id (n := mnI ((fldN line : Nat) : Int) o0 - 1) (by omega) (by omega), i2, hb, wrap_id (n := begU o0 line + o1) (by omega) (by omega), dec_true (show (0 : Int) ≤ mnI ((fldN line : Nat) : Int) o0 - 1 by omega), dec_true (show mnI ((fldN line : Nat) : Int) o0 - 1 < ((fldN line : Nat) : Int) by omega), dec_true (show (0 : Int) ≤ mnI ((line.size : Nat) : Int) (begU o0 line + o1) by omega), dec_true (show mnI ((line.size : Nat) : Int) (begU o0 line + o1) ≤ ((line.size : Nat) : Int) by omega)]
    exact tail41 _ o2 o3 (hx _)
  · obtain rfl : o0 = 0 := by omega
    have hb : begU 0 line = 0 := (begU_eq line (Int.le_refl 0)).trans (bnd_zero _ _)
    rw [hb] at m1 ⊢
    rw [dec_false hF, wrap_id (n := (0 : Int) + o1) (by omega) (by omega), dec_true (show (0 : Int) ≤ mnI ((line.size : Nat) : Int) ((0 : Int) + o1) by omega), dec_true (show mnI ((line.size : Nat) : Int) ((0 : Int) + o1) ≤ ((line.size : Nat) : Int) by omega)]
    exact tail41 _ o2 o3 (hx _)
def k41 : PrimT := fun vs gs => match vs, gs with
  | [.ag [.sc (.int .i64 o0), .sc (.int .i64 o1), .sc (.int .i64 o2), .sc (.bool o3), .sc (.bool o4), .sc (.bool o5), .sc (.bool o6)], .sc (.string line)], [] => ((okU o0 o1 o2 && decide (line.size ≤ 1000000000)), .sc (.string (keyU o0 o1 o2 o3 line)), [])
  | _, _ => (false, .bad, [])
theorem k41_ok : ∀ vs gs x, k41 vs gs = (true, x) → CallR C prim 41 vs gs x := by
  intro vs gs x h
  unfold k41 at h
  split at h
  · simp only [Prod.mk.injEq] at h
    obtain ⟨hp, rfl⟩ := h
    exact f41_run _ _ _ _ _ _ _ _ _ (f41_eq _ _ _ _ _ _ _ _ hp)
  · cases h

def K_f43 : CallK := kCons 39 k39 <| kCons 75 k75 <| kNil
theorem K_f43_ok : KOK C prim K_f43 := KOK.cons k39_ok <| KOK.cons k75_ok <| KOK.nil
def T_f43 : Tab := tNil
theorem T_f43_ok : TOK C prim 43 T_f43 := TOK.nil
def f43 (o0 : Int) (o1 : Int) (o2 : Int) (o3 : Bool) (o4 : Bool) (o5 : Bool) (o6 : Bool) (line : ByteArray) : Option (V × List Rg) :=
  bif ((decide (line.size ≤ 1000000000)) && true) then
    bif (decide (o0 < (((lenE 2 ((fieldsV line (⟨#[]⟩ : ByteArray))).length) : Nat) : Int))) then
      bif (((decide ((0 : Int) ≤ o0)) && (decide (o0 < (((lenE 2 ((fieldsV line (⟨#[]⟩ : ByteArray))).length) : Nat) : Int)))) && true) then
        bif (((V.isInt .i64 (nthV (fieldsV line (⟨#[]⟩ : ByteArray)) (((o0).toNat * 2) + 0))) && true) && true) then
          bif (decide ((IntKind.wrap .i64 ((V.intOf (nthV (fieldsV line (⟨#[]⟩ : ByteArray)) (((o0).toNat * 2) + 0))) + o1)) > ((line.size : Nat) : Int))) then
            bif ((((decide ((0 : Int) ≤ ((line.size : Nat) : Int))) && (decide (((line.size : Nat) : Int) ≤ ((line.size : Nat) : Int)))) && true) && true) then
              bif (decide (o2 > 0)) then
                bif (decide (o2 < (((line.extract (((line.size : Nat) : Int)).toNat (((line.size : Nat) : Int)).toNat).size : Nat) : Int))) then
                  bif ((((decide ((0 : Int) ≤ o2)) && (decide (o2 ≤ (((line.extract (((line.size : Nat) : Int)).toNat (((line.size : Nat) : Int)).toNat).size : Nat) : Int)))) && true) && true) then
                    bif o3 then
                      bif ((decide (((line.extract (((line.size : Nat) : Int)).toNat (((line.size : Nat) : Int)).toNat).extract 0 (o2).toNat).size ≤ 1000000000)) && true) then
                        some (.sc (.string (capB ((line.extract (((line.size : Nat) : Int)).toNat (((line.size : Nat) : Int)).toNat).extract 0 (o2).toNat))), [])
                      else none
                    else
                      some (.sc (.string ((line.extract (((line.size : Nat) : Int)).toNat (((line.size : Nat) : Int)).toNat).extract 0 (o2).toNat)), [])
                  else none
                else
                  bif o3 then
                    bif ((decide ((line.extract (((line.size : Nat) : Int)).toNat (((line.size : Nat) : Int)).toNat).size ≤ 1000000000)) && true) then
                      some (.sc (.string (capB (line.extract (((line.size : Nat) : Int)).toNat (((line.size : Nat) : Int)).toNat))), [])
                    else none
                  else
                    some (.sc (.string (line.extract (((line.size : Nat) : Int)).toNat (((line.size : Nat) : Int)).toNat)), [])
              else
                bif o3 then
                  bif ((decide ((line.extract (((line.size : Nat) : Int)).toNat (((line.size : Nat) : Int)).toNat).size ≤ 1000000000)) && true) then
                    some (.sc (.string (capB (line.extract (((line.size : Nat) : Int)).toNat (((line.size : Nat) : Int)).toNat))), [])
                  else none
                else
                  some (.sc (.string (line.extract (((line.size : Nat) : Int)).toNat (((line.size : Nat) : Int)).toNat)), [])
            else none
          else
            bif ((((decide ((0 : Int) ≤ (IntKind.wrap .i64 ((V.intOf (nthV (fieldsV line (⟨#[]⟩ : ByteArray)) (((o0).toNat * 2) + 0))) + o1)))) && (decide ((IntKind.wrap .i64 ((V.intOf (nthV (fieldsV line (⟨#[]⟩ : ByteArray)) (((o0).toNat * 2) + 0))) + o1)) ≤ ((line.size : Nat) : Int)))) && true) && true) then
              bif (decide (o2 > 0)) then
                bif (decide (o2 < (((line.extract ((IntKind.wrap .i64 ((V.intOf (nthV (fieldsV line (⟨#[]⟩ : ByteArray)) (((o0).toNat * 2) + 0))) + o1))).toNat (((line.size : Nat) : Int)).toNat).size : Nat) : Int))) then
                  bif ((((decide ((0 : Int) ≤ o2)) && (decide (o2 ≤ (((line.extract ((IntKind.wrap .i64 ((V.intOf (nthV (fieldsV line (⟨#[]⟩ : ByteArray)) (((o0).toNat * 2) + 0))) + o1))).toNat (((line.size : Nat) : Int)).toNat).size : Nat) : Int)))) && true) && true) then
                    bif o3 then
                      bif ((decide (((line.extract ((IntKind.wrap .i64 ((V.intOf (nthV (fieldsV line (⟨#[]⟩ : ByteArray)) (((o0).toNat * 2) + 0))) + o1))).toNat (((line.size : Nat) : Int)).toNat).extract 0 (o2).toNat).size ≤ 1000000000)) && true) then
                        some (.sc (.string (capB ((line.extract ((IntKind.wrap .i64 ((V.intOf (nthV (fieldsV line (⟨#[]⟩ : ByteArray)) (((o0).toNat * 2) + 0))) + o1))).toNat (((line.size : Nat) : Int)).toNat).extract 0 (o2).toNat))), [])
                      else none
                    else
                      some (.sc (.string ((line.extract ((IntKind.wrap .i64 ((V.intOf (nthV (fieldsV line (⟨#[]⟩ : ByteArray)) (((o0).toNat * 2) + 0))) + o1))).toNat (((line.size : Nat) : Int)).toNat).extract 0 (o2).toNat)), [])
                  else none
                else
                  bif o3 then
                    bif ((decide ((line.extract ((IntKind.wrap .i64 ((V.intOf (nthV (fieldsV line (⟨#[]⟩ : ByteArray)) (((o0).toNat * 2) + 0))) + o1))).toNat (((line.size : Nat) : Int)).toNat).size ≤ 1000000000)) && true) then
                      some (.sc (.string (capB (line.extract ((IntKind.wrap .i64 ((V.intOf (nthV (fieldsV line (⟨#[]⟩ : ByteArray)) (((o0).toNat * 2) + 0))) + o1))).toNat (((line.size : Nat) : Int)).toNat))), [])
                    else none
                  else
                    some (.sc (.string (line.extract ((IntKind.wrap .i64 ((V.intOf (nthV (fieldsV line (⟨#[]⟩ : ByteArray)) (((o0).toNat * 2) + 0))) + o1))).toNat (((line.size : Nat) : Int)).toNat)), [])
              else
                bif o3 then
                  bif ((decide ((line.extract ((IntKind.wrap .i64 ((V.intOf (nthV (fieldsV line (⟨#[]⟩ : ByteArray)) (((o0).toNat * 2) + 0))) + o1))).toNat (((line.size : Nat) : Int)).toNat).size ≤ 1000000000)) && true) then
                    some (.sc (.string (capB (line.extract ((IntKind.wrap .i64 ((V.intOf (nthV (fieldsV line (⟨#[]⟩ : ByteArray)) (((o0).toNat * 2) + 0))) + o1))).toNat (((line.size : Nat) : Int)).toNat))), [])
                  else none
                else
                  some (.sc (.string (line.extract ((IntKind.wrap .i64 ((V.intOf (nthV (fieldsV line (⟨#[]⟩ : ByteArray)) (((o0).toNat * 2) + 0))) + o1))).toNat (((line.size : Nat) : Int)).toNat)), [])
            else none
        else none
      else none
    else
      bif (decide ((IntKind.wrap .i64 (((line.size : Nat) : Int) + o1)) > ((line.size : Nat) : Int))) then
        bif ((((decide ((0 : Int) ≤ ((line.size : Nat) : Int))) && (decide (((line.size : Nat) : Int) ≤ ((line.size : Nat) : Int)))) && true) && true) then
          bif (decide (o2 > 0)) then
            bif (decide (o2 < (((line.extract (((line.size : Nat) : Int)).toNat (((line.size : Nat) : Int)).toNat).size : Nat) : Int))) then
              bif ((((decide ((0 : Int) ≤ o2)) && (decide (o2 ≤ (((line.extract (((line.size : Nat) : Int)).toNat (((line.size : Nat) : Int)).toNat).size : Nat) : Int)))) && true) && true) then
                bif o3 then
                  bif ((decide (((line.extract (((line.size : Nat) : Int)).toNat (((line.size : Nat) : Int)).toNat).extract 0 (o2).toNat).size ≤ 1000000000)) && true) then
                    some (.sc (.string (capB ((line.extract (((line.size : Nat) : Int)).toNat (((line.size : Nat) : Int)).toNat).extract 0 (o2).toNat))), [])
                  else none
                else
                  some (.sc (.string ((line.extract (((line.size : Nat) : Int)).toNat (((line.size : Nat) : Int)).toNat).extract 0 (o2).toNat)), [])
              else none
            else
              bif o3 then
                bif ((decide ((line.extract (((line.size : Nat) : Int)).toNat (((line.size : Nat) : Int)).toNat).size ≤ 1000000000)) && true) then
                  some (.sc (.string (capB (line.extract (((line.size : Nat) : Int)).toNat (((line.size : Nat) : Int)).toNat))), [])
                else none
              else
                some (.sc (.string (line.extract (((line.size : Nat) : Int)).toNat (((line.size : Nat) : Int)).toNat)), [])
          else
            bif o3 then
              bif ((decide ((line.extract (((line.size : Nat) : Int)).toNat (((line.size : Nat) : Int)).toNat).size ≤ 1000000000)) && true) then
                some (.sc (.string (capB (line.extract (((line.size : Nat) : Int)).toNat (((line.size : Nat) : Int)).toNat))), [])
              else none
            else
              some (.sc (.string (line.extract (((line.size : Nat) : Int)).toNat (((line.size : Nat) : Int)).toNat)), [])
        else none
      else
        bif ((((decide ((0 : Int) ≤ (IntKind.wrap .i64 (((line.size : Nat) : Int) + o1)))) && (decide ((IntKind.wrap .i64 (((line.size : Nat) : Int) + o1)) ≤ ((line.size : Nat) : Int)))) && true) && true) then
          bif (decide (o2 > 0)) then
            bif (decide (o2 < (((line.extract ((IntKind.wrap .i64 (((line.size : Nat) : Int) + o1))).toNat (((line.size : Nat) : Int)).toNat).size : Nat) : Int))) then
              bif ((((decide ((0 : Int) ≤ o2)) && (decide (o2 ≤ (((line.extract ((IntKind.wrap .i64 (((line.size : Nat) : Int) + o1))).toNat (((line.size : Nat) : Int)).toNat).size : Nat) : Int)))) && true) && true) then
                bif o3 then
                  bif ((decide (((line.extract ((IntKind.wrap .i64 (((line.size : Nat) : Int) + o1))).toNat (((line.size : Nat) : Int)).toNat).extract 0 (o2).toNat).size ≤ 1000000000)) && true) then
                    some (.sc (.string (capB ((line.extract ((IntKind.wrap .i64 (((line.size : Nat) : Int) + o1))).toNat (((line.size : Nat) : Int)).toNat).extract 0 (o2).toNat))), [])
                  else none
                else
                  some (.sc (.string ((line.extract ((IntKind.wrap .i64 (((line.size : Nat) : Int) + o1))).toNat (((line.size : Nat) : Int)).toNat).extract 0 (o2).toNat)), [])
              else none
            else
              bif o3 then
                bif ((decide ((line.extract ((IntKind.wrap .i64 (((line.size : Nat) : Int) + o1))).toNat (((line.size : Nat) : Int)).toNat).size ≤ 1000000000)) && true) then
                  some (.sc (.string (capB (line.extract ((IntKind.wrap .i64 (((line.size : Nat) : Int) + o1))).toNat (((line.size : Nat) : Int)).toNat))), [])
                else none
              else
                some (.sc (.string (line.extract ((IntKind.wrap .i64 (((line.size : Nat) : Int) + o1))).toNat (((line.size : Nat) : Int)).toNat)), [])
          else
            bif o3 then
              bif ((decide ((line.extract ((IntKind.wrap .i64 (((line.size : Nat) : Int) + o1))).toNat (((line.size : Nat) : Int)).toNat).size ≤ 1000000000)) && true) then
                some (.sc (.string (capB (line.extract ((IntKind.wrap .i64 (((line.size : Nat) : Int) + o1))).toNat (((line.size : Nat) : Int)).toNat))), [])
              else none
            else
              some (.sc (.string (line.extract ((IntKind.wrap .i64 (((line.size : Nat) : Int) + o1))).toNat (((line.size : Nat) : Int)).toNat)), [])
        else none
  else none
theorem f43_run (o0 : Int) (o1 : Int) (o2 : Int) (o3 : Bool) (o4 : Bool) (o5 : Bool) (o6 : Bool) (line : ByteArray) (z9 : V × List Rg) (h : f43 o0 o1 o2 o3 o4 o5 o6 line = some z9) : CallR C prim 43 [.ag [.sc (.int .i64 o0), .sc (.int .i64 o1), .sc (.int .i64 o2), .sc (.bool o3), .sc (.bool o4), .sc (.bool o5), .sc (.bool o6)], .sc (.string line)] [] z9 := by
  refine call_fn (K := K_f43) (T := T_f43) K_f43_ok T_f43_ok (by kernel_rfl) ?_
  refine Eq.trans ?_ h
  kernel_rfl

theorem tail43 (E : ByteArray) (B : Int) (fold : Bool) (h : E.size ≤ 1000000000) : (bif (decide (B > 0)) then
      bif (decide (B < ((E.size : Nat) : Int))) then
        bif ((((decide ((0 : Int) ≤ B)) && (decide (B ≤ ((E.size : Nat) : Int)))) && true) && true) then
          bif fold then
            bif ((decide ((E.extract 0 (B).toNat).size ≤ 1000000000)) && true) then
              some (V.sc (.string (capB (E.extract 0 (B).toNat))), ([] : List Rg))
            else none
          else
            some (.sc (.string (E.extract 0 (B).toNat)), [])
        else none
      else
        bif fold then
          bif ((decide (E.size ≤ 1000000000)) && true) then
            some (.sc (.string (capB E)), [])
          else none
        else
          some (.sc (.string E), [])
    else
      bif fold then
        bif ((decide (E.size ≤ 1000000000)) && true) then
          some (.sc (.string (capB E)), [])
        else none
      else
        some (.sc (.string E), [])) = some (.sc (.string (keyT E B fold)), []) := by
  have hx := ext_le E 0 B.toNat
  unfold keyT clipT
  rw [dec_true h, dec_true (show (E.extract 0 B.toNat).size ≤ 1000000000 by omega)]
  by_cases h1 : B > 0
  · rw [dec_true h1]
    by_cases h2 : B < ((E.size : Nat) : Int)
    · rw [dec_true h2, dec_true (show (0 : Int) ≤ B by omega), dec_true (show B ≤ ((E.size : Nat) : Int) by omega)]
      cases fold <;> rfl
    · rw [dec_false h2]
      cases fold <;> rfl
  · rw [dec_false h1]
    cases fold <;> rfl
theorem f43_eq (o0 : Int) (o1 : Int) (o2 : Int) (o3 : Bool) (o4 : Bool) (o5 : Bool) (o6 : Bool) (line : ByteArray) (hp : (okU o0 o1 o2 && decide (line.size ≤ 1000000000)) = true) : f43 o0 o1 o2 o3 o4 o5 o6 line = some (.sc (.string (keyU o0 o1 o2 o3 line)), []) := by
  simp only [Bool.and_eq_true, decide_eq_true_eq] at hp
  obtain ⟨h1, h2⟩ := hp
  obtain ⟨⟨f1, f2⟩, ⟨s1, s2⟩, ⟨b1, b2⟩⟩ := okU_spec h1
  obtain ⟨g1, g2⟩ := begU_ok line f1
  have hx : ∀ a, (line.extract a (((line.size : Nat) : Int)).toNat).size ≤ 1000000000 := fun a => Nat.le_trans (ext_le line a _) h2
  have m1 := mnI_eq ((line.size : Nat) : Int) (begU o0 line + o1)
  unfold f43 keyU
  rw [dec_true h2]
  by_cases hF : o0 < ((fldN line : Nat) : Int)
  · have hb : begU o0 line = (nthV (fieldsV line ⟨#[]⟩) (o0.toNat * 2 + 0)).intOf := by unfold begU; rw [dec_true hF]; rfl
    obtain ⟨i1, _, _, _, _⟩ := okSp_at line.size (fieldsV line ⟨#[]⟩) o0.toNat (fieldsV_ok line ⟨#[]⟩) (show o0.toNat < fldN line by omega)
    rw [dec_true (show o0 < ((lenE 2 (fieldsV line ⟨#[]⟩).length : Nat) : Int) from hF), dec_true f1, i1, ← hb, wrap_id (n := begU o0 line + o1) (by omega) (by omega)]
    by_cases hg : begU o0 line + o1 > ((line.size : Nat) : Int)
    · rw [dec_true hg, dec_true (show (0 : Int) ≤ ((line.size : Nat) : Int) by omega), dec_true (show ((line.size : Nat) : Int) ≤ ((line.size : Nat) : Int) by omega), show mnI ((line.size : Nat) : Int) (begU o0 line + o1) = ((line.size : Nat) : Int) by omega]
      exact tail43 _ o2 o3 (hx _)
    · rw [dec_false hg, dec_true (show (0 : Int) ≤ begU o0 line + o1 by omega), dec_true (show begU o0 line + o1 ≤ ((line.size : Nat) : Int) by omega), show mnI ((line.size : Nat) : Int) (begU o0 line + o1) = begU o0 line + o1 by omega]
      exact tail43 _ o2 o3 (hx _)
  · have hb : begU o0 line = ((line.size : Nat) : Int) := by unfold begU; rw [dec_false hF]; rfl
    rw [hb] at m1 ⊢
    rw [dec_false (show ¬ o0 < ((lenE 2 (fieldsV line ⟨#[]⟩).length : Nat) : Int) from hF), wrap_id (n := ((line.size : Nat) : Int) + o1) (by omega) (by omega)]
    by_cases hg : ((line.size : Nat) : Int) + o1 > ((line.size : Nat) : Int)
    · rw [dec_true hg, dec_true (show (0 : Int) ≤ ((line.size : Nat) : Int) by omega), dec_true (show ((line.size : Nat) : Int) ≤ ((line.size : Nat) : Int) by omega), show mnI ((line.size : Nat) : Int) (((line.size : Nat) : Int) + o1) = ((line.size : Nat) : Int) by omega]
      exact tail43 _ o2 o3 (hx _)
    · rw [dec_false hg, dec_true (show (0 : Int) ≤ ((line.size : Nat) : Int) + o1 by omega), dec_true (show ((line.size : Nat) : Int) + o1 ≤ ((line.size : Nat) : Int) by omega), show mnI ((line.size : Nat) : Int) (((line.size : Nat) : Int) + o1) = ((line.size : Nat) : Int) + o1 by omega]
      exact tail43 _ o2 o3 (hx _)
def k43 : PrimT := fun vs gs => match vs, gs with
  | [.ag [.sc (.int .i64 o0), .sc (.int .i64 o1), .sc (.int .i64 o2), .sc (.bool o3), .sc (.bool o4), .sc (.bool o5), .sc (.bool o6)], .sc (.string line)], [] => ((okU o0 o1 o2 && decide (line.size ≤ 1000000000)), .sc (.string (keyU o0 o1 o2 o3 line)), [])
  | _, _ => (false, .bad, [])
theorem k43_ok : ∀ vs gs x, k43 vs gs = (true, x) → CallR C prim 43 vs gs x := by
  intro vs gs x h
  unfold k43 at h
  split at h
  · simp only [Prod.mk.injEq] at h
    obtain ⟨hp, rfl⟩ := h
    exact f43_run _ _ _ _ _ _ _ _ _ (f43_eq _ _ _ _ _ _ _ _ hp)
  · cases h

def K_f17_l0 : CallK := kCons 40 k40 <| kNil
theorem K_f17_l0_ok : KOK C prim K_f17_l0 := KOK.cons k40_ok <| KOK.nil
def T_f17_l0 : Tab := tNil
theorem T_f17_l0_ok : TOK C prim 17 T_f17_l0 := TOK.nil
def f17_l0 : Nat → ByteArray → Int → Int → Int → Int → Int → Bool → Bool → Bool → Bool → List V → (R : Type) → (Ex → St → Option R) → Option R
  | 0, _, _, _, _, _, _, _, _, _, _, _, _, _ => none
  | n + 1, text, v21, v22, o0, o1, o2, o3, o4, o5, o6, r20, R, κ =>
    bif (decide (v22 < v21)) then
      bif (((decide ((0 : Int) ≤ v22)) && (decide (v22 < ((r20.length : Nat) : Int)))) && true) then
        bif (((V.isInt .i64 (nthV r20 (((v22).toNat * 1) + 0))) && true) && true) then
          bif (!(decide ((V.intOf (nthV r20 (((v22).toNat * 1) + 0))) ≥ (0 : Int)) && decide ((V.intOf (nthV r20 (((v22).toNat * 1) + 0))) ≤ (4096 : Int)))) then
            κ .rt (mkS [(1, .sc (.string text)), (2, .ptrB (.loc 2) 0), (4, .sc (.string ⟨#[]⟩)), (5, .sc (.int .i64 3))] [(.loc 2, some ⟨true, [.sc (.int .i64 o0), .sc (.int .i64 o1), .sc (.int .i64 o2), .sc (.bool o3), .sc (.bool o4), .sc (.bool o5), .sc (.bool o6)]⟩)])
          else
            f17_l0 n text v21 (IntKind.wrap .i64 (v22 + 1)) o0 o1 o2 o3 o4 o5 o6 r20 R κ
        else none
      else none
    else
      κ (.ex 0) (mkS [(1, .sc (.string text)), (2, .ptrB (.loc 2) 0), (4, .bad), (5, .bad)] [(.loc 2, some ⟨true, [.sc (.int .i64 o0), .sc (.int .i64 o1), .sc (.int .i64 o2), .sc (.bool o3), .sc (.bool o4), .sc (.bool o5), .sc (.bool o6)]⟩)])
def f17_l0_ls : List (Nat × Pat) := [(1, .s), (2, .is (.ptrB (.loc 2) 0)), (20, .is (.ref ⟨.loc 20, 0, [], 3, false⟩)), (21, .i .i64), (22, .i .i64)]
def f17_l0_rs : List RPat := [⟨.loc 2, true, [.i .i64, .i .i64, .i .i64, .b, .b, .b, .b]⟩, ⟨.loc 20, false, [.own 3 false]⟩]
theorem f17_l0_ok (n : Nat) : ∀ (text : ByteArray) (v21 : Int) (v22 : Int) (o0 : Int) (o1 : Int) (o2 : Int) (o3 : Bool) (o4 : Bool) (o5 : Bool) (o6 : Bool) (r20 : List V) (R : Type) (κ : Ex → St → Option R) (r : R), f17_l0 n text v21 v22 o0 o1 o2 o3 o4 o5 o6 r20 R κ = some r → ∃ ee ss, κ ee ss = some r ∧ RunP C prim 17 [0, 1, 0, 1] (mkS [(1, .sc (.string text)), (2, .ptrB (.loc 2) 0), (20, .ref ⟨.loc 20, 0, [], 3, false⟩), (21, .sc (.int .i64 v21)), (22, .sc (.int .i64 v22))] [(.loc 2, some ⟨true, [.sc (.int .i64 o0), .sc (.int .i64 o1), .sc (.int .i64 o2), .sc (.bool o3), .sc (.bool o4), .sc (.bool o5), .sc (.bool o6)]⟩), (.loc 20, some ⟨false, [.own 3 false r20]⟩)]) ee ss := by
  induction n with
  | zero => intro text v21 v22 o0 o1 o2 o3 o4 o5 o6 r20 R κ r h; cases h
  | succ n ih =>
    intro text v21 v22 o0 o1 o2 o3 o4 o5 o6 r20 R κ r h
    refine loop_round (K := K_f17_l0) (T := T_f17_l0) K_f17_l0_ok T_f17_l0_ok (p := [0, 1, 0, 1]) (by kernel_rfl) (fun st => bif ckS f17_l0_ls f17_l0_rs st then f17_l0 n ((st.env 1).strOf) ((st.env 21).intOf) ((st.env 22).intOf) ((nthV (rowOf (st.regs (.loc 2))) 0).intOf) ((nthV (rowOf (st.regs (.loc 2))) 1).intOf) ((nthV (rowOf (st.regs (.loc 2))) 2).intOf) ((nthV (rowOf (st.regs (.loc 2))) 3).boolOf) ((nthV (rowOf (st.regs (.loc 2))) 4).boolOf) ((nthV (rowOf (st.regs (.loc 2))) 5).boolOf) ((nthV (rowOf (st.regs (.loc 2))) 6).boolOf) ((nthV (rowOf (st.regs (.loc 20))) 0).cellsOf) R κ else none) (fun st0 h0 => ?_) ?_
    · obtain ⟨hs, h0⟩ := cond_some h0
      rw [canon (ls := f17_l0_ls) (rs := f17_l0_rs) (by kernel_rfl) st0 hs]
      exact ih _ _ _ _ _ _ _ _ _ _ _ R κ r h0
    · refine Eq.trans ?_ h
      kernel_rfl

def f17_s0 (text : ByteArray) (v21 : Int) (v22 : Int) (o0 : Int) (o1 : Int) (o2 : Int) (o3 : Bool) (o4 : Bool) (o5 : Bool) (o6 : Bool) (r20 : List V) (R : Type) (κ : Ex → St → Option R) : Option R :=
  bif (r20.all rngV) then
    κ (.ex 0) (mkS [(1, .sc (.string text)), (2, .ptrB (.loc 2) 0), (4, .bad), (5, .bad)] [(.loc 2, some ⟨true, [.sc (.int .i64 o0), .sc (.int .i64 o1), .sc (.int .i64 o2), .sc (.bool o3), .sc (.bool o4), .sc (.bool o5), .sc (.bool o6)]⟩)])
  else
    κ .rt (mkS [(1, .sc (.string text)), (2, .ptrB (.loc 2) 0), (4, .sc (.string ⟨#[]⟩)), (5, .sc (.int .i64 3))] [(.loc 2, some ⟨true, [.sc (.int .i64 o0), .sc (.int .i64 o1), .sc (.int .i64 o2), .sc (.bool o3), .sc (.bool o4), .sc (.bool o5), .sc (.bool o6)]⟩)])
theorem f17_loop0 (text : ByteArray) (o0 o1 o2 : Int) (o3 o4 o5 o6 : Bool) (l : List V) (hl : l.all (V.isInt .i64) = true) (hn : l.length ≤ 1000000000) (R : Type) (κ : Ex → St → Option R) : ∀ (k i : Nat), i + k = l.length →
    f17_l0 (k + 1) text ((l.length : Nat) : Int) ((i : Nat) : Int) o0 o1 o2 o3 o4 o5 o6 l R κ = (bif ((l.drop i).all rngV) then
    κ (.ex 0) (mkS [(1, .sc (.string text)), (2, .ptrB (.loc 2) 0), (4, .bad), (5, .bad)] [(.loc 2, some ⟨true, [.sc (.int .i64 o0), .sc (.int .i64 o1), .sc (.int .i64 o2), .sc (.bool o3), .sc (.bool o4), .sc (.bool o5), .sc (.bool o6)]⟩)])
  else
    κ .rt (mkS [(1, .sc (.string text)), (2, .ptrB (.loc 2) 0), (4, .sc (.string ⟨#[]⟩)), (5, .sc (.int .i64 3))] [(.loc 2, some ⟨true, [.sc (.int .i64 o0), .sc (.int .i64 o1), .sc (.int .i64 o2), .sc (.bool o3), .sc (.bool o4), .sc (.bool o5), .sc (.bool o6)]⟩)]))
  | 0, i, h => by
    rw [f17_l0, dec_false (by omega), List.drop_of_length_le (by omega)]
    rfl
  | k + 1, i, h => by
    have hi : i < l.length := by omega
    have i1 : V.isInt .i64 l[i] = true := List.all_eq_true.1 hl _ (List.getElem_mem hi)
    have IH := f17_loop0 text o0 o1 o2 o3 o4 o5 o6 l hl hn R κ k (i + 1) (by omega)
    have hr : (decide (l[i].intOf ≥ (0 : Int)) && decide (l[i].intOf ≤ (4096 : Int))) = rngV l[i] := rfl
    rw [f17_l0, dec_true (show ((i : Nat) : Int) < ((l.length : Nat) : Int) by omega), dec_true (show (0 : Int) ≤ ((i : Nat) : Int) by omega), nth_at hi, i1, hr, wrap_succ (by omega), List.drop_eq_getElem_cons hi, List.all_cons]
    cases rngV l[i]
    · rfl
    · exact IH
theorem f17_s0_eq (text : ByteArray) (v21 : Int) (v22 : Int) (o0 : Int) (o1 : Int) (o2 : Int) (o3 : Bool) (o4 : Bool) (o5 : Bool) (o6 : Bool) (r20 : List V) (hp : ((v21 == ((r20.length : Nat) : Int)) && (v22 == 0) && r20.all (V.isInt .i64) && decide (r20.length ≤ 1000000000)) = true) : ∃ n, ∀ (R : Type) (κ : Ex → St → Option R), f17_l0 n text v21 v22 o0 o1 o2 o3 o4 o5 o6 r20 R κ = f17_s0 text v21 v22 o0 o1 o2 o3 o4 o5 o6 r20 R κ := by
  simp only [Bool.and_eq_true, decide_eq_true_eq, beq_iff_eq] at hp
  obtain ⟨⟨⟨rfl, rfl⟩, h3⟩, h4⟩ := hp
  exact ⟨r20.length + 1, fun R κ => f17_loop0 text o0 o1 o2 o3 o4 o5 o6 r20 h3 h4 R κ r20.length 0 (by omega)⟩
def t_f17_l0 (st : St) (R : Type) (κ : Ex → St → Option R) : Option R := bif ckS f17_l0_ls f17_l0_rs st then (bif ((((st.env 21).intOf) == ((((nthV (rowOf (st.regs (.loc 20))) 0).cellsOf).length : Nat) : Int)) && (((st.env 22).intOf) == 0) && ((nthV (rowOf (st.regs (.loc 20))) 0).cellsOf).all (V.isInt .i64) && decide (((nthV (rowOf (st.regs (.loc 20))) 0).cellsOf).length ≤ 1000000000)) then f17_s0 ((st.env 1).strOf) ((st.env 21).intOf) ((st.env 22).intOf) ((nthV (rowOf (st.regs (.loc 2))) 0).intOf) ((nthV (rowOf (st.regs (.loc 2))) 1).intOf) ((nthV (rowOf (st.regs (.loc 2))) 2).intOf) ((nthV (rowOf (st.regs (.loc 2))) 3).boolOf) ((nthV (rowOf (st.regs (.loc 2))) 4).boolOf) ((nthV (rowOf (st.regs (.loc 2))) 5).boolOf) ((nthV (rowOf (st.regs (.loc 2))) 6).boolOf) ((nthV (rowOf (st.regs (.loc 20))) 0).cellsOf) R κ else none) else none
theorem t_f17_l0_ok : ∀ st0 R κ r, t_f17_l0 (forget C 17 [0, 1, 0, 1] st0) R κ = some r → ∃ ee ss, κ ee ss = some r ∧ RunP C prim 17 [0, 1, 0, 1] (forget C 17 [0, 1, 0, 1] st0) ee ss := by
  intro st0 R κ r h
  obtain ⟨hs, h⟩ := cond_some h
  obtain ⟨hp, h⟩ := cond_some h
  rw [canon (ls := f17_l0_ls) (rs := f17_l0_rs) (by kernel_rfl) st0 hs]
  obtain ⟨n, hn⟩ := f17_s0_eq _ _ _ _ _ _ _ _ _ _ _ hp
  rw [← hn] at h
  exact f17_l0_ok n _ _ _ _ _ _ _ _ _ _ _ R κ r h

def K_f17_l2 : CallK := kCons 41 k41 <| kNil
theorem K_f17_l2_ok : KOK C prim K_f17_l2 := KOK.cons k41_ok <| KOK.nil
def T_f17_l2 : Tab := tNil
theorem T_f17_l2_ok : TOK C prim 17 T_f17_l2 := TOK.nil
def f17_l2 : Nat → List V → Int → Int → Int → Int → Int → Bool → Bool → Bool → Bool → List V → (R : Type) → (Ex → St → Option R) → Option R
  | 0, _, _, _, _, _, _, _, _, _, _, _, _, _ => none
  | n + 1, all, i, n', o0, o1, o2, o3, o4, o5, o6, out, R, κ =>
    bif (decide ((IntKind.wrap .i64 (i + n')) < ((all.length : Nat) : Int))) then
      bif (((decide ((0 : Int) ≤ (IntKind.wrap .i64 (i + n')))) && (decide ((IntKind.wrap .i64 (i + n')) < ((all.length : Nat) : Int)))) && true) then
        bif (((V.isStr (nthV all ((((IntKind.wrap .i64 (i + n'))).toNat * 1) + 0))) && true) && true) then
          bif ((okU o0 o1 o2 && decide ((V.strOf (nthV all ((((IntKind.wrap .i64 (i + n'))).toNat * 1) + 0))).size ≤ 1000000000)) && true) then
            bif (((decide ((0 : Int) ≤ i)) && (decide (i < ((all.length : Nat) : Int)))) && true) then
              bif (((V.isStr (nthV all (((i).toNat * 1) + 0))) && true) && true) then
                bif ((okU o0 o1 o2 && decide ((V.strOf (nthV all (((i).toNat * 1) + 0))).size ≤ 1000000000)) && true) then
                  bif (strEq (keyU o0 o1 o2 o3 (V.strOf (nthV all ((((IntKind.wrap .i64 (i + n'))).toNat * 1) + 0)))) (keyU o0 o1 o2 o3 (V.strOf (nthV all (((i).toNat * 1) + 0))))) then
                    f17_l2 n all i (IntKind.wrap .i64 (n' + 1)) o0 o1 o2 o3 o4 o5 o6 out R κ
                  else
                    κ (.ex 4) (mkS [(2, .ptrB (.loc 2) 0), (4, .bad), (5, .bad), (9, .sl 1 all), (10, .ref ⟨.loc 10, 0, [], 9, false⟩), (11, .sc (.int .i64 i)), (12, .sc (.int .i64 n'))] [(.loc 2, some ⟨true, [.sc (.int .i64 o0), .sc (.int .i64 o1), .sc (.int .i64 o2), .sc (.bool o3), .sc (.bool o4), .sc (.bool o5), .sc (.bool o6)]⟩), (.loc 10, some ⟨false, [.own 9 false out]⟩)])
                else none
              else none
            else none
          else none
        else none
      else none
    else
      κ (.ex 4) (mkS [(2, .ptrB (.loc 2) 0), (4, .bad), (5, .bad), (9, .sl 1 all), (10, .ref ⟨.loc 10, 0, [], 9, false⟩), (11, .sc (.int .i64 i)), (12, .sc (.int .i64 n'))] [(.loc 2, some ⟨true, [.sc (.int .i64 o0), .sc (.int .i64 o1), .sc (.int .i64 o2), .sc (.bool o3), .sc (.bool o4), .sc (.bool o5), .sc (.bool o6)]⟩), (.loc 10, some ⟨false, [.own 9 false out]⟩)])
def f17_l2_ls : List (Nat × Pat) := [(2, .is (.ptrB (.loc 2) 0)), (9, .sl 1), (10, .is (.ref ⟨.loc 10, 0, [], 9, false⟩)), (11, .i .i64), (12, .i .i64)]
def f17_l2_rs : List RPat := [⟨.loc 2, true, [.i .i64, .i .i64, .i .i64, .b, .b, .b, .b]⟩, ⟨.loc 10, false, [.own 9 false]⟩]
theorem f17_l2_ok (n : Nat) : ∀ (all : List V) (i : Int) (n' : Int) (o0 : Int) (o1 : Int) (o2 : Int) (o3 : Bool) (o4 : Bool) (o5 : Bool) (o6 : Bool) (out : List V) (R : Type) (κ : Ex → St → Option R) (r : R), f17_l2 n all i n' o0 o1 o2 o3 o4 o5 o6 out R κ = some r → ∃ ee ss, κ ee ss = some r ∧ RunP C prim 17 [0, 0, 1, 0, 1, 0, 0, 1, 0, 1, 1, 1, 1, 1] (mkS [(2, .ptrB (.loc 2) 0), (9, .sl 1 all), (10, .ref ⟨.loc 10, 0, [], 9, false⟩), (11, .sc (.int .i64 i)), (12, .sc (.int .i64 n'))] [(.loc 2, some ⟨true, [.sc (.int .i64 o0), .sc (.int .i64 o1), .sc (.int .i64 o2), .sc (.bool o3), .sc (.bool o4), .sc (.bool o5), .sc (.bool o6)]⟩), (.loc 10, some ⟨false, [.own 9 false out]⟩)]) ee ss := by
  induction n with
  | zero => intro all i n' o0 o1 o2 o3 o4 o5 o6 out R κ r h; cases h
  | succ n ih =>
    intro all i n' o0 o1 o2 o3 o4 o5 o6 out R κ r h
    refine loop_round (K := K_f17_l2) (T := T_f17_l2) K_f17_l2_ok T_f17_l2_ok (p := [0, 0, 1, 0, 1, 0, 0, 1, 0, 1, 1, 1, 1, 1]) (by kernel_rfl) (fun st => bif ckS f17_l2_ls f17_l2_rs st then f17_l2 n ((st.env 9).cellsOf) ((st.env 11).intOf) ((st.env 12).intOf) ((nthV (rowOf (st.regs (.loc 2))) 0).intOf) ((nthV (rowOf (st.regs (.loc 2))) 1).intOf) ((nthV (rowOf (st.regs (.loc 2))) 2).intOf) ((nthV (rowOf (st.regs (.loc 2))) 3).boolOf) ((nthV (rowOf (st.regs (.loc 2))) 4).boolOf) ((nthV (rowOf (st.regs (.loc 2))) 5).boolOf) ((nthV (rowOf (st.regs (.loc 2))) 6).boolOf) ((nthV (rowOf (st.regs (.loc 10))) 0).cellsOf) R κ else none) (fun st0 h0 => ?_) ?_
    · obtain ⟨hs, h0⟩ := cond_some h0
      rw [canon (ls := f17_l2_ls) (rs := f17_l2_rs) (by kernel_rfl) st0 hs]
      exact ih _ _ _ _ _ _ _ _ _ _ _ R κ r h0
    · refine Eq.trans ?_ h
      kernel_rfl

def f17_s2 (all : List V) (i : Int) (n' : Int) (o0 : Int) (o1 : Int) (o2 : Int) (o3 : Bool) (o4 : Bool) (o5 : Bool) (o6 : Bool) (out : List V) (R : Type) (κ : Ex → St → Option R) : Option R :=
  κ (.ex 4) (mkS [(2, .ptrB (.loc 2) 0), (4, .bad), (5, .bad), (9, .sl 1 all), (10, .ref ⟨.loc 10, 0, [], 9, false⟩), (11, .sc (.int .i64 i)), (12, .sc (.int .i64 (cntU o0 o1 o2 o3 all i)))] [(.loc 2, some ⟨true, [.sc (.int .i64 o0), .sc (.int .i64 o1), .sc (.int .i64 o2), .sc (.bool o3), .sc (.bool o4), .sc (.bool o5), .sc (.bool o6)]⟩), (.loc 10, some ⟨false, [.own 9 false out]⟩)])
theorem f17_loop2 (o0 o1 o2 : Int) (o3 o4 o5 o6 : Bool) (out l : List V) (hl : l.all shortS = true) (hn : l.length ≤ 1000000) (hu : okU o0 o1 o2 = true) (R : Type) (κ : Ex → St → Option R) (i : Nat) (hi : i < l.length) : ∀ (k j : Nat), i + 1 + j + k = l.length →
    f17_l2 (k + 1) l ((i : Nat) : Int) ((j + 1 : Nat) : Int) o0 o1 o2 o3 o4 o5 o6 out R κ = κ (.ex 4) (mkS [(2, .ptrB (.loc 2) 0), (4, .bad), (5, .bad), (9, .sl 1 l), (10, .ref ⟨.loc 10, 0, [], 9, false⟩), (11, .sc (.int .i64 ((i : Nat) : Int))), (12, .sc (.int .i64 ((j + runU o0 o1 o2 o3 (keyU o0 o1 o2 o3 l[i].strOf) (l.drop (i + 1 + j)) + 1 : Nat) : Int)))] [(.loc 2, some ⟨true, [.sc (.int .i64 o0), .sc (.int .i64 o1), .sc (.int .i64 o2), .sc (.bool o3), .sc (.bool o4), .sc (.bool o5), .sc (.bool o6)]⟩), (.loc 10, some ⟨false, [.own 9 false out]⟩)])
  | 0, j, h => by
    rw [f17_l2, show ((i : Nat) : Int) + ((j + 1 : Nat) : Int) = ((i + 1 + j : Nat) : Int) by omega, wrap_id (n := ((i + 1 + j : Nat) : Int)) (by omega) (by omega), dec_false (show ¬ ((i + 1 + j : Nat) : Int) < ((l.length : Nat) : Int) by omega), List.drop_of_length_le (by omega), runU, Nat.add_zero]
    rfl
  | k + 1, j, h => by
    have hj : i + 1 + j < l.length := by omega
    obtain ⟨i1, i2⟩ := shortS_spec (List.all_eq_true.1 hl _ (List.getElem_mem hi))
    obtain ⟨j1, j2⟩ := shortS_spec (List.all_eq_true.1 hl _ (List.getElem_mem hj))
    have IH := f17_loop2 o0 o1 o2 o3 o4 o5 o6 out l hl hn hu R κ i hi k (j + 1) (by omega)
    rw [show i + 1 + (j + 1) = i + 1 + j + 1 by omega] at IH
    rw [f17_l2, show ((i : Nat) : Int) + ((j + 1 : Nat) : Int) = ((i + 1 + j : Nat) : Int) by omega, wrap_id (n := ((i + 1 + j : Nat) : Int)) (by omega) (by omega), dec_true (show ((i + 1 + j : Nat) : Int) < ((l.length : Nat) : Int) by omega), dec_true (show (0 : Int) ≤ ((i + 1 + j : Nat) : Int) by omega), nth_at hj, nth_at hi, i1, j1, hu, dec_true i2, dec_true j2, dec_true (show (0 : Int) ≤ ((i : Nat) : Int) by omega), dec_true (show ((i : Nat) : Int) < ((l.length : Nat) : Int) by omega), wrap_succ (by omega), List.drop_eq_getElem_cons hj, runU]
    cases strEq (keyU o0 o1 o2 o3 l[i + 1 + j].strOf) (keyU o0 o1 o2 o3 l[i].strOf)
    · rfl
    · rw [show j + 1 + runU o0 o1 o2 o3 (keyU o0 o1 o2 o3 l[i].strOf) (l.drop (i + 1 + j + 1)) + 1 = j + (runU o0 o1 o2 o3 (keyU o0 o1 o2 o3 l[i].strOf) (l.drop (i + 1 + j + 1)) + 1) + 1 by omega] at IH
      exact IH
theorem cntU_at {o0 o1 o2 : Int} {o3 : Bool} {l : List V} {i : Nat} (hi : i < l.length) : cntU o0 o1 o2 o3 l ((i : Nat) : Int) = ((runU o0 o1 o2 o3 (keyU o0 o1 o2 o3 l[i].strOf) (l.drop (i + 1)) + 1 : Nat) : Int) := by
  unfold cntU
  rw [nth_at hi, Int.toNat_natCast, runI_eq]
  omega
theorem f17_s2_eq (all : List V) (i : Int) (n' : Int) (o0 : Int) (o1 : Int) (o2 : Int) (o3 : Bool) (o4 : Bool) (o5 : Bool) (o6 : Bool) (out : List V) (hp : ((n' == 1) && decide (0 ≤ i) && decide (i < ((all.length : Nat) : Int)) && okU o0 o1 o2 && all.all shortS && decide (all.length ≤ 1000000)) = true) : ∃ n, ∀ (R : Type) (κ : Ex → St → Option R), f17_l2 n all i n' o0 o1 o2 o3 o4 o5 o6 out R κ = f17_s2 all i n' o0 o1 o2 o3 o4 o5 o6 out R κ := by
  simp only [Bool.and_eq_true, decide_eq_true_eq, beq_iff_eq] at hp
  obtain ⟨⟨⟨⟨⟨rfl, h2⟩, h3⟩, h4⟩, h5⟩, h6⟩ := hp
  obtain ⟨k, rfl⟩ := Int.eq_ofNat_of_zero_le h2
  have hk : k < all.length := by omega
  refine ⟨all.length - (k + 1) + 1, fun R κ => ?_⟩
  have := f17_loop2 o0 o1 o2 o3 o4 o5 o6 out all h5 h6 h4 R κ k hk (all.length - (k + 1)) 0 (by omega)
  simp only [Nat.zero_add, Nat.add_zero] at this
  unfold f17_s2
  rw [cntU_at hk]
  exact this
def t_f17_l2 (st : St) (R : Type) (κ : Ex → St → Option R) : Option R := bif ckS f17_l2_ls f17_l2_rs st then (bif ((((st.env 12).intOf) == 1) && decide (0 ≤ ((st.env 11).intOf)) && decide (((st.env 11).intOf) < ((((st.env 9).cellsOf).length : Nat) : Int)) && okU ((nthV (rowOf (st.regs (.loc 2))) 0).intOf) ((nthV (rowOf (st.regs (.loc 2))) 1).intOf) ((nthV (rowOf (st.regs (.loc 2))) 2).intOf) && ((st.env 9).cellsOf).all shortS && decide (((st.env 9).cellsOf).length ≤ 1000000)) then f17_s2 ((st.env 9).cellsOf) ((st.env 11).intOf) ((st.env 12).intOf) ((nthV (rowOf (st.regs (.loc 2))) 0).intOf) ((nthV (rowOf (st.regs (.loc 2))) 1).intOf) ((nthV (rowOf (st.regs (.loc 2))) 2).intOf) ((nthV (rowOf (st.regs (.loc 2))) 3).boolOf) ((nthV (rowOf (st.regs (.loc 2))) 4).boolOf) ((nthV (rowOf (st.regs (.loc 2))) 5).boolOf) ((nthV (rowOf (st.regs (.loc 2))) 6).boolOf) ((nthV (rowOf (st.regs (.loc 10))) 0).cellsOf) R κ else none) else none
theorem t_f17_l2_ok : ∀ st0 R κ r, t_f17_l2 (forget C 17 [0, 0, 1, 0, 1, 0, 0, 1, 0, 1, 1, 1, 1, 1] st0) R κ = some r → ∃ ee ss, κ ee ss = some r ∧ RunP C prim 17 [0, 0, 1, 0, 1, 0, 0, 1, 0, 1, 1, 1, 1, 1] (forget C 17 [0, 0, 1, 0, 1, 0, 0, 1, 0, 1, 1, 1, 1, 1] st0) ee ss := by
  intro st0 R κ r h
  obtain ⟨hs, h⟩ := cond_some h
  obtain ⟨hp, h⟩ := cond_some h
  rw [canon (ls := f17_l2_ls) (rs := f17_l2_rs) (by kernel_rfl) st0 hs]
  obtain ⟨n, hn⟩ := f17_s2_eq _ _ _ _ _ _ _ _ _ _ _ hp
  rw [← hn] at h
  exact f17_l2_ok n _ _ _ _ _ _ _ _ _ _ _ R κ r h

def K_f17_l1 : CallK := kCons 42 k42 <| kNil
theorem K_f17_l1_ok : KOK C prim K_f17_l1 := KOK.cons k42_ok <| KOK.nil
def T_f17_l1 : Tab := tCons [0, 0, 1, 0, 1, 0, 0, 1, 0, 1, 1, 1, 1, 1] t_f17_l2 <| tNil
theorem T_f17_l1_ok : TOK C prim 17 T_f17_l1 := TOK.cons t_f17_l2_ok <| TOK.nil
def f17_l1 : Nat → List V → Int → Int → Int → Int → Bool → Bool → Bool → Bool → List V → (R : Type) → (Ex → St → Option R) → Option R
  | 0, _, _, _, _, _, _, _, _, _, _, _, _ => none
  | n + 1, all, i, o0, o1, o2, o3, o4, o5, o6, out, R, κ =>
    bif (decide (i < ((all.length : Nat) : Int))) then
      bif (((1 : Int) == 1) && decide (0 ≤ i) && decide (i < ((all.length : Nat) : Int)) && okU o0 o1 o2 && all.all shortS && decide (all.length ≤ 1000000)) then
        bif (((decide ((0 : Int) ≤ i)) && (decide (i < ((all.length : Nat) : Int)))) && true) then
          bif (((V.isStr (nthV all (((i).toNat * 1) + 0))) && true) && true) then
            bif o4 then
              bif ((inR (cntU o0 o1 o2 o3 all i)) && true) then
                bif ((decide (((itoaB (cntU o0 o1 o2 o3 all i)).size + 1) ≤ 9223372036854775807)) && true) then
                  bif ((decide ((((itoaB (cntU o0 o1 o2 o3 all i)) ++ (⟨#[32]⟩ : ByteArray)).size + (V.strOf (nthV all (((i).toNat * 1) + 0))).size) ≤ 9223372036854775807)) && true) then
                    bif o5 then
                      bif (!((cntU o0 o1 o2 o3 all i) == 1)) then
                        bif o6 then
                          bif (!(decide ((cntU o0 o1 o2 o3 all i) > 1))) then
                            bif (((roomy ((out.length + 1) * 16)) && (roomy (out.length + 1))) && true) then
                              f17_l1 n all (IntKind.wrap .i64 (i + (cntU o0 o1 o2 o3 all i))) o0 o1 o2 o3 o4 o5 o6 (out ++ [.sc (.string (((itoaB (cntU o0 o1 o2 o3 all i)) ++ (⟨#[32]⟩ : ByteArray)) ++ (V.strOf (nthV all (((i).toNat * 1) + 0)))))]) R κ
                            else none
                          else
                            f17_l1 n all (IntKind.wrap .i64 (i + (cntU o0 o1 o2 o3 all i))) o0 o1 o2 o3 o4 o5 o6 out R κ
                        else
                          bif (((roomy ((out.length + 1) * 16)) && (roomy (out.length + 1))) && true) then
                            f17_l1 n all (IntKind.wrap .i64 (i + (cntU o0 o1 o2 o3 all i))) o0 o1 o2 o3 o4 o5 o6 (out ++ [.sc (.string (((itoaB (cntU o0 o1 o2 o3 all i)) ++ (⟨#[32]⟩ : ByteArray)) ++ (V.strOf (nthV all (((i).toNat * 1) + 0)))))]) R κ
                          else none
                      else
                        f17_l1 n all (IntKind.wrap .i64 (i + (cntU o0 o1 o2 o3 all i))) o0 o1 o2 o3 o4 o5 o6 out R κ
                    else
                      bif o6 then
                        bif (!(decide ((cntU o0 o1 o2 o3 all i) > 1))) then
                          bif (((roomy ((out.length + 1) * 16)) && (roomy (out.length + 1))) && true) then
                            f17_l1 n all (IntKind.wrap .i64 (i + (cntU o0 o1 o2 o3 all i))) o0 o1 o2 o3 o4 o5 o6 (out ++ [.sc (.string (((itoaB (cntU o0 o1 o2 o3 all i)) ++ (⟨#[32]⟩ : ByteArray)) ++ (V.strOf (nthV all (((i).toNat * 1) + 0)))))]) R κ
                          else none
                        else
                          f17_l1 n all (IntKind.wrap .i64 (i + (cntU o0 o1 o2 o3 all i))) o0 o1 o2 o3 o4 o5 o6 out R κ
                      else
                        bif (((roomy ((out.length + 1) * 16)) && (roomy (out.length + 1))) && true) then
                          f17_l1 n all (IntKind.wrap .i64 (i + (cntU o0 o1 o2 o3 all i))) o0 o1 o2 o3 o4 o5 o6 (out ++ [.sc (.string (((itoaB (cntU o0 o1 o2 o3 all i)) ++ (⟨#[32]⟩ : ByteArray)) ++ (V.strOf (nthV all (((i).toNat * 1) + 0)))))]) R κ
                        else none
                  else none
                else none
              else none
            else
              bif o5 then
                bif (!((cntU o0 o1 o2 o3 all i) == 1)) then
                  bif o6 then
                    bif (!(decide ((cntU o0 o1 o2 o3 all i) > 1))) then
                      bif (((roomy ((out.length + 1) * 16)) && (roomy (out.length + 1))) && true) then
                        f17_l1 n all (IntKind.wrap .i64 (i + (cntU o0 o1 o2 o3 all i))) o0 o1 o2 o3 o4 o5 o6 (out ++ [.sc (.string (V.strOf (nthV all (((i).toNat * 1) + 0))))]) R κ
                      else none
                    else
                      f17_l1 n all (IntKind.wrap .i64 (i + (cntU o0 o1 o2 o3 all i))) o0 o1 o2 o3 o4 o5 o6 out R κ
                  else
                    bif (((roomy ((out.length + 1) * 16)) && (roomy (out.length + 1))) && true) then
                      f17_l1 n all (IntKind.wrap .i64 (i + (cntU o0 o1 o2 o3 all i))) o0 o1 o2 o3 o4 o5 o6 (out ++ [.sc (.string (V.strOf (nthV all (((i).toNat * 1) + 0))))]) R κ
                    else none
                else
                  f17_l1 n all (IntKind.wrap .i64 (i + (cntU o0 o1 o2 o3 all i))) o0 o1 o2 o3 o4 o5 o6 out R κ
              else
                bif o6 then
                  bif (!(decide ((cntU o0 o1 o2 o3 all i) > 1))) then
                    bif (((roomy ((out.length + 1) * 16)) && (roomy (out.length + 1))) && true) then
                      f17_l1 n all (IntKind.wrap .i64 (i + (cntU o0 o1 o2 o3 all i))) o0 o1 o2 o3 o4 o5 o6 (out ++ [.sc (.string (V.strOf (nthV all (((i).toNat * 1) + 0))))]) R κ
                    else none
                  else
                    f17_l1 n all (IntKind.wrap .i64 (i + (cntU o0 o1 o2 o3 all i))) o0 o1 o2 o3 o4 o5 o6 out R κ
                else
                  bif (((roomy ((out.length + 1) * 16)) && (roomy (out.length + 1))) && true) then
                    f17_l1 n all (IntKind.wrap .i64 (i + (cntU o0 o1 o2 o3 all i))) o0 o1 o2 o3 o4 o5 o6 (out ++ [.sc (.string (V.strOf (nthV all (((i).toNat * 1) + 0))))]) R κ
                  else none
          else none
        else none
      else none
    else
      κ (.ex 2) (mkS [(4, .bad), (5, .bad), (10, .ref ⟨.loc 10, 0, [], 9, false⟩)] [(.loc 10, some ⟨false, [.own 9 false out]⟩)])
def f17_l1_ls : List (Nat × Pat) := [(2, .is (.ptrB (.loc 2) 0)), (9, .sl 1), (10, .is (.ref ⟨.loc 10, 0, [], 9, false⟩)), (11, .i .i64)]
def f17_l1_rs : List RPat := [⟨.loc 2, true, [.i .i64, .i .i64, .i .i64, .b, .b, .b, .b]⟩, ⟨.loc 10, false, [.own 9 false]⟩]
theorem f17_l1_ok (n : Nat) : ∀ (all : List V) (i : Int) (o0 : Int) (o1 : Int) (o2 : Int) (o3 : Bool) (o4 : Bool) (o5 : Bool) (o6 : Bool) (out : List V) (R : Type) (κ : Ex → St → Option R) (r : R), f17_l1 n all i o0 o1 o2 o3 o4 o5 o6 out R κ = some r → ∃ ee ss, κ ee ss = some r ∧ RunP C prim 17 [0, 1, 0, 1, 1, 1, 1, 1] (mkS [(2, .ptrB (.loc 2) 0), (9, .sl 1 all), (10, .ref ⟨.loc 10, 0, [], 9, false⟩), (11, .sc (.int .i64 i))] [(.loc 2, some ⟨true, [.sc (.int .i64 o0), .sc (.int .i64 o1), .sc (.int .i64 o2), .sc (.bool o3), .sc (.bool o4), .sc (.bool o5), .sc (.bool o6)]⟩), (.loc 10, some ⟨false, [.own 9 false out]⟩)]) ee ss := by
  induction n with
  | zero => intro all i o0 o1 o2 o3 o4 o5 o6 out R κ r h; cases h
  | succ n ih =>
    intro all i o0 o1 o2 o3 o4 o5 o6 out R κ r h
    refine loop_round (K := K_f17_l1) (T := T_f17_l1) K_f17_l1_ok T_f17_l1_ok (p := [0, 1, 0, 1, 1, 1, 1, 1]) (by kernel_rfl) (fun st => bif ckS f17_l1_ls f17_l1_rs st then f17_l1 n ((st.env 9).cellsOf) ((st.env 11).intOf) ((nthV (rowOf (st.regs (.loc 2))) 0).intOf) ((nthV (rowOf (st.regs (.loc 2))) 1).intOf) ((nthV (rowOf (st.regs (.loc 2))) 2).intOf) ((nthV (rowOf (st.regs (.loc 2))) 3).boolOf) ((nthV (rowOf (st.regs (.loc 2))) 4).boolOf) ((nthV (rowOf (st.regs (.loc 2))) 5).boolOf) ((nthV (rowOf (st.regs (.loc 2))) 6).boolOf) ((nthV (rowOf (st.regs (.loc 10))) 0).cellsOf) R κ else none) (fun st0 h0 => ?_) ?_
    · obtain ⟨hs, h0⟩ := cond_some h0
      rw [canon (ls := f17_l1_ls) (rs := f17_l1_rs) (by kernel_rfl) st0 hs]
      exact ih _ _ _ _ _ _ _ _ _ _ R κ r h0
    · refine Eq.trans ?_ h
      kernel_rfl

def f17_s1 (all : List V) (i : Int) (o0 : Int) (o1 : Int) (o2 : Int) (o3 : Bool) (o4 : Bool) (o5 : Bool) (o6 : Bool) (out : List V) (R : Type) (κ : Ex → St → Option R) : Option R :=
  κ (.ex 2) (mkS [(4, .bad), (5, .bad), (10, .ref ⟨.loc 10, 0, [], 9, false⟩)] [(.loc 10, some ⟨false, [.own 9 false (grpU o0 o1 o2 o3 o4 o5 o6 all.length all)]⟩)])
theorem roomU {n : Nat} (h : n ≤ 1000000) : roomy ((n + 1) * 16) = true ∧ roomy (n + 1) = true := ⟨dec_true (by omega), dec_true (by omega)⟩
theorem gt_eq (r : Nat) : decide (((r + 1 : Nat) : Int) > 1) = !(((r + 1 : Nat) : Int) == 1) := by
  by_cases h : r = 0
  · subst h; rfl
  · rw [dec_true (by omega), beq_eq_false_iff_ne.2 (by omega)]; rfl
theorem f17_loop1 (o0 o1 o2 : Int) (o3 o4 o5 o6 : Bool) (l : List V) (hl : l.all shortS = true) (hn : l.length ≤ 1000000) (hu : okU o0 o1 o2 = true) (R : Type) (κ : Ex → St → Option R) : ∀ (k i : Nat) (out : List V), l.length - i ≤ k → out.length ≤ i → i ≤ l.length →
    f17_l1 (k + 1) l ((i : Nat) : Int) o0 o1 o2 o3 o4 o5 o6 out R κ = κ (.ex 2) (mkS [(4, .bad), (5, .bad), (10, .ref ⟨.loc 10, 0, [], 9, false⟩)] [(.loc 10, some ⟨false, [.own 9 false (out ++ grpU o0 o1 o2 o3 o4 o5 o6 k (l.drop i))]⟩)])
  | 0, i, out, h, ho, hi => by
    rw [f17_l1, dec_false (by omega), grpU, List.append_nil]
    rfl
  | k + 1, i, out, h, ho, hi => by
    by_cases hlt : i < l.length
    · have hr := runU_le o0 o1 o2 o3 (keyU o0 o1 o2 o3 l[i].strOf) (l.drop (i + 1))
      have hg := gt_eq (runU o0 o1 o2 o3 (keyU o0 o1 o2 o3 l[i].strOf) (l.drop (i + 1)))
      have hc := cntU_at (o0 := o0) (o1 := o1) (o2 := o2) (o3 := o3) hlt
      obtain ⟨i1, i2⟩ := shortS_spec (List.all_eq_true.1 hl _ (List.getElem_mem hlt))
      obtain ⟨r1, r2⟩ := roomU (n := out.length) (by omega)
      rw [List.length_drop] at hr
      rw [f17_l1, dec_true (show ((i : Nat) : Int) < ((l.length : Nat) : Int) by omega), dec_true (show (0 : Int) ≤ ((i : Nat) : Int) by omega), nth_at hlt, i1, hu, hl, dec_true hn, r1, r2, hc, List.drop_eq_getElem_cons hlt, grpU, List.drop_drop]
      unfold outU
      rw [hg]
      generalize runU o0 o1 o2 o3 (keyU o0 o1 o2 o3 l[i].strOf) (l.drop (i + 1)) = r at *
      have hw : IntKind.wrap .i64 (((i : Nat) : Int) + ((r + 1 : Nat) : Int)) = ((i + 1 + r : Nat) : Int) := by rw [wrap_id (by omega) (by omega)]; omega
      have hin : inR ((r + 1 : Nat) : Int) = true := by unfold inR; rw [dec_true (show -9223372036854775808 ≤ ((r + 1 : Nat) : Int) by omega), dec_true (show ((r + 1 : Nat) : Int) ≤ 9223372036854775807 by omega)]; rfl
      have hit := itoa_le (n := ((r + 1 : Nat) : Int)) (by omega) (by omega)
      have h32 : (⟨#[32]⟩ : ByteArray).size = 1 := rfl
      have t1 : decide ((itoaB ((r + 1 : Nat) : Int)).size + 1 ≤ 9223372036854775807) = true := dec_true (by omega)
      have t2 : decide ((itoaB ((r + 1 : Nat) : Int) ++ (⟨#[32]⟩ : ByteArray)).size + l[i].strOf.size ≤ 9223372036854775807) = true := dec_true (by rw [ba_size_append, h32]; omega)
      have IHt := f17_loop1 o0 o1 o2 o3 o4 o5 o6 l hl hn hu R κ k (i + 1 + r) (out ++ [.sc (.string (linU o4 ((r + 1 : Nat) : Int) l[i].strOf))]) (by omega) (by simp; omega) (by omega)
      have IHf := f17_loop1 o0 o1 o2 o3 o4 o5 o6 l hl hn hu R κ k (i + 1 + r) out (by omega) (by omega) (by omega)
      rw [List.append_assoc] at IHt
      rw [hw, hin, t1, t2]
      generalize (((r + 1 : Nat) : Int) == 1) = b
      clear hg
      cases o4 <;> cases o5 <;> cases o6 <;> cases b
      · exact IHt
      · exact IHt
      · exact IHf
      · exact IHt
      · exact IHt
      · exact IHf
      · exact IHf
      · exact IHf
      · exact IHt
      · exact IHt
      · exact IHf
      · exact IHt
      · exact IHt
      · exact IHf
      · exact IHf
      · exact IHf
    · rw [f17_l1, dec_false (by omega), List.drop_of_length_le (by omega), grpU, List.append_nil]
      rfl
theorem f17_s1_eq (all : List V) (i : Int) (o0 : Int) (o1 : Int) (o2 : Int) (o3 : Bool) (o4 : Bool) (o5 : Bool) (o6 : Bool) (out : List V) (hp : ((i == 0) && (out.length == 0) && okU o0 o1 o2 && all.all shortS && decide (all.length ≤ 1000000)) = true) : ∃ n, ∀ (R : Type) (κ : Ex → St → Option R), f17_l1 n all i o0 o1 o2 o3 o4 o5 o6 out R κ = f17_s1 all i o0 o1 o2 o3 o4 o5 o6 out R κ := by
  simp only [Bool.and_eq_true, decide_eq_true_eq, beq_iff_eq] at hp
  obtain ⟨⟨⟨⟨rfl, h2⟩, h4⟩, h5⟩, h6⟩ := hp
  obtain rfl : out = [] := List.eq_nil_of_length_eq_zero h2
  exact ⟨all.length + 1, fun R κ => f17_loop1 o0 o1 o2 o3 o4 o5 o6 all h5 h6 h4 R κ all.length 0 [] (by omega) (Nat.le_refl _) (by omega)⟩
def t_f17_l1 (st : St) (R : Type) (κ : Ex → St → Option R) : Option R := bif ckS f17_l1_ls f17_l1_rs st then (bif ((((st.env 11).intOf) == 0) && (((nthV (rowOf (st.regs (.loc 10))) 0).cellsOf).length == 0) && okU ((nthV (rowOf (st.regs (.loc 2))) 0).intOf) ((nthV (rowOf (st.regs (.loc 2))) 1).intOf) ((nthV (rowOf (st.regs (.loc 2))) 2).intOf) && ((st.env 9).cellsOf).all shortS && decide (((st.env 9).cellsOf).length ≤ 1000000)) then f17_s1 ((st.env 9).cellsOf) ((st.env 11).intOf) ((nthV (rowOf (st.regs (.loc 2))) 0).intOf) ((nthV (rowOf (st.regs (.loc 2))) 1).intOf) ((nthV (rowOf (st.regs (.loc 2))) 2).intOf) ((nthV (rowOf (st.regs (.loc 2))) 3).boolOf) ((nthV (rowOf (st.regs (.loc 2))) 4).boolOf) ((nthV (rowOf (st.regs (.loc 2))) 5).boolOf) ((nthV (rowOf (st.regs (.loc 2))) 6).boolOf) ((nthV (rowOf (st.regs (.loc 10))) 0).cellsOf) R κ else none) else none
theorem t_f17_l1_ok : ∀ st0 R κ r, t_f17_l1 (forget C 17 [0, 1, 0, 1, 1, 1, 1, 1] st0) R κ = some r → ∃ ee ss, κ ee ss = some r ∧ RunP C prim 17 [0, 1, 0, 1, 1, 1, 1, 1] (forget C 17 [0, 1, 0, 1, 1, 1, 1, 1] st0) ee ss := by
  intro st0 R κ r h
  obtain ⟨hs, h⟩ := cond_some h
  obtain ⟨hp, h⟩ := cond_some h
  rw [canon (ls := f17_l1_ls) (rs := f17_l1_rs) (by kernel_rfl) st0 hs]
  obtain ⟨n, hn⟩ := f17_s1_eq _ _ _ _ _ _ _ _ _ _ hp
  rw [← hn] at h
  exact f17_l1_ok n _ _ _ _ _ _ _ _ _ _ R κ r h

def K_f17 : CallK := kCons 27 k27 <| kCons 28 k28 <| kCons 33 k33 <| kNil
theorem K_f17_ok : KOK C prim K_f17 := KOK.cons k27_ok <| KOK.cons k28_ok <| KOK.cons k33_ok <| KOK.nil
def T_f17 : Tab := tCons [0, 1, 0, 1] t_f17_l0 <| tCons [0, 1, 0, 1, 1, 1, 1, 1] t_f17_l1 <| tNil
theorem T_f17_ok : TOK C prim 17 T_f17 := TOK.cons t_f17_l0_ok <| TOK.cons t_f17_l1_ok <| TOK.nil
def f17 (o0 : Int) (o1 : Int) (o2 : Int) (o3 : Bool) (o4 : Bool) (o5 : Bool) (o6 : Bool) (text : ByteArray) : Option (V × List Rg) :=
  bif (((3 : Int) == ((([.sc (.int .i64 o0), .sc (.int .i64 o1), .sc (.int .i64 o2)] : List V).length : Nat) : Int)) && ((0 : Int) == 0) && ([.sc (.int .i64 o0), .sc (.int .i64 o1), .sc (.int .i64 o2)] : List V).all (V.isInt .i64) && decide (([.sc (.int .i64 o0), .sc (.int .i64 o1), .sc (.int .i64 o2)] : List V).length ≤ 1000000000)) then
    bif (([.sc (.int .i64 o0), .sc (.int .i64 o1), .sc (.int .i64 o2)] : List V).all rngV) then
      bif ((([.sc (.string text)] : List V).all shortS && decide (([.sc (.string text)] : List V).length ≤ 1000000000)) && true) then
        bif ((bif ([.sc (.string text)] : List V).any largeV then (2 : Int) else 0) != 0) then
          some (.tp [.sc (.string ⟨#[]⟩), .sc (.int .i64 (bif ([.sc (.string text)] : List V).any largeV then (2 : Int) else 0))], [])
        else
          bif ((decide (text.size ≤ 1000000000)) && true) then
            bif (((0 : Int) == 0) && (([] : List V).length == 0) && okU o0 o1 o2 && (linesV text).all shortS && decide ((linesV text).length ≤ 1000000)) then
              bif (((grpU o0 o1 o2 o3 o4 o5 o6 (linesV text).length (linesV text)).all V.isStr && decide ((grpU o0 o1 o2 o3 o4 o5 o6 (linesV text).length (linesV text)).length ≤ 1000000000) && decide ((resB (grpU o0 o1 o2 o3 o4 o5 o6 (linesV text).length (linesV text))).size ≤ 100000000000)) && true) then
                some (.tp [.sc (.string (resB (grpU o0 o1 o2 o3 o4 o5 o6 (linesV text).length (linesV text)))), .sc (.int .i64 0)], [])
              else none
            else none
          else none
      else none
    else
      some (.tp [.sc (.string ⟨#[]⟩), .sc (.int .i64 3)], [])
  else none
theorem f17_run (o0 : Int) (o1 : Int) (o2 : Int) (o3 : Bool) (o4 : Bool) (o5 : Bool) (o6 : Bool) (text : ByteArray) (z9 : V × List Rg) (h : f17 o0 o1 o2 o3 o4 o5 o6 text = some z9) : CallR C prim 17 [.ag [.sc (.int .i64 o0), .sc (.int .i64 o1), .sc (.int .i64 o2), .sc (.bool o3), .sc (.bool o4), .sc (.bool o5), .sc (.bool o6)], .sc (.string text)] [] z9 := by
  refine call_fn (K := K_f17) (T := T_f17) K_f17_ok T_f17_ok (by kernel_rfl) ?_
  refine Eq.trans ?_ h
  kernel_rfl

theorem f17_eq (o0 : Int) (o1 : Int) (o2 : Int) (o3 : Bool) (o4 : Bool) (o5 : Bool) (o6 : Bool) (text : ByteArray) (hp : (decide (text.size ≤ 10000000)) = true) : f17 o0 o1 o2 o3 o4 o5 o6 text = some (.tp [.sc (.string (uniS o0 o1 o2 o3 o4 o5 o6 text)), .sc (.int .i64 (uniE o0 o1 o2 text))], []) := by
  simp only [decide_eq_true_eq] at hp
  have h1 : ([.sc (.string text)] : List V).all shortS = true := by
    show ((true && decide (text.size ≤ 1000000000)) && true) = true
    rw [dec_true (show text.size ≤ 1000000000 by omega)]; rfl
  have h2 : ([.sc (.string text)] : List V).any largeV = largeB text := Bool.or_false _
  have h3 : ([.sc (.int .i64 o0), .sc (.int .i64 o1), .sc (.int .i64 o2)] : List V).all rngV = okU o0 o1 o2 := by
    show (rngI o0 && (rngI o1 && (rngI o2 && true))) = _
    rw [Bool.and_true]; rfl
  unfold f17 uniS uniE
  rw [h1, h2, h3]
  cases hu : okU o0 o1 o2 with
  | false => rfl
  | true =>
  cases h5 : largeB text with
  | true => rfl
  | false =>
  obtain ⟨a3, a4, a5⟩ := uni_ok (F := o0) (S := o1) (B := o2) o3 o4 o5 o6 h5
  obtain ⟨l1, l2⟩ := large_no h5
  rw [dec_true (show text.size ≤ 1000000000 by omega), linesV_short text (by omega), dec_true (show (linesV text).length ≤ 1000000 by omega), a3, dec_true a4, dec_true a5]
  rfl
def k17 : PrimT := fun vs gs => match vs, gs with
  | [.ag [.sc (.int .i64 o0), .sc (.int .i64 o1), .sc (.int .i64 o2), .sc (.bool o3), .sc (.bool o4), .sc (.bool o5), .sc (.bool o6)], .sc (.string text)], [] => ((decide (text.size ≤ 10000000)), .tp [.sc (.string (uniS o0 o1 o2 o3 o4 o5 o6 text)), .sc (.int .i64 (uniE o0 o1 o2 text))], [])
  | _, _ => (false, .bad, [])
theorem k17_ok : ∀ vs gs x, k17 vs gs = (true, x) → CallR C prim 17 vs gs x := by
  intro vs gs x h
  unfold k17 at h
  split at h
  · simp only [Prod.mk.injEq] at h
    obtain ⟨hp, rfl⟩ := h
    exact f17_run _ _ _ _ _ _ _ _ _ (f17_eq _ _ _ _ _ _ _ _ hp)
  · cases h

def K_f20_l1 : CallK := kCons 43 k43 <| kNil
theorem K_f20_l1_ok : KOK C prim K_f20_l1 := KOK.cons k43_ok <| KOK.nil
def T_f20_l1 : Tab := tNil
theorem T_f20_l1_ok : TOK C prim 20 T_f20_l1 := TOK.nil
def f20_l1 : Nat → List V → Int → Int → Int → Int → Int → Bool → Bool → Bool → Bool → List V → (R : Type) → (Ex → St → Option R) → Option R
  | 0, _, _, _, _, _, _, _, _, _, _, _, _, _ => none
  | n + 1, l, i, k, o0, o1, o2, o3, o4, o5, o6, out, R, κ =>
    bif (decide (k < ((l.length : Nat) : Int))) then
      bif (((decide ((0 : Int) ≤ k)) && (decide (k < ((l.length : Nat) : Int)))) && true) then
        bif (((V.isStr (nthV l (((k).toNat * 1) + 0))) && true) && true) then
          bif ((okU o0 o1 o2 && decide ((V.strOf (nthV l (((k).toNat * 1) + 0))).size ≤ 1000000000)) && true) then
            bif (((decide ((0 : Int) ≤ i)) && (decide (i < ((l.length : Nat) : Int)))) && true) then
              bif (((V.isStr (nthV l (((i).toNat * 1) + 0))) && true) && true) then
                bif ((okU o0 o1 o2 && decide ((V.strOf (nthV l (((i).toNat * 1) + 0))).size ≤ 1000000000)) && true) then
                  bif (strEq (keyU o0 o1 o2 o3 (V.strOf (nthV l (((k).toNat * 1) + 0)))) (keyU o0 o1 o2 o3 (V.strOf (nthV l (((i).toNat * 1) + 0))))) then
                    f20_l1 n l i (IntKind.wrap .i64 (k + 1)) o0 o1 o2 o3 o4 o5 o6 out R κ
                  else
                    κ (.ex 2) (mkS [(1, .sl 1 l), (2, .ptrB (.loc 2) 0), (4, .bad), (5, .ref ⟨.loc 5, 0, [], 9, false⟩), (6, .sc (.int .i64 i)), (7, .sc (.int .i64 k))] [(.loc 2, some ⟨true, [.sc (.int .i64 o0), .sc (.int .i64 o1), .sc (.int .i64 o2), .sc (.bool o3), .sc (.bool o4), .sc (.bool o5), .sc (.bool o6)]⟩), (.loc 5, some ⟨false, [.own 9 false out]⟩)])
                else none
              else none
            else none
          else none
        else none
      else none
    else
      κ (.ex 2) (mkS [(1, .sl 1 l), (2, .ptrB (.loc 2) 0), (4, .bad), (5, .ref ⟨.loc 5, 0, [], 9, false⟩), (6, .sc (.int .i64 i)), (7, .sc (.int .i64 k))] [(.loc 2, some ⟨true, [.sc (.int .i64 o0), .sc (.int .i64 o1), .sc (.int .i64 o2), .sc (.bool o3), .sc (.bool o4), .sc (.bool o5), .sc (.bool o6)]⟩), (.loc 5, some ⟨false, [.own 9 false out]⟩)])
def f20_l1_ls : List (Nat × Pat) := [(1, .sl 1), (2, .is (.ptrB (.loc 2) 0)), (5, .is (.ref ⟨.loc 5, 0, [], 9, false⟩)), (6, .i .i64), (7, .i .i64)]
def f20_l1_rs : List RPat := [⟨.loc 2, true, [.i .i64, .i .i64, .i .i64, .b, .b, .b, .b]⟩, ⟨.loc 5, false, [.own 9 false]⟩]
theorem f20_l1_ok (n : Nat) : ∀ (l : List V) (i : Int) (k : Int) (o0 : Int) (o1 : Int) (o2 : Int) (o3 : Bool) (o4 : Bool) (o5 : Bool) (o6 : Bool) (out : List V) (R : Type) (κ : Ex → St → Option R) (r : R), f20_l1 n l i k o0 o1 o2 o3 o4 o5 o6 out R κ = some r → ∃ ee ss, κ ee ss = some r ∧ RunP C prim 20 [0, 0, 1, 0, 1, 0, 0, 1, 0, 1, 1] (mkS [(1, .sl 1 l), (2, .ptrB (.loc 2) 0), (5, .ref ⟨.loc 5, 0, [], 9, false⟩), (6, .sc (.int .i64 i)), (7, .sc (.int .i64 k))] [(.loc 2, some ⟨true, [.sc (.int .i64 o0), .sc (.int .i64 o1), .sc (.int .i64 o2), .sc (.bool o3), .sc (.bool o4), .sc (.bool o5), .sc (.bool o6)]⟩), (.loc 5, some ⟨false, [.own 9 false out]⟩)]) ee ss := by
  induction n with
  | zero => intro l i k o0 o1 o2 o3 o4 o5 o6 out R κ r h; cases h
  | succ n ih =>
    intro l i k o0 o1 o2 o3 o4 o5 o6 out R κ r h
    refine loop_round (K := K_f20_l1) (T := T_f20_l1) K_f20_l1_ok T_f20_l1_ok (p := [0, 0, 1, 0, 1, 0, 0, 1, 0, 1, 1]) (by kernel_rfl) (fun st => bif ckS f20_l1_ls f20_l1_rs st then f20_l1 n ((st.env 1).cellsOf) ((st.env 6).intOf) ((st.env 7).intOf) ((nthV (rowOf (st.regs (.loc 2))) 0).intOf) ((nthV (rowOf (st.regs (.loc 2))) 1).intOf) ((nthV (rowOf (st.regs (.loc 2))) 2).intOf) ((nthV (rowOf (st.regs (.loc 2))) 3).boolOf) ((nthV (rowOf (st.regs (.loc 2))) 4).boolOf) ((nthV (rowOf (st.regs (.loc 2))) 5).boolOf) ((nthV (rowOf (st.regs (.loc 2))) 6).boolOf) ((nthV (rowOf (st.regs (.loc 5))) 0).cellsOf) R κ else none) (fun st0 h0 => ?_) ?_
    · obtain ⟨hs, h0⟩ := cond_some h0
      rw [canon (ls := f20_l1_ls) (rs := f20_l1_rs) (by kernel_rfl) st0 hs]
      exact ih _ _ _ _ _ _ _ _ _ _ _ R κ r h0
    · refine Eq.trans ?_ h
      kernel_rfl

def f20_s1 (l : List V) (i : Int) (k : Int) (o0 : Int) (o1 : Int) (o2 : Int) (o3 : Bool) (o4 : Bool) (o5 : Bool) (o6 : Bool) (out : List V) (R : Type) (κ : Ex → St → Option R) : Option R :=
  κ (.ex 2) (mkS [(1, .sl 1 l), (2, .ptrB (.loc 2) 0), (4, .bad), (5, .ref ⟨.loc 5, 0, [], 9, false⟩), (6, .sc (.int .i64 i)), (7, .sc (.int .i64 (i + cntU o0 o1 o2 o3 l i)))] [(.loc 2, some ⟨true, [.sc (.int .i64 o0), .sc (.int .i64 o1), .sc (.int .i64 o2), .sc (.bool o3), .sc (.bool o4), .sc (.bool o5), .sc (.bool o6)]⟩), (.loc 5, some ⟨false, [.own 9 false out]⟩)])
theorem f20_loop1 (o0 o1 o2 : Int) (o3 o4 o5 o6 : Bool) (out l : List V) (hl : l.all shortS = true) (hn : l.length ≤ 1000000) (hu : okU o0 o1 o2 = true) (R : Type) (κ : Ex → St → Option R) (i : Nat) (hi : i < l.length) : ∀ (k j : Nat), i + 1 + j + k = l.length →
    f20_l1 (k + 1) l ((i : Nat) : Int) ((i + 1 + j : Nat) : Int) o0 o1 o2 o3 o4 o5 o6 out R κ = κ (.ex 2) (mkS [(1, .sl 1 l), (2, .ptrB (.loc 2) 0), (4, .bad), (5, .ref ⟨.loc 5, 0, [], 9, false⟩), (6, .sc (.int .i64 ((i : Nat) : Int))), (7, .sc (.int .i64 ((i + 1 + j + runU o0 o1 o2 o3 (keyU o0 o1 o2 o3 l[i].strOf) (l.drop (i + 1 + j)) : Nat) : Int)))] [(.loc 2, some ⟨true, [.sc (.int .i64 o0), .sc (.int .i64 o1), .sc (.int .i64 o2), .sc (.bool o3), .sc (.bool o4), .sc (.bool o5), .sc (.bool o6)]⟩), (.loc 5, some ⟨false, [.own 9 false out]⟩)])
  | 0, j, h => by
    rw [f20_l1, dec_false (show ¬ ((i + 1 + j : Nat) : Int) < ((l.length : Nat) : Int) by omega), List.drop_of_length_le (by omega), runU, Nat.add_zero]
    rfl
  | k + 1, j, h => by
    have hj : i + 1 + j < l.length := by omega
    obtain ⟨i1, i2⟩ := shortS_spec (List.all_eq_true.1 hl _ (List.getElem_mem hi))
    obtain ⟨j1, j2⟩ := shortS_spec (List.all_eq_true.1 hl _ (List.getElem_mem hj))
    have IH := f20_loop1 o0 o1 o2 o3 o4 o5 o6 out l hl hn hu R κ i hi k (j + 1) (by omega)
    rw [show i + 1 + (j + 1) = i + 1 + j + 1 by omega] at IH
    rw [f20_l1, dec_true (show ((i + 1 + j : Nat) : Int) < ((l.length : Nat) : Int) by omega), dec_true (show (0 : Int) ≤ ((i + 1 + j : Nat) : Int) by omega), nth_at hj, nth_at hi, i1, j1, hu, dec_true i2, dec_true j2, dec_true (show (0 : Int) ≤ ((i : Nat) : Int) by omega), dec_true (show ((i : Nat) : Int) < ((l.length : Nat) : Int) by omega), wrap_succ (by omega), List.drop_eq_getElem_cons hj, runU]
    cases strEq (keyU o0 o1 o2 o3 l[i + 1 + j].strOf) (keyU o0 o1 o2 o3 l[i].strOf)
    · rfl
    · rw [show i + 1 + j + 1 + runU o0 o1 o2 o3 (keyU o0 o1 o2 o3 l[i].strOf) (l.drop (i + 1 + j + 1)) = i + 1 + j + (runU o0 o1 o2 o3 (keyU o0 o1 o2 o3 l[i].strOf) (l.drop (i + 1 + j + 1)) + 1) by omega] at IH
      exact IH
theorem f20_s1_eq (l : List V) (i : Int) (k : Int) (o0 : Int) (o1 : Int) (o2 : Int) (o3 : Bool) (o4 : Bool) (o5 : Bool) (o6 : Bool) (out : List V) (hp : ((k == i + 1) && decide (0 ≤ i) && decide (i < ((l.length : Nat) : Int)) && okU o0 o1 o2 && l.all shortS && decide (l.length ≤ 1000000)) = true) : ∃ n, ∀ (R : Type) (κ : Ex → St → Option R), f20_l1 n l i k o0 o1 o2 o3 o4 o5 o6 out R κ = f20_s1 l i k o0 o1 o2 o3 o4 o5 o6 out R κ := by
  simp only [Bool.and_eq_true, decide_eq_true_eq, beq_iff_eq] at hp
  obtain ⟨⟨⟨⟨⟨rfl, h2⟩, h3⟩, h4⟩, h5⟩, h6⟩ := hp
  obtain ⟨m, rfl⟩ := Int.eq_ofNat_of_zero_le h2
  have hk : m < l.length := by omega
  refine ⟨l.length - (m + 1) + 1, fun R κ => ?_⟩
  have := f20_loop1 o0 o1 o2 o3 o4 o5 o6 out l h5 h6 h4 R κ m hk (l.length - (m + 1)) 0 (by omega)
  unfold f20_s1
  rw [cntU_at hk, show ((m : Nat) : Int) + ((runU o0 o1 o2 o3 (keyU o0 o1 o2 o3 l[m].strOf) (l.drop (m + 1)) + 1 : Nat) : Int) = ((m + 1 + 0 + runU o0 o1 o2 o3 (keyU o0 o1 o2 o3 l[m].strOf) (l.drop (m + 1 + 0)) : Nat) : Int) by simp only [Nat.add_zero]; omega]
  exact this
def t_f20_l1 (st : St) (R : Type) (κ : Ex → St → Option R) : Option R := bif ckS f20_l1_ls f20_l1_rs st then (bif ((((st.env 7).intOf) == ((st.env 6).intOf) + 1) && decide (0 ≤ ((st.env 6).intOf)) && decide (((st.env 6).intOf) < ((((st.env 1).cellsOf).length : Nat) : Int)) && okU ((nthV (rowOf (st.regs (.loc 2))) 0).intOf) ((nthV (rowOf (st.regs (.loc 2))) 1).intOf) ((nthV (rowOf (st.regs (.loc 2))) 2).intOf) && ((st.env 1).cellsOf).all shortS && decide (((st.env 1).cellsOf).length ≤ 1000000)) then f20_s1 ((st.env 1).cellsOf) ((st.env 6).intOf) ((st.env 7).intOf) ((nthV (rowOf (st.regs (.loc 2))) 0).intOf) ((nthV (rowOf (st.regs (.loc 2))) 1).intOf) ((nthV (rowOf (st.regs (.loc 2))) 2).intOf) ((nthV (rowOf (st.regs (.loc 2))) 3).boolOf) ((nthV (rowOf (st.regs (.loc 2))) 4).boolOf) ((nthV (rowOf (st.regs (.loc 2))) 5).boolOf) ((nthV (rowOf (st.regs (.loc 2))) 6).boolOf) ((nthV (rowOf (st.regs (.loc 5))) 0).cellsOf) R κ else none) else none
theorem t_f20_l1_ok : ∀ st0 R κ r, t_f20_l1 (forget C 20 [0, 0, 1, 0, 1, 0, 0, 1, 0, 1, 1] st0) R κ = some r → ∃ ee ss, κ ee ss = some r ∧ RunP C prim 20 [0, 0, 1, 0, 1, 0, 0, 1, 0, 1, 1] (forget C 20 [0, 0, 1, 0, 1, 0, 0, 1, 0, 1, 1] st0) ee ss := by
  intro st0 R κ r h
  obtain ⟨hs, h⟩ := cond_some h
  obtain ⟨hp, h⟩ := cond_some h
  rw [canon (ls := f20_l1_ls) (rs := f20_l1_rs) (by kernel_rfl) st0 hs]
  obtain ⟨n, hn⟩ := f20_s1_eq _ _ _ _ _ _ _ _ _ _ _ hp
  rw [← hn] at h
  exact f20_l1_ok n _ _ _ _ _ _ _ _ _ _ _ R κ r h

def K_f20_l0 : CallK := kCons 42 k42 <| kNil
theorem K_f20_l0_ok : KOK C prim K_f20_l0 := KOK.cons k42_ok <| KOK.nil
def T_f20_l0 : Tab := tCons [0, 0, 1, 0, 1, 0, 0, 1, 0, 1, 1] t_f20_l1 <| tNil
theorem T_f20_l0_ok : TOK C prim 20 T_f20_l0 := TOK.cons t_f20_l1_ok <| TOK.nil
def f20_l0 : Nat → List V → Int → Int → Int → Int → Bool → Bool → Bool → Bool → List V → (R : Type) → (Ex → St → Option R) → Option R
  | 0, _, _, _, _, _, _, _, _, _, _, _, _ => none
  | n + 1, l, i, o0, o1, o2, o3, o4, o5, o6, out, R, κ =>
    bif (decide (i < ((l.length : Nat) : Int))) then
      bif (((IntKind.wrap .i64 (i + 1)) == i + 1) && decide (0 ≤ i) && decide (i < ((l.length : Nat) : Int)) && okU o0 o1 o2 && l.all shortS && decide (l.length ≤ 1000000)) then
        bif (!o5) then
          bif (!o6) then
            bif (((decide ((0 : Int) ≤ i)) && (decide (i < ((l.length : Nat) : Int)))) && true) then
              bif (((V.isStr (nthV l (((i).toNat * 1) + 0))) && true) && true) then
                bif o4 then
                  bif ((inR (IntKind.wrap .i64 ((i + cntU o0 o1 o2 o3 l i) - i))) && true) then
                    bif ((decide (((itoaB (IntKind.wrap .i64 ((i + cntU o0 o1 o2 o3 l i) - i))).size + 1) ≤ 9223372036854775807)) && true) then
                      bif ((decide ((((itoaB (IntKind.wrap .i64 ((i + cntU o0 o1 o2 o3 l i) - i))) ++ (⟨#[32]⟩ : ByteArray)).size + (V.strOf (nthV l (((i).toNat * 1) + 0))).size) ≤ 9223372036854775807)) && true) then
                        bif (((roomy ((out.length + 1) * 16)) && (roomy (out.length + 1))) && true) then
                          f20_l0 n l (i + cntU o0 o1 o2 o3 l i) o0 o1 o2 o3 o4 o5 o6 (out ++ [.sc (.string (((itoaB (IntKind.wrap .i64 ((i + cntU o0 o1 o2 o3 l i) - i))) ++ (⟨#[32]⟩ : ByteArray)) ++ (V.strOf (nthV l (((i).toNat * 1) + 0)))))]) R κ
                        else none
                      else none
                    else none
                  else none
                else
                  bif (((roomy ((out.length + 1) * 16)) && (roomy (out.length + 1))) && true) then
                    f20_l0 n l (i + cntU o0 o1 o2 o3 l i) o0 o1 o2 o3 o4 o5 o6 (out ++ [.sc (.string (V.strOf (nthV l (((i).toNat * 1) + 0))))]) R κ
                  else none
              else none
            else none
          else
            bif ((IntKind.wrap .i64 ((i + cntU o0 o1 o2 o3 l i) - i)) == 1) then
              bif (((decide ((0 : Int) ≤ i)) && (decide (i < ((l.length : Nat) : Int)))) && true) then
                bif (((V.isStr (nthV l (((i).toNat * 1) + 0))) && true) && true) then
                  bif o4 then
                    bif ((inR (IntKind.wrap .i64 ((i + cntU o0 o1 o2 o3 l i) - i))) && true) then
                      bif ((decide (((itoaB (IntKind.wrap .i64 ((i + cntU o0 o1 o2 o3 l i) - i))).size + 1) ≤ 9223372036854775807)) && true) then
                        bif ((decide ((((itoaB (IntKind.wrap .i64 ((i + cntU o0 o1 o2 o3 l i) - i))) ++ (⟨#[32]⟩ : ByteArray)).size + (V.strOf (nthV l (((i).toNat * 1) + 0))).size) ≤ 9223372036854775807)) && true) then
                          bif (((roomy ((out.length + 1) * 16)) && (roomy (out.length + 1))) && true) then
                            f20_l0 n l (i + cntU o0 o1 o2 o3 l i) o0 o1 o2 o3 o4 o5 o6 (out ++ [.sc (.string (((itoaB (IntKind.wrap .i64 ((i + cntU o0 o1 o2 o3 l i) - i))) ++ (⟨#[32]⟩ : ByteArray)) ++ (V.strOf (nthV l (((i).toNat * 1) + 0)))))]) R κ
                          else none
                        else none
                      else none
                    else none
                  else
                    bif (((roomy ((out.length + 1) * 16)) && (roomy (out.length + 1))) && true) then
                      f20_l0 n l (i + cntU o0 o1 o2 o3 l i) o0 o1 o2 o3 o4 o5 o6 (out ++ [.sc (.string (V.strOf (nthV l (((i).toNat * 1) + 0))))]) R κ
                    else none
                else none
              else none
            else
              f20_l0 n l (i + cntU o0 o1 o2 o3 l i) o0 o1 o2 o3 o4 o5 o6 out R κ
        else
          bif (decide ((IntKind.wrap .i64 ((i + cntU o0 o1 o2 o3 l i) - i)) > 1)) then
            bif (!o6) then
              bif (((decide ((0 : Int) ≤ i)) && (decide (i < ((l.length : Nat) : Int)))) && true) then
                bif (((V.isStr (nthV l (((i).toNat * 1) + 0))) && true) && true) then
                  bif o4 then
                    bif ((inR (IntKind.wrap .i64 ((i + cntU o0 o1 o2 o3 l i) - i))) && true) then
                      bif ((decide (((itoaB (IntKind.wrap .i64 ((i + cntU o0 o1 o2 o3 l i) - i))).size + 1) ≤ 9223372036854775807)) && true) then
                        bif ((decide ((((itoaB (IntKind.wrap .i64 ((i + cntU o0 o1 o2 o3 l i) - i))) ++ (⟨#[32]⟩ : ByteArray)).size + (V.strOf (nthV l (((i).toNat * 1) + 0))).size) ≤ 9223372036854775807)) && true) then
                          bif (((roomy ((out.length + 1) * 16)) && (roomy (out.length + 1))) && true) then
                            f20_l0 n l (i + cntU o0 o1 o2 o3 l i) o0 o1 o2 o3 o4 o5 o6 (out ++ [.sc (.string (((itoaB (IntKind.wrap .i64 ((i + cntU o0 o1 o2 o3 l i) - i))) ++ (⟨#[32]⟩ : ByteArray)) ++ (V.strOf (nthV l (((i).toNat * 1) + 0)))))]) R κ
                          else none
                        else none
                      else none
                    else none
                  else
                    bif (((roomy ((out.length + 1) * 16)) && (roomy (out.length + 1))) && true) then
                      f20_l0 n l (i + cntU o0 o1 o2 o3 l i) o0 o1 o2 o3 o4 o5 o6 (out ++ [.sc (.string (V.strOf (nthV l (((i).toNat * 1) + 0))))]) R κ
                    else none
                else none
              else none
            else
              bif ((IntKind.wrap .i64 ((i + cntU o0 o1 o2 o3 l i) - i)) == 1) then
                bif (((decide ((0 : Int) ≤ i)) && (decide (i < ((l.length : Nat) : Int)))) && true) then
                  bif (((V.isStr (nthV l (((i).toNat * 1) + 0))) && true) && true) then
                    bif o4 then
                      bif ((inR (IntKind.wrap .i64 ((i + cntU o0 o1 o2 o3 l i) - i))) && true) then
                        bif ((decide (((itoaB (IntKind.wrap .i64 ((i + cntU o0 o1 o2 o3 l i) - i))).size + 1) ≤ 9223372036854775807)) && true) then
                          bif ((decide ((((itoaB (IntKind.wrap .i64 ((i + cntU o0 o1 o2 o3 l i) - i))) ++ (⟨#[32]⟩ : ByteArray)).size + (V.strOf (nthV l (((i).toNat * 1) + 0))).size) ≤ 9223372036854775807)) && true) then
                            bif (((roomy ((out.length + 1) * 16)) && (roomy (out.length + 1))) && true) then
                              f20_l0 n l (i + cntU o0 o1 o2 o3 l i) o0 o1 o2 o3 o4 o5 o6 (out ++ [.sc (.string (((itoaB (IntKind.wrap .i64 ((i + cntU o0 o1 o2 o3 l i) - i))) ++ (⟨#[32]⟩ : ByteArray)) ++ (V.strOf (nthV l (((i).toNat * 1) + 0)))))]) R κ
                            else none
                          else none
                        else none
                      else none
                    else
                      bif (((roomy ((out.length + 1) * 16)) && (roomy (out.length + 1))) && true) then
                        f20_l0 n l (i + cntU o0 o1 o2 o3 l i) o0 o1 o2 o3 o4 o5 o6 (out ++ [.sc (.string (V.strOf (nthV l (((i).toNat * 1) + 0))))]) R κ
                      else none
                  else none
                else none
              else
                f20_l0 n l (i + cntU o0 o1 o2 o3 l i) o0 o1 o2 o3 o4 o5 o6 out R κ
          else
            f20_l0 n l (i + cntU o0 o1 o2 o3 l i) o0 o1 o2 o3 o4 o5 o6 out R κ
      else none
    else
      κ (.ex 0) (mkS [(4, .bad), (5, .ref ⟨.loc 5, 0, [], 9, false⟩)] [(.loc 5, some ⟨false, [.own 9 false out]⟩)])
def f20_l0_ls : List (Nat × Pat) := [(1, .sl 1), (2, .is (.ptrB (.loc 2) 0)), (5, .is (.ref ⟨.loc 5, 0, [], 9, false⟩)), (6, .i .i64)]
def f20_l0_rs : List RPat := [⟨.loc 2, true, [.i .i64, .i .i64, .i .i64, .b, .b, .b, .b]⟩, ⟨.loc 5, false, [.own 9 false]⟩]
theorem f20_l0_ok (n : Nat) : ∀ (l : List V) (i : Int) (o0 : Int) (o1 : Int) (o2 : Int) (o3 : Bool) (o4 : Bool) (o5 : Bool) (o6 : Bool) (out : List V) (R : Type) (κ : Ex → St → Option R) (r : R), f20_l0 n l i o0 o1 o2 o3 o4 o5 o6 out R κ = some r → ∃ ee ss, κ ee ss = some r ∧ RunP C prim 20 [0, 1, 0, 1, 1] (mkS [(1, .sl 1 l), (2, .ptrB (.loc 2) 0), (5, .ref ⟨.loc 5, 0, [], 9, false⟩), (6, .sc (.int .i64 i))] [(.loc 2, some ⟨true, [.sc (.int .i64 o0), .sc (.int .i64 o1), .sc (.int .i64 o2), .sc (.bool o3), .sc (.bool o4), .sc (.bool o5), .sc (.bool o6)]⟩), (.loc 5, some ⟨false, [.own 9 false out]⟩)]) ee ss := by
  induction n with
  | zero => intro l i o0 o1 o2 o3 o4 o5 o6 out R κ r h; cases h
  | succ n ih =>
    intro l i o0 o1 o2 o3 o4 o5 o6 out R κ r h
    refine loop_round (K := K_f20_l0) (T := T_f20_l0) K_f20_l0_ok T_f20_l0_ok (p := [0, 1, 0, 1, 1]) (by kernel_rfl) (fun st => bif ckS f20_l0_ls f20_l0_rs st then f20_l0 n ((st.env 1).cellsOf) ((st.env 6).intOf) ((nthV (rowOf (st.regs (.loc 2))) 0).intOf) ((nthV (rowOf (st.regs (.loc 2))) 1).intOf) ((nthV (rowOf (st.regs (.loc 2))) 2).intOf) ((nthV (rowOf (st.regs (.loc 2))) 3).boolOf) ((nthV (rowOf (st.regs (.loc 2))) 4).boolOf) ((nthV (rowOf (st.regs (.loc 2))) 5).boolOf) ((nthV (rowOf (st.regs (.loc 2))) 6).boolOf) ((nthV (rowOf (st.regs (.loc 5))) 0).cellsOf) R κ else none) (fun st0 h0 => ?_) ?_
    · obtain ⟨hs, h0⟩ := cond_some h0
      rw [canon (ls := f20_l0_ls) (rs := f20_l0_rs) (by kernel_rfl) st0 hs]
      exact ih _ _ _ _ _ _ _ _ _ _ R κ r h0
    · refine Eq.trans ?_ h
      kernel_rfl

def f20_s0 (l : List V) (i : Int) (o0 : Int) (o1 : Int) (o2 : Int) (o3 : Bool) (o4 : Bool) (o5 : Bool) (o6 : Bool) (out : List V) (R : Type) (κ : Ex → St → Option R) : Option R :=
  κ (.ex 0) (mkS [(4, .bad), (5, .ref ⟨.loc 5, 0, [], 9, false⟩)] [(.loc 5, some ⟨false, [.own 9 false (grpU o0 o1 o2 o3 o4 o5 o6 l.length l)]⟩)])
theorem f20_loop0 (o0 o1 o2 : Int) (o3 o4 o5 o6 : Bool) (l : List V) (hl : l.all shortS = true) (hn : l.length ≤ 1000000) (hu : okU o0 o1 o2 = true) (R : Type) (κ : Ex → St → Option R) : ∀ (k i : Nat) (out : List V), l.length - i ≤ k → out.length ≤ i → i ≤ l.length →
    f20_l0 (k + 1) l ((i : Nat) : Int) o0 o1 o2 o3 o4 o5 o6 out R κ = κ (.ex 0) (mkS [(4, .bad), (5, .ref ⟨.loc 5, 0, [], 9, false⟩)] [(.loc 5, some ⟨false, [.own 9 false (out ++ grpU o0 o1 o2 o3 o4 o5 o6 k (l.drop i))]⟩)])
  | 0, i, out, h, ho, hi => by
    rw [f20_l0, dec_false (by omega), grpU, List.append_nil]
    rfl
  | k + 1, i, out, h, ho, hi => by
    by_cases hlt : i < l.length
    · have hr := runU_le o0 o1 o2 o3 (keyU o0 o1 o2 o3 l[i].strOf) (l.drop (i + 1))
      have hg := gt_eq (runU o0 o1 o2 o3 (keyU o0 o1 o2 o3 l[i].strOf) (l.drop (i + 1)))
      have hc := cntU_at (o0 := o0) (o1 := o1) (o2 := o2) (o3 := o3) hlt
      obtain ⟨i1, i2⟩ := shortS_spec (List.all_eq_true.1 hl _ (List.getElem_mem hlt))
      obtain ⟨r1, r2⟩ := roomU (n := out.length) (by omega)
      rw [List.length_drop] at hr
      rw [f20_l0, dec_true (show ((i : Nat) : Int) < ((l.length : Nat) : Int) by omega), dec_true (show (0 : Int) ≤ ((i : Nat) : Int) by omega), nth_at hlt, i1, hu, hl, dec_true hn, r1, r2, hc, List.drop_eq_getElem_cons hlt, grpU, List.drop_drop, wrap_id (n := ((i : Nat) : Int) + 1) (by omega) (by omega), beq_self_eq_true]
      unfold outU
      generalize runU o0 o1 o2 o3 (keyU o0 o1 o2 o3 l[i].strOf) (l.drop (i + 1)) = r at *
      have hw : IntKind.wrap .i64 ((((i : Nat) : Int) + ((r + 1 : Nat) : Int)) - ((i : Nat) : Int)) = ((r + 1 : Nat) : Int) := by rw [wrap_id (by omega) (by omega)]; omega
      have hin : inR ((r + 1 : Nat) : Int) = true := by unfold inR; rw [dec_true (show -9223372036854775808 ≤ ((r + 1 : Nat) : Int) by omega), dec_true (show ((r + 1 : Nat) : Int) ≤ 9223372036854775807 by omega)]; rfl
      have hit := itoa_le (n := ((r + 1 : Nat) : Int)) (by omega) (by omega)
      have h32 : (⟨#[32]⟩ : ByteArray).size = 1 := rfl
      have t1 : decide ((itoaB ((r + 1 : Nat) : Int)).size + 1 ≤ 9223372036854775807) = true := dec_true (by omega)
      have t2 : decide ((itoaB ((r + 1 : Nat) : Int) ++ (⟨#[32]⟩ : ByteArray)).size + l[i].strOf.size ≤ 9223372036854775807) = true := dec_true (by rw [ba_size_append, h32]; omega)
      have IHt := f20_loop0 o0 o1 o2 o3 o4 o5 o6 l hl hn hu R κ k (i + 1 + r) (out ++ [.sc (.string (linU o4 ((r + 1 : Nat) : Int) l[i].strOf))]) (by omega) (by simp; omega) (by omega)
      have IHf := f20_loop0 o0 o1 o2 o3 o4 o5 o6 l hl hn hu R κ k (i + 1 + r) out (by omega) (by omega) (by omega)
      rw [List.append_assoc] at IHt
      rw [hw, hin, t1, t2, hg, show ((i : Nat) : Int) + ((r + 1 : Nat) : Int) = ((i + 1 + r : Nat) : Int) by omega]
      generalize (((r + 1 : Nat) : Int) == 1) = b
      clear hg
      cases o4 <;> cases o5 <;> cases o6 <;> cases b
      · exact IHt
      · exact IHt
      · exact IHf
      · exact IHt
      · exact IHt
      · exact IHf
      · exact IHf
      · exact IHf
      · exact IHt
      · exact IHt
      · exact IHf
      · exact IHt
      · exact IHt
      · exact IHf
      · exact IHf
      · exact IHf
    · rw [f20_l0, dec_false (by omega), List.drop_of_length_le (by omega), grpU, List.append_nil]
      rfl
theorem f20_s0_eq (l : List V) (i : Int) (o0 : Int) (o1 : Int) (o2 : Int) (o3 : Bool) (o4 : Bool) (o5 : Bool) (o6 : Bool) (out : List V) (hp : ((i == 0) && (out.length == 0) && okU o0 o1 o2 && l.all shortS && decide (l.length ≤ 1000000)) = true) : ∃ n, ∀ (R : Type) (κ : Ex → St → Option R), f20_l0 n l i o0 o1 o2 o3 o4 o5 o6 out R κ = f20_s0 l i o0 o1 o2 o3 o4 o5 o6 out R κ := by
  simp only [Bool.and_eq_true, decide_eq_true_eq, beq_iff_eq] at hp
  obtain ⟨⟨⟨⟨rfl, h2⟩, h4⟩, h5⟩, h6⟩ := hp
  obtain rfl : out = [] := List.eq_nil_of_length_eq_zero h2
  exact ⟨l.length + 1, fun R κ => f20_loop0 o0 o1 o2 o3 o4 o5 o6 l h5 h6 h4 R κ l.length 0 [] (by omega) (Nat.le_refl _) (by omega)⟩
def t_f20_l0 (st : St) (R : Type) (κ : Ex → St → Option R) : Option R := bif ckS f20_l0_ls f20_l0_rs st then (bif ((((st.env 6).intOf) == 0) && (((nthV (rowOf (st.regs (.loc 5))) 0).cellsOf).length == 0) && okU ((nthV (rowOf (st.regs (.loc 2))) 0).intOf) ((nthV (rowOf (st.regs (.loc 2))) 1).intOf) ((nthV (rowOf (st.regs (.loc 2))) 2).intOf) && ((st.env 1).cellsOf).all shortS && decide (((st.env 1).cellsOf).length ≤ 1000000)) then f20_s0 ((st.env 1).cellsOf) ((st.env 6).intOf) ((nthV (rowOf (st.regs (.loc 2))) 0).intOf) ((nthV (rowOf (st.regs (.loc 2))) 1).intOf) ((nthV (rowOf (st.regs (.loc 2))) 2).intOf) ((nthV (rowOf (st.regs (.loc 2))) 3).boolOf) ((nthV (rowOf (st.regs (.loc 2))) 4).boolOf) ((nthV (rowOf (st.regs (.loc 2))) 5).boolOf) ((nthV (rowOf (st.regs (.loc 2))) 6).boolOf) ((nthV (rowOf (st.regs (.loc 5))) 0).cellsOf) R κ else none) else none
theorem t_f20_l0_ok : ∀ st0 R κ r, t_f20_l0 (forget C 20 [0, 1, 0, 1, 1] st0) R κ = some r → ∃ ee ss, κ ee ss = some r ∧ RunP C prim 20 [0, 1, 0, 1, 1] (forget C 20 [0, 1, 0, 1, 1] st0) ee ss := by
  intro st0 R κ r h
  obtain ⟨hs, h⟩ := cond_some h
  obtain ⟨hp, h⟩ := cond_some h
  rw [canon (ls := f20_l0_ls) (rs := f20_l0_rs) (by kernel_rfl) st0 hs]
  obtain ⟨n, hn⟩ := f20_s0_eq _ _ _ _ _ _ _ _ _ _ hp
  rw [← hn] at h
  exact f20_l0_ok n _ _ _ _ _ _ _ _ _ _ R κ r h

def K_f20 : CallK := kNil
theorem K_f20_ok : KOK C prim K_f20 := KOK.nil
def T_f20 : Tab := tCons [0, 1, 0, 1, 1] t_f20_l0 <| tNil
theorem T_f20_ok : TOK C prim 20 T_f20 := TOK.cons t_f20_l0_ok <| TOK.nil
def f20 (o0 : Int) (o1 : Int) (o2 : Int) (o3 : Bool) (o4 : Bool) (o5 : Bool) (o6 : Bool) (l : List V) : Option (V × List Rg) :=
  bif (((0 : Int) == 0) && (([] : List V).length == 0) && okU o0 o1 o2 && l.all shortS && decide (l.length ≤ 1000000)) then
    some (.own 9 false (grpU o0 o1 o2 o3 o4 o5 o6 l.length l), [])
  else none
theorem f20_run (o0 : Int) (o1 : Int) (o2 : Int) (o3 : Bool) (o4 : Bool) (o5 : Bool) (o6 : Bool) (l : List V) (z9 : V × List Rg) (h : f20 o0 o1 o2 o3 o4 o5 o6 l = some z9) : CallR C prim 20 [.ag [.sc (.int .i64 o0), .sc (.int .i64 o1), .sc (.int .i64 o2), .sc (.bool o3), .sc (.bool o4), .sc (.bool o5), .sc (.bool o6)], .sl 1 l] [] z9 := by
  refine call_fn (K := K_f20) (T := T_f20) K_f20_ok T_f20_ok (by kernel_rfl) ?_
  refine Eq.trans ?_ h
  kernel_rfl

theorem f20_eq (o0 : Int) (o1 : Int) (o2 : Int) (o3 : Bool) (o4 : Bool) (o5 : Bool) (o6 : Bool) (l : List V) (hp : (okU o0 o1 o2 && l.all shortS && decide (l.length ≤ 1000000)) = true) : f20 o0 o1 o2 o3 o4 o5 o6 l = some (.own 9 false (grpU o0 o1 o2 o3 o4 o5 o6 l.length l), []) := by
  unfold f20
  simp only [Bool.and_eq_true] at hp
  obtain ⟨⟨h1, h2⟩, h3⟩ := hp
  rw [h1, h2, h3, beq_self_eq_true]
  rfl
def k20 : PrimT := fun vs gs => match vs, gs with
  | [.ag [.sc (.int .i64 o0), .sc (.int .i64 o1), .sc (.int .i64 o2), .sc (.bool o3), .sc (.bool o4), .sc (.bool o5), .sc (.bool o6)], .sl 1 l], [] => ((okU o0 o1 o2 && l.all shortS && decide (l.length ≤ 1000000)), .own 9 false (grpU o0 o1 o2 o3 o4 o5 o6 l.length l), [])
  | _, _ => (false, .bad, [])
theorem k20_ok : ∀ vs gs x, k20 vs gs = (true, x) → CallR C prim 20 vs gs x := by
  intro vs gs x h
  unfold k20 at h
  split at h
  · simp only [Prod.mk.injEq] at h
    obtain ⟨hp, rfl⟩ := h
    exact f20_run _ _ _ _ _ _ _ _ _ (f20_eq _ _ _ _ _ _ _ _ hp)
  · cases h

def K_f11 : CallK := kNil
theorem K_f11_ok : KOK C prim K_f11 := KOK.nil
def T_f11 : Tab := tNil
theorem T_f11_ok : TOK C prim 11 T_f11 := TOK.nil
def f11 (s : ByteArray) : Option (V × List Rg) :=
  some (.sc (.bool (decide (((s.size : Nat) : Int) ≤ 3000))), [])
theorem f11_run (s : ByteArray) (z9 : V × List Rg) (h : f11 s = some z9) : CallR C prim 11 [.sc (.string s)] [] z9 := by
  refine call_fn (K := K_f11) (T := T_f11) K_f11_ok T_f11_ok (by kernel_rfl) ?_
  refine Eq.trans ?_ h
  kernel_rfl

theorem f11_eq (s : ByteArray) : f11 s = some (.sc (.bool (decide (((s.size : Nat) : Int) ≤ 3000))), []) := by rfl
def k11 : PrimT := fun vs gs => match vs, gs with
  | [.sc (.string s)], [] => (true, .sc (.bool (decide (((s.size : Nat) : Int) ≤ 3000))), [])
  | _, _ => (false, .bad, [])
theorem k11_ok : ∀ vs gs x, k11 vs gs = (true, x) → CallR C prim 11 vs gs x := by
  intro vs gs x h
  unfold k11 at h
  split at h
  · simp only [Prod.mk.injEq, true_and] at h
    subst h
    exact f11_run _ _ (f11_eq _)
  · cases h

def K_f4 : CallK := kCons 8 k8 <| kCons 10 k10 <| kCons 11 k11 <| kCons 12 k12 <| kCons 13 k13 <| kCons 14 k14 <| kCons 16 k16 <| kCons 17 k17 <| kCons 18 k18 <| kCons 19 k19 <| kCons 20 k20 <| kNil
theorem K_f4_ok : KOK C prim K_f4 := KOK.cons k8_ok <| KOK.cons k10_ok <| KOK.cons k11_ok <| KOK.cons k12_ok <| KOK.cons k13_ok <| KOK.cons k14_ok <| KOK.cons k16_ok <| KOK.cons k17_ok <| KOK.cons k18_ok <| KOK.cons k19_ok <| KOK.cons k20_ok <| KOK.nil
def T_f4 : Tab := tNil
theorem T_f4_ok : TOK C prim 4 T_f4 := TOK.nil
def f4 (o0 : Int) (o1 : Int) (o2 : Int) (o3 : Bool) (o4 : Bool) (o5 : Bool) (o6 : Bool) (s : ByteArray) : Option (V × List Rg) :=
  bif ((decide (s.size ≤ 10000000)) && true) then
    bif (!(decide (o0 ≥ (0 : Int)) && decide (o0 ≤ (4096 : Int)))) then
      bif ((([.sc (.string s)] : List V).all shortS && decide (([.sc (.string s)] : List V).length ≤ 1000000000)) && true) then
        bif ((([.sc (.int .i64 (bif true then (3 : Int) else 0)), .sc (.int .i64 (bif ([.sc (.string s)] : List V).any largeV then (2 : Int) else 0))] : List V).all (V.isInt .i64) && decide (([.sc (.int .i64 (bif true then (3 : Int) else 0)), .sc (.int .i64 (bif ([.sc (.string s)] : List V).any largeV then (2 : Int) else 0))] : List V).length ≤ 1000000000)) && true) then
          bif ((firstBy V.intOf ([.sc (.int .i64 (bif true then (3 : Int) else 0)), .sc (.int .i64 (bif ([.sc (.string s)] : List V).any largeV then (2 : Int) else 0))] : List V)) != 0) then
            some (.sc (.bool (outc (uniS o0 o1 o2 o3 o4 o5 o6 s) (uniE o0 o1 o2 s) (uniS o0 o1 o2 o3 o4 o5 o6 s) (firstBy V.intOf ([.sc (.int .i64 (bif true then (3 : Int) else 0)), .sc (.int .i64 (bif ([.sc (.string s)] : List V).any largeV then (2 : Int) else 0))] : List V)))), [])
          else
            bif (!(decide (((s.size : Nat) : Int) ≤ 3000))) then
              some (.sc (.bool (outc (uniS o0 o1 o2 o3 o4 o5 o6 s) (uniE o0 o1 o2 s) (uniS o0 o1 o2 o3 o4 o5 o6 s) (firstBy V.intOf ([.sc (.int .i64 (bif true then (3 : Int) else 0)), .sc (.int .i64 (bif ([.sc (.string s)] : List V).any largeV then (2 : Int) else 0))] : List V)))), [])
            else
              bif ((decide (s.size ≤ 1000000000)) && true) then
                bif ((okU o0 o1 o2 && (linesV s).all shortS && decide ((linesV s).length ≤ 1000000)) && true) then
                  bif (((grpU o0 o1 o2 o3 o4 o5 o6 (linesV s).length (linesV s)).all V.isStr && decide ((grpU o0 o1 o2 o3 o4 o5 o6 (linesV s).length (linesV s)).length ≤ 1000000000) && decide ((resB (grpU o0 o1 o2 o3 o4 o5 o6 (linesV s).length (linesV s))).size ≤ 100000000000)) && true) then
                    some (.sc (.bool (outc (uniS o0 o1 o2 o3 o4 o5 o6 s) (uniE o0 o1 o2 s) (resB (grpU o0 o1 o2 o3 o4 o5 o6 (linesV s).length (linesV s))) (firstBy V.intOf ([.sc (.int .i64 (bif true then (3 : Int) else 0)), .sc (.int .i64 (bif ([.sc (.string s)] : List V).any largeV then (2 : Int) else 0))] : List V)))), [])
                  else none
                else none
              else none
        else none
      else none
    else
      bif (!(decide (o1 ≥ (0 : Int)) && decide (o1 ≤ (4096 : Int)))) then
        bif ((([.sc (.string s)] : List V).all shortS && decide (([.sc (.string s)] : List V).length ≤ 1000000000)) && true) then
          bif ((([.sc (.int .i64 (bif true then (3 : Int) else 0)), .sc (.int .i64 (bif ([.sc (.string s)] : List V).any largeV then (2 : Int) else 0))] : List V).all (V.isInt .i64) && decide (([.sc (.int .i64 (bif true then (3 : Int) else 0)), .sc (.int .i64 (bif ([.sc (.string s)] : List V).any largeV then (2 : Int) else 0))] : List V).length ≤ 1000000000)) && true) then
            bif ((firstBy V.intOf ([.sc (.int .i64 (bif true then (3 : Int) else 0)), .sc (.int .i64 (bif ([.sc (.string s)] : List V).any largeV then (2 : Int) else 0))] : List V)) != 0) then
              some (.sc (.bool (outc (uniS o0 o1 o2 o3 o4 o5 o6 s) (uniE o0 o1 o2 s) (uniS o0 o1 o2 o3 o4 o5 o6 s) (firstBy V.intOf ([.sc (.int .i64 (bif true then (3 : Int) else 0)), .sc (.int .i64 (bif ([.sc (.string s)] : List V).any largeV then (2 : Int) else 0))] : List V)))), [])
            else
              bif (!(decide (((s.size : Nat) : Int) ≤ 3000))) then
                some (.sc (.bool (outc (uniS o0 o1 o2 o3 o4 o5 o6 s) (uniE o0 o1 o2 s) (uniS o0 o1 o2 o3 o4 o5 o6 s) (firstBy V.intOf ([.sc (.int .i64 (bif true then (3 : Int) else 0)), .sc (.int .i64 (bif ([.sc (.string s)] : List V).any largeV then (2 : Int) else 0))] : List V)))), [])
              else
                bif ((decide (s.size ≤ 1000000000)) && true) then
                  bif ((okU o0 o1 o2 && (linesV s).all shortS && decide ((linesV s).length ≤ 1000000)) && true) then
                    bif (((grpU o0 o1 o2 o3 o4 o5 o6 (linesV s).length (linesV s)).all V.isStr && decide ((grpU o0 o1 o2 o3 o4 o5 o6 (linesV s).length (linesV s)).length ≤ 1000000000) && decide ((resB (grpU o0 o1 o2 o3 o4 o5 o6 (linesV s).length (linesV s))).size ≤ 100000000000)) && true) then
                      some (.sc (.bool (outc (uniS o0 o1 o2 o3 o4 o5 o6 s) (uniE o0 o1 o2 s) (resB (grpU o0 o1 o2 o3 o4 o5 o6 (linesV s).length (linesV s))) (firstBy V.intOf ([.sc (.int .i64 (bif true then (3 : Int) else 0)), .sc (.int .i64 (bif ([.sc (.string s)] : List V).any largeV then (2 : Int) else 0))] : List V)))), [])
                    else none
                  else none
                else none
          else none
        else none
      else
        bif ((([.sc (.string s)] : List V).all shortS && decide (([.sc (.string s)] : List V).length ≤ 1000000000)) && true) then
          bif ((([.sc (.int .i64 (bif (!(decide (o2 ≥ (0 : Int)) && decide (o2 ≤ (4096 : Int)))) then (3 : Int) else 0)), .sc (.int .i64 (bif ([.sc (.string s)] : List V).any largeV then (2 : Int) else 0))] : List V).all (V.isInt .i64) && decide (([.sc (.int .i64 (bif (!(decide (o2 ≥ (0 : Int)) && decide (o2 ≤ (4096 : Int)))) then (3 : Int) else 0)), .sc (.int .i64 (bif ([.sc (.string s)] : List V).any largeV then (2 : Int) else 0))] : List V).length ≤ 1000000000)) && true) then
            bif ((firstBy V.intOf ([.sc (.int .i64 (bif (!(decide (o2 ≥ (0 : Int)) && decide (o2 ≤ (4096 : Int)))) then (3 : Int) else 0)), .sc (.int .i64 (bif ([.sc (.string s)] : List V).any largeV then (2 : Int) else 0))] : List V)) != 0) then
              some (.sc (.bool (outc (uniS o0 o1 o2 o3 o4 o5 o6 s) (uniE o0 o1 o2 s) (uniS o0 o1 o2 o3 o4 o5 o6 s) (firstBy V.intOf ([.sc (.int .i64 (bif (!(decide (o2 ≥ (0 : Int)) && decide (o2 ≤ (4096 : Int)))) then (3 : Int) else 0)), .sc (.int .i64 (bif ([.sc (.string s)] : List V).any largeV then (2 : Int) else 0))] : List V)))), [])
            else
              bif (!(decide (((s.size : Nat) : Int) ≤ 3000))) then
                some (.sc (.bool (outc (uniS o0 o1 o2 o3 o4 o5 o6 s) (uniE o0 o1 o2 s) (uniS o0 o1 o2 o3 o4 o5 o6 s) (firstBy V.intOf ([.sc (.int .i64 (bif (!(decide (o2 ≥ (0 : Int)) && decide (o2 ≤ (4096 : Int)))) then (3 : Int) else 0)), .sc (.int .i64 (bif ([.sc (.string s)] : List V).any largeV then (2 : Int) else 0))] : List V)))), [])
              else
                bif ((decide (s.size ≤ 1000000000)) && true) then
                  bif ((okU o0 o1 o2 && (linesV s).all shortS && decide ((linesV s).length ≤ 1000000)) && true) then
                    bif (((grpU o0 o1 o2 o3 o4 o5 o6 (linesV s).length (linesV s)).all V.isStr && decide ((grpU o0 o1 o2 o3 o4 o5 o6 (linesV s).length (linesV s)).length ≤ 1000000000) && decide ((resB (grpU o0 o1 o2 o3 o4 o5 o6 (linesV s).length (linesV s))).size ≤ 100000000000)) && true) then
                      some (.sc (.bool (outc (uniS o0 o1 o2 o3 o4 o5 o6 s) (uniE o0 o1 o2 s) (resB (grpU o0 o1 o2 o3 o4 o5 o6 (linesV s).length (linesV s))) (firstBy V.intOf ([.sc (.int .i64 (bif (!(decide (o2 ≥ (0 : Int)) && decide (o2 ≤ (4096 : Int)))) then (3 : Int) else 0)), .sc (.int .i64 (bif ([.sc (.string s)] : List V).any largeV then (2 : Int) else 0))] : List V)))), [])
                    else none
                  else none
                else none
          else none
        else none
  else none
theorem f4_run (o0 : Int) (o1 : Int) (o2 : Int) (o3 : Bool) (o4 : Bool) (o5 : Bool) (o6 : Bool) (s : ByteArray) (z9 : V × List Rg) (h : f4 o0 o1 o2 o3 o4 o5 o6 s = some z9) : CallR C prim 4 [.ag [.sc (.int .i64 o0), .sc (.int .i64 o1), .sc (.int .i64 o2), .sc (.bool o3), .sc (.bool o4), .sc (.bool o5), .sc (.bool o6)], .sc (.string s)] [] z9 := by
  refine call_fn (K := K_f4) (T := T_f4) K_f4_ok T_f4_ok (by kernel_rfl) ?_
  refine Eq.trans ?_ h
  kernel_rfl

theorem outc_no {s : ByteArray} {e f : Int} (hf : (f != 0) = true) (hs : s = ⟨#[]⟩) (he : e = f) : outc s e ⟨#[]⟩ f = true := by
  unfold outc
  rw [hf, hs, he, strEq_self, beq_self_eq_true]; rfl
theorem outc_yes (s : ByteArray) : outc s 0 s 0 = true := by
  unfold outc
  rw [strEq_self]; rfl
theorem uni_tail (o0 o1 o2 : Int) (o3 o4 o5 o6 : Bool) (s : ByteArray) (F : Int) (hE : uniE o0 o1 o2 s = F) (hs : s.size ≤ 10000000) : (bif F != 0 then
      some (V.sc (.bool (outc (uniS o0 o1 o2 o3 o4 o5 o6 s) (uniE o0 o1 o2 s) (uniS o0 o1 o2 o3 o4 o5 o6 s) F)), ([] : List Rg))
    else
      bif (!(decide (((s.size : Nat) : Int) ≤ 3000))) then
        some (.sc (.bool (outc (uniS o0 o1 o2 o3 o4 o5 o6 s) (uniE o0 o1 o2 s) (uniS o0 o1 o2 o3 o4 o5 o6 s) F)), [])
      else
        bif ((decide (s.size ≤ 1000000000)) && true) then
          bif ((okU o0 o1 o2 && (linesV s).all shortS && decide ((linesV s).length ≤ 1000000)) && true) then
            bif (((grpU o0 o1 o2 o3 o4 o5 o6 (linesV s).length (linesV s)).all V.isStr && decide ((grpU o0 o1 o2 o3 o4 o5 o6 (linesV s).length (linesV s)).length ≤ 1000000000) && decide ((resB (grpU o0 o1 o2 o3 o4 o5 o6 (linesV s).length (linesV s))).size ≤ 100000000000)) && true) then
              some (.sc (.bool (outc (uniS o0 o1 o2 o3 o4 o5 o6 s) (uniE o0 o1 o2 s) (resB (grpU o0 o1 o2 o3 o4 o5 o6 (linesV s).length (linesV s))) F)), [])
            else none
          else none
        else none) = some (.sc (.bool true), []) := by
  cases h : F != 0 with
  | true =>
    have hs : uniS o0 o1 o2 o3 o4 o5 o6 s = ⟨#[]⟩ := by
      unfold uniS
      rw [hE]
      have : (F == 0) = false := by rw [bne_iff_ne] at h; exact beq_eq_false_iff_ne.2 h
      rw [this]; rfl
    rw [cond_true, hE, hs, outc_no h rfl rfl]
  | false =>
    have h0 : F = 0 := by simpa using h
    subst h0
    have hS : uniS o0 o1 o2 o3 o4 o5 o6 s = resB (grpU o0 o1 o2 o3 o4 o5 o6 (linesV s).length (linesV s)) := by unfold uniS; rw [hE]; rfl
    have hu : okU o0 o1 o2 = true ∧ largeB s = false := by
      unfold uniE at hE
      cases hu : okU o0 o1 o2 with
      | false => rw [hu] at hE; cases hE
      | true =>
        cases hl : largeB s with
        | true => rw [hu, hl] at hE; cases hE
        | false => exact ⟨rfl, rfl⟩
    obtain ⟨l1, l2⟩ := large_no hu.2
    obtain ⟨a3, a4, a5⟩ := uni_ok (F := o0) (S := o1) (B := o2) o3 o4 o5 o6 hu.2
    rw [hS, hE, outc_yes, dec_true (show s.size ≤ 1000000000 by omega), linesV_short s (by omega), dec_true (show (linesV s).length ≤ 1000000 by omega), hu.1, a3, dec_true a4, dec_true a5]
    cases (!(decide (((s.size : Nat) : Int) ≤ 3000))) <;> rfl
theorem f4_eq (o0 : Int) (o1 : Int) (o2 : Int) (o3 : Bool) (o4 : Bool) (o5 : Bool) (o6 : Bool) (s : ByteArray) (hp : (decide (s.size ≤ 10000000)) = true) : f4 o0 o1 o2 o3 o4 o5 o6 s = some (.sc (.bool true), []) := by
  have hq := hp
  simp only [decide_eq_true_eq] at hp
  have h1 : ([.sc (.string s)] : List V).all shortS = true := by
    show ((true && decide (s.size ≤ 1000000000)) && true) = true
    rw [dec_true (show s.size ≤ 1000000000 by omega)]; rfl
  have h2 : ([.sc (.string s)] : List V).any largeV = largeB s := Bool.or_false _
  have hE : uniE o0 o1 o2 s = (bif (decide (o0 ≥ (0 : Int)) && decide (o0 ≤ (4096 : Int))) && ((decide (o1 ≥ (0 : Int)) && decide (o1 ≤ (4096 : Int))) && (decide (o2 ≥ (0 : Int)) && decide (o2 ≤ (4096 : Int)))) then (bif largeB s then 2 else 0) else 3) := rfl
  unfold f4
  rw [hq, h1, h2]
  cases hA : (decide (o0 ≥ (0 : Int)) && decide (o0 ≤ (4096 : Int))) with
  | false => exact uni_tail o0 o1 o2 o3 o4 o5 o6 s 3 (by rw [hE, hA]; rfl) hp
  | true =>
  cases hB : (decide (o1 ≥ (0 : Int)) && decide (o1 ≤ (4096 : Int))) with
  | false => exact uni_tail o0 o1 o2 o3 o4 o5 o6 s 3 (by rw [hE, hA, hB]; rfl) hp
  | true =>
  cases hC : (decide (o2 ≥ (0 : Int)) && decide (o2 ≤ (4096 : Int))) with
  | false => exact uni_tail o0 o1 o2 o3 o4 o5 o6 s 3 (by rw [hE, hA, hB, hC]; rfl) hp
  | true =>
  cases hL : largeB s with
  | true => exact uni_tail o0 o1 o2 o3 o4 o5 o6 s 2 (by rw [hE, hA, hB, hC, hL]; rfl) hp
  | false => exact uni_tail o0 o1 o2 o3 o4 o5 o6 s 0 (by rw [hE, hA, hB, hC, hL]; rfl) hp
def k4 : PrimT := fun vs gs => match vs, gs with
  | [.ag [.sc (.int .i64 o0), .sc (.int .i64 o1), .sc (.int .i64 o2), .sc (.bool o3), .sc (.bool o4), .sc (.bool o5), .sc (.bool o6)], .sc (.string s)], [] => ((decide (s.size ≤ 10000000)), .sc (.bool true), [])
  | _, _ => (false, .bad, [])
theorem k4_ok : ∀ vs gs x, k4 vs gs = (true, x) → CallR C prim 4 vs gs x := by
  intro vs gs x h
  unfold k4 at h
  split at h
  · simp only [Prod.mk.injEq] at h
    obtain ⟨hp, rfl⟩ := h
    exact f4_run _ _ _ _ _ _ _ _ _ (f4_eq _ _ _ _ _ _ _ _ hp)
  · cases h
end Go.Ab
