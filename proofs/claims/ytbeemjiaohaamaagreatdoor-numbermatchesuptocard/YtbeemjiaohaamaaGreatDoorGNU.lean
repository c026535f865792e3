/- Functions of a law, as the machine runs them. -/
import Derived.Test.YtbeemjiaohaamaaGreatDoorDNU
import Derived.Test.YtbeemjiaohaamaaGreatDoorZNU
namespace Go.Ab
open Go Go.Proofs Go.RowKit
set_option linter.unusedSimpArgs false
set_option linter.unusedVariables false

def K_f122 : CallK := kNil
theorem K_f122_ok : KOK C prim K_f122 := KOK.nil
def T_f122 : Tab := tNil
theorem T_f122_ok : TOK C prim 122 T_f122 := TOK.nil
def f122 (s : ByteArray) : Option (V × List Rg) :=
  bif (decide (((s.size : Nat) : Int) ≥ 1)) then
    bif ((((decide ((0 : Int) ≤ (IntKind.wrap .i64 (((s.size : Nat) : Int) - 1)))) && (decide ((IntKind.wrap .i64 (((s.size : Nat) : Int) - 1)) ≤ ((s.size : Nat) : Int)))) && true) && true) then
      some (.sc (.bool (strEq (s.extract ((IntKind.wrap .i64 (((s.size : Nat) : Int) - 1))).toNat (((s.size : Nat) : Int)).toNat) (⟨#[10]⟩ : ByteArray))), [])
    else none
  else
    some (.sc (.bool false), [])
theorem f122_run (s : ByteArray) (z9 : V × List Rg) (h : f122 s = some z9) : CallR C prim 122 [.sc (.string s), .sc (.string ⟨#[10]⟩)] [] z9 := by
  refine call_fn (K := K_f122) (T := T_f122) K_f122_ok T_f122_ok (by kernel_rfl) ?_
  refine Eq.trans ?_ h
  kernel_rfl

theorem f122_eq (s : ByteArray) (hp : (decide (s.size ≤ 1000000000)) = true) : f122 s = some (.sc (.bool (endNl s)), []) := by
  simp only [decide_eq_true_eq] at hp
  unfold f122
  rcases snoc_cases s.data.toList with h | ⟨t, b, h⟩
  · have hs : s.size = 0 := by rw [bl_size, h]; rfl
    rw [end_nil s h, hs]; rfl
  · have hs : s.size = t.length + 1 := by rw [bl_size, h]; simp
    have e1 : IntKind.wrap .i64 (((s.size : Nat) : Int) - 1) = ((t.length : Nat) : Int) := by rw [wrap_id (by omega) (by omega)]; omega
    have e : s.extract t.length (t.length + 1) = ⟨#[b]⟩ := ba_ext (by rw [bl_extract, h, List.take_of_length_le (by simp)]; simp)
    rw [end_snoc s h, e1, dec_true (show ((s.size : Nat) : Int) ≥ 1 by omega), dec_true (show (0 : Int) ≤ ((t.length : Nat) : Int) by omega), dec_true (show ((t.length : Nat) : Int) ≤ ((s.size : Nat) : Int) by omega), Int.toNat_natCast, Int.toNat_natCast, hs, e]
    have : strEq (⟨#[b]⟩ : ByteArray) ⟨#[10]⟩ = (b == 10) := by
      rw [Bool.eq_iff_iff, strEq_iff]
      constructor
      · intro h'
        have := congrArg (fun x : ByteArray => x.data.toList) h'
        simpa using this
      · intro h'
        rw [beq_iff_eq] at h'
        rw [h']
    rw [this]
    rfl
def k122 : PrimT := fun vs gs => match vs, gs with
  | [.sc (.string s), .sc (.string q1)], [] => ((strEq q1 (⟨#[10]⟩ : ByteArray) && (decide (s.size ≤ 1000000000))), .sc (.bool (endNl s)), [])
  | _, _ => (false, .bad, [])
theorem k122_ok : ∀ vs gs x, k122 vs gs = (true, x) → CallR C prim 122 vs gs x := by
  intro vs gs x h
  unfold k122 at h
  split at h
  · simp only [Prod.mk.injEq] at h
    obtain ⟨hp, rfl⟩ := h
    rw [Bool.and_eq_true] at hp
    obtain ⟨hq, hp⟩ := hp
    obtain rfl := (strEq_iff _ _).1 hq
    exact f122_run _ _ (f122_eq _ hp)
  · cases h

def K_f92 : CallK := kCons 122 k122 <| kNil
theorem K_f92_ok : KOK C prim K_f92 := KOK.cons k122_ok <| KOK.nil
def T_f92 : Tab := tNil
theorem T_f92_ok : TOK C prim 92 T_f92 := TOK.nil
def f92 (s : ByteArray) : Option (V × List Rg) :=
  bif ((decide (s.size ≤ 1000000000)) && true) then
    bif (endNl s) then
      bif ((((decide ((0 : Int) ≤ (IntKind.wrap .i64 (((s.size : Nat) : Int) - 1)))) && (decide ((IntKind.wrap .i64 (((s.size : Nat) : Int) - 1)) ≤ ((s.size : Nat) : Int)))) && true) && true) then
        some (.sc (.string (s.extract 0 ((IntKind.wrap .i64 (((s.size : Nat) : Int) - 1))).toNat)), [])
      else none
    else
      some (.sc (.string s), [])
  else none
theorem f92_run (s : ByteArray) (z9 : V × List Rg) (h : f92 s = some z9) : CallR C prim 92 [.sc (.string s), .sc (.string ⟨#[10]⟩)] [] z9 := by
  refine call_fn (K := K_f92) (T := T_f92) K_f92_ok T_f92_ok (by kernel_rfl) ?_
  refine Eq.trans ?_ h
  kernel_rfl

theorem endNl_pos (s : ByteArray) (h : endNl s = true) : 1 ≤ s.size := by
  rcases snoc_cases s.data.toList with h' | ⟨t, b, h'⟩
  · rw [end_nil s h'] at h; cases h
  · rw [bl_size, h']; simp
theorem f92_eq (s : ByteArray) (hp : (decide (s.size ≤ 1000000000)) = true) : f92 s = some (.sc (.string (trimNl s)), []) := by
  have hq := hp
  simp only [decide_eq_true_eq] at hp
  unfold f92 trimNl
  rw [hq]
  cases h : endNl s with
  | false => rfl
  | true =>
    have h1 := endNl_pos s h
    rw [wrap_id (n := ((s.size : Nat) : Int) - 1) (by omega) (by omega), dec_true (show (0 : Int) ≤ ((s.size : Nat) : Int) - 1 by omega), dec_true (show ((s.size : Nat) : Int) - 1 ≤ ((s.size : Nat) : Int) by omega), show ((s.size : Int) - 1).toNat = s.size - 1 by omega]
    rfl
def k92 : PrimT := fun vs gs => match vs, gs with
  | [.sc (.string s), .sc (.string q1)], [] => ((strEq q1 (⟨#[10]⟩ : ByteArray) && (decide (s.size ≤ 1000000000))), .sc (.string (trimNl s)), [])
  | _, _ => (false, .bad, [])
theorem k92_ok : ∀ vs gs x, k92 vs gs = (true, x) → CallR C prim 92 vs gs x := by
  intro vs gs x h
  unfold k92 at h
  split at h
  · simp only [Prod.mk.injEq] at h
    obtain ⟨hp, rfl⟩ := h
    rw [Bool.and_eq_true] at hp
    obtain ⟨hq, hp⟩ := hp
    obtain rfl := (strEq_iff _ _).1 hq
    exact f92_run _ _ (f92_eq _ hp)
  · cases h

def K_f58 : CallK := kCons 92 k92 <| kNil
theorem K_f58_ok : KOK C prim K_f58 := KOK.cons k92_ok <| KOK.nil
def T_f58 : Tab := tNil
theorem T_f58_ok : TOK C prim 58 T_f58 := TOK.nil
def f58 (s : ByteArray) : Option (V × List Rg) :=
  bif ((decide (s.size ≤ 1000000000)) && true) then
    some (.sc (.string (trimNl s)), [])
  else none
theorem f58_run (s : ByteArray) (z9 : V × List Rg) (h : f58 s = some z9) : CallR C prim 58 [.sc (.string s), .sc (.string ⟨#[10]⟩)] [] z9 := by
  refine call_fn (K := K_f58) (T := T_f58) K_f58_ok T_f58_ok (by kernel_rfl) ?_
  refine Eq.trans ?_ h
  kernel_rfl

theorem f58_eq (s : ByteArray) (hp : (decide (s.size ≤ 1000000000)) = true) : f58 s = some (.sc (.string (trimNl s)), []) := by
  unfold f58
  rw [hp]
  rfl
def k58 : PrimT := fun vs gs => match vs, gs with
  | [.sc (.string s), .sc (.string q1)], [] => ((strEq q1 (⟨#[10]⟩ : ByteArray) && (decide (s.size ≤ 1000000000))), .sc (.string (trimNl s)), [])
  | _, _ => (false, .bad, [])
theorem k58_ok : ∀ vs gs x, k58 vs gs = (true, x) → CallR C prim 58 vs gs x := by
  intro vs gs x h
  unfold k58 at h
  split at h
  · simp only [Prod.mk.injEq] at h
    obtain ⟨hp, rfl⟩ := h
    rw [Bool.and_eq_true] at hp
    obtain ⟨hq, hp⟩ := hp
    obtain rfl := (strEq_iff _ _).1 hq
    exact f58_run _ _ (f58_eq _ hp)
  · cases h

def K_f91 : CallK := kCons 118 k118 <| kNil
theorem K_f91_ok : KOK C prim K_f91 := KOK.cons k118_ok <| KOK.nil
def T_f91 : Tab := tNil
theorem T_f91_ok : TOK C prim 91 T_f91 := TOK.nil
def f91 (s : ByteArray) : Option (V × List Rg) :=
  bif (strEq (⟨#[10]⟩ : ByteArray) s) then
    some (.sc (.int .i64 0), [])
  else
    some (.sc (.int .i64 (idxB s 10)), [])
theorem f91_run (s : ByteArray) (z9 : V × List Rg) (h : f91 s = some z9) : CallR C prim 91 [.sc (.string s), .sc (.string ⟨#[10]⟩)] [] z9 := by
  refine call_fn (K := K_f91) (T := T_f91) K_f91_ok T_f91_ok (by kernel_rfl) ?_
  refine Eq.trans ?_ h
  kernel_rfl

theorem f91_eq (s : ByteArray) : f91 s = some (.sc (.int .i64 (idxB s 10)), []) := by
  unfold f91
  cases h : strEq (⟨#[10]⟩ : ByteArray) s with
  | false => rfl
  | true =>
    rw [strEq_iff] at h
    subst h
    rfl
def k91 : PrimT := fun vs gs => match vs, gs with
  | [.sc (.string s), .sc (.string q1)], [] => ((strEq q1 (⟨#[10]⟩ : ByteArray) && true), .sc (.int .i64 (idxB s 10)), [])
  | _, _ => (false, .bad, [])
theorem k91_ok : ∀ vs gs x, k91 vs gs = (true, x) → CallR C prim 91 vs gs x := by
  intro vs gs x h
  unfold k91 at h
  split at h
  · simp only [Prod.mk.injEq] at h
    obtain ⟨hp, rfl⟩ := h
    rw [Bool.and_eq_true] at hp
    obtain ⟨hq, hp⟩ := hp
    obtain rfl := (strEq_iff _ _).1 hq
    exact f91_run _ _ (f91_eq _)
  · cases h

def K_f57 : CallK := kCons 91 k91 <| kNil
theorem K_f57_ok : KOK C prim K_f57 := KOK.cons k91_ok <| KOK.nil
def T_f57 : Tab := tNil
theorem T_f57_ok : TOK C prim 57 T_f57 := TOK.nil
def f57 (s : ByteArray) : Option (V × List Rg) :=
  some (.sc (.int .i64 (idxB s 10)), [])
theorem f57_run (s : ByteArray) (z9 : V × List Rg) (h : f57 s = some z9) : CallR C prim 57 [.sc (.string s), .sc (.string ⟨#[10]⟩)] [] z9 := by
  refine call_fn (K := K_f57) (T := T_f57) K_f57_ok T_f57_ok (by kernel_rfl) ?_
  refine Eq.trans ?_ h
  kernel_rfl

def k57 : PrimT := fun vs gs => match vs, gs with
  | [.sc (.string s), .sc (.string sep)], [] => (isNl sep, .sc (.int .i64 (idxB s 10)), [])
  | _, _ => (false, .bad, [])
theorem k57_ok : ∀ vs gs x, k57 vs gs = (true, x) → CallR C prim 57 vs gs x := by
  intro vs gs x h
  unfold k57 at h
  split at h
  · next s sep =>
    simp only [Prod.mk.injEq] at h
    obtain ⟨hp, rfl⟩ := h
    rw [isNl_eq hp]
    exact f57_run s _ rfl
  · cases h

def K_f62_l0 : CallK := kCons 57 k57 <| kNil
theorem K_f62_l0_ok : KOK C prim K_f62_l0 := KOK.cons k57_ok <| KOK.nil
def T_f62_l0 : Tab := tNil
theorem T_f62_l0_ok : TOK C prim 62 T_f62_l0 := TOK.nil
def f62_l0 : Nat → ByteArray → ByteArray → Int → Int → Int → List V → (R : Type) → (Ex → St → Option R) → Option R
  | 0, _, _, _, _, _, _, _, _ => none
  | n + 1, s, sep, sepSave, n', i, a, R, κ =>
    bif (decide (i < n')) then
      bif ((isNl sep) && true) then
        bif (decide ((idxB s 10) < 0)) then
          κ (.ex 0) (mkS [(0, .sc (.string s)), (8, .bad), (9, .ref ⟨.loc 9, 0, [], 9, false⟩), (10, .sc (.int .i64 i))] [(.loc 9, some ⟨false, [.own 9 false a]⟩)])
        else
          bif ((((decide ((0 : Int) ≤ (IntKind.wrap .i64 ((idxB s 10) + sepSave)))) && (decide ((IntKind.wrap .i64 ((idxB s 10) + sepSave)) ≤ ((s.size : Nat) : Int)))) && true) && true) then
            bif (((decide ((0 : Int) ≤ i)) && (decide (i < ((a.length : Nat) : Int)))) && true) then
              bif ((((decide ((0 : Int) ≤ (IntKind.wrap .i64 ((idxB s 10) + ((sep.size : Nat) : Int))))) && (decide ((IntKind.wrap .i64 ((idxB s 10) + ((sep.size : Nat) : Int))) ≤ ((s.size : Nat) : Int)))) && true) && true) then
                f62_l0 n (s.extract ((IntKind.wrap .i64 ((idxB s 10) + ((sep.size : Nat) : Int)))).toNat (((s.size : Nat) : Int)).toNat) sep sepSave n' (IntKind.wrap .i64 (i + 1)) (a.set (((i).toNat * 1) + 0) (.sc (.string (s.extract 0 ((IntKind.wrap .i64 ((idxB s 10) + sepSave))).toNat)))) R κ
              else none
            else none
          else none
      else none
    else
      κ (.ex 0) (mkS [(0, .sc (.string s)), (8, .bad), (9, .ref ⟨.loc 9, 0, [], 9, false⟩), (10, .sc (.int .i64 i))] [(.loc 9, some ⟨false, [.own 9 false a]⟩)])
def f62_l0_ls : List (Nat × Pat) := [(0, .s), (1, .s), (2, .i .i64), (3, .i .i64), (9, .is (.ref ⟨.loc 9, 0, [], 9, false⟩)), (10, .i .i64)]
def f62_l0_rs : List RPat := [⟨.loc 9, false, [.own 9 false]⟩]
theorem f62_l0_ok (n : Nat) : ∀ (s : ByteArray) (sep : ByteArray) (sepSave : Int) (n' : Int) (i : Int) (a : List V) (R : Type) (κ : Ex → St → Option R) (r : R), f62_l0 n s sep sepSave n' i a R κ = some r → ∃ ee ss, κ ee ss = some r ∧ RunP C prim 62 [0, 0, 1, 1, 1, 1, 1, 1, 1, 1] (mkS [(0, .sc (.string s)), (1, .sc (.string sep)), (2, .sc (.int .i64 sepSave)), (3, .sc (.int .i64 n')), (9, .ref ⟨.loc 9, 0, [], 9, false⟩), (10, .sc (.int .i64 i))] [(.loc 9, some ⟨false, [.own 9 false a]⟩)]) ee ss := by
  induction n with
  | zero => intro s sep sepSave n' i a R κ r h; cases h
  | succ n ih =>
    intro s sep sepSave n' i a R κ r h
    refine loop_round (K := K_f62_l0) (T := T_f62_l0) K_f62_l0_ok T_f62_l0_ok (p := [0, 0, 1, 1, 1, 1, 1, 1, 1, 1]) (by kernel_rfl) (fun st => bif ckS f62_l0_ls f62_l0_rs st then f62_l0 n ((st.env 0).strOf) ((st.env 1).strOf) ((st.env 2).intOf) ((st.env 3).intOf) ((st.env 10).intOf) ((nthV (rowOf (st.regs (.loc 9))) 0).cellsOf) R κ else none) (fun st0 h0 => ?_) ?_
    · obtain ⟨hs, h0⟩ := cond_some h0
      rw [canon (ls := f62_l0_ls) (rs := f62_l0_rs) (by kernel_rfl) st0 hs]
      exact ih _ _ _ _ _ _ R κ r h0
    · refine Eq.trans ?_ h
      kernel_rfl

def f62_s0 (s : ByteArray) (sep : ByteArray) (sepSave : Int) (n' : Int) (i : Int) (a : List V) (R : Type) (κ : Ex → St → Option R) : Option R :=
  κ (.ex 0) (mkS [(0, .sc (.string (lastP s))), (8, .bad), (9, .ref ⟨.loc 9, 0, [], 9, false⟩), (10, .sc (.int .i64 n'))] [(.loc 9, some ⟨false, [.own 9 false (headP s ++ a.drop n'.toNat)]⟩)])
theorem idx_len (s : ByteArray) : ((headP s).length = 0 → idxB s 10 < 0) ∧ (0 < (headP s).length → ∃ m : Nat, idxB s 10 = (m : Int) ∧ m < s.size ∧ headP s = strV (s.data.toList.take m) :: headP (s.extract (m + 1) s.size) ∧ lastP s = lastP (s.extract (m + 1) s.size)) := by
  have hd : ∀ m : Nat, (s.extract (m + 1) s.size).data.toList = s.data.toList.drop (m + 1) := by
    intro m
    rw [bl_extract, List.take_of_length_le (by rw [bl_size]; exact Nat.le_refl _)]
  have hx : idxB s 10 = Lib.indexByte s.data.toList 10 := rfl
  constructor
  · intro h
    rw [hx]
    rcases (show Lib.indexByte s.data.toList 10 < 0 ∨ 0 ≤ Lib.indexByte s.data.toList 10 by omega) with h' | h'
    · exact h'
    · obtain ⟨h1, _, _⟩ := head_idx s.data.toList [] (Lib.indexByte s.data.toList 10).toNat (by omega)
      unfold headP at h
      rw [h1] at h
      cases h
  · intro h
    obtain ⟨m, hm⟩ := head_pos s.data.toList [] h
    obtain ⟨h1, h2, h3⟩ := head_idx s.data.toList [] m hm
    refine ⟨m, by rw [hx]; exact hm, by rw [bl_size]; exact h3, ?_, ?_⟩
    · unfold headP
      rw [h1, hd]
      rfl
    · unfold lastP
      rw [h2, hd]
theorem last_neg (s : ByteArray) (h : (headP s).length = 0) : headP s = [] ∧ lastP s = s := by
  have h1 : Lib.indexByte s.data.toList 10 < 0 := (idx_len s).1 h
  obtain ⟨h2, h3⟩ := head_neg s.data.toList [] h1
  refine ⟨h2, ba_ext ?_⟩
  unfold lastP
  rw [h3]
  simp
theorem f62_loop (sep : ByteArray) (hsep : isNl sep = true) (N : Nat) (hN : N ≤ 1000000000) (R : Type) (κ : Ex → St → Option R) : ∀ (k : Nat) (s : ByteArray) (i : Nat) (a : List V), (headP s).length = k → i + k = N → a.length = N + 1 → s.size ≤ 1000000000 →
    f62_l0 (k + 1) s sep 0 ((N : Nat) : Int) ((i : Nat) : Int) a R κ = κ (.ex 0) (mkS [(0, .sc (.string (lastP s))), (8, .bad), (9, .ref ⟨.loc 9, 0, [], 9, false⟩), (10, .sc (.int .i64 ((N : Nat) : Int)))] [(.loc 9, some ⟨false, [.own 9 false (a.take i ++ (headP s ++ a.drop N))]⟩)])
  | 0, s, i, a, h, h1, h2, h3 => by
    obtain ⟨h4, h5⟩ := last_neg s h
    obtain rfl : i = N := by omega
    rw [f62_l0, dec_false (by omega), cond_false, h4, h5, List.nil_append, List.take_append_drop]
  | k + 1, s, i, a, h, h1, h2, h3 => by
    obtain ⟨m, g1, g2, g3, g4⟩ := (idx_len s).2 (by omega)
    have hz : (sep.size : Nat) = 1 := by rw [isNl_eq hsep]; rfl
    have hk : (headP (s.extract (m + 1) s.size)).length = k := by rw [g3] at h; simpa using h
    have hs : (s.extract (m + 1) s.size).size ≤ 1000000000 := by rw [bl_size, bl_extract, List.length_drop, List.length_take]; rw [bl_size] at h3; omega
    have IH := f62_loop sep hsep N hN R κ k (s.extract (m + 1) s.size) (i + 1) (a.set i (strV (s.data.toList.take m))) hk (by omega) (by rw [List.length_set]; exact h2) hs
    rw [f62_l0, dec_true (show ((i : Nat) : Int) < ((N : Nat) : Int) by omega), hsep, g1, dec_false (show ¬ ((m : Nat) : Int) < 0 by omega), Int.add_zero, wrap_id (n := ((m : Nat) : Int)) (by omega) (by omega), hz, wrap_id (n := ((m : Nat) : Int) + ((1 : Nat) : Int)) (by omega) (by omega), wrap_succ (by omega), dec_true (show (0 : Int) ≤ ((m : Nat) : Int) by omega), dec_true (show ((m : Nat) : Int) ≤ ((s.size : Nat) : Int) by omega), dec_true (show (0 : Int) ≤ ((i : Nat) : Int) by omega), dec_true (show ((i : Nat) : Int) < ((a.length : Nat) : Int) by omega), dec_true (show (0 : Int) ≤ ((m : Nat) : Int) + ((1 : Nat) : Int) by omega), dec_true (show ((m : Nat) : Int) + ((1 : Nat) : Int) ≤ ((s.size : Nat) : Int) by omega)]
    simp only [Bool.and_self, cond_true, cond_false, Int.toNat_natCast, Nat.mul_one, Nat.add_zero, strV_extract s 0 m, List.drop_zero, show (((m : Nat) : Int) + ((1 : Nat) : Int)).toNat = m + 1 by omega, IH, g4]
    have : (a.set i (strV (s.data.toList.take m))).take (i + 1) ++ (headP (s.extract (m + 1) s.size) ++ (a.set i (strV (s.data.toList.take m))).drop N) = a.take i ++ (headP s ++ a.drop N) := by
      rw [g3, List.take_add_one, List.take_set_of_le (by omega), List.getElem?_set_self (by omega), List.drop_set_of_lt (by omega)]
      simp
    rw [this]
theorem f62_s0_eq (s : ByteArray) (sep : ByteArray) (sepSave : Int) (n' : Int) (i : Int) (a : List V) (hp : (isNl sep && (sepSave == 0) && (i == 0) && (n' == cntN s) && decide ((a.length : Int) = n' + 1) && decide (s.size ≤ 1000000000)) = true) : ∃ n, ∀ (R : Type) (κ : Ex → St → Option R), f62_l0 n s sep sepSave n' i a R κ = f62_s0 s sep sepSave n' i a R κ := by
  simp only [Bool.and_eq_true, decide_eq_true_eq, beq_iff_eq] at hp
  obtain ⟨⟨⟨⟨⟨g1, rfl⟩, rfl⟩, rfl⟩, g5⟩, g6⟩ := hp
  have hN := headP_le s
  refine ⟨(headP s).length + 1, fun R κ => ?_⟩
  unfold cntN at *
  have := f62_loop sep g1 (headP s).length (by omega) R κ (headP s).length s 0 a rfl (by omega) (by omega) g6
  rw [f62_s0, Int.toNat_natCast]
  exact this
def t_f62_l0 (st : St) (R : Type) (κ : Ex → St → Option R) : Option R := bif ckS f62_l0_ls f62_l0_rs st then (bif (isNl ((st.env 1).strOf) && (((st.env 2).intOf) == 0) && (((st.env 10).intOf) == 0) && (((st.env 3).intOf) == cntN ((st.env 0).strOf)) && decide ((((nthV (rowOf (st.regs (.loc 9))) 0).cellsOf).length : Int) = ((st.env 3).intOf) + 1) && decide (((st.env 0).strOf).size ≤ 1000000000)) then f62_s0 ((st.env 0).strOf) ((st.env 1).strOf) ((st.env 2).intOf) ((st.env 3).intOf) ((st.env 10).intOf) ((nthV (rowOf (st.regs (.loc 9))) 0).cellsOf) R κ else none) else none
theorem t_f62_l0_ok : ∀ st0 R κ r, t_f62_l0 (forget C 62 [0, 0, 1, 1, 1, 1, 1, 1, 1, 1] st0) R κ = some r → ∃ ee ss, κ ee ss = some r ∧ RunP C prim 62 [0, 0, 1, 1, 1, 1, 1, 1, 1, 1] (forget C 62 [0, 0, 1, 1, 1, 1, 1, 1, 1, 1] st0) ee ss := by
  intro st0 R κ r h
  obtain ⟨hs, h⟩ := cond_some h
  obtain ⟨hp, h⟩ := cond_some h
  rw [canon (ls := f62_l0_ls) (rs := f62_l0_rs) (by kernel_rfl) st0 hs]
  obtain ⟨n, hn⟩ := f62_s0_eq _ _ _ _ _ _ hp
  rw [← hn] at h
  exact f62_l0_ok n _ _ _ _ _ _ R κ r h

def K_f62 : CallK := kCons 95 k95 <| kNil
theorem K_f62_ok : KOK C prim K_f62 := KOK.cons k95_ok <| KOK.nil
def T_f62 : Tab := tCons [0, 0, 1, 1, 1, 1, 1, 1, 1, 1] t_f62_l0 <| tNil
theorem T_f62_ok : TOK C prim 62 T_f62 := TOK.cons t_f62_l0_ok <| TOK.nil
def f62 (s : ByteArray) : Option (V × List Rg) :=
  bif ((((((((((decide ((0 : Int) ≤ (bif (decide ((IntKind.wrap .i64 (((s.size : Nat) : Int) + 1)) < (IntKind.wrap .i64 ((cntB s (⟨#[10]⟩ : ByteArray)) + 1)))) then (IntKind.wrap .i64 (((s.size : Nat) : Int) + 1)) else (IntKind.wrap .i64 ((cntB s (⟨#[10]⟩ : ByteArray)) + 1))))) && (decide ((bif (decide ((IntKind.wrap .i64 (((s.size : Nat) : Int) + 1)) < (IntKind.wrap .i64 ((cntB s (⟨#[10]⟩ : ByteArray)) + 1)))) then (IntKind.wrap .i64 (((s.size : Nat) : Int) + 1)) else (IntKind.wrap .i64 ((cntB s (⟨#[10]⟩ : ByteArray)) + 1))) ≤ (bif (decide ((IntKind.wrap .i64 (((s.size : Nat) : Int) + 1)) < (IntKind.wrap .i64 ((cntB s (⟨#[10]⟩ : ByteArray)) + 1)))) then (IntKind.wrap .i64 (((s.size : Nat) : Int) + 1)) else (IntKind.wrap .i64 ((cntB s (⟨#[10]⟩ : ByteArray)) + 1)))))) && true) && true) && true) && true) && true) && (roomy (((bif (decide ((IntKind.wrap .i64 (((s.size : Nat) : Int) + 1)) < (IntKind.wrap .i64 ((cntB s (⟨#[10]⟩ : ByteArray)) + 1)))) then (IntKind.wrap .i64 (((s.size : Nat) : Int) + 1)) else (IntKind.wrap .i64 ((cntB s (⟨#[10]⟩ : ByteArray)) + 1)))).toNat * 16))) && (roomy ((bif (decide ((IntKind.wrap .i64 (((s.size : Nat) : Int) + 1)) < (IntKind.wrap .i64 ((cntB s (⟨#[10]⟩ : ByteArray)) + 1)))) then (IntKind.wrap .i64 (((s.size : Nat) : Int) + 1)) else (IntKind.wrap .i64 ((cntB s (⟨#[10]⟩ : ByteArray)) + 1)))).toNat)) && true) then
    bif (isNl (⟨#[10]⟩ : ByteArray) && ((0 : Int) == 0) && ((0 : Int) == 0) && ((IntKind.wrap .i64 ((bif (decide ((IntKind.wrap .i64 (((s.size : Nat) : Int) + 1)) < (IntKind.wrap .i64 ((cntB s (⟨#[10]⟩ : ByteArray)) + 1)))) then (IntKind.wrap .i64 (((s.size : Nat) : Int) + 1)) else (IntKind.wrap .i64 ((cntB s (⟨#[10]⟩ : ByteArray)) + 1))) - 1)) == cntN s) && decide ((((List.replicate ((bif (decide ((IntKind.wrap .i64 (((s.size : Nat) : Int) + 1)) < (IntKind.wrap .i64 ((cntB s (⟨#[10]⟩ : ByteArray)) + 1)))) then (IntKind.wrap .i64 (((s.size : Nat) : Int) + 1)) else (IntKind.wrap .i64 ((cntB s (⟨#[10]⟩ : ByteArray)) + 1)))).toNat ([.sc (.string ⟨#[]⟩)] : List V)).flatten).length : Int) = (IntKind.wrap .i64 ((bif (decide ((IntKind.wrap .i64 (((s.size : Nat) : Int) + 1)) < (IntKind.wrap .i64 ((cntB s (⟨#[10]⟩ : ByteArray)) + 1)))) then (IntKind.wrap .i64 (((s.size : Nat) : Int) + 1)) else (IntKind.wrap .i64 ((cntB s (⟨#[10]⟩ : ByteArray)) + 1))) - 1)) + 1) && decide (s.size ≤ 1000000000)) then
      bif (((decide ((0 : Int) ≤ (IntKind.wrap .i64 ((bif (decide ((IntKind.wrap .i64 (((s.size : Nat) : Int) + 1)) < (IntKind.wrap .i64 ((cntB s (⟨#[10]⟩ : ByteArray)) + 1)))) then (IntKind.wrap .i64 (((s.size : Nat) : Int) + 1)) else (IntKind.wrap .i64 ((cntB s (⟨#[10]⟩ : ByteArray)) + 1))) - 1)))) && (decide ((IntKind.wrap .i64 ((bif (decide ((IntKind.wrap .i64 (((s.size : Nat) : Int) + 1)) < (IntKind.wrap .i64 ((cntB s (⟨#[10]⟩ : ByteArray)) + 1)))) then (IntKind.wrap .i64 (((s.size : Nat) : Int) + 1)) else (IntKind.wrap .i64 ((cntB s (⟨#[10]⟩ : ByteArray)) + 1))) - 1)) < ((((headP s ++ ((List.replicate ((bif (decide ((IntKind.wrap .i64 (((s.size : Nat) : Int) + 1)) < (IntKind.wrap .i64 ((cntB s (⟨#[10]⟩ : ByteArray)) + 1)))) then (IntKind.wrap .i64 (((s.size : Nat) : Int) + 1)) else (IntKind.wrap .i64 ((cntB s (⟨#[10]⟩ : ByteArray)) + 1)))).toNat ([.sc (.string ⟨#[]⟩)] : List V)).flatten).drop (IntKind.wrap .i64 ((bif (decide ((IntKind.wrap .i64 (((s.size : Nat) : Int) + 1)) < (IntKind.wrap .i64 ((cntB s (⟨#[10]⟩ : ByteArray)) + 1)))) then (IntKind.wrap .i64 (((s.size : Nat) : Int) + 1)) else (IntKind.wrap .i64 ((cntB s (⟨#[10]⟩ : ByteArray)) + 1))) - 1)).toNat)).length : Nat) : Int)))) && true) then
        bif (((((decide ((0 : Int) ≤ (IntKind.wrap .i64 ((IntKind.wrap .i64 ((bif (decide ((IntKind.wrap .i64 (((s.size : Nat) : Int) + 1)) < (IntKind.wrap .i64 ((cntB s (⟨#[10]⟩ : ByteArray)) + 1)))) then (IntKind.wrap .i64 (((s.size : Nat) : Int) + 1)) else (IntKind.wrap .i64 ((cntB s (⟨#[10]⟩ : ByteArray)) + 1))) - 1)) + 1)))) && (decide ((IntKind.wrap .i64 ((IntKind.wrap .i64 ((bif (decide ((IntKind.wrap .i64 (((s.size : Nat) : Int) + 1)) < (IntKind.wrap .i64 ((cntB s (⟨#[10]⟩ : ByteArray)) + 1)))) then (IntKind.wrap .i64 (((s.size : Nat) : Int) + 1)) else (IntKind.wrap .i64 ((cntB s (⟨#[10]⟩ : ByteArray)) + 1))) - 1)) + 1)) ≤ (((((headP s ++ ((List.replicate ((bif (decide ((IntKind.wrap .i64 (((s.size : Nat) : Int) + 1)) < (IntKind.wrap .i64 ((cntB s (⟨#[10]⟩ : ByteArray)) + 1)))) then (IntKind.wrap .i64 (((s.size : Nat) : Int) + 1)) else (IntKind.wrap .i64 ((cntB s (⟨#[10]⟩ : ByteArray)) + 1)))).toNat ([.sc (.string ⟨#[]⟩)] : List V)).flatten).drop (IntKind.wrap .i64 ((bif (decide ((IntKind.wrap .i64 (((s.size : Nat) : Int) + 1)) < (IntKind.wrap .i64 ((cntB s (⟨#[10]⟩ : ByteArray)) + 1)))) then (IntKind.wrap .i64 (((s.size : Nat) : Int) + 1)) else (IntKind.wrap .i64 ((cntB s (⟨#[10]⟩ : ByteArray)) + 1))) - 1)).toNat).set ((((IntKind.wrap .i64 ((bif (decide ((IntKind.wrap .i64 (((s.size : Nat) : Int) + 1)) < (IntKind.wrap .i64 ((cntB s (⟨#[10]⟩ : ByteArray)) + 1)))) then (IntKind.wrap .i64 (((s.size : Nat) : Int) + 1)) else (IntKind.wrap .i64 ((cntB s (⟨#[10]⟩ : ByteArray)) + 1))) - 1))).toNat * 1) + 0) (.sc (.string (lastP s))))).length : Nat) : Int)))) && true) && true) && true) then
          some (.own 9 false (((headP s ++ ((List.replicate ((bif (decide ((IntKind.wrap .i64 (((s.size : Nat) : Int) + 1)) < (IntKind.wrap .i64 ((cntB s (⟨#[10]⟩ : ByteArray)) + 1)))) then (IntKind.wrap .i64 (((s.size : Nat) : Int) + 1)) else (IntKind.wrap .i64 ((cntB s (⟨#[10]⟩ : ByteArray)) + 1)))).toNat ([.sc (.string ⟨#[]⟩)] : List V)).flatten).drop (IntKind.wrap .i64 ((bif (decide ((IntKind.wrap .i64 (((s.size : Nat) : Int) + 1)) < (IntKind.wrap .i64 ((cntB s (⟨#[10]⟩ : ByteArray)) + 1)))) then (IntKind.wrap .i64 (((s.size : Nat) : Int) + 1)) else (IntKind.wrap .i64 ((cntB s (⟨#[10]⟩ : ByteArray)) + 1))) - 1)).toNat).set ((((IntKind.wrap .i64 ((bif (decide ((IntKind.wrap .i64 (((s.size : Nat) : Int) + 1)) < (IntKind.wrap .i64 ((cntB s (⟨#[10]⟩ : ByteArray)) + 1)))) then (IntKind.wrap .i64 (((s.size : Nat) : Int) + 1)) else (IntKind.wrap .i64 ((cntB s (⟨#[10]⟩ : ByteArray)) + 1))) - 1))).toNat * 1) + 0) (.sc (.string (lastP s)))).take (((IntKind.wrap .i64 ((IntKind.wrap .i64 ((bif (decide ((IntKind.wrap .i64 (((s.size : Nat) : Int) + 1)) < (IntKind.wrap .i64 ((cntB s (⟨#[10]⟩ : ByteArray)) + 1)))) then (IntKind.wrap .i64 (((s.size : Nat) : Int) + 1)) else (IntKind.wrap .i64 ((cntB s (⟨#[10]⟩ : ByteArray)) + 1))) - 1)) + 1))).toNat * 1)), [])
        else none
      else none
    else none
  else none
theorem f62_run (s : ByteArray) (z9 : V × List Rg) (h : f62 s = some z9) : CallR C prim 62 [.sc (.string s), .sc (.string ⟨#[10]⟩), .sc (.int .i64 0), .sc (.int .i64 (-1))] [] z9 := by
  refine call_fn (K := K_f62) (T := T_f62) K_f62_ok T_f62_ok (by kernel_rfl) ?_
  refine Eq.trans ?_ h
  kernel_rfl

theorem cntB_nl (s : ByteArray) : cntB s (⟨#[10]⟩ : ByteArray) = (((headP s).length : Nat) : Int) := by
  unfold headP
  rw [head_len]
  rfl
theorem rep_flat {α : Type} (n : Nat) (x : α) : (List.replicate n [x]).flatten = List.replicate n x := by
  induction n with
  | zero => rfl
  | succ n ih => rw [List.replicate_succ, List.flatten_cons, ih, List.replicate_succ]; rfl
theorem f62_eq (s : ByteArray) (hp : (decide (s.size ≤ 1000000000)) = true) : f62 s = some (.own 9 false (splitV s), []) := by
  simp only [decide_eq_true_eq] at hp
  have hN := headP_le s
  have hw2 : IntKind.wrap .i64 (((s.size : Nat) : Int) + 1) = ((s.size + 1 : Nat) : Int) := wrap_succ (by omega)
  have hw1 : IntKind.wrap .i64 ((((headP s).length : Nat) : Int) + 1) = (((headP s).length + 1 : Nat) : Int) := wrap_succ (by omega)
  have hlt : decide (((s.size + 1 : Nat) : Int) < (((headP s).length + 1 : Nat) : Int)) = false := dec_false (by omega)
  have hw3 : IntKind.wrap .i64 ((((headP s).length + 1 : Nat) : Int) - 1) = (((headP s).length : Nat) : Int) := by rw [wrap_id (by omega) (by omega)]; omega
  unfold f62
  simp only [cntB_nl, hw1, hw2, hlt, cond_false, hw3, Int.toNat_natCast, rep_flat, List.length_replicate, List.drop_replicate, Nat.mul_one, Nat.add_zero]
  have e1 : (headP s).length + 1 - (headP s).length = 1 := by omega
  have e2 : (headP s ++ List.replicate 1 (V.sc (.string ⟨#[]⟩))).set (headP s).length (.sc (.string (lastP s))) = splitV s := by
    rw [List.set_append_right _ _ (Nat.le_refl _), Nat.sub_self]
    rfl
  have e3 : (splitV s).length = (headP s).length + 1 := by unfold splitV; simp
  have e4 : (headP s ++ List.replicate 1 (V.sc (.string ⟨#[]⟩))).length = (headP s).length + 1 := by simp
  rw [e1, e2, e4, e3, List.take_of_length_le (by omega)]
  have r1 : roomy (((headP s).length + 1) * 16) = true := dec_true (by omega)
  have r2 : roomy ((headP s).length + 1) = true := dec_true (by omega)
  have d1 : decide ((0 : Int) ≤ (((headP s).length + 1 : Nat) : Int)) = true := dec_true (by omega)
  have d2 : decide ((((headP s).length + 1 : Nat) : Int) ≤ (((headP s).length + 1 : Nat) : Int)) = true := dec_true (by omega)
  have d3 : decide ((0 : Int) ≤ (((headP s).length : Nat) : Int)) = true := dec_true (by omega)
  have d4 : decide ((((headP s).length : Nat) : Int) < (((headP s).length + 1 : Nat) : Int)) = true := dec_true (by omega)
  have d5 : decide ((((headP s).length + 1 : Nat) : Int) = (((headP s).length : Nat) : Int) + 1) = true := dec_true (by omega)
  have d6 : ((((headP s).length : Nat) : Int) == cntN s) = true := beq_self_eq_true _
  rw [r1, r2, d1, d2, d3, d4, d5, d6, dec_true hp]
  rfl
def k62 : PrimT := fun vs gs => match vs, gs with
  | [.sc (.string s), .sc (.string q1), .sc (.int .i64 0), .sc (.int .i64 (-1))], [] => ((strEq q1 (⟨#[10]⟩ : ByteArray) && (decide (s.size ≤ 1000000000))), .own 9 false (splitV s), [])
  | _, _ => (false, .bad, [])
theorem k62_ok : ∀ vs gs x, k62 vs gs = (true, x) → CallR C prim 62 vs gs x := by
  intro vs gs x h
  unfold k62 at h
  split at h
  · simp only [Prod.mk.injEq] at h
    obtain ⟨hp, rfl⟩ := h
    rw [Bool.and_eq_true] at hp
    obtain ⟨hq, hp⟩ := hp
    obtain rfl := (strEq_iff _ _).1 hq
    exact f62_run _ _ (f62_eq _ hp)
  · cases h

def K_f30 : CallK := kCons 62 k62 <| kNil
theorem K_f30_ok : KOK C prim K_f30 := KOK.cons k62_ok <| KOK.nil
def T_f30 : Tab := tNil
theorem T_f30_ok : TOK C prim 30 T_f30 := TOK.nil
def f30 (s : ByteArray) : Option (V × List Rg) :=
  bif ((decide (s.size ≤ 1000000000)) && true) then
    some (.own 9 false (splitV s), [])
  else none
theorem f30_run (s : ByteArray) (z9 : V × List Rg) (h : f30 s = some z9) : CallR C prim 30 [.sc (.string s), .sc (.string ⟨#[10]⟩)] [] z9 := by
  refine call_fn (K := K_f30) (T := T_f30) K_f30_ok T_f30_ok (by kernel_rfl) ?_
  refine Eq.trans ?_ h
  kernel_rfl

theorem f30_eq (s : ByteArray) (hp : (decide (s.size ≤ 1000000000)) = true) : f30 s = some (.own 9 false (splitV s), []) := by
  unfold f30
  rw [hp]
  rfl
def k30 : PrimT := fun vs gs => match vs, gs with
  | [.sc (.string s), .sc (.string q1)], [] => ((strEq q1 (⟨#[10]⟩ : ByteArray) && (decide (s.size ≤ 1000000000))), .own 9 false (splitV s), [])
  | _, _ => (false, .bad, [])
theorem k30_ok : ∀ vs gs x, k30 vs gs = (true, x) → CallR C prim 30 vs gs x := by
  intro vs gs x h
  unfold k30 at h
  split at h
  · simp only [Prod.mk.injEq] at h
    obtain ⟨hp, rfl⟩ := h
    rw [Bool.and_eq_true] at hp
    obtain ⟨hq, hp⟩ := hp
    obtain rfl := (strEq_iff _ _).1 hq
    exact f30_run _ _ (f30_eq _ hp)
  · cases h

def K_f28 : CallK := kCons 30 k30 <| kCons 58 k58 <| kNil
theorem K_f28_ok : KOK C prim K_f28 := KOK.cons k30_ok <| KOK.cons k58_ok <| KOK.nil
def T_f28 : Tab := tNil
theorem T_f28_ok : TOK C prim 28 T_f28 := TOK.nil
def f28 (text : ByteArray) : Option (V × List Rg) :=
  bif (strEq text (⟨#[]⟩ : ByteArray)) then
    some (.sl 1 [], [])
  else
    bif ((decide (text.size ≤ 1000000000)) && true) then
      bif ((decide ((trimNl text).size ≤ 1000000000)) && true) then
        some (.sl 1 (splitV (trimNl text)), [])
      else none
    else none
theorem f28_run (text : ByteArray) (z9 : V × List Rg) (h : f28 text = some z9) : CallR C prim 28 [.sc (.string text)] [] z9 := by
  refine call_fn (K := K_f28) (T := T_f28) K_f28_ok T_f28_ok (by kernel_rfl) ?_
  refine Eq.trans ?_ h
  kernel_rfl

theorem f28_eq (text : ByteArray) (hp : (decide (text.size ≤ 1000000000)) = true) : f28 text = some (.sl 1 (linesV text), []) := by
  have hq := hp
  simp only [decide_eq_true_eq] at hp
  unfold f28
  cases h : strEq text (⟨#[]⟩ : ByteArray) with
  | true =>
    rw [strEq_iff] at h
    rw [linesV_nil text (by rw [h])]
    rfl
  | false =>
    have hne : text.data.toList ≠ [] := by
      intro h'
      have : text = ⟨#[]⟩ := ba_ext (by rw [h'])
      rw [this, strEq_self] at h
      cases h
    have ht : (trimNl text).size ≤ 1000000000 := by
      unfold trimNl
      cases endNl text
      · exact hp
      · rw [cond_true, bl_size, bl_extract, List.length_drop, List.length_take]; rw [bl_size] at hp; omega
    rw [linesV_trim text hne, dec_true ht, hq]
    rfl
def k28 : PrimT := fun vs gs => match vs, gs with
  | [.sc (.string text)], [] => ((decide (text.size ≤ 1000000000)), .sl 1 (linesV text), [])
  | _, _ => (false, .bad, [])
theorem k28_ok : ∀ vs gs x, k28 vs gs = (true, x) → CallR C prim 28 vs gs x := by
  intro vs gs x h
  unfold k28 at h
  split at h
  · simp only [Prod.mk.injEq] at h
    obtain ⟨hp, rfl⟩ := h
    exact f28_run _ _ (f28_eq _ hp)
  · cases h

def K_f55 : CallK := kCons 28 k28 <| kNil
theorem K_f55_ok : KOK C prim K_f55 := KOK.cons k28_ok <| KOK.nil
def T_f55 : Tab := tNil
theorem T_f55_ok : TOK C prim 55 T_f55 := TOK.nil
def f55 (text : ByteArray) : Option (V × List Rg) :=
  bif (decide (((text.size : Nat) : Int) > 65536)) then
    some (.sc (.bool true), [])
  else
    bif ((decide (text.size ≤ 1000000000)) && true) then
      some (.sc (.bool (decide (((((linesV text)).length : Nat) : Int) > 4096))), [])
    else none
theorem f55_run (text : ByteArray) (z9 : V × List Rg) (h : f55 text = some z9) : CallR C prim 55 [.sc (.string text)] [] z9 := by
  refine call_fn (K := K_f55) (T := T_f55) K_f55_ok T_f55_ok (by kernel_rfl) ?_
  refine Eq.trans ?_ h
  kernel_rfl

theorem f55_eq (text : ByteArray) (hp : (decide (text.size ≤ 1000000000)) = true) : f55 text = some (.sc (.bool (largeB text)), []) := by
  unfold f55 largeB
  rw [hp]
  cases decide (((text.size : Nat) : Int) > 65536) <;> rfl
def k55 : PrimT := fun vs gs => match vs, gs with
  | [.sc (.string text)], [] => ((decide (text.size ≤ 1000000000)), .sc (.bool (largeB text)), [])
  | _, _ => (false, .bad, [])
theorem k55_ok : ∀ vs gs x, k55 vs gs = (true, x) → CallR C prim 55 vs gs x := by
  intro vs gs x h
  unfold k55 at h
  split at h
  · simp only [Prod.mk.injEq] at h
    obtain ⟨hp, rfl⟩ := h
    exact f55_run _ _ (f55_eq _ hp)
  · cases h

def K_f14_l0 : CallK := kNil
theorem K_f14_l0_ok : KOK C prim K_f14_l0 := KOK.nil
def T_f14_l0 : Tab := tNil
theorem T_f14_l0_ok : TOK C prim 14 T_f14_l0 := TOK.nil
def f14_l0 : Nat → ByteArray → Int → Int → Int → List V → (R : Type) → (Ex → St → Option R) → Option R
  | 0, _, _, _, _, _, _, _ => none
  | n + 1, text, from', v7, v8, l, R, κ =>
    bif (decide (v8 < v7)) then
      bif (((decide ((0 : Int) ≤ v8)) && (decide (v8 < ((text.size : Nat) : Int)))) && true) then
        bif (((text.data.getD (v8).toNat 0).toNat : Int) == 10) then
          bif (((((decide ((0 : Int) ≤ from')) && (decide (from' ≤ v8))) && (decide (v8 ≤ ((text.size : Nat) : Int)))) && true) && true) then
            bif (((roomy ((l.length + 1) * 16)) && (roomy (l.length + 1))) && true) then
              f14_l0 n text (IntKind.wrap .i64 (v8 + 1)) v7 (IntKind.wrap .i64 (v8 + 1)) (l ++ [.sc (.string (text.extract (from').toNat (v8).toNat))]) R κ
            else none
          else none
        else
          f14_l0 n text from' v7 (IntKind.wrap .i64 (v8 + 1)) l R κ
      else none
    else
      κ (.ex 0) (mkS [(0, .sc (.string text)), (2, .bad), (3, .ref ⟨.loc 3, 0, [], 9, false⟩), (4, .sc (.int .i64 from'))] [(.loc 3, some ⟨false, [.own 9 false l]⟩)])
def f14_l0_ls : List (Nat × Pat) := [(0, .s), (3, .is (.ref ⟨.loc 3, 0, [], 9, false⟩)), (4, .i .i64), (7, .i .i64), (8, .i .i64)]
def f14_l0_rs : List RPat := [⟨.loc 3, false, [.own 9 false]⟩]
theorem f14_l0_ok (n : Nat) : ∀ (text : ByteArray) (from' : Int) (v7 : Int) (v8 : Int) (l : List V) (R : Type) (κ : Ex → St → Option R) (r : R), f14_l0 n text from' v7 v8 l R κ = some r → ∃ ee ss, κ ee ss = some r ∧ RunP C prim 14 [0, 1, 0, 1, 1, 1] (mkS [(0, .sc (.string text)), (3, .ref ⟨.loc 3, 0, [], 9, false⟩), (4, .sc (.int .i64 from')), (7, .sc (.int .i64 v7)), (8, .sc (.int .i64 v8))] [(.loc 3, some ⟨false, [.own 9 false l]⟩)]) ee ss := by
  induction n with
  | zero => intro text from' v7 v8 l R κ r h; cases h
  | succ n ih =>
    intro text from' v7 v8 l R κ r h
    refine loop_round (K := K_f14_l0) (T := T_f14_l0) K_f14_l0_ok T_f14_l0_ok (p := [0, 1, 0, 1, 1, 1]) (by kernel_rfl) (fun st => bif ckS f14_l0_ls f14_l0_rs st then f14_l0 n ((st.env 0).strOf) ((st.env 4).intOf) ((st.env 7).intOf) ((st.env 8).intOf) ((nthV (rowOf (st.regs (.loc 3))) 0).cellsOf) R κ else none) (fun st0 h0 => ?_) ?_
    · obtain ⟨hs, h0⟩ := cond_some h0
      rw [canon (ls := f14_l0_ls) (rs := f14_l0_rs) (by kernel_rfl) st0 hs]
      exact ih _ _ _ _ _ R κ r h0
    · refine Eq.trans ?_ h
      kernel_rfl

def f14_s0 (text : ByteArray) (from' : Int) (v7 : Int) (v8 : Int) (l : List V) (R : Type) (κ : Ex → St → Option R) : Option R :=
  κ (.ex 0) (mkS [(0, .sc (.string text)), (2, .bad), (3, .ref ⟨.loc 3, 0, [], 9, false⟩), (4, .sc (.int .i64 (fromP text)))] [(.loc 3, some ⟨false, [.own 9 false (headP text)]⟩)])
theorem f14_loop (text : ByteArray) (ht : text.size ≤ 1000000000) (R : Type) (κ : Ex → St → Option R) : ∀ (k i fr : Nat) (l : List V), i + k = text.size → fr ≤ i → l.length ≤ i →
    f14_l0 (k + 1) text ((fr : Nat) : Int) ((text.size : Nat) : Int) ((i : Nat) : Int) l R κ = κ (.ex 0) (mkS [(0, .sc (.string text)), (2, .bad), (3, .ref ⟨.loc 3, 0, [], 9, false⟩), (4, .sc (.int .i64 (((text.size : Nat) : Int) - (((lastL ((text.data.toList.take i).drop fr) (text.data.toList.drop i)).length : Nat) : Int))))] [(.loc 3, some ⟨false, [.own 9 false (l ++ headL ((text.data.toList.take i).drop fr) (text.data.toList.drop i))]⟩)])
  | 0, i, fr, l, h, h1, h2 => by
    have hl := bl_size text
    obtain rfl : i = text.size := by omega
    rw [f14_l0, dec_false (by omega), cond_false, List.drop_of_length_le (l := text.data.toList) (i := text.size) (by omega), headL, lastL, List.append_nil, List.length_drop, List.length_take, show ((min text.size text.data.toList.length - fr : Nat) : Int) = ((text.size : Nat) : Int) - (fr : Int) by omega, show ((text.size : Nat) : Int) - (((text.size : Nat) : Int) - (fr : Int)) = (fr : Int) by omega]
  | k + 1, i, fr, l, h, h1, h2 => by
    have hl := bl_size text
    have hlt : i < text.data.toList.length := by omega
    have hb : ((text.data.getD i 0).toNat : Int) = ((text.data.toList[i]).toNat : Int) := by rw [getD_list' text i hlt]
    have hc : ((((text.data.toList[i]).toNat : Nat) : Int) == 10) = (text.data.toList[i] == 10) := by
      rw [Bool.eq_iff_iff, beq_iff_eq, beq_iff_eq, ← UInt8.toNat_inj]
      show _ ↔ (text.data.toList[i]).toNat = 10
      omega
    have r1 : roomy ((l.length + 1) * 16) = true := dec_true (by omega)
    have r2 : roomy (l.length + 1) = true := dec_true (by omega)
    rw [f14_l0, dec_true (show ((i : Nat) : Int) < ((text.size : Nat) : Int) by omega), dec_true (show (0 : Int) ≤ ((i : Nat) : Int) by omega), Int.toNat_natCast, hb, hc, dec_true (show (0 : Int) ≤ ((fr : Nat) : Int) by omega), dec_true (show ((fr : Nat) : Int) ≤ ((i : Nat) : Int) by omega), dec_true (show ((i : Nat) : Int) ≤ ((text.size : Nat) : Int) by omega), r1, r2, Int.toNat_natCast, strV_extract, wrap_succ (by omega), List.drop_eq_getElem_cons hlt, headL_cons, lastL_cons]
    cases hx : text.data.toList[i] == 10 with
    | true =>
      have IH := f14_loop text ht R κ k (i + 1) (i + 1) (l ++ [strV ((text.data.toList.take i).drop fr)]) (by omega) (Nat.le_refl _) (by simp; omega)
      rw [List.drop_of_length_le (l := text.data.toList.take (i + 1)) (by rw [List.length_take]; omega), List.append_assoc] at IH
      simp only [Bool.and_self, cond_true]
      exact IH
    | false =>
      have IH := f14_loop text ht R κ k (i + 1) fr l (by omega) (by omega) (by omega)
      rw [List.take_add_one, List.getElem?_eq_getElem hlt, Option.toList_some, List.drop_append_of_le_length (by rw [List.length_take]; omega)] at IH
      simp only [Bool.and_self, cond_true, cond_false]
      exact IH
theorem f14_s0_eq (text : ByteArray) (from' : Int) (v7 : Int) (v8 : Int) (l : List V) (hp : ((v7 == ((text.size : Nat) : Int)) && (v8 == 0) && (from' == 0) && (l.length == 0) && decide (text.size ≤ 1000000000)) = true) : ∃ n, ∀ (R : Type) (κ : Ex → St → Option R), f14_l0 n text from' v7 v8 l R κ = f14_s0 text from' v7 v8 l R κ := by
  simp only [Bool.and_eq_true, decide_eq_true_eq, beq_iff_eq] at hp
  obtain ⟨⟨⟨⟨rfl, rfl⟩, rfl⟩, g4⟩, g5⟩ := hp
  obtain rfl : l = [] := List.eq_nil_of_length_eq_zero g4
  refine ⟨text.size + 1, fun R κ => ?_⟩
  have := f14_loop text g5 R κ text.size 0 0 [] (by omega) (Nat.le_refl _) (Nat.le_refl _)
  have e : fromP text = ((text.size : Nat) : Int) - (((lastL ((text.data.toList.take 0).drop 0) (text.data.toList.drop 0)).length : Nat) : Int) := by
    unfold fromP; rw [lastP_size]; rfl
  rw [f14_s0, e]
  exact this
def t_f14_l0 (st : St) (R : Type) (κ : Ex → St → Option R) : Option R := bif ckS f14_l0_ls f14_l0_rs st then (bif ((((st.env 7).intOf) == ((((st.env 0).strOf).size : Nat) : Int)) && (((st.env 8).intOf) == 0) && (((st.env 4).intOf) == 0) && (((nthV (rowOf (st.regs (.loc 3))) 0).cellsOf).length == 0) && decide (((st.env 0).strOf).size ≤ 1000000000)) then f14_s0 ((st.env 0).strOf) ((st.env 4).intOf) ((st.env 7).intOf) ((st.env 8).intOf) ((nthV (rowOf (st.regs (.loc 3))) 0).cellsOf) R κ else none) else none
theorem t_f14_l0_ok : ∀ st0 R κ r, t_f14_l0 (forget C 14 [0, 1, 0, 1, 1, 1] st0) R κ = some r → ∃ ee ss, κ ee ss = some r ∧ RunP C prim 14 [0, 1, 0, 1, 1, 1] (forget C 14 [0, 1, 0, 1, 1, 1] st0) ee ss := by
  intro st0 R κ r h
  obtain ⟨hs, h⟩ := cond_some h
  obtain ⟨hp, h⟩ := cond_some h
  rw [canon (ls := f14_l0_ls) (rs := f14_l0_rs) (by kernel_rfl) st0 hs]
  obtain ⟨n, hn⟩ := f14_s0_eq _ _ _ _ _ hp
  rw [← hn] at h
  exact f14_l0_ok n _ _ _ _ _ R κ r h

def K_f14 : CallK := kNil
theorem K_f14_ok : KOK C prim K_f14 := KOK.nil
def T_f14 : Tab := tCons [0, 1, 0, 1, 1, 1] t_f14_l0 <| tNil
theorem T_f14_ok : TOK C prim 14 T_f14 := TOK.cons t_f14_l0_ok <| TOK.nil
def f14 (text : ByteArray) : Option (V × List Rg) :=
  bif ((((text.size : Nat) : Int) == ((text.size : Nat) : Int)) && ((0 : Int) == 0) && ((0 : Int) == 0) && (([] : List V).length == 0) && decide (text.size ≤ 1000000000)) then
    bif (decide ((fromP text) < ((text.size : Nat) : Int))) then
      bif ((((decide ((0 : Int) ≤ (fromP text))) && (decide ((fromP text) ≤ ((text.size : Nat) : Int)))) && true) && true) then
        bif (((roomy ((((headP text)).length + 1) * 16)) && (roomy (((headP text)).length + 1))) && true) then
          some (.sl 1 ((headP text) ++ [.sc (.string (text.extract ((fromP text)).toNat (((text.size : Nat) : Int)).toNat))]), [])
        else none
      else none
    else
      some (.sl 1 (headP text), [])
  else none
theorem f14_run (text : ByteArray) (z9 : V × List Rg) (h : f14 text = some z9) : CallR C prim 14 [.sc (.string text)] [] z9 := by
  refine call_fn (K := K_f14) (T := T_f14) K_f14_ok T_f14_ok (by kernel_rfl) ?_
  refine Eq.trans ?_ h
  kernel_rfl

theorem from_last (s : ByteArray) : V.sc (.string (s.extract (fromP s).toNat s.size)) = .sc (.string (lastP s)) := by
  have key : ∀ (l cur : List UInt8), (cur ++ l).drop (cur.length + l.length - (lastL cur l).length) = lastL cur l := by
    intro l
    induction l with
    | nil => intro cur; simp [lastL]
    | cons b r ih =>
      intro cur
      have h1 := ih []
      have h2 := ih (cur ++ [b])
      rw [lastL_cons]
      cases b == 10 with
      | false =>
        simp only [cond_false]
        rw [List.append_assoc, List.singleton_append, List.length_append] at h2
        rw [List.length_cons, show cur.length + (r.length + 1) = cur.length + [b].length + r.length by simp; omega]
        exact h2
      | true =>
        simp only [cond_true]
        have hle := last_le r []
        simp only [List.length_nil, Nat.zero_add, List.nil_append] at h1 hle
        rw [List.length_cons, show cur.length + (r.length + 1) - (lastL [] r).length = (cur ++ [b]).length + (r.length - (lastL [] r).length) by simp; omega, show cur ++ b :: r = (cur ++ [b]) ++ r by simp, List.drop_length_add_append]
        exact h1
  have hle := lastP_le s
  have h := key s.data.toList []
  simp only [List.length_nil, Nat.zero_add, List.nil_append] at h
  congr 1
  congr 1
  refine ba_ext ?_
  have hf : (fromP s).toNat = s.data.toList.length - (lastL [] s.data.toList).length := by
    unfold fromP; rw [← lastP_size, ← bl_size]; omega
  rw [bl_extract, List.take_of_length_le (by rw [bl_size]; exact Nat.le_refl _), hf, h]
  rfl
theorem f14_eq (text : ByteArray) (hp : (decide (text.size ≤ 1000000000)) = true) : f14 text = some (.sl 1 (linesV text), []) := by
  have hq := hp
  simp only [decide_eq_true_eq] at hp
  have hl := lastP_le text
  have hh := headP_le text
  have r1 : roomy (((headP text).length + 1) * 16) = true := dec_true (by omega)
  have r2 : roomy ((headP text).length + 1) = true := dec_true (by omega)
  unfold f14 linesV splitV
  rw [hq, beq_self_eq_true, Int.toNat_natCast, from_last, r1, r2]
  by_cases hz : (lastP text).size = 0
  · rw [dec_false (show ¬ fromP text < ((text.size : Nat) : Int) by unfold fromP; omega), hz]
    rfl
  · have hz2 : ((lastP text).size == 0) = false := by simpa using hz
    rw [dec_true (show fromP text < ((text.size : Nat) : Int) by unfold fromP; omega), dec_true (show (0 : Int) ≤ fromP text by unfold fromP; omega), dec_true (show fromP text ≤ ((text.size : Nat) : Int) by unfold fromP; omega), hz2]
    rfl
def k14 : PrimT := fun vs gs => match vs, gs with
  | [.sc (.string text)], [] => ((decide (text.size ≤ 1000000000)), .sl 1 (linesV text), [])
  | _, _ => (false, .bad, [])
theorem k14_ok : ∀ vs gs x, k14 vs gs = (true, x) → CallR C prim 14 vs gs x := by
  intro vs gs x h
  unfold k14 at h
  split at h
  · simp only [Prod.mk.injEq] at h
    obtain ⟨hp, rfl⟩ := h
    exact f14_run _ _ (f14_eq _ hp)
  · cases h

def K_f36 : CallK := kCons 14 k14 <| kNil
theorem K_f36_ok : KOK C prim K_f36 := KOK.cons k14_ok <| KOK.nil
def T_f36 : Tab := tNil
theorem T_f36_ok : TOK C prim 36 T_f36 := TOK.nil
def f36 (text : ByteArray) : Option (V × List Rg) :=
  bif (decide (((text.size : Nat) : Int) > 65536)) then
    some (.sc (.bool true), [])
  else
    bif ((decide (text.size ≤ 1000000000)) && true) then
      some (.sc (.bool (decide (((((linesV text)).length : Nat) : Int) > 4096))), [])
    else none
theorem f36_run (text : ByteArray) (z9 : V × List Rg) (h : f36 text = some z9) : CallR C prim 36 [.sc (.string text)] [] z9 := by
  refine call_fn (K := K_f36) (T := T_f36) K_f36_ok T_f36_ok (by kernel_rfl) ?_
  refine Eq.trans ?_ h
  kernel_rfl

theorem f36_eq (text : ByteArray) (hp : (decide (text.size ≤ 1000000000)) = true) : f36 text = some (.sc (.bool (largeB text)), []) := by
  unfold f36 largeB
  rw [hp]
  cases decide (((text.size : Nat) : Int) > 65536) <;> rfl
def k36 : PrimT := fun vs gs => match vs, gs with
  | [.sc (.string text)], [] => ((decide (text.size ≤ 1000000000)), .sc (.bool (largeB text)), [])
  | _, _ => (false, .bad, [])
theorem k36_ok : ∀ vs gs x, k36 vs gs = (true, x) → CallR C prim 36 vs gs x := by
  intro vs gs x h
  unfold k36 at h
  split at h
  · simp only [Prod.mk.injEq] at h
    obtain ⟨hp, rfl⟩ := h
    exact f36_run _ _ (f36_eq _ hp)
  · cases h

def K_f66a_l0 : CallK := kCons 55 k55 <| kNil
theorem K_f66a_l0_ok : KOK C prim K_f66a_l0 := KOK.cons k55_ok <| KOK.nil
def T_f66a_l0 : Tab := tNil
theorem T_f66a_l0_ok : TOK C prim 66 T_f66a_l0 := TOK.nil
def f66a_l0 : Nat → List V → Int → Int → (R : Type) → (Ex → St → Option R) → Option R
  | 0, _, _, _, _, _ => none
  | n + 1, s, v7, v8, R, κ =>
    bif (decide (v8 < v7)) then
      bif (((decide ((0 : Int) ≤ v8)) && (decide (v8 < ((s.length : Nat) : Int)))) && true) then
        bif (((V.isStr (nthV s (((v8).toNat * 1) + 0))) && true) && true) then
          bif ((decide ((V.strOf (nthV s (((v8).toNat * 1) + 0))).size ≤ 1000000000)) && true) then
            bif (largeB (V.strOf (nthV s (((v8).toNat * 1) + 0)))) then
              κ .rt (mkS [(4, .sc (.int .i64 v8))] [])
            else
              f66a_l0 n s v7 (IntKind.wrap .i64 (v8 + 1)) R κ
          else none
        else none
      else none
    else
      κ (.ex 0) (mkS [(4, .bad)] [])
def f66a_l0_ls : List (Nat × Pat) := [(0, .sl 1), (1, .is (.fn 55 [] [])), (7, .i .i64), (8, .i .i64)]
def f66a_l0_rs : List RPat := []
theorem f66a_l0_ok (n : Nat) : ∀ (s : List V) (v7 : Int) (v8 : Int) (R : Type) (κ : Ex → St → Option R) (r : R), f66a_l0 n s v7 v8 R κ = some r → ∃ ee ss, κ ee ss = some r ∧ RunP C prim 66 [0, 1, 0, 1] (mkS [(0, .sl 1 s), (1, .fn 55 [] []), (7, .sc (.int .i64 v7)), (8, .sc (.int .i64 v8))] []) ee ss := by
  induction n with
  | zero => intro s v7 v8 R κ r h; cases h
  | succ n ih =>
    intro s v7 v8 R κ r h
    refine loop_round (K := K_f66a_l0) (T := T_f66a_l0) K_f66a_l0_ok T_f66a_l0_ok (p := [0, 1, 0, 1]) (by kernel_rfl) (fun st => bif ckS f66a_l0_ls f66a_l0_rs st then f66a_l0 n ((st.env 0).cellsOf) ((st.env 7).intOf) ((st.env 8).intOf) R κ else none) (fun st0 h0 => ?_) ?_
    · obtain ⟨hs, h0⟩ := cond_some h0
      rw [canon (ls := f66a_l0_ls) (rs := f66a_l0_rs) (by kernel_rfl) st0 hs]
      exact ih _ _ _ R κ r h0
    · refine Eq.trans ?_ h
      kernel_rfl

def f66a_s0 (s : List V) (v7 : Int) (v8 : Int) (R : Type) (κ : Ex → St → Option R) : Option R :=
  bif (s.any largeV) then
    κ .rt (mkS [(4, .sc (.int .i64 ((fstN largeV s : Nat) : Int)))] [])
  else
    κ (.ex 0) (mkS [(4, .bad)] [])
theorem f66a_loop (s : List V) (hs : s.all shortS = true) (hl : s.length ≤ 1000000000) (R : Type) (κ : Ex → St → Option R) : ∀ (k i : Nat), i + k = s.length →
    f66a_l0 (k + 1) s ((s.length : Nat) : Int) ((i : Nat) : Int) R κ = bif (s.drop i).any largeV then κ .rt (mkS [(4, .sc (.int .i64 ((i + fstN largeV (s.drop i) : Nat) : Int)))] []) else κ (.ex 0) (mkS [(4, .bad)] [])
  | 0, i, h => by
    rw [f66a_l0, dec_false (by omega), cond_false, List.drop_of_length_le (by omega)]
    rfl
  | k + 1, i, h => by
    have hlt : i < s.length := by omega
    obtain ⟨g1, g2⟩ := shortS_spec (List.all_eq_true.1 hs _ (List.getElem_mem hlt))
    have IH := f66a_loop s hs hl R κ k (i + 1) (by omega)
    rw [f66a_l0, dec_true (show ((i : Nat) : Int) < ((s.length : Nat) : Int) by omega), dec_true (show (0 : Int) ≤ ((i : Nat) : Int) by omega), nth_at hlt, g1, dec_true g2, wrap_succ (by omega), IH, any_drop hlt, fstN_drop hlt]
    cases hb : largeV s[i] with
    | true =>
      have hb' : largeB s[i].strOf = true := hb
      rw [hb']
      simp only [Bool.and_self, cond_true, Bool.true_or, Nat.add_zero]
    | false =>
      have hb' : largeB s[i].strOf = false := hb
      rw [hb']
      simp only [Bool.and_self, cond_true, cond_false, Bool.false_or]
      rw [show i + 1 + fstN largeV (s.drop (i + 1)) = i + (fstN largeV (s.drop (i + 1)) + 1) by omega]
theorem f66a_s0_eq (s : List V) (v7 : Int) (v8 : Int) (hp : ((v7 == ((s.length : Nat) : Int)) && (v8 == 0) && s.all shortS && decide (s.length ≤ 1000000000)) = true) : ∃ n, ∀ (R : Type) (κ : Ex → St → Option R), f66a_l0 n s v7 v8 R κ = f66a_s0 s v7 v8 R κ := by
  simp only [Bool.and_eq_true, decide_eq_true_eq, beq_iff_eq] at hp
  obtain ⟨⟨⟨rfl, rfl⟩, g3⟩, g4⟩ := hp
  refine ⟨s.length + 1, fun R κ => ?_⟩
  have := f66a_loop s g3 g4 R κ s.length 0 (by omega)
  rw [List.drop_zero, Nat.zero_add] at this
  exact this
def t_f66a_l0 (st : St) (R : Type) (κ : Ex → St → Option R) : Option R := bif ckS f66a_l0_ls f66a_l0_rs st then (bif ((((st.env 7).intOf) == ((((st.env 0).cellsOf).length : Nat) : Int)) && (((st.env 8).intOf) == 0) && ((st.env 0).cellsOf).all shortS && decide (((st.env 0).cellsOf).length ≤ 1000000000)) then f66a_s0 ((st.env 0).cellsOf) ((st.env 7).intOf) ((st.env 8).intOf) R κ else none) else none
theorem t_f66a_l0_ok : ∀ st0 R κ r, t_f66a_l0 (forget C 66 [0, 1, 0, 1] st0) R κ = some r → ∃ ee ss, κ ee ss = some r ∧ RunP C prim 66 [0, 1, 0, 1] (forget C 66 [0, 1, 0, 1] st0) ee ss := by
  intro st0 R κ r h
  obtain ⟨hs, h⟩ := cond_some h
  obtain ⟨hp, h⟩ := cond_some h
  rw [canon (ls := f66a_l0_ls) (rs := f66a_l0_rs) (by kernel_rfl) st0 hs]
  obtain ⟨n, hn⟩ := f66a_s0_eq _ _ _ hp
  rw [← hn] at h
  exact f66a_l0_ok n _ _ _ R κ r h

def K_f66a : CallK := kNil
theorem K_f66a_ok : KOK C prim K_f66a := KOK.nil
def T_f66a : Tab := tCons [0, 1, 0, 1] t_f66a_l0 <| tNil
theorem T_f66a_ok : TOK C prim 66 T_f66a := TOK.cons t_f66a_l0_ok <| TOK.nil
def f66a (s : List V) : Option (V × List Rg) :=
  bif ((((s.length : Nat) : Int) == ((s.length : Nat) : Int)) && ((0 : Int) == 0) && s.all shortS && decide (s.length ≤ 1000000000)) then
    bif (s.any largeV) then
      some (.sc (.int .i64 ((fstN largeV s : Nat) : Int)), [])
    else
      some (.sc (.int .i64 (-1)), [])
  else none
theorem f66a_run (s : List V) (z9 : V × List Rg) (h : f66a s = some z9) : CallR C prim 66 [.sl 1 s, .fn 55 [] []] [] z9 := by
  refine call_fn (K := K_f66a) (T := T_f66a) K_f66a_ok T_f66a_ok (by kernel_rfl) ?_
  refine Eq.trans ?_ h
  kernel_rfl

theorem f66a_eq (s : List V) (hp : (s.all shortS && decide (s.length ≤ 1000000000)) = true) : f66a s = some (.sc (.int .i64 (idxV largeV s)), []) := by
  simp only [Bool.and_eq_true, decide_eq_true_eq] at hp
  unfold f66a idxV
  rw [beq_self_eq_true, hp.1, dec_true hp.2]
  cases s.any largeV <;> rfl
def k66a : PrimT := fun vs gs => match vs, gs with
  | [.sl 1 s, .fn 55 [] []], [] => ((s.all shortS && decide (s.length ≤ 1000000000)), .sc (.int .i64 (idxV largeV s)), [])
  | _, _ => (false, .bad, [])
theorem k66a_ok : ∀ vs gs x, k66a vs gs = (true, x) → CallR C prim 66 vs gs x := by
  intro vs gs x h
  unfold k66a at h
  split at h
  · simp only [Prod.mk.injEq] at h
    obtain ⟨hp, rfl⟩ := h
    exact f66a_run _ _ (f66a_eq _ hp)
  · cases h

def K_f66b_l0 : CallK := kCons 36 k36 <| kNil
theorem K_f66b_l0_ok : KOK C prim K_f66b_l0 := KOK.cons k36_ok <| KOK.nil
def T_f66b_l0 : Tab := tNil
theorem T_f66b_l0_ok : TOK C prim 66 T_f66b_l0 := TOK.nil
def f66b_l0 : Nat → List V → Int → Int → (R : Type) → (Ex → St → Option R) → Option R
  | 0, _, _, _, _, _ => none
  | n + 1, s, v7, v8, R, κ =>
    bif (decide (v8 < v7)) then
      bif (((decide ((0 : Int) ≤ v8)) && (decide (v8 < ((s.length : Nat) : Int)))) && true) then
        bif (((V.isStr (nthV s (((v8).toNat * 1) + 0))) && true) && true) then
          bif ((decide ((V.strOf (nthV s (((v8).toNat * 1) + 0))).size ≤ 1000000000)) && true) then
            bif (largeB (V.strOf (nthV s (((v8).toNat * 1) + 0)))) then
              κ .rt (mkS [(4, .sc (.int .i64 v8))] [])
            else
              f66b_l0 n s v7 (IntKind.wrap .i64 (v8 + 1)) R κ
          else none
        else none
      else none
    else
      κ (.ex 0) (mkS [(4, .bad)] [])
def f66b_l0_ls : List (Nat × Pat) := [(0, .sl 1), (1, .is (.fn 36 [] [])), (7, .i .i64), (8, .i .i64)]
def f66b_l0_rs : List RPat := []
theorem f66b_l0_ok (n : Nat) : ∀ (s : List V) (v7 : Int) (v8 : Int) (R : Type) (κ : Ex → St → Option R) (r : R), f66b_l0 n s v7 v8 R κ = some r → ∃ ee ss, κ ee ss = some r ∧ RunP C prim 66 [0, 1, 0, 1] (mkS [(0, .sl 1 s), (1, .fn 36 [] []), (7, .sc (.int .i64 v7)), (8, .sc (.int .i64 v8))] []) ee ss := by
  induction n with
  | zero => intro s v7 v8 R κ r h; cases h
  | succ n ih =>
    intro s v7 v8 R κ r h
    refine loop_round (K := K_f66b_l0) (T := T_f66b_l0) K_f66b_l0_ok T_f66b_l0_ok (p := [0, 1, 0, 1]) (by kernel_rfl) (fun st => bif ckS f66b_l0_ls f66b_l0_rs st then f66b_l0 n ((st.env 0).cellsOf) ((st.env 7).intOf) ((st.env 8).intOf) R κ else none) (fun st0 h0 => ?_) ?_
    · obtain ⟨hs, h0⟩ := cond_some h0
      rw [canon (ls := f66b_l0_ls) (rs := f66b_l0_rs) (by kernel_rfl) st0 hs]
      exact ih _ _ _ R κ r h0
    · refine Eq.trans ?_ h
      kernel_rfl

def f66b_s0 (s : List V) (v7 : Int) (v8 : Int) (R : Type) (κ : Ex → St → Option R) : Option R :=
  bif (s.any largeV) then
    κ .rt (mkS [(4, .sc (.int .i64 ((fstN largeV s : Nat) : Int)))] [])
  else
    κ (.ex 0) (mkS [(4, .bad)] [])
theorem f66b_loop (s : List V) (hs : s.all shortS = true) (hl : s.length ≤ 1000000000) (R : Type) (κ : Ex → St → Option R) : ∀ (k i : Nat), i + k = s.length →
    f66b_l0 (k + 1) s ((s.length : Nat) : Int) ((i : Nat) : Int) R κ = bif (s.drop i).any largeV then κ .rt (mkS [(4, .sc (.int .i64 ((i + fstN largeV (s.drop i) : Nat) : Int)))] []) else κ (.ex 0) (mkS [(4, .bad)] [])
  | 0, i, h => by
    rw [f66b_l0, dec_false (by omega), cond_false, List.drop_of_length_le (by omega)]
    rfl
  | k + 1, i, h => by
    have hlt : i < s.length := by omega
    obtain ⟨g1, g2⟩ := shortS_spec (List.all_eq_true.1 hs _ (List.getElem_mem hlt))
    have IH := f66b_loop s hs hl R κ k (i + 1) (by omega)
    rw [f66b_l0, dec_true (show ((i : Nat) : Int) < ((s.length : Nat) : Int) by omega), dec_true (show (0 : Int) ≤ ((i : Nat) : Int) by omega), nth_at hlt, g1, dec_true g2, wrap_succ (by omega), IH, any_drop hlt, fstN_drop hlt]
    cases hb : largeV s[i] with
    | true =>
      have hb' : largeB s[i].strOf = true := hb
      rw [hb']
      simp only [Bool.and_self, cond_true, Bool.true_or, Nat.add_zero]
    | false =>
      have hb' : largeB s[i].strOf = false := hb
      rw [hb']
      simp only [Bool.and_self, cond_true, cond_false, Bool.false_or]
      rw [show i + 1 + fstN largeV (s.drop (i + 1)) = i + (fstN largeV (s.drop (i + 1)) + 1) by omega]
theorem f66b_s0_eq (s : List V) (v7 : Int) (v8 : Int) (hp : ((v7 == ((s.length : Nat) : Int)) && (v8 == 0) && s.all shortS && decide (s.length ≤ 1000000000)) = true) : ∃ n, ∀ (R : Type) (κ : Ex → St → Option R), f66b_l0 n s v7 v8 R κ = f66b_s0 s v7 v8 R κ := by
  simp only [Bool.and_eq_true, decide_eq_true_eq, beq_iff_eq] at hp
  obtain ⟨⟨⟨rfl, rfl⟩, g3⟩, g4⟩ := hp
  refine ⟨s.length + 1, fun R κ => ?_⟩
  have := f66b_loop s g3 g4 R κ s.length 0 (by omega)
  rw [List.drop_zero, Nat.zero_add] at this
  exact this
def t_f66b_l0 (st : St) (R : Type) (κ : Ex → St → Option R) : Option R := bif ckS f66b_l0_ls f66b_l0_rs st then (bif ((((st.env 7).intOf) == ((((st.env 0).cellsOf).length : Nat) : Int)) && (((st.env 8).intOf) == 0) && ((st.env 0).cellsOf).all shortS && decide (((st.env 0).cellsOf).length ≤ 1000000000)) then f66b_s0 ((st.env 0).cellsOf) ((st.env 7).intOf) ((st.env 8).intOf) R κ else none) else none
theorem t_f66b_l0_ok : ∀ st0 R κ r, t_f66b_l0 (forget C 66 [0, 1, 0, 1] st0) R κ = some r → ∃ ee ss, κ ee ss = some r ∧ RunP C prim 66 [0, 1, 0, 1] (forget C 66 [0, 1, 0, 1] st0) ee ss := by
  intro st0 R κ r h
  obtain ⟨hs, h⟩ := cond_some h
  obtain ⟨hp, h⟩ := cond_some h
  rw [canon (ls := f66b_l0_ls) (rs := f66b_l0_rs) (by kernel_rfl) st0 hs]
  obtain ⟨n, hn⟩ := f66b_s0_eq _ _ _ hp
  rw [← hn] at h
  exact f66b_l0_ok n _ _ _ R κ r h

def K_f66b : CallK := kNil
theorem K_f66b_ok : KOK C prim K_f66b := KOK.nil
def T_f66b : Tab := tCons [0, 1, 0, 1] t_f66b_l0 <| tNil
theorem T_f66b_ok : TOK C prim 66 T_f66b := TOK.cons t_f66b_l0_ok <| TOK.nil
def f66b (s : List V) : Option (V × List Rg) :=
  bif ((((s.length : Nat) : Int) == ((s.length : Nat) : Int)) && ((0 : Int) == 0) && s.all shortS && decide (s.length ≤ 1000000000)) then
    bif (s.any largeV) then
      some (.sc (.int .i64 ((fstN largeV s : Nat) : Int)), [])
    else
      some (.sc (.int .i64 (-1)), [])
  else none
theorem f66b_run (s : List V) (z9 : V × List Rg) (h : f66b s = some z9) : CallR C prim 66 [.sl 1 s, .fn 36 [] []] [] z9 := by
  refine call_fn (K := K_f66b) (T := T_f66b) K_f66b_ok T_f66b_ok (by kernel_rfl) ?_
  refine Eq.trans ?_ h
  kernel_rfl

theorem f66b_eq (s : List V) (hp : (s.all shortS && decide (s.length ≤ 1000000000)) = true) : f66b s = some (.sc (.int .i64 (idxV largeV s)), []) := by
  simp only [Bool.and_eq_true, decide_eq_true_eq] at hp
  unfold f66b idxV
  rw [beq_self_eq_true, hp.1, dec_true hp.2]
  cases s.any largeV <;> rfl
def k66b : PrimT := fun vs gs => match vs, gs with
  | [.sl 1 s, .fn 36 [] []], [] => ((s.all shortS && decide (s.length ≤ 1000000000)), .sc (.int .i64 (idxV largeV s)), [])
  | _, _ => (false, .bad, [])
theorem k66b_ok : ∀ vs gs x, k66b vs gs = (true, x) → CallR C prim 66 vs gs x := by
  intro vs gs x h
  unfold k66b at h
  split at h
  · simp only [Prod.mk.injEq] at h
    obtain ⟨hp, rfl⟩ := h
    exact f66b_run _ _ (f66b_eq _ hp)
  · cases h

def k66 : PrimT := fun vs gs => bif isFn 55 vs then k66a vs gs else k66b vs gs
theorem k66_ok : ∀ vs gs x, k66 vs gs = (true, x) → CallR C prim 66 vs gs x := by
  intro vs gs x h
  unfold k66 at h
  cases hb0 : isFn 55 vs with
  | true => rw [hb0] at h; exact k66a_ok vs gs x h
  | false =>
  rw [hb0] at h
  exact k66b_ok vs gs x h

def K_f35a : CallK := kCons 66 k66 <| kNil
theorem K_f35a_ok : KOK C prim K_f35a := KOK.cons k66_ok <| KOK.nil
def T_f35a : Tab := tNil
theorem T_f35a_ok : TOK C prim 35 T_f35a := TOK.nil
def f35a (s : List V) : Option (V × List Rg) :=
  bif ((s.all shortS && decide (s.length ≤ 1000000000)) && true) then
    some (.sc (.bool (decide ((idxV largeV s) ≥ 0))), [])
  else none
theorem f35a_run (s : List V) (z9 : V × List Rg) (h : f35a s = some z9) : CallR C prim 35 [.sl 1 s, .fn 55 [] []] [] z9 := by
  refine call_fn (K := K_f35a) (T := T_f35a) K_f35a_ok T_f35a_ok (by kernel_rfl) ?_
  refine Eq.trans ?_ h
  kernel_rfl

theorem f35a_eq (s : List V) (hp : (s.all shortS && decide (s.length ≤ 1000000000)) = true) : f35a s = some (.sc (.bool (s.any largeV)), []) := by
  unfold f35a
  rw [hp, idxV_ge]
  rfl
def k35a : PrimT := fun vs gs => match vs, gs with
  | [.sl 1 s, .fn 55 [] []], [] => ((s.all shortS && decide (s.length ≤ 1000000000)), .sc (.bool (s.any largeV)), [])
  | _, _ => (false, .bad, [])
theorem k35a_ok : ∀ vs gs x, k35a vs gs = (true, x) → CallR C prim 35 vs gs x := by
  intro vs gs x h
  unfold k35a at h
  split at h
  · simp only [Prod.mk.injEq] at h
    obtain ⟨hp, rfl⟩ := h
    exact f35a_run _ _ (f35a_eq _ hp)
  · cases h

def K_f35b : CallK := kCons 66 k66 <| kNil
theorem K_f35b_ok : KOK C prim K_f35b := KOK.cons k66_ok <| KOK.nil
def T_f35b : Tab := tNil
theorem T_f35b_ok : TOK C prim 35 T_f35b := TOK.nil
def f35b (s : List V) : Option (V × List Rg) :=
  bif ((s.all shortS && decide (s.length ≤ 1000000000)) && true) then
    some (.sc (.bool (decide ((idxV largeV s) ≥ 0))), [])
  else none
theorem f35b_run (s : List V) (z9 : V × List Rg) (h : f35b s = some z9) : CallR C prim 35 [.sl 1 s, .fn 36 [] []] [] z9 := by
  refine call_fn (K := K_f35b) (T := T_f35b) K_f35b_ok T_f35b_ok (by kernel_rfl) ?_
  refine Eq.trans ?_ h
  kernel_rfl

theorem f35b_eq (s : List V) (hp : (s.all shortS && decide (s.length ≤ 1000000000)) = true) : f35b s = some (.sc (.bool (s.any largeV)), []) := by
  unfold f35b
  rw [hp, idxV_ge]
  rfl
def k35b : PrimT := fun vs gs => match vs, gs with
  | [.sl 1 s, .fn 36 [] []], [] => ((s.all shortS && decide (s.length ≤ 1000000000)), .sc (.bool (s.any largeV)), [])
  | _, _ => (false, .bad, [])
theorem k35b_ok : ∀ vs gs x, k35b vs gs = (true, x) → CallR C prim 35 vs gs x := by
  intro vs gs x h
  unfold k35b at h
  split at h
  · simp only [Prod.mk.injEq] at h
    obtain ⟨hp, rfl⟩ := h
    exact f35b_run _ _ (f35b_eq _ hp)
  · cases h

def k35 : PrimT := fun vs gs => bif isFn 55 vs then k35a vs gs else k35b vs gs
theorem k35_ok : ∀ vs gs x, k35 vs gs = (true, x) → CallR C prim 35 vs gs x := by
  intro vs gs x h
  unfold k35 at h
  cases hb0 : isFn 55 vs with
  | true => rw [hb0] at h; exact k35a_ok vs gs x h
  | false =>
  rw [hb0] at h
  exact k35b_ok vs gs x h

def K_f27 : CallK := kCons 35 k35 <| kNil
theorem K_f27_ok : KOK C prim K_f27 := KOK.cons k35_ok <| KOK.nil
def T_f27 : Tab := tNil
theorem T_f27_ok : TOK C prim 27 T_f27 := TOK.nil
def f27 (texts : List V) : Option (V × List Rg) :=
  bif ((texts.all shortS && decide (texts.length ≤ 1000000000)) && true) then
    bif (texts.any largeV) then
      some (.sc (.int .i64 2), [])
    else
      some (.sc (.int .i64 0), [])
  else none
theorem f27_run (texts : List V) (z9 : V × List Rg) (h : f27 texts = some z9) : CallR C prim 27 [.sl 1 texts] [] z9 := by
  refine call_fn (K := K_f27) (T := T_f27) K_f27_ok T_f27_ok (by kernel_rfl) ?_
  refine Eq.trans ?_ h
  kernel_rfl

theorem f27_eq (texts : List V) (hp : (texts.all shortS && decide (texts.length ≤ 1000000000)) = true) : f27 texts = some (.sc (.int .i64 (bif texts.any largeV then (2 : Int) else 0)), []) := by
  unfold f27
  rw [hp]
  cases texts.any largeV <;> rfl
def k27 : PrimT := fun vs gs => match vs, gs with
  | [.sl 1 texts], [] => ((texts.all shortS && decide (texts.length ≤ 1000000000)), .sc (.int .i64 (bif texts.any largeV then (2 : Int) else 0)), [])
  | _, _ => (false, .bad, [])
theorem k27_ok : ∀ vs gs x, k27 vs gs = (true, x) → CallR C prim 27 vs gs x := by
  intro vs gs x h
  unfold k27 at h
  split at h
  · simp only [Prod.mk.injEq] at h
    obtain ⟨hp, rfl⟩ := h
    exact f27_run _ _ (f27_eq _ hp)
  · cases h

def K_f10 : CallK := kCons 35 k35 <| kNil
theorem K_f10_ok : KOK C prim K_f10 := KOK.cons k35_ok <| KOK.nil
def T_f10 : Tab := tNil
theorem T_f10_ok : TOK C prim 10 T_f10 := TOK.nil
def f10 (texts : List V) : Option (V × List Rg) :=
  bif ((texts.all shortS && decide (texts.length ≤ 1000000000)) && true) then
    bif (texts.any largeV) then
      some (.sc (.int .i64 2), [])
    else
      some (.sc (.int .i64 0), [])
  else none
theorem f10_run (texts : List V) (z9 : V × List Rg) (h : f10 texts = some z9) : CallR C prim 10 [.sl 1 texts] [] z9 := by
  refine call_fn (K := K_f10) (T := T_f10) K_f10_ok T_f10_ok (by kernel_rfl) ?_
  refine Eq.trans ?_ h
  kernel_rfl

theorem f10_eq (texts : List V) (hp : (texts.all shortS && decide (texts.length ≤ 1000000000)) = true) : f10 texts = some (.sc (.int .i64 (bif texts.any largeV then (2 : Int) else 0)), []) := by
  unfold f10
  rw [hp]
  cases texts.any largeV <;> rfl
def k10 : PrimT := fun vs gs => match vs, gs with
  | [.sl 1 texts], [] => ((texts.all shortS && decide (texts.length ≤ 1000000000)), .sc (.int .i64 (bif texts.any largeV then (2 : Int) else 0)), [])
  | _, _ => (false, .bad, [])
theorem k10_ok : ∀ vs gs x, k10 vs gs = (true, x) → CallR C prim 10 vs gs x := by
  intro vs gs x h
  unfold k10 at h
  split at h
  · simp only [Prod.mk.injEq] at h
    obtain ⟨hp, rfl⟩ := h
    exact f10_run _ _ (f10_eq _ hp)
  · cases h

def K_f40 : CallK := kNil
theorem K_f40_ok : KOK C prim K_f40 := KOK.nil
def T_f40 : Tab := tNil
theorem T_f40_ok : TOK C prim 40 T_f40 := TOK.nil
def f40 (n' : Int) (low : Int) (high : Int) : Option (V × List Rg) :=
  bif (decide (n' ≥ low)) then
    some (.sc (.bool (decide (n' ≤ high))), [])
  else
    some (.sc (.bool false), [])
theorem f40_run (n' : Int) (low : Int) (high : Int) (z9 : V × List Rg) (h : f40 n' low high = some z9) : CallR C prim 40 [.sc (.int .i64 n'), .sc (.int .i64 low), .sc (.int .i64 high)] [] z9 := by
  refine call_fn (K := K_f40) (T := T_f40) K_f40_ok T_f40_ok (by kernel_rfl) ?_
  refine Eq.trans ?_ h
  kernel_rfl

theorem f40_eq (n' : Int) (low : Int) (high : Int) : f40 n' low high = some (.sc (.bool (decide (n' ≥ low) && decide (n' ≤ high))), []) := by
  unfold f40
  cases decide (n' ≥ low) <;> rfl
def k40 : PrimT := fun vs gs => match vs, gs with
  | [.sc (.int .i64 n'), .sc (.int .i64 low), .sc (.int .i64 high)], [] => (true, .sc (.bool (decide (n' ≥ low) && decide (n' ≤ high))), [])
  | _, _ => (false, .bad, [])
theorem k40_ok : ∀ vs gs x, k40 vs gs = (true, x) → CallR C prim 40 vs gs x := by
  intro vs gs x h
  unfold k40 at h
  split at h
  · simp only [Prod.mk.injEq, true_and] at h
    subst h
    exact f40_run _ _ _ _ (f40_eq _ _ _)
  · cases h

def K_f18 : CallK := kNil
theorem K_f18_ok : KOK C prim K_f18 := KOK.nil
def T_f18 : Tab := tNil
theorem T_f18_ok : TOK C prim 18 T_f18 := TOK.nil
def f18 (n' : Int) (low : Int) (high : Int) : Option (V × List Rg) :=
  bif (decide (n' ≥ low)) then
    some (.sc (.bool (decide (n' ≤ high))), [])
  else
    some (.sc (.bool false), [])
theorem f18_run (n' : Int) (low : Int) (high : Int) (z9 : V × List Rg) (h : f18 n' low high = some z9) : CallR C prim 18 [.sc (.int .i64 n'), .sc (.int .i64 low), .sc (.int .i64 high)] [] z9 := by
  refine call_fn (K := K_f18) (T := T_f18) K_f18_ok T_f18_ok (by kernel_rfl) ?_
  refine Eq.trans ?_ h
  kernel_rfl

theorem f18_eq (n' : Int) (low : Int) (high : Int) : f18 n' low high = some (.sc (.bool (decide (n' ≥ low) && decide (n' ≤ high))), []) := by
  unfold f18
  cases decide (n' ≥ low) <;> rfl
def k18 : PrimT := fun vs gs => match vs, gs with
  | [.sc (.int .i64 n'), .sc (.int .i64 low), .sc (.int .i64 high)], [] => (true, .sc (.bool (decide (n' ≥ low) && decide (n' ≤ high))), [])
  | _, _ => (false, .bad, [])
theorem k18_ok : ∀ vs gs x, k18 vs gs = (true, x) → CallR C prim 18 vs gs x := by
  intro vs gs x h
  unfold k18 at h
  split at h
  · simp only [Prod.mk.injEq, true_and] at h
    subst h
    exact f18_run _ _ _ _ (f18_eq _ _ _)
  · cases h

def K_f19 : CallK := kNil
theorem K_f19_ok : KOK C prim K_f19 := KOK.nil
def T_f19 : Tab := tNil
theorem T_f19_ok : TOK C prim 19 T_f19 := TOK.nil
def f19 (is : Bool) (e : Int) : Option (V × List Rg) :=
  bif is then
    some (.sc (.int .i64 e), [])
  else
    some (.sc (.int .i64 0), [])
theorem f19_run (is : Bool) (e : Int) (z9 : V × List Rg) (h : f19 is e = some z9) : CallR C prim 19 [.sc (.bool is), .sc (.int .i64 e)] [] z9 := by
  refine call_fn (K := K_f19) (T := T_f19) K_f19_ok T_f19_ok (by kernel_rfl) ?_
  refine Eq.trans ?_ h
  kernel_rfl

theorem f19_eq (is : Bool) (e : Int) : f19 is e = some (.sc (.int .i64 (bif is then e else 0)), []) := by cases is <;> rfl
def k19 : PrimT := fun vs gs => match vs, gs with
  | [.sc (.bool is), .sc (.int .i64 e)], [] => (true, .sc (.int .i64 (bif is then e else 0)), [])
  | _, _ => (false, .bad, [])
theorem k19_ok : ∀ vs gs x, k19 vs gs = (true, x) → CallR C prim 19 vs gs x := by
  intro vs gs x h
  unfold k19 at h
  split at h
  · simp only [Prod.mk.injEq, true_and] at h
    subst h
    exact f19_run _ _ _ (f19_eq _ _)
  · cases h

def K_f13 : CallK := kNil
theorem K_f13_ok : KOK C prim K_f13 := KOK.nil
def T_f13 : Tab := tNil
theorem T_f13_ok : TOK C prim 13 T_f13 := TOK.nil
def f13 (s : ByteArray) (e : Int) (want : ByteArray) (f : Int) : Option (V × List Rg) :=
  bif (f != 0) then
    bif (strEq s (⟨#[]⟩ : ByteArray)) then
      some (.sc (.bool (e == f)), [])
    else
      some (.sc (.bool false), [])
  else
    bif (strEq s want) then
      some (.sc (.bool (e == 0)), [])
    else
      some (.sc (.bool false), [])
theorem f13_run (s : ByteArray) (e : Int) (want : ByteArray) (f : Int) (z9 : V × List Rg) (h : f13 s e want f = some z9) : CallR C prim 13 [.sc (.string s), .sc (.int .i64 e), .sc (.string want), .sc (.int .i64 f)] [] z9 := by
  refine call_fn (K := K_f13) (T := T_f13) K_f13_ok T_f13_ok (by kernel_rfl) ?_
  refine Eq.trans ?_ h
  kernel_rfl

theorem f13_eq (s : ByteArray) (e : Int) (want : ByteArray) (f : Int) : f13 s e want f = some (.sc (.bool (outc s e want f)), []) := by
  unfold f13 outc
  cases f != 0
  · cases strEq s want <;> rfl
  · cases strEq s ⟨#[]⟩ <;> rfl
def k13 : PrimT := fun vs gs => match vs, gs with
  | [.sc (.string s), .sc (.int .i64 e), .sc (.string want), .sc (.int .i64 f)], [] => (true, .sc (.bool (outc s e want f)), [])
  | _, _ => (false, .bad, [])
theorem k13_ok : ∀ vs gs x, k13 vs gs = (true, x) → CallR C prim 13 vs gs x := by
  intro vs gs x h
  unfold k13 at h
  split at h
  · simp only [Prod.mk.injEq, true_and] at h
    subst h
    exact f13_run _ _ _ _ _ (f13_eq _ _ _ _)
  · cases h

def K_f8_l0 : CallK := kNil
theorem K_f8_l0_ok : KOK C prim K_f8_l0 := KOK.nil
def T_f8_l0 : Tab := tNil
theorem T_f8_l0_ok : TOK C prim 8 T_f8_l0 := TOK.nil
def f8_l0 : Nat → List V → Int → Int → (R : Type) → (Ex → St → Option R) → Option R
  | 0, _, _, _, _, _ => none
  | n + 1, v5, v6, v7, R, κ =>
    bif (decide (v7 < v6)) then
      bif (((decide ((0 : Int) ≤ v7)) && (decide (v7 < ((v5.length : Nat) : Int)))) && true) then
        bif (((V.isInt .i64 (nthV v5 (((v7).toNat * 1) + 0))) && true) && true) then
          bif ((V.intOf (nthV v5 (((v7).toNat * 1) + 0))) != 0) then
            κ .rt (mkS [(2, .sc (.int .i64 (V.intOf (nthV v5 (((v7).toNat * 1) + 0)))))] [])
          else
            f8_l0 n v5 v6 (IntKind.wrap .i64 (v7 + 1)) R κ
        else none
      else none
    else
      κ (.ex 0) (mkS [(2, .bad)] [])
def f8_l0_ls : List (Nat × Pat) := [(5, .sl 1), (6, .i .i64), (7, .i .i64)]
def f8_l0_rs : List RPat := []
theorem f8_l0_ok (n : Nat) : ∀ (v5 : List V) (v6 : Int) (v7 : Int) (R : Type) (κ : Ex → St → Option R) (r : R), f8_l0 n v5 v6 v7 R κ = some r → ∃ ee ss, κ ee ss = some r ∧ RunP C prim 8 [0, 1, 0, 1] (mkS [(5, .sl 1 v5), (6, .sc (.int .i64 v6)), (7, .sc (.int .i64 v7))] []) ee ss := by
  induction n with
  | zero => intro v5 v6 v7 R κ r h; cases h
  | succ n ih =>
    intro v5 v6 v7 R κ r h
    refine loop_round (K := K_f8_l0) (T := T_f8_l0) K_f8_l0_ok T_f8_l0_ok (p := [0, 1, 0, 1]) (by kernel_rfl) (fun st => bif ckS f8_l0_ls f8_l0_rs st then f8_l0 n ((st.env 5).cellsOf) ((st.env 6).intOf) ((st.env 7).intOf) R κ else none) (fun st0 h0 => ?_) ?_
    · obtain ⟨hs, h0⟩ := cond_some h0
      rw [canon (ls := f8_l0_ls) (rs := f8_l0_rs) (by kernel_rfl) st0 hs]
      exact ih _ _ _ R κ r h0
    · refine Eq.trans ?_ h
      kernel_rfl

def f8_s0 (v5 : List V) (v6 : Int) (v7 : Int) (R : Type) (κ : Ex → St → Option R) : Option R :=
  bif (firstBy V.intOf v5 != 0) then
    κ .rt (mkS [(2, .sc (.int .i64 (firstBy V.intOf v5)))] [])
  else
    κ (.ex 0) (mkS [(2, .bad)] [])
theorem f8_s0_eq (v5 : List V) (v6 : Int) (v7 : Int) (hp : ((v6 == ((v5.length : Nat) : Int)) && (v7 == 0) && v5.all (V.isInt .i64) && decide (v5.length ≤ 1000000000)) = true) : ∃ n, ∀ (R : Type) (κ : Ex → St → Option R), f8_l0 n v5 v6 v7 R κ = f8_s0 v5 v6 v7 R κ := by
  simp only [Bool.and_eq_true, decide_eq_true_eq, beq_iff_eq] at hp
  obtain ⟨⟨⟨rfl, rfl⟩, h3⟩, h4⟩ := hp
  refine ⟨v5.length + 1, fun R κ => ?_⟩
  refine errLoop (fun n k => f8_l0 n v5 ((v5.length : Nat) : Int) k R κ) v5 V.intOf (fun e => κ .rt (mkS [(2, .sc (.int .i64 e))] [])) (κ (.ex 0) (mkS [(2, .bad)] [])) ?_ ?_ v5.length 0 (by omega) _ (by omega)
  · intro n k hk
    have hs : V.isInt .i64 v5[k] = true := List.all_eq_true.1 h3 _ (List.getElem_mem hk)
    show f8_l0 (n + 1) v5 ((v5.length : Nat) : Int) (k : Int) R κ = _
    rw [f8_l0, dec_true (show (k : Int) < ((v5.length : Nat) : Int) by omega), dec_true (show (0 : Int) ≤ (k : Int) by omega), nth_at hk, hs, wrap_succ (by omega)]
    rfl
  · intro n
    show f8_l0 (n + 1) v5 ((v5.length : Nat) : Int) ((v5.length : Nat) : Int) R κ = _
    rw [f8_l0, dec_false (by omega)]
    rfl
def t_f8_l0 (st : St) (R : Type) (κ : Ex → St → Option R) : Option R := bif ckS f8_l0_ls f8_l0_rs st then (bif ((((st.env 6).intOf) == ((((st.env 5).cellsOf).length : Nat) : Int)) && (((st.env 7).intOf) == 0) && ((st.env 5).cellsOf).all (V.isInt .i64) && decide (((st.env 5).cellsOf).length ≤ 1000000000)) then f8_s0 ((st.env 5).cellsOf) ((st.env 6).intOf) ((st.env 7).intOf) R κ else none) else none
theorem t_f8_l0_ok : ∀ st0 R κ r, t_f8_l0 (forget C 8 [0, 1, 0, 1] st0) R κ = some r → ∃ ee ss, κ ee ss = some r ∧ RunP C prim 8 [0, 1, 0, 1] (forget C 8 [0, 1, 0, 1] st0) ee ss := by
  intro st0 R κ r h
  obtain ⟨hs, h⟩ := cond_some h
  obtain ⟨hp, h⟩ := cond_some h
  rw [canon (ls := f8_l0_ls) (rs := f8_l0_rs) (by kernel_rfl) st0 hs]
  obtain ⟨n, hn⟩ := f8_s0_eq _ _ _ hp
  rw [← hn] at h
  exact f8_l0_ok n _ _ _ R κ r h

def K_f8 : CallK := kNil
theorem K_f8_ok : KOK C prim K_f8 := KOK.nil
def T_f8 : Tab := tCons [0, 1, 0, 1] t_f8_l0 <| tNil
theorem T_f8_ok : TOK C prim 8 T_f8 := TOK.cons t_f8_l0_ok <| TOK.nil
def f8 (l : List V) : Option (V × List Rg) :=
  bif ((((l.length : Nat) : Int) == ((l.length : Nat) : Int)) && ((0 : Int) == 0) && l.all (V.isInt .i64) && decide (l.length ≤ 1000000000)) then
    bif (firstBy V.intOf l != 0) then
      some (.sc (.int .i64 (firstBy V.intOf l)), [])
    else
      some (.sc (.int .i64 0), [])
  else none
theorem f8_run (l : List V) (z9 : V × List Rg) (h : f8 l = some z9) : CallR C prim 8 [.sl 1 l] [] z9 := by
  refine call_fn (K := K_f8) (T := T_f8) K_f8_ok T_f8_ok (by kernel_rfl) ?_
  refine Eq.trans ?_ h
  kernel_rfl

theorem f8_eq (l : List V) (hp : (l.all (V.isInt .i64) && decide (l.length ≤ 1000000000)) = true) : f8 l = some (.sc (.int .i64 (firstBy V.intOf l)), []) := by
  simp only [Bool.and_eq_true, decide_eq_true_eq] at hp
  unfold f8
  rw [hp.1, dec_true hp.2]
  simp only [beq_self_eq_true, Bool.and_true, cond_true]
  exact zero_or (x := firstBy V.intOf l) (fun e => some (V.sc (.int .i64 e), []))
def k8 : PrimT := fun vs gs => match vs, gs with
  | [.sl 1 l], [] => ((l.all (V.isInt .i64) && decide (l.length ≤ 1000000000)), .sc (.int .i64 (firstBy V.intOf l)), [])
  | _, _ => (false, .bad, [])
theorem k8_ok : ∀ vs gs x, k8 vs gs = (true, x) → CallR C prim 8 vs gs x := by
  intro vs gs x h
  unfold k8 at h
  split at h
  · simp only [Prod.mk.injEq] at h
    obtain ⟨hp, rfl⟩ := h
    exact f8_run _ _ (f8_eq _ hp)
  · cases h

def K_f133 : CallK := kNil
theorem K_f133_ok : KOK C prim K_f133 := KOK.nil
def T_f133 : Tab := tNil
theorem T_f133_ok : TOK C prim 133 T_f133 := TOK.nil
def f133 (x : ByteArray) : Option (V × List Rg) :=
  some (.sc (.bool (!(strEq x x))), [])
theorem f133_run (x : ByteArray) (z9 : V × List Rg) (h : f133 x = some z9) : CallR C prim 133 [.sc (.string x)] [] z9 := by
  refine call_fn (K := K_f133) (T := T_f133) K_f133_ok T_f133_ok (by kernel_rfl) ?_
  refine Eq.trans ?_ h
  kernel_rfl

theorem f133_eq (x : ByteArray) : f133 x = some (.sc (.bool false), []) := by
  unfold f133
  rw [strEq_self]
  rfl
def k133 : PrimT := fun vs gs => match vs, gs with
  | [.sc (.string x)], [] => (true, .sc (.bool false), [])
  | _, _ => (false, .bad, [])
theorem k133_ok : ∀ vs gs x, k133 vs gs = (true, x) → CallR C prim 133 vs gs x := by
  intro vs gs x h
  unfold k133 at h
  split at h
  · simp only [Prod.mk.injEq, true_and] at h
    subst h
    exact f133_run _ _ (f133_eq _)
  · cases h

def K_f59 : CallK := kCons 93 k93 <| kNil
theorem K_f59_ok : KOK C prim K_f59 := KOK.cons k93_ok <| KOK.nil
def T_f59 : Tab := tNil
theorem T_f59_ok : TOK C prim 59 T_f59 := TOK.nil
def f59 (s : ByteArray) (r01 : List V) : Option (V × List Rg) :=
  bif (((roomy ((r01.length + ((bytesV s)).length) * 1)) && (roomy (r01.length + ((bytesV s)).length))) && true) then
    some (.tp [.sc (.int .i64 ((s.size : Nat) : Int)), .sc .nilIface], [⟨true, [.slf, .own 5 false (r01 ++ (bytesV s))]⟩])
  else none
theorem f59_run (s : ByteArray) (r01 : List V) (z9 : V × List Rg) (h : f59 s r01 = some z9) : CallR C prim 59 [.ptrB (.par 0) 0, .sc (.string s)] [⟨true, [.slf, .own 5 false r01]⟩] z9 := by
  refine call_fn (K := K_f59) (T := T_f59) K_f59_ok T_f59_ok (by kernel_rfl) ?_
  refine Eq.trans ?_ h
  kernel_rfl

theorem f59_eq (s : ByteArray) (r01 : List V) (hp : (roomB r01 s) = true) : f59 s r01 = some (.tp [.sc (.int .i64 ((s.size : Nat) : Int)), .sc .nilIface], [⟨true, [.slf, .own 5 false (r01 ++ bytesV s)]⟩]) := by
  unfold roomB at hp
  have h := of_decide_eq_true hp
  unfold f59 roomy
  rw [bytesV_len, dec_true (by omega), dec_true (by omega)]
  rfl
def k59 : PrimT := fun vs gs => match vs, gs with
  | [.ptrB (.par 0) 0, .sc (.string s)], [⟨true, [.slf, .own 5 false r01]⟩] => ((roomB r01 s), .tp [.sc (.int .i64 ((s.size : Nat) : Int)), .sc .nilIface], [⟨true, [.slf, .own 5 false (r01 ++ bytesV s)]⟩])
  | _, _ => (false, .bad, [])
theorem k59_ok : ∀ vs gs x, k59 vs gs = (true, x) → CallR C prim 59 vs gs x := by
  intro vs gs x h
  unfold k59 at h
  split at h
  · simp only [Prod.mk.injEq] at h
    obtain ⟨hp, rfl⟩ := h
    exact f59_run _ _ _ (f59_eq _ _ hp)
  · cases h

def K_f33_l0 : CallK := kCons 59 k59 <| kNil
theorem K_f33_l0_ok : KOK C prim K_f33_l0 := KOK.cons k59_ok <| KOK.nil
def T_f33_l0 : Tab := tNil
theorem T_f33_l0_ok : TOK C prim 33 T_f33_l0 := TOK.nil
def f33_l0 : Nat → List V → Int → Int → List V → (R : Type) → (Ex → St → Option R) → Option R
  | 0, _, _, _, _, _, _ => none
  | n + 1, v6, v7, v8, b1, R, κ =>
    bif (decide (v8 < v7)) then
      bif (((decide ((0 : Int) ≤ v8)) && (decide (v8 < ((v6.length : Nat) : Int)))) && true) then
        bif (((V.isStr (nthV v6 (((v8).toNat * 1) + 0))) && true) && true) then
          bif ((decide (((V.strOf (nthV v6 (((v8).toNat * 1) + 0))).size + 1) ≤ 9223372036854775807)) && true) then
            bif ((roomB b1 ((V.strOf (nthV v6 (((v8).toNat * 1) + 0))) ++ (⟨#[10]⟩ : ByteArray))) && true) then
              f33_l0 n v6 v7 (IntKind.wrap .i64 (v8 + 1)) (b1 ++ bytesV ((V.strOf (nthV v6 (((v8).toNat * 1) + 0))) ++ (⟨#[10]⟩ : ByteArray))) R κ
            else none
          else none
        else none
      else none
    else
      κ (.ex 0) (mkS [(2, .bad), (3, .ptrB (.loc 3) 0)] [(.loc 3, some ⟨true, [.slf, .own 5 false b1]⟩)])
def f33_l0_ls : List (Nat × Pat) := [(3, .is (.ptrB (.loc 3) 0)), (6, .sl 1), (7, .i .i64), (8, .i .i64)]
def f33_l0_rs : List RPat := [⟨.loc 3, true, [.is (.slf), .own 5 false]⟩]
theorem f33_l0_ok (n : Nat) : ∀ (v6 : List V) (v7 : Int) (v8 : Int) (b1 : List V) (R : Type) (κ : Ex → St → Option R) (r : R), f33_l0 n v6 v7 v8 b1 R κ = some r → ∃ ee ss, κ ee ss = some r ∧ RunP C prim 33 [0, 1, 0, 1, 1] (mkS [(3, .ptrB (.loc 3) 0), (6, .sl 1 v6), (7, .sc (.int .i64 v7)), (8, .sc (.int .i64 v8))] [(.loc 3, some ⟨true, [.slf, .own 5 false b1]⟩)]) ee ss := by
  induction n with
  | zero => intro v6 v7 v8 b1 R κ r h; cases h
  | succ n ih =>
    intro v6 v7 v8 b1 R κ r h
    refine loop_round (K := K_f33_l0) (T := T_f33_l0) K_f33_l0_ok T_f33_l0_ok (p := [0, 1, 0, 1, 1]) (by kernel_rfl) (fun st => bif ckS f33_l0_ls f33_l0_rs st then f33_l0 n ((st.env 6).cellsOf) ((st.env 7).intOf) ((st.env 8).intOf) ((nthV (rowOf (st.regs (.loc 3))) 1).cellsOf) R κ else none) (fun st0 h0 => ?_) ?_
    · obtain ⟨hs, h0⟩ := cond_some h0
      rw [canon (ls := f33_l0_ls) (rs := f33_l0_rs) (by kernel_rfl) st0 hs]
      exact ih _ _ _ _ R κ r h0
    · refine Eq.trans ?_ h
      kernel_rfl

def f33_s0 (v6 : List V) (v7 : Int) (v8 : Int) (b1 : List V) (R : Type) (κ : Ex → St → Option R) : Option R :=
  κ (.ex 0) (mkS [(2, .bad), (3, .ptrB (.loc 3) 0)] [(.loc 3, some ⟨true, [.slf, .own 5 false (b1 ++ bytesV (resB v6))]⟩)])
theorem f33_l0_c (v6 : List V) (hu : v6.all V.isStr = true) (hl : v6.length ≤ 1000000000) : ∀ (m k : Nat) (r : List V), k + m = v6.length → r.length + (resB (v6.drop k)).size ≤ 100000000000 → ∀ n, m < n → ∀ (R : Type) (κ : Ex → St → Option R), f33_l0 n v6 ((v6.length : Nat) : Int) (k : Int) r R κ = κ (.ex 0) (mkS [(2, .bad), (3, .ptrB (.loc 3) 0)] [(.loc 3, some ⟨true, [.slf, .own 5 false (r ++ bytesV (resB (v6.drop k)))]⟩)]) := by
  intro m
  induction m with
  | zero =>
    intro k r hk hs n hn R κ
    obtain ⟨n, rfl⟩ : ∃ j, n = j + 1 := ⟨n - 1, by omega⟩
    rw [List.drop_of_length_le (by omega), f33_l0, dec_false (by omega)]
    unfold resB
    rw [bytesV_nil, List.append_nil]
    rfl
  | succ m ih =>
    intro k r hk hs n hn R κ
    obtain ⟨n, rfl⟩ : ∃ j, n = j + 1 := ⟨n - 1, by omega⟩
    have hlt : k < v6.length := by omega
    have hx : V.isStr v6[k] = true := List.all_eq_true.1 hu _ (List.getElem_mem hlt)
    rw [List.drop_eq_getElem_cons hlt] at hs ⊢
    unfold resB at hs ⊢
    have e10 : (⟨#[10]⟩ : ByteArray).size = 1 := rfl
    simp only [ba_size_append, e10] at hs
    have hroom : roomB r (v6[k].strOf ++ (⟨#[10]⟩ : ByteArray)) = true := by
      unfold roomB
      rw [ba_size_append, e10]
      exact dec_true (by omega)
    rw [f33_l0, dec_true (show (k : Int) < ((v6.length : Nat) : Int) by omega), dec_true (show (0 : Int) ≤ (k : Int) by omega), nth_at hlt, hx, dec_true (show v6[k].strOf.size + 1 ≤ 9223372036854775807 by omega), hroom, wrap_succ (by omega),
      ih (k + 1) _ (by omega) (by rw [List.length_append, bytesV_len, ba_size_append, e10]; omega) n (by omega) R κ, bytesV_app _ (resB _), List.append_assoc]
    rfl
theorem f33_s0_eq (v6 : List V) (v7 : Int) (v8 : Int) (b1 : List V) (hp : ((v7 == ((v6.length : Nat) : Int)) && (v8 == 0) && v6.all V.isStr && decide (v6.length ≤ 1000000000) && decide (b1.length + (resB v6).size ≤ 100000000000)) = true) : ∃ n, ∀ (R : Type) (κ : Ex → St → Option R), f33_l0 n v6 v7 v8 b1 R κ = f33_s0 v6 v7 v8 b1 R κ := by
  simp only [Bool.and_eq_true, decide_eq_true_eq, beq_iff_eq] at hp
  obtain ⟨⟨⟨⟨rfl, rfl⟩, h3⟩, h4⟩, h5⟩ := hp
  exact ⟨v6.length + 1, fun R κ => f33_l0_c v6 h3 h4 v6.length 0 b1 (by omega) h5 _ (by omega) R κ⟩
def t_f33_l0 (st : St) (R : Type) (κ : Ex → St → Option R) : Option R := bif ckS f33_l0_ls f33_l0_rs st then (bif ((((st.env 7).intOf) == ((((st.env 6).cellsOf).length : Nat) : Int)) && (((st.env 8).intOf) == 0) && ((st.env 6).cellsOf).all V.isStr && decide (((st.env 6).cellsOf).length ≤ 1000000000) && decide (((nthV (rowOf (st.regs (.loc 3))) 1).cellsOf).length + (resB ((st.env 6).cellsOf)).size ≤ 100000000000)) then f33_s0 ((st.env 6).cellsOf) ((st.env 7).intOf) ((st.env 8).intOf) ((nthV (rowOf (st.regs (.loc 3))) 1).cellsOf) R κ else none) else none
theorem t_f33_l0_ok : ∀ st0 R κ r, t_f33_l0 (forget C 33 [0, 1, 0, 1, 1] st0) R κ = some r → ∃ ee ss, κ ee ss = some r ∧ RunP C prim 33 [0, 1, 0, 1, 1] (forget C 33 [0, 1, 0, 1, 1] st0) ee ss := by
  intro st0 R κ r h
  obtain ⟨hs, h⟩ := cond_some h
  obtain ⟨hp, h⟩ := cond_some h
  rw [canon (ls := f33_l0_ls) (rs := f33_l0_rs) (by kernel_rfl) st0 hs]
  obtain ⟨n, hn⟩ := f33_s0_eq _ _ _ _ hp
  rw [← hn] at h
  exact f33_l0_ok n _ _ _ _ R κ r h

def K_f33 : CallK := kCons 61 k61 <| kNil
theorem K_f33_ok : KOK C prim K_f33 := KOK.cons k61_ok <| KOK.nil
def T_f33 : Tab := tCons [0, 1, 0, 1, 1] t_f33_l0 <| tNil
theorem T_f33_ok : TOK C prim 33 T_f33 := TOK.cons t_f33_l0_ok <| TOK.nil
def f33 (l : List V) : Option (V × List Rg) :=
  bif ((((l.length : Nat) : Int) == ((l.length : Nat) : Int)) && ((0 : Int) == 0) && l.all V.isStr && decide (l.length ≤ 1000000000) && decide (([] : List V).length + (resB l).size ≤ 100000000000)) then
    bif ((((([] : List V) ++ bytesV (resB l))).all okU8) && true) then
      some (.sc (.string (strOfCells (([] : List V) ++ bytesV (resB l)))), [])
    else none
  else none
theorem f33_run (l : List V) (z9 : V × List Rg) (h : f33 l = some z9) : CallR C prim 33 [.sl 1 l] [] z9 := by
  refine call_fn (K := K_f33) (T := T_f33) K_f33_ok T_f33_ok (by kernel_rfl) ?_
  refine Eq.trans ?_ h
  kernel_rfl

theorem f33_eq (l : List V) (hp : (l.all V.isStr && decide (l.length ≤ 1000000000) && decide ((resB l).size ≤ 100000000000)) = true) : f33 l = some (.sc (.string (resB l)), []) := by
  simp only [Bool.and_eq_true, decide_eq_true_eq] at hp
  unfold f33
  rw [hp.1.1, dec_true hp.1.2, dec_true (show ([] : List V).length + (resB l).size ≤ 100000000000 by simp; omega), List.nil_append, okU8_bytesV, strOf_bytesV]
  simp only [beq_self_eq_true, Bool.and_true, cond_true]
def k33 : PrimT := fun vs gs => match vs, gs with
  | [.sl 1 l], [] => ((l.all V.isStr && decide (l.length ≤ 1000000000) && decide ((resB l).size ≤ 100000000000)), .sc (.string (resB l)), [])
  | _, _ => (false, .bad, [])
theorem k33_ok : ∀ vs gs x, k33 vs gs = (true, x) → CallR C prim 33 vs gs x := by
  intro vs gs x h
  unfold k33 at h
  split at h
  · simp only [Prod.mk.injEq] at h
    obtain ⟨hp, rfl⟩ := h
    exact f33_run _ _ (f33_eq _ hp)
  · cases h

def K_f16_l0 : CallK := kNil
theorem K_f16_l0_ok : KOK C prim K_f16_l0 := KOK.nil
def T_f16_l0 : Tab := tNil
theorem T_f16_l0_ok : TOK C prim 16 T_f16_l0 := TOK.nil
def f16_l0 : Nat → ByteArray → List V → Int → Int → (R : Type) → (Ex → St → Option R) → Option R
  | 0, _, _, _, _, _, _ => none
  | n + 1, s, v6, v7, v8, R, κ =>
    bif (decide (v8 < v7)) then
      bif (((decide ((0 : Int) ≤ v8)) && (decide (v8 < ((v6.length : Nat) : Int)))) && true) then
        bif (((V.isStr (nthV v6 (((v8).toNat * 1) + 0))) && true) && true) then
          bif ((decide (((V.strOf (nthV v6 (((v8).toNat * 1) + 0))).size + 1) ≤ 9223372036854775807)) && true) then
            bif ((decide ((s.size + ((V.strOf (nthV v6 (((v8).toNat * 1) + 0))) ++ (⟨#[10]⟩ : ByteArray)).size) ≤ 9223372036854775807)) && true) then
              f16_l0 n (s ++ ((V.strOf (nthV v6 (((v8).toNat * 1) + 0))) ++ (⟨#[10]⟩ : ByteArray))) v6 v7 (IntKind.wrap .i64 (v8 + 1)) R κ
            else none
          else none
        else none
      else none
    else
      κ (.ex 0) (mkS [(2, .bad), (3, .sc (.string s))] [])
def f16_l0_ls : List (Nat × Pat) := [(3, .s), (6, .sl 1), (7, .i .i64), (8, .i .i64)]
def f16_l0_rs : List RPat := []
theorem f16_l0_ok (n : Nat) : ∀ (s : ByteArray) (v6 : List V) (v7 : Int) (v8 : Int) (R : Type) (κ : Ex → St → Option R) (r : R), f16_l0 n s v6 v7 v8 R κ = some r → ∃ ee ss, κ ee ss = some r ∧ RunP C prim 16 [0, 1, 0, 1, 1] (mkS [(3, .sc (.string s)), (6, .sl 1 v6), (7, .sc (.int .i64 v7)), (8, .sc (.int .i64 v8))] []) ee ss := by
  induction n with
  | zero => intro s v6 v7 v8 R κ r h; cases h
  | succ n ih =>
    intro s v6 v7 v8 R κ r h
    refine loop_round (K := K_f16_l0) (T := T_f16_l0) K_f16_l0_ok T_f16_l0_ok (p := [0, 1, 0, 1, 1]) (by kernel_rfl) (fun st => bif ckS f16_l0_ls f16_l0_rs st then f16_l0 n ((st.env 3).strOf) ((st.env 6).cellsOf) ((st.env 7).intOf) ((st.env 8).intOf) R κ else none) (fun st0 h0 => ?_) ?_
    · obtain ⟨hs, h0⟩ := cond_some h0
      rw [canon (ls := f16_l0_ls) (rs := f16_l0_rs) (by kernel_rfl) st0 hs]
      exact ih _ _ _ _ R κ r h0
    · refine Eq.trans ?_ h
      kernel_rfl

def f16_s0 (s : ByteArray) (v6 : List V) (v7 : Int) (v8 : Int) (R : Type) (κ : Ex → St → Option R) : Option R :=
  κ (.ex 0) (mkS [(2, .bad), (3, .sc (.string (s ++ resB v6)))] [])
theorem f16_l0_c (v6 : List V) (hu : v6.all V.isStr = true) (hl : v6.length ≤ 1000000000) : ∀ (m k : Nat) (s : ByteArray), k + m = v6.length → s.size + (resB (v6.drop k)).size ≤ 100000000000 → ∀ n, m < n → ∀ (R : Type) (κ : Ex → St → Option R), f16_l0 n s v6 ((v6.length : Nat) : Int) (k : Int) R κ = κ (.ex 0) (mkS [(2, .bad), (3, .sc (.string (s ++ resB (v6.drop k))))] []) := by
  intro m
  induction m with
  | zero =>
    intro k s hk hs n hn R κ
    obtain ⟨n, rfl⟩ : ∃ j, n = j + 1 := ⟨n - 1, by omega⟩
    rw [List.drop_of_length_le (by omega), f16_l0, dec_false (by omega)]
    unfold resB
    rw [ba_nil']
    rfl
  | succ m ih =>
    intro k s hk hs n hn R κ
    obtain ⟨n, rfl⟩ : ∃ j, n = j + 1 := ⟨n - 1, by omega⟩
    have hlt : k < v6.length := by omega
    have hx : V.isStr v6[k] = true := List.all_eq_true.1 hu _ (List.getElem_mem hlt)
    rw [List.drop_eq_getElem_cons hlt] at hs ⊢
    unfold resB at hs ⊢
    have e10 : (⟨#[10]⟩ : ByteArray).size = 1 := rfl
    simp only [ba_size_append, e10] at hs
    rw [f16_l0, dec_true (show (k : Int) < ((v6.length : Nat) : Int) by omega), dec_true (show (0 : Int) ≤ (k : Int) by omega), nth_at hlt, hx, ba_size_append, e10, dec_true (show v6[k].strOf.size + 1 ≤ 9223372036854775807 by omega), dec_true (show s.size + (v6[k].strOf.size + 1) ≤ 9223372036854775807 by omega), wrap_succ (by omega),
      ih (k + 1) _ (by omega) (by simp only [ba_size_append, e10]; omega) n (by omega) R κ, ba_assoc s]
    rfl
theorem f16_s0_eq (s : ByteArray) (v6 : List V) (v7 : Int) (v8 : Int) (hp : ((v7 == ((v6.length : Nat) : Int)) && (v8 == 0) && v6.all V.isStr && decide (v6.length ≤ 1000000000) && decide (s.size + (resB v6).size ≤ 100000000000)) = true) : ∃ n, ∀ (R : Type) (κ : Ex → St → Option R), f16_l0 n s v6 v7 v8 R κ = f16_s0 s v6 v7 v8 R κ := by
  simp only [Bool.and_eq_true, decide_eq_true_eq, beq_iff_eq] at hp
  obtain ⟨⟨⟨⟨rfl, rfl⟩, h3⟩, h4⟩, h5⟩ := hp
  exact ⟨v6.length + 1, fun R κ => f16_l0_c v6 h3 h4 v6.length 0 s (by omega) h5 _ (by omega) R κ⟩
def t_f16_l0 (st : St) (R : Type) (κ : Ex → St → Option R) : Option R := bif ckS f16_l0_ls f16_l0_rs st then (bif ((((st.env 7).intOf) == ((((st.env 6).cellsOf).length : Nat) : Int)) && (((st.env 8).intOf) == 0) && ((st.env 6).cellsOf).all V.isStr && decide (((st.env 6).cellsOf).length ≤ 1000000000) && decide (((st.env 3).strOf).size + (resB ((st.env 6).cellsOf)).size ≤ 100000000000)) then f16_s0 ((st.env 3).strOf) ((st.env 6).cellsOf) ((st.env 7).intOf) ((st.env 8).intOf) R κ else none) else none
theorem t_f16_l0_ok : ∀ st0 R κ r, t_f16_l0 (forget C 16 [0, 1, 0, 1, 1] st0) R κ = some r → ∃ ee ss, κ ee ss = some r ∧ RunP C prim 16 [0, 1, 0, 1, 1] (forget C 16 [0, 1, 0, 1, 1] st0) ee ss := by
  intro st0 R κ r h
  obtain ⟨hs, h⟩ := cond_some h
  obtain ⟨hp, h⟩ := cond_some h
  rw [canon (ls := f16_l0_ls) (rs := f16_l0_rs) (by kernel_rfl) st0 hs]
  obtain ⟨n, hn⟩ := f16_s0_eq _ _ _ _ hp
  rw [← hn] at h
  exact f16_l0_ok n _ _ _ _ R κ r h

def K_f16 : CallK := kNil
theorem K_f16_ok : KOK C prim K_f16 := KOK.nil
def T_f16 : Tab := tCons [0, 1, 0, 1, 1] t_f16_l0 <| tNil
theorem T_f16_ok : TOK C prim 16 T_f16 := TOK.cons t_f16_l0_ok <| TOK.nil
def f16 (l : List V) : Option (V × List Rg) :=
  bif ((((l.length : Nat) : Int) == ((l.length : Nat) : Int)) && ((0 : Int) == 0) && l.all V.isStr && decide (l.length ≤ 1000000000) && decide ((⟨#[]⟩ : ByteArray).size + (resB l).size ≤ 100000000000)) then
    some (.sc (.string ((⟨#[]⟩ : ByteArray) ++ resB l)), [])
  else none
theorem f16_run (l : List V) (z9 : V × List Rg) (h : f16 l = some z9) : CallR C prim 16 [.sl 1 l] [] z9 := by
  refine call_fn (K := K_f16) (T := T_f16) K_f16_ok T_f16_ok (by kernel_rfl) ?_
  refine Eq.trans ?_ h
  kernel_rfl

theorem f16_eq (l : List V) (hp : (l.all V.isStr && decide (l.length ≤ 1000000000) && decide ((resB l).size ≤ 100000000000)) = true) : f16 l = some (.sc (.string (resB l)), []) := by
  simp only [Bool.and_eq_true, decide_eq_true_eq] at hp
  have e0 : (⟨#[]⟩ : ByteArray).size = 0 := rfl
  unfold f16
  rw [hp.1.1, dec_true hp.1.2, e0, dec_true (by omega), ba_nil]
  simp only [beq_self_eq_true, Bool.and_true, cond_true]
def k16 : PrimT := fun vs gs => match vs, gs with
  | [.sl 1 l], [] => ((l.all V.isStr && decide (l.length ≤ 1000000000) && decide ((resB l).size ≤ 100000000000)), .sc (.string (resB l)), [])
  | _, _ => (false, .bad, [])
theorem k16_ok : ∀ vs gs x, k16 vs gs = (true, x) → CallR C prim 16 vs gs x := by
  intro vs gs x h
  unfold k16 at h
  split at h
  · simp only [Prod.mk.injEq] at h
    obtain ⟨hp, rfl⟩ := h
    exact f16_run _ _ (f16_eq _ hp)
  · cases h

def K_f138 : CallK := kNil
theorem K_f138_ok : KOK C prim K_f138 := KOK.nil
def T_f138 : Tab := tNil
theorem T_f138_ok : TOK C prim 138 T_f138 := TOK.nil
def f138 (s : ByteArray) : Option (V × List Rg) :=
  bif (decide (((s.size : Nat) : Int) ≥ 1)) then
    bif (((decide ((1 : Int) ≤ ((s.size : Nat) : Int))) && true) && true) then
      some (.sc (.bool (strEq (s.extract 0 1) (⟨#[45]⟩ : ByteArray))), [])
    else none
  else
    some (.sc (.bool false), [])
theorem f138_run (s : ByteArray) (z9 : V × List Rg) (h : f138 s = some z9) : CallR C prim 138 [.sc (.string s), .sc (.string ⟨#[45]⟩)] [] z9 := by
  refine call_fn (K := K_f138) (T := T_f138) K_f138_ok T_f138_ok (by kernel_rfl) ?_
  refine Eq.trans ?_ h
  kernel_rfl

theorem minus_eq (b : UInt8) : (((b.toNat : Nat) : Int) == 45) = (b == 45) := by
  rw [Bool.eq_iff_iff, beq_iff_eq, beq_iff_eq, ← UInt8.toNat_inj]
  show _ ↔ b.toNat = 45
  omega
theorem hasMinus_cons {s : ByteArray} {b : UInt8} {r : List UInt8} (h : s.data.toList = b :: r) : hasMinus s = (((b.toNat : Nat) : Int) == 45) := by unfold hasMinus; rw [h]
theorem hasMinus_nil {s : ByteArray} (h : s.data.toList = []) : hasMinus s = false := by unfold hasMinus; rw [h]
theorem f138_eq (s : ByteArray) : f138 s = some (.sc (.bool (hasMinus s)), []) := by
  unfold f138
  rcases ba_cases s with h0 | ⟨b, r, h0⟩
  · rw [hasMinus_nil h0, dec_false (by rw [nil_size h0]; omega)]; rfl
  · have hc := cons_size h0
    have e : strEq (s.extract 0 1) (⟨#[45]⟩ : ByteArray) = (b == 45) := by
      rw [Bool.eq_iff_iff, strEq_iff, beq_iff_eq]
      constructor
      · intro h
        have : (s.extract 0 1).data.toList = [45] := by rw [h]
        rw [ext_head, h0] at this
        simpa [ofL] using this
      · rintro rfl
        exact ba_ext (by rw [ext_head, h0]; rfl)
    rw [hasMinus_cons h0, minus_eq, dec_true (show ((s.size : Nat) : Int) ≥ 1 by omega), e]; rfl
def k138 : PrimT := fun vs gs => match vs, gs with
  | [.sc (.string s), .sc (.string q1)], [] => ((strEq q1 (⟨#[45]⟩ : ByteArray) && true), .sc (.bool (hasMinus s)), [])
  | _, _ => (false, .bad, [])
theorem k138_ok : ∀ vs gs x, k138 vs gs = (true, x) → CallR C prim 138 vs gs x := by
  intro vs gs x h
  unfold k138 at h
  split at h
  · simp only [Prod.mk.injEq] at h
    obtain ⟨hp, rfl⟩ := h
    rw [Bool.and_eq_true] at hp
    obtain ⟨hq, hp⟩ := hp
    obtain rfl := (strEq_iff _ _).1 hq
    exact f138_run _ _ (f138_eq _)
  · cases h

def K_f106 : CallK := kCons 138 k138 <| kNil
theorem K_f106_ok : KOK C prim K_f106 := KOK.cons k138_ok <| KOK.nil
def T_f106 : Tab := tNil
theorem T_f106_ok : TOK C prim 106 T_f106 := TOK.nil
def f106 (s : ByteArray) : Option (V × List Rg) :=
  bif (!(hasMinus s)) then
    some (.tp [.sc (.string s), .sc (.bool false)], [])
  else
    bif (((decide ((1 : Int) ≤ ((s.size : Nat) : Int))) && true) && true) then
      some (.tp [.sc (.string (s.extract 1 (((s.size : Nat) : Int)).toNat)), .sc (.bool true)], [])
    else none
theorem f106_run (s : ByteArray) (z9 : V × List Rg) (h : f106 s = some z9) : CallR C prim 106 [.sc (.string s), .sc (.string ⟨#[45]⟩)] [] z9 := by
  refine call_fn (K := K_f106) (T := T_f106) K_f106_ok T_f106_ok (by kernel_rfl) ?_
  refine Eq.trans ?_ h
  kernel_rfl

theorem f106_eq (s : ByteArray) : f106 s = some (.tp [.sc (.string (dropMinus s)), .sc (.bool (hasMinus s))], []) := by
  unfold f106 dropMinus
  cases h : hasMinus s with
  | false => rfl
  | true =>
    have hz : 1 ≤ s.size := by
      rcases ba_cases s with h0 | ⟨b, r, h0⟩
      · rw [hasMinus_nil h0] at h; cases h
      · rw [cons_size h0]; omega
    rw [← ext_tail, dec_true (show (1 : Int) ≤ ((s.size : Nat) : Int) by omega), Int.toNat_natCast]
    rfl
def k106 : PrimT := fun vs gs => match vs, gs with
  | [.sc (.string s), .sc (.string q1)], [] => ((strEq q1 (⟨#[45]⟩ : ByteArray) && true), .tp [.sc (.string (dropMinus s)), .sc (.bool (hasMinus s))], [])
  | _, _ => (false, .bad, [])
theorem k106_ok : ∀ vs gs x, k106 vs gs = (true, x) → CallR C prim 106 vs gs x := by
  intro vs gs x h
  unfold k106 at h
  split at h
  · simp only [Prod.mk.injEq] at h
    obtain ⟨hp, rfl⟩ := h
    rw [Bool.and_eq_true] at hp
    obtain ⟨hq, hp⟩ := hp
    obtain rfl := (strEq_iff _ _).1 hq
    exact f106_run _ _ (f106_eq _)
  · cases h

def K_f76 : CallK := kCons 106 k106 <| kNil
theorem K_f76_ok : KOK C prim K_f76 := KOK.cons k106_ok <| KOK.nil
def T_f76 : Tab := tNil
theorem T_f76_ok : TOK C prim 76 T_f76 := TOK.nil
def f76 (s : ByteArray) : Option (V × List Rg) :=
  some (.tp [.sc (.string (dropMinus s)), .sc (.bool (hasMinus s))], [])
theorem f76_run (s : ByteArray) (z9 : V × List Rg) (h : f76 s = some z9) : CallR C prim 76 [.sc (.string s), .sc (.string ⟨#[45]⟩)] [] z9 := by
  refine call_fn (K := K_f76) (T := T_f76) K_f76_ok T_f76_ok (by kernel_rfl) ?_
  refine Eq.trans ?_ h
  kernel_rfl

theorem f76_eq (s : ByteArray) : f76 s = some (.tp [.sc (.string (dropMinus s)), .sc (.bool (hasMinus s))], []) := by rfl
def k76 : PrimT := fun vs gs => match vs, gs with
  | [.sc (.string s), .sc (.string q1)], [] => ((strEq q1 (⟨#[45]⟩ : ByteArray) && true), .tp [.sc (.string (dropMinus s)), .sc (.bool (hasMinus s))], [])
  | _, _ => (false, .bad, [])
theorem k76_ok : ∀ vs gs x, k76 vs gs = (true, x) → CallR C prim 76 vs gs x := by
  intro vs gs x h
  unfold k76 at h
  split at h
  · simp only [Prod.mk.injEq] at h
    obtain ⟨hp, rfl⟩ := h
    rw [Bool.and_eq_true] at hp
    obtain ⟨hq, hp⟩ := hp
    obtain rfl := (strEq_iff _ _).1 hq
    exact f76_run _ _ (f76_eq _)
  · cases h

def K_f56 : CallK := kCons 76 k76 <| kCons 81 k81 <| kNil
theorem K_f56_ok : KOK C prim K_f56 := KOK.cons k76_ok <| KOK.cons k81_ok <| KOK.nil
def T_f56 : Tab := tNil
theorem T_f56_ok : TOK C prim 56 T_f56 := TOK.nil
def f56 (n' : ByteArray) (width : Int) (zeros : Bool) : Option (V × List Rg) :=
  bif (!zeros) then
    bif ((decide (0 ≤ (bif (decide ((0 : Int) > (IntKind.wrap .i64 (width - ((n'.size : Nat) : Int))))) then 0 else (IntKind.wrap .i64 (width - ((n'.size : Nat) : Int))))) && decide ((⟨#[32]⟩ : ByteArray).size * ((bif (decide ((0 : Int) > (IntKind.wrap .i64 (width - ((n'.size : Nat) : Int))))) then 0 else (IntKind.wrap .i64 (width - ((n'.size : Nat) : Int))))).toNat ≤ 140737488355328) && decide ((bif (decide ((0 : Int) > (IntKind.wrap .i64 (width - ((n'.size : Nat) : Int))))) then 0 else (IntKind.wrap .i64 (width - ((n'.size : Nat) : Int)))) ≤ 140737488355328)) && true) then
      bif ((decide (((repB (⟨#[32]⟩ : ByteArray) (bif (decide ((0 : Int) > (IntKind.wrap .i64 (width - ((n'.size : Nat) : Int))))) then 0 else (IntKind.wrap .i64 (width - ((n'.size : Nat) : Int))))).size + n'.size) ≤ 9223372036854775807)) && true) then
        some (.sc (.string ((repB (⟨#[32]⟩ : ByteArray) (bif (decide ((0 : Int) > (IntKind.wrap .i64 (width - ((n'.size : Nat) : Int))))) then 0 else (IntKind.wrap .i64 (width - ((n'.size : Nat) : Int))))) ++ n')), [])
      else none
    else none
  else
    bif ((decide (0 ≤ (bif (decide ((0 : Int) > (IntKind.wrap .i64 (width - ((n'.size : Nat) : Int))))) then 0 else (IntKind.wrap .i64 (width - ((n'.size : Nat) : Int))))) && decide ((⟨#[48]⟩ : ByteArray).size * ((bif (decide ((0 : Int) > (IntKind.wrap .i64 (width - ((n'.size : Nat) : Int))))) then 0 else (IntKind.wrap .i64 (width - ((n'.size : Nat) : Int))))).toNat ≤ 140737488355328) && decide ((bif (decide ((0 : Int) > (IntKind.wrap .i64 (width - ((n'.size : Nat) : Int))))) then 0 else (IntKind.wrap .i64 (width - ((n'.size : Nat) : Int)))) ≤ 140737488355328)) && true) then
      bif ((decide (((repB (⟨#[48]⟩ : ByteArray) (bif (decide ((0 : Int) > (IntKind.wrap .i64 (width - ((n'.size : Nat) : Int))))) then 0 else (IntKind.wrap .i64 (width - ((n'.size : Nat) : Int))))).size + (dropMinus n').size) ≤ 9223372036854775807)) && true) then
        bif (hasMinus n') then
          bif ((decide ((1 + ((repB (⟨#[48]⟩ : ByteArray) (bif (decide ((0 : Int) > (IntKind.wrap .i64 (width - ((n'.size : Nat) : Int))))) then 0 else (IntKind.wrap .i64 (width - ((n'.size : Nat) : Int))))) ++ (dropMinus n')).size) ≤ 9223372036854775807)) && true) then
            some (.sc (.string ((⟨#[45]⟩ : ByteArray) ++ ((repB (⟨#[48]⟩ : ByteArray) (bif (decide ((0 : Int) > (IntKind.wrap .i64 (width - ((n'.size : Nat) : Int))))) then 0 else (IntKind.wrap .i64 (width - ((n'.size : Nat) : Int))))) ++ (dropMinus n')))), [])
          else none
        else
          some (.sc (.string ((repB (⟨#[48]⟩ : ByteArray) (bif (decide ((0 : Int) > (IntKind.wrap .i64 (width - ((n'.size : Nat) : Int))))) then 0 else (IntKind.wrap .i64 (width - ((n'.size : Nat) : Int))))) ++ (dropMinus n'))), [])
      else none
    else none
theorem f56_run (n' : ByteArray) (width : Int) (zeros : Bool) (z9 : V × List Rg) (h : f56 n' width zeros = some z9) : CallR C prim 56 [.sc (.string n'), .sc (.int .i64 width), .sc (.bool zeros)] [] z9 := by
  refine call_fn (K := K_f56) (T := T_f56) K_f56_ok T_f56_ok (by kernel_rfl) ?_
  refine Eq.trans ?_ h
  kernel_rfl

theorem repB_one (c : Nat) (n : Int) : repB (⟨#[UInt8.ofNat c]⟩ : ByteArray) n = repL c n.toNat := by
  unfold repB repL ofL
  have : ∀ k : Nat, Lib.repeatL [UInt8.ofNat c] k = List.replicate k (UInt8.ofNat c) := by
    intro k
    induction k with
    | zero => rfl
    | succ k ih => rw [Lib.repeatL, ih]; rfl
  show (⟨(Lib.repeatL [UInt8.ofNat c] n.toNat).toArray⟩ : ByteArray) = _
  rw [this]
theorem max_zero (x : Int) : (bif (decide ((0 : Int) > x)) then 0 else x) = ((x.toNat : Nat) : Int) := by
  by_cases h : (0 : Int) > x
  · rw [dec_true h, cond_true]; omega
  · rw [dec_false h, cond_false]; omega
theorem f56_eq (n' : ByteArray) (width : Int) (zeros : Bool) (hp : (decide (0 ≤ width) && decide (width ≤ 1000000) && decide (n'.size ≤ 1000000)) = true) : f56 n' width zeros = some (.sc (.string (fillB n' width zeros)), []) := by
  simp only [Bool.and_eq_true, decide_eq_true_eq] at hp
  obtain ⟨⟨h1, h2⟩, h3⟩ := hp
  have hd := dropMinus_le n'
  have e32 : ∀ n, repB (⟨#[32]⟩ : ByteArray) n = repL 32 n.toNat := repB_one 32
  have e48 : ∀ n, repB (⟨#[48]⟩ : ByteArray) n = repL 48 n.toNat := repB_one 48
  have s1 : ∀ c : UInt8, (⟨#[c]⟩ : ByteArray).size = 1 := fun _ => rfl
  unfold f56 fillB
  simp only [wrap_id (n := width - ((n'.size : Nat) : Int)) (by omega) (by omega), max_zero, e32, e48, Int.toNat_natCast, s1, repL_size, ba_size_append]
  have hk : (width - ((n'.size : Nat) : Int)).toNat ≤ 1000000 := by omega
  rw [dec_true (show (0 : Int) ≤ (((width - ((n'.size : Nat) : Int)).toNat : Nat) : Int) by omega), dec_true (show 1 * (width - ((n'.size : Nat) : Int)).toNat ≤ 140737488355328 by omega), dec_true (show (((width - ((n'.size : Nat) : Int)).toNat : Nat) : Int) ≤ 140737488355328 by omega), dec_true (show (width - ((n'.size : Nat) : Int)).toNat + n'.size ≤ 9223372036854775807 by omega), dec_true (show (width - ((n'.size : Nat) : Int)).toNat + (dropMinus n').size ≤ 9223372036854775807 by omega), dec_true (show 1 + ((width - ((n'.size : Nat) : Int)).toNat + (dropMinus n').size) ≤ 9223372036854775807 by omega)]
  cases zeros with
  | false => rfl
  | true =>
    cases h : hasMinus n' with
    | true => rfl
    | false =>
      have : dropMinus n' = n' := by unfold dropMinus; rw [h]; rfl
      rw [this]; rfl
def k56 : PrimT := fun vs gs => match vs, gs with
  | [.sc (.string n'), .sc (.int .i64 width), .sc (.bool zeros)], [] => ((decide (0 ≤ width) && decide (width ≤ 1000000) && decide (n'.size ≤ 1000000)), .sc (.string (fillB n' width zeros)), [])
  | _, _ => (false, .bad, [])
theorem k56_ok : ∀ vs gs x, k56 vs gs = (true, x) → CallR C prim 56 vs gs x := by
  intro vs gs x h
  unfold k56 at h
  split at h
  · simp only [Prod.mk.injEq] at h
    obtain ⟨hp, rfl⟩ := h
    exact f56_run _ _ _ _ (f56_eq _ _ _ hp)
  · cases h

def K_f24 : CallK := kCons 57 k57 <| kNil
theorem K_f24_ok : KOK C prim K_f24 := KOK.cons k57_ok <| KOK.nil
def T_f24 : Tab := tNil
theorem T_f24_ok : TOK C prim 24 T_f24 := TOK.nil
def f24 (s : ByteArray) : Option (V × List Rg) :=
  some (.sc (.bool (decide ((idxB s 10) ≥ 0))), [])
theorem f24_run (s : ByteArray) (z9 : V × List Rg) (h : f24 s = some z9) : CallR C prim 24 [.sc (.string s), .sc (.string ⟨#[10]⟩)] [] z9 := by
  refine call_fn (K := K_f24) (T := T_f24) K_f24_ok T_f24_ok (by kernel_rfl) ?_
  refine Eq.trans ?_ h
  kernel_rfl

theorem f24_eq (s : ByteArray) : f24 s = some (.sc (.bool (hasB s 10)), []) := by
  unfold f24
  rw [hasNl]
def k24 : PrimT := fun vs gs => match vs, gs with
  | [.sc (.string s), .sc (.string q1)], [] => ((strEq q1 (⟨#[10]⟩ : ByteArray) && true), .sc (.bool (hasB s 10)), [])
  | _, _ => (false, .bad, [])
theorem k24_ok : ∀ vs gs x, k24 vs gs = (true, x) → CallR C prim 24 vs gs x := by
  intro vs gs x h
  unfold k24 at h
  split at h
  · simp only [Prod.mk.injEq] at h
    obtain ⟨hp, rfl⟩ := h
    rw [Bool.and_eq_true] at hp
    obtain ⟨hq, hp⟩ := hp
    obtain rfl := (strEq_iff _ _).1 hq
    exact f24_run _ _ (f24_eq _)
  · cases h

def K_f23_l0 : CallK := kCons 42 k42 <| kCons 56 k56 <| kNil
theorem K_f23_l0_ok : KOK C prim K_f23_l0 := KOK.cons k42_ok <| KOK.cons k56_ok <| KOK.nil
def T_f23_l0 : Tab := tNil
theorem T_f23_l0_ok : TOK C prim 23 T_f23_l0 := TOK.nil
def f23_l0 : Nat → Int → List V → Int → Int → Int → Int → Int → Bool → Bool → ByteArray → List V → (R : Type) → (Ex → St → Option R) → Option R
  | 0, _, _, _, _, _, _, _, _, _, _, _, _, _ => none
  | n + 1, n', v43, v44, v45, o0, o1, o2, o3, o4, o5, out, R, κ =>
    bif (decide (v45 < v44)) then
      bif (((decide ((0 : Int) ≤ v45)) && (decide (v45 < ((v43.length : Nat) : Int)))) && true) then
        bif (((V.isStr (nthV v43 (((v45).toNat * 1) + 0))) && true) && true) then
          bif (!(strEq (V.strOf (nthV v43 (((v45).toNat * 1) + 0))) (⟨#[]⟩ : ByteArray))) then
            bif ((inR n') && true) then
              bif ((decide (0 ≤ o2) && decide (o2 ≤ 1000000) && decide ((itoaB n').size ≤ 1000000)) && true) then
                bif ((decide (((fillB (itoaB n') o2 o3).size + o5.size) ≤ 9223372036854775807)) && true) then
                  bif ((decide ((((fillB (itoaB n') o2 o3) ++ o5).size + (V.strOf (nthV v43 (((v45).toNat * 1) + 0))).size) ≤ 9223372036854775807)) && true) then
                    bif (((roomy ((out.length + 1) * 16)) && (roomy (out.length + 1))) && true) then
                      f23_l0 n (IntKind.wrap .i64 (n' + o1)) v43 v44 (IntKind.wrap .i64 (v45 + 1)) o0 o1 o2 o3 o4 o5 (out ++ [.sc (.string (((fillB (itoaB n') o2 o3) ++ o5) ++ (V.strOf (nthV v43 (((v45).toNat * 1) + 0)))))]) R κ
                    else none
                  else none
                else none
              else none
            else none
          else
            bif o4 then
              bif ((inR n') && true) then
                bif ((decide (0 ≤ o2) && decide (o2 ≤ 1000000) && decide ((itoaB n').size ≤ 1000000)) && true) then
                  bif ((decide (((fillB (itoaB n') o2 o3).size + o5.size) ≤ 9223372036854775807)) && true) then
                    bif ((decide ((((fillB (itoaB n') o2 o3) ++ o5).size + (V.strOf (nthV v43 (((v45).toNat * 1) + 0))).size) ≤ 9223372036854775807)) && true) then
                      bif (((roomy ((out.length + 1) * 16)) && (roomy (out.length + 1))) && true) then
                        f23_l0 n (IntKind.wrap .i64 (n' + o1)) v43 v44 (IntKind.wrap .i64 (v45 + 1)) o0 o1 o2 o3 o4 o5 (out ++ [.sc (.string (((fillB (itoaB n') o2 o3) ++ o5) ++ (V.strOf (nthV v43 (((v45).toNat * 1) + 0)))))]) R κ
                      else none
                    else none
                  else none
                else none
              else none
            else
              bif (((roomy ((out.length + 1) * 16)) && (roomy (out.length + 1))) && true) then
                f23_l0 n n' v43 v44 (IntKind.wrap .i64 (v45 + 1)) o0 o1 o2 o3 o4 o5 (out ++ [.sc (.string (V.strOf (nthV v43 (((v45).toNat * 1) + 0))))]) R κ
              else none
        else none
      else none
    else
      κ (.ex 1) (mkS [(4, .bad), (5, .bad), (7, .ref ⟨.loc 7, 0, [], 9, false⟩)] [(.loc 7, some ⟨false, [.own 9 false out]⟩)])
def f23_l0_ls : List (Nat × Pat) := [(2, .is (.ptrB (.loc 2) 0)), (6, .i .i64), (7, .is (.ref ⟨.loc 7, 0, [], 9, false⟩)), (43, .sl 1), (44, .i .i64), (45, .i .i64)]
def f23_l0_rs : List RPat := [⟨.loc 2, true, [.i .i64, .i .i64, .i .i64, .b, .b, .s]⟩, ⟨.loc 7, false, [.own 9 false]⟩]
theorem f23_l0_ok (n : Nat) : ∀ (n' : Int) (v43 : List V) (v44 : Int) (v45 : Int) (o0 : Int) (o1 : Int) (o2 : Int) (o3 : Bool) (o4 : Bool) (o5 : ByteArray) (out : List V) (R : Type) (κ : Ex → St → Option R) (r : R), f23_l0 n n' v43 v44 v45 o0 o1 o2 o3 o4 o5 out R κ = some r → ∃ ee ss, κ ee ss = some r ∧ RunP C prim 23 [0, 1, 0, 1, 1, 1, 1] (mkS [(2, .ptrB (.loc 2) 0), (6, .sc (.int .i64 n')), (7, .ref ⟨.loc 7, 0, [], 9, false⟩), (43, .sl 1 v43), (44, .sc (.int .i64 v44)), (45, .sc (.int .i64 v45))] [(.loc 2, some ⟨true, [.sc (.int .i64 o0), .sc (.int .i64 o1), .sc (.int .i64 o2), .sc (.bool o3), .sc (.bool o4), .sc (.string o5)]⟩), (.loc 7, some ⟨false, [.own 9 false out]⟩)]) ee ss := by
  induction n with
  | zero => intro n' v43 v44 v45 o0 o1 o2 o3 o4 o5 out R κ r h; cases h
  | succ n ih =>
    intro n' v43 v44 v45 o0 o1 o2 o3 o4 o5 out R κ r h
    refine loop_round (K := K_f23_l0) (T := T_f23_l0) K_f23_l0_ok T_f23_l0_ok (p := [0, 1, 0, 1, 1, 1, 1]) (by kernel_rfl) (fun st => bif ckS f23_l0_ls f23_l0_rs st then f23_l0 n ((st.env 6).intOf) ((st.env 43).cellsOf) ((st.env 44).intOf) ((st.env 45).intOf) ((nthV (rowOf (st.regs (.loc 2))) 0).intOf) ((nthV (rowOf (st.regs (.loc 2))) 1).intOf) ((nthV (rowOf (st.regs (.loc 2))) 2).intOf) ((nthV (rowOf (st.regs (.loc 2))) 3).boolOf) ((nthV (rowOf (st.regs (.loc 2))) 4).boolOf) ((nthV (rowOf (st.regs (.loc 2))) 5).strOf) ((nthV (rowOf (st.regs (.loc 7))) 0).cellsOf) R κ else none) (fun st0 h0 => ?_) ?_
    · obtain ⟨hs, h0⟩ := cond_some h0
      rw [canon (ls := f23_l0_ls) (rs := f23_l0_rs) (by kernel_rfl) st0 hs]
      exact ih _ _ _ _ _ _ _ _ _ _ _ R κ r h0
    · refine Eq.trans ?_ h
      kernel_rfl

def f23_s0 (n' : Int) (v43 : List V) (v44 : Int) (v45 : Int) (o0 : Int) (o1 : Int) (o2 : Int) (o3 : Bool) (o4 : Bool) (o5 : ByteArray) (out : List V) (R : Type) (κ : Ex → St → Option R) : Option R :=
  κ (.ex 1) (mkS [(4, .bad), (5, .bad), (7, .ref ⟨.loc 7, 0, [], 9, false⟩)] [(.loc 7, some ⟨false, [.own 9 false (numF o1 o2 o3 o4 o5 v43 n')]⟩)])
theorem sz {m : Nat} (h : m ≤ 9000000000) : decide (m ≤ 9223372036854775807) = true := dec_true (by omega)
theorem f23_loop (o0 o1 o2 : Int) (o3 o4 : Bool) (o5 : ByteArray) (l : List V) (hl : l.all shortS = true) (hn : l.length ≤ 1000000) (h1 : -1000000 ≤ o1 ∧ o1 ≤ 1000000) (h2 : 0 ≤ o2 ∧ o2 ≤ 1000000) (h5 : o5.size ≤ 1000000) (R : Type) (κ : Ex → St → Option R) : ∀ (k i : Nat) (n : Int) (out : List V), i + k = l.length → out.length = i → -1000000 * ((i : Int) + 1) ≤ n → n ≤ 1000000 * ((i : Int) + 1) →
    f23_l0 (k + 1) n l ((l.length : Nat) : Int) ((i : Nat) : Int) o0 o1 o2 o3 o4 o5 out R κ = κ (.ex 1) (mkS [(4, .bad), (5, .bad), (7, .ref ⟨.loc 7, 0, [], 9, false⟩)] [(.loc 7, some ⟨false, [.own 9 false (out ++ numF o1 o2 o3 o4 o5 (l.drop i) n)]⟩)])
  | 0, i, n, out, h, ho, a1, a2 => by
    rw [f23_l0, dec_false (by omega), List.drop_of_length_le (by omega), numF, List.append_nil]
    rfl
  | k + 1, i, n, out, h, ho, a1, a2 => by
    have hi : i < l.length := by omega
    obtain ⟨i1, i2⟩ := shortS_spec (List.all_eq_true.1 hl _ (List.getElem_mem hi))
    have r1 : roomy ((out.length + 1) * 16) = true := dec_true (by omega)
    have r2 : roomy (out.length + 1) = true := dec_true (by omega)
    have hr : inR n = true := by unfold inR; rw [dec_true (show -9223372036854775808 ≤ n by omega), dec_true (show n ≤ 9223372036854775807 by omega)]; rfl
    have hw : IntKind.wrap .i64 (n + o1) = n + o1 := wrap_id (by omega) (by omega)
    have hit := itoa_le (n := n) (by omega) (by omega)
    have hf := fill_le (itoaB n) o2 o3
    have IH0 := f23_loop o0 o1 o2 o3 o4 o5 l hl hn h1 h2 h5 R κ k (i + 1) n (out ++ [.sc (.string l[i].strOf)]) (by omega) (by simp [ho]) (by omega) (by omega)
    have IH1 := f23_loop o0 o1 o2 o3 o4 o5 l hl hn h1 h2 h5 R κ k (i + 1) (n + o1) (out ++ [.sc (.string (lineN n o2 o3 o5 l[i].strOf))]) (by omega) (by simp [ho]) (by omega) (by omega)
    have s1 : (fillB (itoaB n) o2 o3).size + o5.size ≤ 9000000000 := by omega
    have s2 : (fillB (itoaB n) o2 o3 ++ o5).size + l[i].strOf.size ≤ 9000000000 := by rw [ba_size_append]; omega
    rw [f23_l0, dec_true (show ((i : Nat) : Int) < ((l.length : Nat) : Int) by omega), dec_true (show (0 : Int) ≤ ((i : Nat) : Int) by omega), nth_at hi, i1, r1, r2, hr, hw, wrap_succ (by omega), dec_true h2.1, dec_true h2.2, dec_true (show (itoaB n).size ≤ 1000000 by omega), sz s1, sz s2, List.drop_eq_getElem_cons hi, numF]
    rw [List.append_assoc] at IH0 IH1
    cases strEq l[i].strOf (⟨#[]⟩ : ByteArray) <;> cases o4
    · exact IH1
    · exact IH1
    · exact IH0
    · exact IH1
theorem f23_s0_eq (n' : Int) (v43 : List V) (v44 : Int) (v45 : Int) (o0 : Int) (o1 : Int) (o2 : Int) (o3 : Bool) (o4 : Bool) (o5 : ByteArray) (out : List V) (hp : ((v44 == ((v43.length : Nat) : Int)) && (v45 == 0) && (out.length == 0) && v43.all shortS && decide (v43.length ≤ 1000000) && okN n' o1 o2 o5) = true) : ∃ n, ∀ (R : Type) (κ : Ex → St → Option R), f23_l0 n n' v43 v44 v45 o0 o1 o2 o3 o4 o5 out R κ = f23_s0 n' v43 v44 v45 o0 o1 o2 o3 o4 o5 out R κ := by
  simp only [Bool.and_eq_true, decide_eq_true_eq, beq_iff_eq] at hp
  obtain ⟨⟨⟨⟨⟨rfl, rfl⟩, h3⟩, h4⟩, h5⟩, h6⟩ := hp
  obtain rfl : out = [] := List.eq_nil_of_length_eq_zero h3
  obtain ⟨q1, q2, q3, q4, q5, q6, q7⟩ := okN_spec h6
  exact ⟨v43.length + 1, fun R κ => f23_loop o0 o1 o2 o3 o4 o5 v43 h4 h5 ⟨q3, q4⟩ ⟨q5, q6⟩ q7 R κ v43.length 0 n' [] (by omega) rfl (by omega) (by omega)⟩
def t_f23_l0 (st : St) (R : Type) (κ : Ex → St → Option R) : Option R := bif ckS f23_l0_ls f23_l0_rs st then (bif ((((st.env 44).intOf) == ((((st.env 43).cellsOf).length : Nat) : Int)) && (((st.env 45).intOf) == 0) && (((nthV (rowOf (st.regs (.loc 7))) 0).cellsOf).length == 0) && ((st.env 43).cellsOf).all shortS && decide (((st.env 43).cellsOf).length ≤ 1000000) && okN ((st.env 6).intOf) ((nthV (rowOf (st.regs (.loc 2))) 1).intOf) ((nthV (rowOf (st.regs (.loc 2))) 2).intOf) ((nthV (rowOf (st.regs (.loc 2))) 5).strOf)) then f23_s0 ((st.env 6).intOf) ((st.env 43).cellsOf) ((st.env 44).intOf) ((st.env 45).intOf) ((nthV (rowOf (st.regs (.loc 2))) 0).intOf) ((nthV (rowOf (st.regs (.loc 2))) 1).intOf) ((nthV (rowOf (st.regs (.loc 2))) 2).intOf) ((nthV (rowOf (st.regs (.loc 2))) 3).boolOf) ((nthV (rowOf (st.regs (.loc 2))) 4).boolOf) ((nthV (rowOf (st.regs (.loc 2))) 5).strOf) ((nthV (rowOf (st.regs (.loc 7))) 0).cellsOf) R κ else none) else none
theorem t_f23_l0_ok : ∀ st0 R κ r, t_f23_l0 (forget C 23 [0, 1, 0, 1, 1, 1, 1] st0) R κ = some r → ∃ ee ss, κ ee ss = some r ∧ RunP C prim 23 [0, 1, 0, 1, 1, 1, 1] (forget C 23 [0, 1, 0, 1, 1, 1, 1] st0) ee ss := by
  intro st0 R κ r h
  obtain ⟨hs, h⟩ := cond_some h
  obtain ⟨hp, h⟩ := cond_some h
  rw [canon (ls := f23_l0_ls) (rs := f23_l0_rs) (by kernel_rfl) st0 hs]
  obtain ⟨n, hn⟩ := f23_s0_eq _ _ _ _ _ _ _ _ _ _ _ hp
  rw [← hn] at h
  exact f23_l0_ok n _ _ _ _ _ _ _ _ _ _ _ R κ r h

def K_f23 : CallK := kCons 24 k24 <| kCons 28 k28 <| kCons 33 k33 <| kCons 40 k40 <| kCons 55 k55 <| kNil
theorem K_f23_ok : KOK C prim K_f23 := KOK.cons k24_ok <| KOK.cons k28_ok <| KOK.cons k33_ok <| KOK.cons k40_ok <| KOK.cons k55_ok <| KOK.nil
def T_f23 : Tab := tCons [0, 1, 0, 1, 1, 1, 1] t_f23_l0 <| tNil
theorem T_f23_ok : TOK C prim 23 T_f23 := TOK.cons t_f23_l0_ok <| TOK.nil
def f23 (o0 : Int) (o1 : Int) (o2 : Int) (o3 : Bool) (o4 : Bool) (o5 : ByteArray) (text : ByteArray) : Option (V × List Rg) :=
  bif (!(decide (o0 ≥ ((-1000000) : Int)) && decide (o0 ≤ (1000000 : Int)))) then
    some (.tp [.sc (.string ⟨#[]⟩), .sc (.int .i64 3)], [])
  else
    bif (!(decide (o1 ≥ ((-1000000) : Int)) && decide (o1 ≤ (1000000 : Int)))) then
      some (.tp [.sc (.string ⟨#[]⟩), .sc (.int .i64 3)], [])
    else
      bif (!(decide (o2 ≥ (0 : Int)) && decide (o2 ≤ (1000 : Int)))) then
        some (.tp [.sc (.string ⟨#[]⟩), .sc (.int .i64 3)], [])
      else
        bif (hasB o5 10) then
          some (.tp [.sc (.string ⟨#[]⟩), .sc (.int .i64 5)], [])
        else
          bif (decide (((o5.size : Nat) : Int) > 1000)) then
            some (.tp [.sc (.string ⟨#[]⟩), .sc (.int .i64 5)], [])
          else
            bif ((decide (text.size ≤ 1000000000)) && true) then
              bif (largeB text) then
                some (.tp [.sc (.string ⟨#[]⟩), .sc (.int .i64 2)], [])
              else
                bif ((decide (text.size ≤ 1000000000)) && true) then
                  bif ((((((linesV text)).length : Nat) : Int) == (((linesV text).length : Nat) : Int)) && ((0 : Int) == 0) && (([] : List V).length == 0) && (linesV text).all shortS && decide ((linesV text).length ≤ 1000000) && okN o0 o1 o2 o5) then
                    bif (((numF o1 o2 o3 o4 o5 (linesV text) o0).all V.isStr && decide ((numF o1 o2 o3 o4 o5 (linesV text) o0).length ≤ 1000000000) && decide ((resB (numF o1 o2 o3 o4 o5 (linesV text) o0)).size ≤ 100000000000)) && true) then
                      some (.tp [.sc (.string (resB (numF o1 o2 o3 o4 o5 (linesV text) o0))), .sc (.int .i64 0)], [])
                    else none
                  else none
                else none
            else none
theorem f23_run (o0 : Int) (o1 : Int) (o2 : Int) (o3 : Bool) (o4 : Bool) (o5 : ByteArray) (text : ByteArray) (z9 : V × List Rg) (h : f23 o0 o1 o2 o3 o4 o5 text = some z9) : CallR C prim 23 [.ag [.sc (.int .i64 o0), .sc (.int .i64 o1), .sc (.int .i64 o2), .sc (.bool o3), .sc (.bool o4), .sc (.string o5)], .sc (.string text)] [] z9 := by
  refine call_fn (K := K_f23) (T := T_f23) K_f23_ok T_f23_ok (by kernel_rfl) ?_
  refine Eq.trans ?_ h
  kernel_rfl

theorem f23_eq (o0 : Int) (o1 : Int) (o2 : Int) (o3 : Bool) (o4 : Bool) (o5 : ByteArray) (text : ByteArray) (hp : (decide (text.size ≤ 10000000)) = true) : f23 o0 o1 o2 o3 o4 o5 text = some (.tp [.sc (.string (numS o0 o1 o2 o3 o4 o5 text)), .sc (.int .i64 (numE o0 o1 o2 o5 text))], []) := by
  simp only [decide_eq_true_eq] at hp
  unfold f23 numS
  have hno := num_ok (n := o0) (st := o1) (w := o2) (sep := o5) (s := text) o3 o4
  unfold numE at *
  cases h0 : (decide (o0 ≥ ((-1000000) : Int)) && decide (o0 ≤ (1000000 : Int))) with
  | false => rfl
  | true =>
  cases h1 : (decide (o1 ≥ ((-1000000) : Int)) && decide (o1 ≤ (1000000 : Int))) with
  | false => rfl
  | true =>
  cases h2 : (decide (o2 ≥ (0 : Int)) && decide (o2 ≤ (1000 : Int))) with
  | false => rfl
  | true =>
  cases h3 : hasB o5 10 with
  | true => rfl
  | false =>
  cases h4 : decide (((o5.size : Nat) : Int) > 1000) with
  | true => rfl
  | false =>
  cases h5 : largeB text with
  | true => rw [dec_true (show text.size ≤ 1000000000 by omega)]; rfl
  | false =>
  rw [h0, h1, h2, h3, h4, h5] at hno
  obtain ⟨a1, _, a3, a4, a5⟩ := hno rfl
  obtain ⟨l1, l2⟩ := large_no h5
  rw [dec_true (show text.size ≤ 1000000000 by omega), linesV_short text (by omega), dec_true (show (linesV text).length ≤ 1000000 by omega), a1, a3, dec_true a4, dec_true a5, beq_self_eq_true]
  rfl
def k23 : PrimT := fun vs gs => match vs, gs with
  | [.ag [.sc (.int .i64 o0), .sc (.int .i64 o1), .sc (.int .i64 o2), .sc (.bool o3), .sc (.bool o4), .sc (.string o5)], .sc (.string text)], [] => ((decide (text.size ≤ 10000000)), .tp [.sc (.string (numS o0 o1 o2 o3 o4 o5 text)), .sc (.int .i64 (numE o0 o1 o2 o5 text))], [])
  | _, _ => (false, .bad, [])
theorem k23_ok : ∀ vs gs x, k23 vs gs = (true, x) → CallR C prim 23 vs gs x := by
  intro vs gs x h
  unfold k23 at h
  split at h
  · simp only [Prod.mk.injEq] at h
    obtain ⟨hp, rfl⟩ := h
    exact f23_run _ _ _ _ _ _ _ _ (f23_eq _ _ _ _ _ _ _ hp)
  · cases h

def K_f25_l1 : CallK := kNil
theorem K_f25_l1_ok : KOK C prim K_f25_l1 := KOK.nil
def T_f25_l1 : Tab := tNil
theorem T_f25_l1_ok : TOK C prim 25 T_f25_l1 := TOK.nil
def f25_l1 : Nat → Int → ByteArray → ByteArray → ByteArray → List V → Int → Int → Int → Int → Int → Bool → Bool → ByteArray → List V → (R : Type) → (Ex → St → Option R) → Option R
  | 0, _, _, _, _, _, _, _, _, _, _, _, _, _, _, _, _ => none
  | n + 1, n', x, s, sign, v13, v14, v15, o0, o1, o2, o3, o4, o5, out, R, κ =>
    bif (decide ((IntKind.wrap .i64 (((sign.size : Nat) : Int) + ((s.size : Nat) : Int))) < o2)) then
      bif o3 then
        bif ((decide ((1 + s.size) ≤ 9223372036854775807)) && true) then
          f25_l1 n n' x ((⟨#[48]⟩ : ByteArray) ++ s) sign v13 v14 v15 o0 o1 o2 o3 o4 o5 out R κ
        else none
      else
        bif ((decide ((1 + s.size) ≤ 9223372036854775807)) && true) then
          f25_l1 n n' x ((⟨#[32]⟩ : ByteArray) ++ s) sign v13 v14 v15 o0 o1 o2 o3 o4 o5 out R κ
        else none
    else
      κ (.ex 2) (mkS [(2, .ptrB (.loc 2) 0), (4, .bad), (5, .ref ⟨.loc 5, 0, [], 9, false⟩), (6, .sc (.int .i64 n')), (8, .sc (.string x)), (9, .sc (.string s)), (10, .sc (.string sign)), (13, .sl 1 v13), (14, .sc (.int .i64 v14)), (15, .sc (.int .i64 v15))] [(.loc 2, some ⟨true, [.sc (.int .i64 o0), .sc (.int .i64 o1), .sc (.int .i64 o2), .sc (.bool o3), .sc (.bool o4), .sc (.string o5)]⟩), (.loc 5, some ⟨false, [.own 9 false out]⟩)])
def f25_l1_ls : List (Nat × Pat) := [(2, .is (.ptrB (.loc 2) 0)), (5, .is (.ref ⟨.loc 5, 0, [], 9, false⟩)), (6, .i .i64), (8, .s), (9, .s), (10, .s), (13, .sl 1), (14, .i .i64), (15, .i .i64)]
def f25_l1_rs : List RPat := [⟨.loc 2, true, [.i .i64, .i .i64, .i .i64, .b, .b, .s]⟩, ⟨.loc 5, false, [.own 9 false]⟩]
theorem f25_l1_ok (n : Nat) : ∀ (n' : Int) (x : ByteArray) (s : ByteArray) (sign : ByteArray) (v13 : List V) (v14 : Int) (v15 : Int) (o0 : Int) (o1 : Int) (o2 : Int) (o3 : Bool) (o4 : Bool) (o5 : ByteArray) (out : List V) (R : Type) (κ : Ex → St → Option R) (r : R), f25_l1 n n' x s sign v13 v14 v15 o0 o1 o2 o3 o4 o5 out R κ = some r → ∃ ee ss, κ ee ss = some r ∧ RunP C prim 25 [0, 0, 1, 1, 1, 1, 1, 0, 0, 1, 1, 0, 0, 1, 0, 1, 1, 1] (mkS [(2, .ptrB (.loc 2) 0), (5, .ref ⟨.loc 5, 0, [], 9, false⟩), (6, .sc (.int .i64 n')), (8, .sc (.string x)), (9, .sc (.string s)), (10, .sc (.string sign)), (13, .sl 1 v13), (14, .sc (.int .i64 v14)), (15, .sc (.int .i64 v15))] [(.loc 2, some ⟨true, [.sc (.int .i64 o0), .sc (.int .i64 o1), .sc (.int .i64 o2), .sc (.bool o3), .sc (.bool o4), .sc (.string o5)]⟩), (.loc 5, some ⟨false, [.own 9 false out]⟩)]) ee ss := by
  induction n with
  | zero => intro n' x s sign v13 v14 v15 o0 o1 o2 o3 o4 o5 out R κ r h; cases h
  | succ n ih =>
    intro n' x s sign v13 v14 v15 o0 o1 o2 o3 o4 o5 out R κ r h
    refine loop_round (K := K_f25_l1) (T := T_f25_l1) K_f25_l1_ok T_f25_l1_ok (p := [0, 0, 1, 1, 1, 1, 1, 0, 0, 1, 1, 0, 0, 1, 0, 1, 1, 1]) (by kernel_rfl) (fun st => bif ckS f25_l1_ls f25_l1_rs st then f25_l1 n ((st.env 6).intOf) ((st.env 8).strOf) ((st.env 9).strOf) ((st.env 10).strOf) ((st.env 13).cellsOf) ((st.env 14).intOf) ((st.env 15).intOf) ((nthV (rowOf (st.regs (.loc 2))) 0).intOf) ((nthV (rowOf (st.regs (.loc 2))) 1).intOf) ((nthV (rowOf (st.regs (.loc 2))) 2).intOf) ((nthV (rowOf (st.regs (.loc 2))) 3).boolOf) ((nthV (rowOf (st.regs (.loc 2))) 4).boolOf) ((nthV (rowOf (st.regs (.loc 2))) 5).strOf) ((nthV (rowOf (st.regs (.loc 5))) 0).cellsOf) R κ else none) (fun st0 h0 => ?_) ?_
    · obtain ⟨hs, h0⟩ := cond_some h0
      rw [canon (ls := f25_l1_ls) (rs := f25_l1_rs) (by kernel_rfl) st0 hs]
      exact ih _ _ _ _ _ _ _ _ _ _ _ _ _ _ R κ r h0
    · refine Eq.trans ?_ h
      kernel_rfl

def f25_s1 (n' : Int) (x : ByteArray) (s : ByteArray) (sign : ByteArray) (v13 : List V) (v14 : Int) (v15 : Int) (o0 : Int) (o1 : Int) (o2 : Int) (o3 : Bool) (o4 : Bool) (o5 : ByteArray) (out : List V) (R : Type) (κ : Ex → St → Option R) : Option R :=
  κ (.ex 2) (mkS [(2, .ptrB (.loc 2) 0), (4, .bad), (5, .ref ⟨.loc 5, 0, [], 9, false⟩), (6, .sc (.int .i64 n')), (8, .sc (.string x)), (9, .sc (.string (padS (bif o3 then 48 else 32) (o2 - (((sign.size : Nat) : Int) + ((s.size : Nat) : Int))).toNat s))), (10, .sc (.string sign)), (13, .sl 1 v13), (14, .sc (.int .i64 v14)), (15, .sc (.int .i64 v15))] [(.loc 2, some ⟨true, [.sc (.int .i64 o0), .sc (.int .i64 o1), .sc (.int .i64 o2), .sc (.bool o3), .sc (.bool o4), .sc (.string o5)]⟩), (.loc 5, some ⟨false, [.own 9 false out]⟩)])
theorem f25_loop1 (n : Int) (x sign : ByteArray) (v13 : List V) (v14 v15 o0 o1 o2 : Int) (o3 o4 : Bool) (o5 : ByteArray) (out : List V) (h2 : o2 ≤ 1000000) (hg : sign.size ≤ 1000000) (R : Type) (κ : Ex → St → Option R) : ∀ (k : Nat) (s : ByteArray), (o2 - (((sign.size : Nat) : Int) + ((s.size : Nat) : Int))).toNat = k → s.size ≤ 2000000 →
    f25_l1 (k + 1) n x s sign v13 v14 v15 o0 o1 o2 o3 o4 o5 out R κ = f25_s1 n x s sign v13 v14 v15 o0 o1 o2 o3 o4 o5 out R κ
  | 0, s, hk, hs => by
    unfold f25_s1
    rw [hk, padS_zero, f25_l1, wrap_id (n := ((sign.size : Nat) : Int) + ((s.size : Nat) : Int)) (by omega) (by omega), dec_false (by omega)]
    rfl
  | k + 1, s, hk, hs => by
    have one : ∀ c : UInt8, ((⟨#[c]⟩ : ByteArray) ++ s).size = s.size + 1 := by
      intro c
      rw [ba_size_append]
      show 1 + s.size = _
      omega
    have IH : ∀ c : UInt8, f25_l1 (k + 1) n x ((⟨#[c]⟩ : ByteArray) ++ s) sign v13 v14 v15 o0 o1 o2 o3 o4 o5 out R κ = f25_s1 n x ((⟨#[c]⟩ : ByteArray) ++ s) sign v13 v14 v15 o0 o1 o2 o3 o4 o5 out R κ :=
      fun c => f25_loop1 n x sign v13 v14 v15 o0 o1 o2 o3 o4 o5 out h2 hg R κ k _ (by rw [one]; omega) (by rw [one]; omega)
    have kk : ∀ c : UInt8, (o2 - (((sign.size : Nat) : Int) + ((((⟨#[c]⟩ : ByteArray) ++ s).size : Nat) : Int))).toNat = k := by intro c; rw [one]; omega
    have p : ∀ c : Nat, padS c k ((⟨#[UInt8.ofNat c]⟩ : ByteArray) ++ s) = padS c (k + 1) s := fun c => padS_succ c k s
    rw [f25_l1, wrap_id (n := ((sign.size : Nat) : Int) + ((s.size : Nat) : Int)) (by omega) (by omega), dec_true (by omega), dec_true (show 1 + s.size ≤ 9223372036854775807 by omega)]
    cases o3 with
    | true =>
      refine (IH 48).trans ?_
      unfold f25_s1
      rw [kk, hk]
      simp only [cond_true]
      rw [show ((⟨#[48]⟩ : ByteArray) ++ s) = ((⟨#[UInt8.ofNat 48]⟩ : ByteArray) ++ s) from rfl, p 48]
    | false =>
      refine (IH 32).trans ?_
      unfold f25_s1
      rw [kk, hk]
      simp only [cond_false]
      rw [show ((⟨#[32]⟩ : ByteArray) ++ s) = ((⟨#[UInt8.ofNat 32]⟩ : ByteArray) ++ s) from rfl, p 32]
theorem f25_s1_eq (n' : Int) (x : ByteArray) (s : ByteArray) (sign : ByteArray) (v13 : List V) (v14 : Int) (v15 : Int) (o0 : Int) (o1 : Int) (o2 : Int) (o3 : Bool) (o4 : Bool) (o5 : ByteArray) (out : List V) (hp : (decide (o2 ≤ 1000000) && decide (s.size ≤ 1000000) && decide (sign.size ≤ 1000000)) = true) : ∃ n, ∀ (R : Type) (κ : Ex → St → Option R), f25_l1 n n' x s sign v13 v14 v15 o0 o1 o2 o3 o4 o5 out R κ = f25_s1 n' x s sign v13 v14 v15 o0 o1 o2 o3 o4 o5 out R κ := by
  simp only [Bool.and_eq_true, decide_eq_true_eq] at hp
  obtain ⟨⟨h1, h2⟩, h3⟩ := hp
  exact ⟨_, fun R κ => f25_loop1 n' x sign v13 v14 v15 o0 o1 o2 o3 o4 o5 out h1 h3 R κ _ s rfl (by omega)⟩
def t_f25_l1 (st : St) (R : Type) (κ : Ex → St → Option R) : Option R := bif ckS f25_l1_ls f25_l1_rs st then (bif (decide (((nthV (rowOf (st.regs (.loc 2))) 2).intOf) ≤ 1000000) && decide (((st.env 9).strOf).size ≤ 1000000) && decide (((st.env 10).strOf).size ≤ 1000000)) then f25_s1 ((st.env 6).intOf) ((st.env 8).strOf) ((st.env 9).strOf) ((st.env 10).strOf) ((st.env 13).cellsOf) ((st.env 14).intOf) ((st.env 15).intOf) ((nthV (rowOf (st.regs (.loc 2))) 0).intOf) ((nthV (rowOf (st.regs (.loc 2))) 1).intOf) ((nthV (rowOf (st.regs (.loc 2))) 2).intOf) ((nthV (rowOf (st.regs (.loc 2))) 3).boolOf) ((nthV (rowOf (st.regs (.loc 2))) 4).boolOf) ((nthV (rowOf (st.regs (.loc 2))) 5).strOf) ((nthV (rowOf (st.regs (.loc 5))) 0).cellsOf) R κ else none) else none
theorem t_f25_l1_ok : ∀ st0 R κ r, t_f25_l1 (forget C 25 [0, 0, 1, 1, 1, 1, 1, 0, 0, 1, 1, 0, 0, 1, 0, 1, 1, 1] st0) R κ = some r → ∃ ee ss, κ ee ss = some r ∧ RunP C prim 25 [0, 0, 1, 1, 1, 1, 1, 0, 0, 1, 1, 0, 0, 1, 0, 1, 1, 1] (forget C 25 [0, 0, 1, 1, 1, 1, 1, 0, 0, 1, 1, 0, 0, 1, 0, 1, 1, 1] st0) ee ss := by
  intro st0 R κ r h
  obtain ⟨hs, h⟩ := cond_some h
  obtain ⟨hp, h⟩ := cond_some h
  rw [canon (ls := f25_l1_ls) (rs := f25_l1_rs) (by kernel_rfl) st0 hs]
  obtain ⟨n, hn⟩ := f25_s1_eq _ _ _ _ _ _ _ _ _ _ _ _ _ _ hp
  rw [← hn] at h
  exact f25_l1_ok n _ _ _ _ _ _ _ _ _ _ _ _ _ _ R κ r h

def K_f25_l0 : CallK := kCons 42 k42 <| kNil
theorem K_f25_l0_ok : KOK C prim K_f25_l0 := KOK.cons k42_ok <| KOK.nil
def T_f25_l0 : Tab := tCons [0, 0, 1, 1, 1, 1, 1, 0, 0, 1, 1, 0, 0, 1, 0, 1, 1, 1] t_f25_l1 <| tNil
theorem T_f25_l0_ok : TOK C prim 25 T_f25_l0 := TOK.cons t_f25_l1_ok <| TOK.nil
def f25_l0 : Nat → Int → List V → Int → Int → Int → Int → Int → Bool → Bool → ByteArray → List V → (R : Type) → (Ex → St → Option R) → Option R
  | 0, _, _, _, _, _, _, _, _, _, _, _, _, _ => none
  | n + 1, n', v13, v14, v15, o0, o1, o2, o3, o4, o5, out, R, κ =>
    bif (decide (v15 < v14)) then
      bif (((decide ((0 : Int) ≤ v15)) && (decide (v15 < ((v13.length : Nat) : Int)))) && true) then
        bif (((V.isStr (nthV v13 (((v15).toNat * 1) + 0))) && true) && true) then
          bif (strEq (V.strOf (nthV v13 (((v15).toNat * 1) + 0))) (⟨#[]⟩ : ByteArray)) then
            bif (!o4) then
              bif (((roomy ((out.length + 1) * 16)) && (roomy (out.length + 1))) && true) then
                f25_l0 n n' v13 v14 (IntKind.wrap .i64 (v15 + 1)) o0 o1 o2 o3 o4 o5 (out ++ [.sc (.string (V.strOf (nthV v13 (((v15).toNat * 1) + 0))))]) R κ
              else none
            else
              bif ((inR n') && true) then
                bif o3 then
                  bif (decide (n' < 0)) then
                    bif (((decide ((1 : Int) ≤ (((itoaB n').size : Nat) : Int))) && true) && true) then
                      bif (decide (o2 ≤ 1000000) && decide (((itoaB n').extract 1 ((((itoaB n').size : Nat) : Int)).toNat).size ≤ 1000000) && decide ((⟨#[45]⟩ : ByteArray).size ≤ 1000000)) then
                        bif ((decide ((1 + (padS (bif o3 then 48 else 32) (o2 - ((((⟨#[45]⟩ : ByteArray).size : Nat) : Int) + ((((itoaB n').extract 1 ((((itoaB n').size : Nat) : Int)).toNat).size : Nat) : Int))).toNat ((itoaB n').extract 1 ((((itoaB n').size : Nat) : Int)).toNat)).size) ≤ 9223372036854775807)) && true) then
                          bif ((decide ((((⟨#[45]⟩ : ByteArray) ++ (padS (bif o3 then 48 else 32) (o2 - ((((⟨#[45]⟩ : ByteArray).size : Nat) : Int) + ((((itoaB n').extract 1 ((((itoaB n').size : Nat) : Int)).toNat).size : Nat) : Int))).toNat ((itoaB n').extract 1 ((((itoaB n').size : Nat) : Int)).toNat))).size + o5.size) ≤ 9223372036854775807)) && true) then
                            bif ((decide (((((⟨#[45]⟩ : ByteArray) ++ (padS (bif o3 then 48 else 32) (o2 - ((((⟨#[45]⟩ : ByteArray).size : Nat) : Int) + ((((itoaB n').extract 1 ((((itoaB n').size : Nat) : Int)).toNat).size : Nat) : Int))).toNat ((itoaB n').extract 1 ((((itoaB n').size : Nat) : Int)).toNat))) ++ o5).size + (V.strOf (nthV v13 (((v15).toNat * 1) + 0))).size) ≤ 9223372036854775807)) && true) then
                              bif (((roomy ((out.length + 1) * 16)) && (roomy (out.length + 1))) && true) then
                                f25_l0 n (IntKind.wrap .i64 (n' + o1)) v13 v14 (IntKind.wrap .i64 (v15 + 1)) o0 o1 o2 o3 o4 o5 (out ++ [.sc (.string ((((⟨#[45]⟩ : ByteArray) ++ (padS (bif o3 then 48 else 32) (o2 - ((((⟨#[45]⟩ : ByteArray).size : Nat) : Int) + ((((itoaB n').extract 1 ((((itoaB n').size : Nat) : Int)).toNat).size : Nat) : Int))).toNat ((itoaB n').extract 1 ((((itoaB n').size : Nat) : Int)).toNat))) ++ o5) ++ (V.strOf (nthV v13 (((v15).toNat * 1) + 0)))))]) R κ
                              else none
                            else none
                          else none
                        else none
                      else none
                    else none
                  else
                    bif (decide (o2 ≤ 1000000) && decide ((itoaB n').size ≤ 1000000) && decide ((⟨#[]⟩ : ByteArray).size ≤ 1000000)) then
                      bif ((decide ((0 + (padS (bif o3 then 48 else 32) (o2 - ((((⟨#[]⟩ : ByteArray).size : Nat) : Int) + (((itoaB n').size : Nat) : Int))).toNat (itoaB n')).size) ≤ 9223372036854775807)) && true) then
                        bif ((decide ((((⟨#[]⟩ : ByteArray) ++ (padS (bif o3 then 48 else 32) (o2 - ((((⟨#[]⟩ : ByteArray).size : Nat) : Int) + (((itoaB n').size : Nat) : Int))).toNat (itoaB n'))).size + o5.size) ≤ 9223372036854775807)) && true) then
                          bif ((decide (((((⟨#[]⟩ : ByteArray) ++ (padS (bif o3 then 48 else 32) (o2 - ((((⟨#[]⟩ : ByteArray).size : Nat) : Int) + (((itoaB n').size : Nat) : Int))).toNat (itoaB n'))) ++ o5).size + (V.strOf (nthV v13 (((v15).toNat * 1) + 0))).size) ≤ 9223372036854775807)) && true) then
                            bif (((roomy ((out.length + 1) * 16)) && (roomy (out.length + 1))) && true) then
                              f25_l0 n (IntKind.wrap .i64 (n' + o1)) v13 v14 (IntKind.wrap .i64 (v15 + 1)) o0 o1 o2 o3 o4 o5 (out ++ [.sc (.string ((((⟨#[]⟩ : ByteArray) ++ (padS (bif o3 then 48 else 32) (o2 - ((((⟨#[]⟩ : ByteArray).size : Nat) : Int) + (((itoaB n').size : Nat) : Int))).toNat (itoaB n'))) ++ o5) ++ (V.strOf (nthV v13 (((v15).toNat * 1) + 0)))))]) R κ
                            else none
                          else none
                        else none
                      else none
                    else none
                else
                  bif (decide (o2 ≤ 1000000) && decide ((itoaB n').size ≤ 1000000) && decide ((⟨#[]⟩ : ByteArray).size ≤ 1000000)) then
                    bif ((decide ((0 + (padS (bif o3 then 48 else 32) (o2 - ((((⟨#[]⟩ : ByteArray).size : Nat) : Int) + (((itoaB n').size : Nat) : Int))).toNat (itoaB n')).size) ≤ 9223372036854775807)) && true) then
                      bif ((decide ((((⟨#[]⟩ : ByteArray) ++ (padS (bif o3 then 48 else 32) (o2 - ((((⟨#[]⟩ : ByteArray).size : Nat) : Int) + (((itoaB n').size : Nat) : Int))).toNat (itoaB n'))).size + o5.size) ≤ 9223372036854775807)) && true) then
                        bif ((decide (((((⟨#[]⟩ : ByteArray) ++ (padS (bif o3 then 48 else 32) (o2 - ((((⟨#[]⟩ : ByteArray).size : Nat) : Int) + (((itoaB n').size : Nat) : Int))).toNat (itoaB n'))) ++ o5).size + (V.strOf (nthV v13 (((v15).toNat * 1) + 0))).size) ≤ 9223372036854775807)) && true) then
                          bif (((roomy ((out.length + 1) * 16)) && (roomy (out.length + 1))) && true) then
                            f25_l0 n (IntKind.wrap .i64 (n' + o1)) v13 v14 (IntKind.wrap .i64 (v15 + 1)) o0 o1 o2 o3 o4 o5 (out ++ [.sc (.string ((((⟨#[]⟩ : ByteArray) ++ (padS (bif o3 then 48 else 32) (o2 - ((((⟨#[]⟩ : ByteArray).size : Nat) : Int) + (((itoaB n').size : Nat) : Int))).toNat (itoaB n'))) ++ o5) ++ (V.strOf (nthV v13 (((v15).toNat * 1) + 0)))))]) R κ
                          else none
                        else none
                      else none
                    else none
                  else none
              else none
          else
            bif ((inR n') && true) then
              bif o3 then
                bif (decide (n' < 0)) then
                  bif (((decide ((1 : Int) ≤ (((itoaB n').size : Nat) : Int))) && true) && true) then
                    bif (decide (o2 ≤ 1000000) && decide (((itoaB n').extract 1 ((((itoaB n').size : Nat) : Int)).toNat).size ≤ 1000000) && decide ((⟨#[45]⟩ : ByteArray).size ≤ 1000000)) then
                      bif ((decide ((1 + (padS (bif o3 then 48 else 32) (o2 - ((((⟨#[45]⟩ : ByteArray).size : Nat) : Int) + ((((itoaB n').extract 1 ((((itoaB n').size : Nat) : Int)).toNat).size : Nat) : Int))).toNat ((itoaB n').extract 1 ((((itoaB n').size : Nat) : Int)).toNat)).size) ≤ 9223372036854775807)) && true) then
                        bif ((decide ((((⟨#[45]⟩ : ByteArray) ++ (padS (bif o3 then 48 else 32) (o2 - ((((⟨#[45]⟩ : ByteArray).size : Nat) : Int) + ((((itoaB n').extract 1 ((((itoaB n').size : Nat) : Int)).toNat).size : Nat) : Int))).toNat ((itoaB n').extract 1 ((((itoaB n').size : Nat) : Int)).toNat))).size + o5.size) ≤ 9223372036854775807)) && true) then
                          bif ((decide (((((⟨#[45]⟩ : ByteArray) ++ (padS (bif o3 then 48 else 32) (o2 - ((((⟨#[45]⟩ : ByteArray).size : Nat) : Int) + ((((itoaB n').extract 1 ((((itoaB n').size : Nat) : Int)).toNat).size : Nat) : Int))).toNat ((itoaB n').extract 1 ((((itoaB n').size : Nat) : Int)).toNat))) ++ o5).size + (V.strOf (nthV v13 (((v15).toNat * 1) + 0))).size) ≤ 9223372036854775807)) && true) then
                            bif (((roomy ((out.length + 1) * 16)) && (roomy (out.length + 1))) && true) then
                              f25_l0 n (IntKind.wrap .i64 (n' + o1)) v13 v14 (IntKind.wrap .i64 (v15 + 1)) o0 o1 o2 o3 o4 o5 (out ++ [.sc (.string ((((⟨#[45]⟩ : ByteArray) ++ (padS (bif o3 then 48 else 32) (o2 - ((((⟨#[45]⟩ : ByteArray).size : Nat) : Int) + ((((itoaB n').extract 1 ((((itoaB n').size : Nat) : Int)).toNat).size : Nat) : Int))).toNat ((itoaB n').extract 1 ((((itoaB n').size : Nat) : Int)).toNat))) ++ o5) ++ (V.strOf (nthV v13 (((v15).toNat * 1) + 0)))))]) R κ
                            else none
                          else none
                        else none
                      else none
                    else none
                  else none
                else
                  bif (decide (o2 ≤ 1000000) && decide ((itoaB n').size ≤ 1000000) && decide ((⟨#[]⟩ : ByteArray).size ≤ 1000000)) then
                    bif ((decide ((0 + (padS (bif o3 then 48 else 32) (o2 - ((((⟨#[]⟩ : ByteArray).size : Nat) : Int) + (((itoaB n').size : Nat) : Int))).toNat (itoaB n')).size) ≤ 9223372036854775807)) && true) then
                      bif ((decide ((((⟨#[]⟩ : ByteArray) ++ (padS (bif o3 then 48 else 32) (o2 - ((((⟨#[]⟩ : ByteArray).size : Nat) : Int) + (((itoaB n').size : Nat) : Int))).toNat (itoaB n'))).size + o5.size) ≤ 9223372036854775807)) && true) then
                        bif ((decide (((((⟨#[]⟩ : ByteArray) ++ (padS (bif o3 then 48 else 32) (o2 - ((((⟨#[]⟩ : ByteArray).size : Nat) : Int) + (((itoaB n').size : Nat) : Int))).toNat (itoaB n'))) ++ o5).size + (V.strOf (nthV v13 (((v15).toNat * 1) + 0))).size) ≤ 9223372036854775807)) && true) then
                          bif (((roomy ((out.length + 1) * 16)) && (roomy (out.length + 1))) && true) then
                            f25_l0 n (IntKind.wrap .i64 (n' + o1)) v13 v14 (IntKind.wrap .i64 (v15 + 1)) o0 o1 o2 o3 o4 o5 (out ++ [.sc (.string ((((⟨#[]⟩ : ByteArray) ++ (padS (bif o3 then 48 else 32) (o2 - ((((⟨#[]⟩ : ByteArray).size : Nat) : Int) + (((itoaB n').size : Nat) : Int))).toNat (itoaB n'))) ++ o5) ++ (V.strOf (nthV v13 (((v15).toNat * 1) + 0)))))]) R κ
                          else none
                        else none
                      else none
                    else none
                  else none
              else
                bif (decide (o2 ≤ 1000000) && decide ((itoaB n').size ≤ 1000000) && decide ((⟨#[]⟩ : ByteArray).size ≤ 1000000)) then
                  bif ((decide ((0 + (padS (bif o3 then 48 else 32) (o2 - ((((⟨#[]⟩ : ByteArray).size : Nat) : Int) + (((itoaB n').size : Nat) : Int))).toNat (itoaB n')).size) ≤ 9223372036854775807)) && true) then
                    bif ((decide ((((⟨#[]⟩ : ByteArray) ++ (padS (bif o3 then 48 else 32) (o2 - ((((⟨#[]⟩ : ByteArray).size : Nat) : Int) + (((itoaB n').size : Nat) : Int))).toNat (itoaB n'))).size + o5.size) ≤ 9223372036854775807)) && true) then
                      bif ((decide (((((⟨#[]⟩ : ByteArray) ++ (padS (bif o3 then 48 else 32) (o2 - ((((⟨#[]⟩ : ByteArray).size : Nat) : Int) + (((itoaB n').size : Nat) : Int))).toNat (itoaB n'))) ++ o5).size + (V.strOf (nthV v13 (((v15).toNat * 1) + 0))).size) ≤ 9223372036854775807)) && true) then
                        bif (((roomy ((out.length + 1) * 16)) && (roomy (out.length + 1))) && true) then
                          f25_l0 n (IntKind.wrap .i64 (n' + o1)) v13 v14 (IntKind.wrap .i64 (v15 + 1)) o0 o1 o2 o3 o4 o5 (out ++ [.sc (.string ((((⟨#[]⟩ : ByteArray) ++ (padS (bif o3 then 48 else 32) (o2 - ((((⟨#[]⟩ : ByteArray).size : Nat) : Int) + (((itoaB n').size : Nat) : Int))).toNat (itoaB n'))) ++ o5) ++ (V.strOf (nthV v13 (((v15).toNat * 1) + 0)))))]) R κ
                        else none
                      else none
                    else none
                  else none
                else none
            else none
        else none
      else none
    else
      κ (.ex 0) (mkS [(4, .bad), (5, .ref ⟨.loc 5, 0, [], 9, false⟩)] [(.loc 5, some ⟨false, [.own 9 false out]⟩)])
def f25_l0_ls : List (Nat × Pat) := [(2, .is (.ptrB (.loc 2) 0)), (5, .is (.ref ⟨.loc 5, 0, [], 9, false⟩)), (6, .i .i64), (13, .sl 1), (14, .i .i64), (15, .i .i64)]
def f25_l0_rs : List RPat := [⟨.loc 2, true, [.i .i64, .i .i64, .i .i64, .b, .b, .s]⟩, ⟨.loc 5, false, [.own 9 false]⟩]
theorem f25_l0_ok (n : Nat) : ∀ (n' : Int) (v13 : List V) (v14 : Int) (v15 : Int) (o0 : Int) (o1 : Int) (o2 : Int) (o3 : Bool) (o4 : Bool) (o5 : ByteArray) (out : List V) (R : Type) (κ : Ex → St → Option R) (r : R), f25_l0 n n' v13 v14 v15 o0 o1 o2 o3 o4 o5 out R κ = some r → ∃ ee ss, κ ee ss = some r ∧ RunP C prim 25 [0, 1, 0, 1, 1, 1] (mkS [(2, .ptrB (.loc 2) 0), (5, .ref ⟨.loc 5, 0, [], 9, false⟩), (6, .sc (.int .i64 n')), (13, .sl 1 v13), (14, .sc (.int .i64 v14)), (15, .sc (.int .i64 v15))] [(.loc 2, some ⟨true, [.sc (.int .i64 o0), .sc (.int .i64 o1), .sc (.int .i64 o2), .sc (.bool o3), .sc (.bool o4), .sc (.string o5)]⟩), (.loc 5, some ⟨false, [.own 9 false out]⟩)]) ee ss := by
  induction n with
  | zero => intro n' v13 v14 v15 o0 o1 o2 o3 o4 o5 out R κ r h; cases h
  | succ n ih =>
    intro n' v13 v14 v15 o0 o1 o2 o3 o4 o5 out R κ r h
    refine loop_round (K := K_f25_l0) (T := T_f25_l0) K_f25_l0_ok T_f25_l0_ok (p := [0, 1, 0, 1, 1, 1]) (by kernel_rfl) (fun st => bif ckS f25_l0_ls f25_l0_rs st then f25_l0 n ((st.env 6).intOf) ((st.env 13).cellsOf) ((st.env 14).intOf) ((st.env 15).intOf) ((nthV (rowOf (st.regs (.loc 2))) 0).intOf) ((nthV (rowOf (st.regs (.loc 2))) 1).intOf) ((nthV (rowOf (st.regs (.loc 2))) 2).intOf) ((nthV (rowOf (st.regs (.loc 2))) 3).boolOf) ((nthV (rowOf (st.regs (.loc 2))) 4).boolOf) ((nthV (rowOf (st.regs (.loc 2))) 5).strOf) ((nthV (rowOf (st.regs (.loc 5))) 0).cellsOf) R κ else none) (fun st0 h0 => ?_) ?_
    · obtain ⟨hs, h0⟩ := cond_some h0
      rw [canon (ls := f25_l0_ls) (rs := f25_l0_rs) (by kernel_rfl) st0 hs]
      exact ih _ _ _ _ _ _ _ _ _ _ _ R κ r h0
    · refine Eq.trans ?_ h
      kernel_rfl

def f25_s0 (n' : Int) (v13 : List V) (v14 : Int) (v15 : Int) (o0 : Int) (o1 : Int) (o2 : Int) (o3 : Bool) (o4 : Bool) (o5 : ByteArray) (out : List V) (R : Type) (κ : Ex → St → Option R) : Option R :=
  κ (.ex 0) (mkS [(4, .bad), (5, .ref ⟨.loc 5, 0, [], 9, false⟩)] [(.loc 5, some ⟨false, [.own 9 false (numF o1 o2 o3 o4 o5 v13 n')]⟩)])
theorem pad_ok (b c k : Nat) (s : ByteArray) (h : b ≤ 10) (hk : k ≤ 1000000) (hs : s.size ≤ 1000000) : decide (b + (padS c k s).size ≤ 9223372036854775807) = true := dec_true (by rw [padS_size]; omega)
theorem fill_neg {n w : Int} (h : n < 0) : (⟨#[45]⟩ : ByteArray) ++ padS 48 (w - (((1 : Nat) : Int) + ((((itoaB n).extract 1 ((((itoaB n).size : Nat) : Int)).toNat).size : Nat) : Int))).toNat ((itoaB n).extract 1 ((((itoaB n).size : Nat) : Int)).toNat) = fillB (itoaB n) w true := by
  have hm : hasMinus (itoaB n) = true := by rw [itoa_minus, dec_true h]
  have hd : dropMinus (itoaB n) = ofL ((itoaB n).data.toList.drop 1) := by unfold dropMinus; rw [hm]; rfl
  have hp := itoa_pos n
  have hz : (dropMinus (itoaB n)).size = (itoaB n).size - 1 := by rw [hd, ofL_size, List.length_drop, bl_size]
  unfold fillB
  rw [hm, cond_true, cond_true, Int.toNat_natCast, ext_tail, ← hd, show w - (((1 : Nat) : Int) + (((dropMinus (itoaB n)).size : Nat) : Int)) = w - (((itoaB n).size : Nat) : Int) by omega]
theorem fill_pos {n w : Int} (h : ¬ n < 0) : (⟨#[]⟩ : ByteArray) ++ padS 48 (w - (((0 : Nat) : Int) + (((itoaB n).size : Nat) : Int))).toNat (itoaB n) = fillB (itoaB n) w true := by
  have hm : hasMinus (itoaB n) = false := by rw [itoa_minus, dec_false h]
  unfold fillB
  rw [hm, ba_nil, show w - (((0 : Nat) : Int) + (((itoaB n).size : Nat) : Int)) = w - (((itoaB n).size : Nat) : Int) by omega]
  rfl
theorem fill_blank (n w : Int) : (⟨#[]⟩ : ByteArray) ++ padS 32 (w - (((0 : Nat) : Int) + (((itoaB n).size : Nat) : Int))).toNat (itoaB n) = fillB (itoaB n) w false := by
  unfold fillB
  rw [ba_nil, show w - (((0 : Nat) : Int) + (((itoaB n).size : Nat) : Int)) = w - (((itoaB n).size : Nat) : Int) by omega]
  rfl
theorem f25_loop (o0 o1 o2 : Int) (o3 o4 : Bool) (o5 : ByteArray) (l : List V) (hl : l.all shortS = true) (hn : l.length ≤ 1000000) (h1 : -1000000 ≤ o1 ∧ o1 ≤ 1000000) (h2 : 0 ≤ o2 ∧ o2 ≤ 1000000) (h5 : o5.size ≤ 1000000) (R : Type) (κ : Ex → St → Option R) : ∀ (k i : Nat) (n : Int) (out : List V), i + k = l.length → out.length = i → -1000000 * ((i : Int) + 1) ≤ n → n ≤ 1000000 * ((i : Int) + 1) →
    f25_l0 (k + 1) n l ((l.length : Nat) : Int) ((i : Nat) : Int) o0 o1 o2 o3 o4 o5 out R κ = κ (.ex 0) (mkS [(4, .bad), (5, .ref ⟨.loc 5, 0, [], 9, false⟩)] [(.loc 5, some ⟨false, [.own 9 false (out ++ numF o1 o2 o3 o4 o5 (l.drop i) n)]⟩)])
  | 0, i, n, out, h, ho, a1, a2 => by
    rw [f25_l0, dec_false (by omega), List.drop_of_length_le (by omega), numF, List.append_nil]
    rfl
  | k + 1, i, n, out, h, ho, a1, a2 => by
    have hi : i < l.length := by omega
    obtain ⟨i1, i2⟩ := shortS_spec (List.all_eq_true.1 hl _ (List.getElem_mem hi))
    have r1 : roomy ((out.length + 1) * 16) = true := dec_true (by omega)
    have r2 : roomy (out.length + 1) = true := dec_true (by omega)
    have hr : inR n = true := by unfold inR; rw [dec_true (show -9223372036854775808 ≤ n by omega), dec_true (show n ≤ 9223372036854775807 by omega)]; rfl
    have hw : IntKind.wrap .i64 (n + o1) = n + o1 := wrap_id (by omega) (by omega)
    have hit := itoa_le (n := n) (by omega) (by omega)
    have hip := itoa_pos n
    have hf := fill_le (itoaB n) o2 o3
    have IH0 := f25_loop o0 o1 o2 o3 o4 o5 l hl hn h1 h2 h5 R κ k (i + 1) n (out ++ [.sc (.string l[i].strOf)]) (by omega) (by simp [ho]) (by omega) (by omega)
    have IH1 := f25_loop o0 o1 o2 o3 o4 o5 l hl hn h1 h2 h5 R κ k (i + 1) (n + o1) (out ++ [.sc (.string (lineN n o2 o3 o5 l[i].strOf))]) (by omega) (by simp [ho]) (by omega) (by omega)
    have z45 : (⟨#[45]⟩ : ByteArray).size = 1 := rfl
    have z0 : (⟨#[]⟩ : ByteArray).size = 0 := rfl
    have s1 : decide ((fillB (itoaB n) o2 o3).size + o5.size ≤ 9223372036854775807) = true := dec_true (by omega)
    have s2 : decide ((fillB (itoaB n) o2 o3 ++ o5).size + l[i].strOf.size ≤ 9223372036854775807) = true := dec_true (by rw [ba_size_append]; omega)
    have t1 : decide ((1 : Int) ≤ (((itoaB n).size : Nat) : Int)) = true := dec_true (by omega)
    have t2 : decide ((itoaB n).size ≤ 1000000) = true := dec_true (by omega)
    have hx : ((itoaB n).extract 1 ((((itoaB n).size : Nat) : Int)).toNat).size ≤ 14 := by
      rw [Int.toNat_natCast, ext_tail, ofL_size, List.length_drop]
      have := bl_size (itoaB n)
      omega
    have t3 : decide (((itoaB n).extract 1 ((((itoaB n).size : Nat) : Int)).toNat).size ≤ 1000000) = true := dec_true (by omega)
    have t4 : decide (1 ≤ 1000000) = true := rfl
    have t5 : decide (0 ≤ 1000000) = true := rfl
    have t6 : decide (1 + (padS 48 (o2 - (((1 : Nat) : Int) + ((((itoaB n).extract 1 ((((itoaB n).size : Nat) : Int)).toNat).size : Nat) : Int))).toNat ((itoaB n).extract 1 ((((itoaB n).size : Nat) : Int)).toNat)).size ≤ 9223372036854775807) = true := pad_ok 1 48 _ _ (by omega) (by omega) (by omega)
    have t7 : ∀ c, decide (0 + (padS c (o2 - (((0 : Nat) : Int) + (((itoaB n).size : Nat) : Int))).toNat (itoaB n)).size ≤ 9223372036854775807) = true := fun c => pad_ok 0 c _ _ (by omega) (by omega) (by omega)
    rw [f25_l0, dec_true (show ((i : Nat) : Int) < ((l.length : Nat) : Int) by omega), dec_true (show (0 : Int) ≤ ((i : Nat) : Int) by omega), nth_at hi, i1, r1, r2, hr, hw, wrap_succ (by omega), dec_true h2.2, t1, t2, t3, z45, z0, t4, t5, List.drop_eq_getElem_cons hi, numF]
    rw [List.append_assoc] at IH0 IH1
    unfold lineN at IH1
    cases o3 with
    | false =>
      have t8 := t7 32
      have F := fill_blank n o2
      simp only [cond_false]
      simp only [t8, F, s1, s2]
      cases strEq l[i].strOf (⟨#[]⟩ : ByteArray) <;> cases o4
      · exact IH1
      · exact IH1
      · exact IH0
      · exact IH1
    | true =>
      simp only [cond_true]
      by_cases hneg : n < 0
      · have F := fill_neg (w := o2) hneg
        simp only [dec_true hneg, t6, F, s1, s2]
        cases strEq l[i].strOf (⟨#[]⟩ : ByteArray) <;> cases o4
        · exact IH1
        · exact IH1
        · exact IH0
        · exact IH1
      · have t8 := t7 48
        have F := fill_pos (w := o2) hneg
        simp only [dec_false hneg, t8, F, s1, s2]
        cases strEq l[i].strOf (⟨#[]⟩ : ByteArray) <;> cases o4
        · exact IH1
        · exact IH1
        · exact IH0
        · exact IH1
theorem f25_s0_eq (n' : Int) (v13 : List V) (v14 : Int) (v15 : Int) (o0 : Int) (o1 : Int) (o2 : Int) (o3 : Bool) (o4 : Bool) (o5 : ByteArray) (out : List V) (hp : ((v14 == ((v13.length : Nat) : Int)) && (v15 == 0) && (out.length == 0) && v13.all shortS && decide (v13.length ≤ 1000000) && okN n' o1 o2 o5) = true) : ∃ n, ∀ (R : Type) (κ : Ex → St → Option R), f25_l0 n n' v13 v14 v15 o0 o1 o2 o3 o4 o5 out R κ = f25_s0 n' v13 v14 v15 o0 o1 o2 o3 o4 o5 out R κ := by
  simp only [Bool.and_eq_true, decide_eq_true_eq, beq_iff_eq] at hp
  obtain ⟨⟨⟨⟨⟨rfl, rfl⟩, h3⟩, h4⟩, h5⟩, h6⟩ := hp
  obtain rfl : out = [] := List.eq_nil_of_length_eq_zero h3
  obtain ⟨q1, q2, q3, q4, q5, q6, q7⟩ := okN_spec h6
  exact ⟨v13.length + 1, fun R κ => f25_loop o0 o1 o2 o3 o4 o5 v13 h4 h5 ⟨q3, q4⟩ ⟨q5, q6⟩ q7 R κ v13.length 0 n' [] (by omega) rfl (by omega) (by omega)⟩
def t_f25_l0 (st : St) (R : Type) (κ : Ex → St → Option R) : Option R := bif ckS f25_l0_ls f25_l0_rs st then (bif ((((st.env 14).intOf) == ((((st.env 13).cellsOf).length : Nat) : Int)) && (((st.env 15).intOf) == 0) && (((nthV (rowOf (st.regs (.loc 5))) 0).cellsOf).length == 0) && ((st.env 13).cellsOf).all shortS && decide (((st.env 13).cellsOf).length ≤ 1000000) && okN ((st.env 6).intOf) ((nthV (rowOf (st.regs (.loc 2))) 1).intOf) ((nthV (rowOf (st.regs (.loc 2))) 2).intOf) ((nthV (rowOf (st.regs (.loc 2))) 5).strOf)) then f25_s0 ((st.env 6).intOf) ((st.env 13).cellsOf) ((st.env 14).intOf) ((st.env 15).intOf) ((nthV (rowOf (st.regs (.loc 2))) 0).intOf) ((nthV (rowOf (st.regs (.loc 2))) 1).intOf) ((nthV (rowOf (st.regs (.loc 2))) 2).intOf) ((nthV (rowOf (st.regs (.loc 2))) 3).boolOf) ((nthV (rowOf (st.regs (.loc 2))) 4).boolOf) ((nthV (rowOf (st.regs (.loc 2))) 5).strOf) ((nthV (rowOf (st.regs (.loc 5))) 0).cellsOf) R κ else none) else none
theorem t_f25_l0_ok : ∀ st0 R κ r, t_f25_l0 (forget C 25 [0, 1, 0, 1, 1, 1] st0) R κ = some r → ∃ ee ss, κ ee ss = some r ∧ RunP C prim 25 [0, 1, 0, 1, 1, 1] (forget C 25 [0, 1, 0, 1, 1, 1] st0) ee ss := by
  intro st0 R κ r h
  obtain ⟨hs, h⟩ := cond_some h
  obtain ⟨hp, h⟩ := cond_some h
  rw [canon (ls := f25_l0_ls) (rs := f25_l0_rs) (by kernel_rfl) st0 hs]
  obtain ⟨n, hn⟩ := f25_s0_eq _ _ _ _ _ _ _ _ _ _ _ hp
  rw [← hn] at h
  exact f25_l0_ok n _ _ _ _ _ _ _ _ _ _ _ R κ r h

def K_f25 : CallK := kNil
theorem K_f25_ok : KOK C prim K_f25 := KOK.nil
def T_f25 : Tab := tCons [0, 1, 0, 1, 1, 1] t_f25_l0 <| tNil
theorem T_f25_ok : TOK C prim 25 T_f25 := TOK.cons t_f25_l0_ok <| TOK.nil
def f25 (o0 : Int) (o1 : Int) (o2 : Int) (o3 : Bool) (o4 : Bool) (o5 : ByteArray) (l : List V) : Option (V × List Rg) :=
  bif ((((l.length : Nat) : Int) == ((l.length : Nat) : Int)) && ((0 : Int) == 0) && (([] : List V).length == 0) && l.all shortS && decide (l.length ≤ 1000000) && okN o0 o1 o2 o5) then
    some (.own 9 false (numF o1 o2 o3 o4 o5 l o0), [])
  else none
theorem f25_run (o0 : Int) (o1 : Int) (o2 : Int) (o3 : Bool) (o4 : Bool) (o5 : ByteArray) (l : List V) (z9 : V × List Rg) (h : f25 o0 o1 o2 o3 o4 o5 l = some z9) : CallR C prim 25 [.ag [.sc (.int .i64 o0), .sc (.int .i64 o1), .sc (.int .i64 o2), .sc (.bool o3), .sc (.bool o4), .sc (.string o5)], .sl 1 l] [] z9 := by
  refine call_fn (K := K_f25) (T := T_f25) K_f25_ok T_f25_ok (by kernel_rfl) ?_
  refine Eq.trans ?_ h
  kernel_rfl

theorem f25_eq (o0 : Int) (o1 : Int) (o2 : Int) (o3 : Bool) (o4 : Bool) (o5 : ByteArray) (l : List V) (hp : (l.all shortS && decide (l.length ≤ 1000000) && okN o0 o1 o2 o5) = true) : f25 o0 o1 o2 o3 o4 o5 l = some (.own 9 false (numF o1 o2 o3 o4 o5 l o0), []) := by
  unfold f25
  simp only [Bool.and_eq_true] at hp
  obtain ⟨⟨h1, h2⟩, h3⟩ := hp
  rw [h1, h2, h3, beq_self_eq_true]
  rfl
def k25 : PrimT := fun vs gs => match vs, gs with
  | [.ag [.sc (.int .i64 o0), .sc (.int .i64 o1), .sc (.int .i64 o2), .sc (.bool o3), .sc (.bool o4), .sc (.string o5)], .sl 1 l], [] => ((l.all shortS && decide (l.length ≤ 1000000) && okN o0 o1 o2 o5), .own 9 false (numF o1 o2 o3 o4 o5 l o0), [])
  | _, _ => (false, .bad, [])
theorem k25_ok : ∀ vs gs x, k25 vs gs = (true, x) → CallR C prim 25 vs gs x := by
  intro vs gs x h
  unfold k25 at h
  split at h
  · simp only [Prod.mk.injEq] at h
    obtain ⟨hp, rfl⟩ := h
    exact f25_run _ _ _ _ _ _ _ _ (f25_eq _ _ _ _ _ _ _ hp)
  · cases h

def K_f11 : CallK := kNil
theorem K_f11_ok : KOK C prim K_f11 := KOK.nil
def T_f11 : Tab := tNil
theorem T_f11_ok : TOK C prim 11 T_f11 := TOK.nil
def f11 (s : ByteArray) : Option (V × List Rg) :=
  some (.sc (.bool (decide (((s.size : Nat) : Int) ≤ 3000))), [])
theorem f11_run (s : ByteArray) (z9 : V × List Rg) (h : f11 s = some z9) : CallR C prim 11 [.sc (.string s)] [] z9 := by
  refine call_fn (K := K_f11) (T := T_f11) K_f11_ok T_f11_ok (by kernel_rfl) ?_
  refine Eq.trans ?_ h
  kernel_rfl

theorem f11_eq (s : ByteArray) : f11 s = some (.sc (.bool (decide (((s.size : Nat) : Int) ≤ 3000))), []) := by rfl
def k11 : PrimT := fun vs gs => match vs, gs with
  | [.sc (.string s)], [] => (true, .sc (.bool (decide (((s.size : Nat) : Int) ≤ 3000))), [])
  | _, _ => (false, .bad, [])
theorem k11_ok : ∀ vs gs x, k11 vs gs = (true, x) → CallR C prim 11 vs gs x := by
  intro vs gs x h
  unfold k11 at h
  split at h
  · simp only [Prod.mk.injEq, true_and] at h
    subst h
    exact f11_run _ _ (f11_eq _)
  · cases h

def K_f6 : CallK := kCons 8 k8 <| kCons 10 k10 <| kCons 11 k11 <| kCons 12 k12 <| kCons 13 k13 <| kCons 14 k14 <| kCons 16 k16 <| kCons 18 k18 <| kCons 19 k19 <| kCons 23 k23 <| kCons 24 k24 <| kCons 25 k25 <| kNil
theorem K_f6_ok : KOK C prim K_f6 := KOK.cons k8_ok <| KOK.cons k10_ok <| KOK.cons k11_ok <| KOK.cons k12_ok <| KOK.cons k13_ok <| KOK.cons k14_ok <| KOK.cons k16_ok <| KOK.cons k18_ok <| KOK.cons k19_ok <| KOK.cons k23_ok <| KOK.cons k24_ok <| KOK.cons k25_ok <| KOK.nil
def T_f6 : Tab := tNil
theorem T_f6_ok : TOK C prim 6 T_f6 := TOK.nil
def f6 (o0 : Int) (o1 : Int) (o2 : Int) (o3 : Bool) (o4 : Bool) (o5 : ByteArray) (s : ByteArray) : Option (V × List Rg) :=
  bif ((decide (s.size ≤ 10000000)) && true) then
    bif (!(decide (o0 ≥ ((-1000000) : Int)) && decide (o0 ≤ (1000000 : Int)))) then
      bif (hasB o5 10) then
        bif ((([.sc (.string s)] : List V).all shortS && decide (([.sc (.string s)] : List V).length ≤ 1000000000)) && true) then
          bif ((([.sc (.int .i64 (bif true then (3 : Int) else 0)), .sc (.int .i64 (bif true then (5 : Int) else 0)), .sc (.int .i64 (bif ([.sc (.string s)] : List V).any largeV then (2 : Int) else 0))] : List V).all (V.isInt .i64) && decide (([.sc (.int .i64 (bif true then (3 : Int) else 0)), .sc (.int .i64 (bif true then (5 : Int) else 0)), .sc (.int .i64 (bif ([.sc (.string s)] : List V).any largeV then (2 : Int) else 0))] : List V).length ≤ 1000000000)) && true) then
            bif ((firstBy V.intOf ([.sc (.int .i64 (bif true then (3 : Int) else 0)), .sc (.int .i64 (bif true then (5 : Int) else 0)), .sc (.int .i64 (bif ([.sc (.string s)] : List V).any largeV then (2 : Int) else 0))] : List V)) != 0) then
              some (.sc (.bool (outc (numS o0 o1 o2 o3 o4 o5 s) (numE o0 o1 o2 o5 s) (numS o0 o1 o2 o3 o4 o5 s) (firstBy V.intOf ([.sc (.int .i64 (bif true then (3 : Int) else 0)), .sc (.int .i64 (bif true then (5 : Int) else 0)), .sc (.int .i64 (bif ([.sc (.string s)] : List V).any largeV then (2 : Int) else 0))] : List V)))), [])
            else
              bif (!(decide (((s.size : Nat) : Int) ≤ 3000))) then
                some (.sc (.bool (outc (numS o0 o1 o2 o3 o4 o5 s) (numE o0 o1 o2 o5 s) (numS o0 o1 o2 o3 o4 o5 s) (firstBy V.intOf ([.sc (.int .i64 (bif true then (3 : Int) else 0)), .sc (.int .i64 (bif true then (5 : Int) else 0)), .sc (.int .i64 (bif ([.sc (.string s)] : List V).any largeV then (2 : Int) else 0))] : List V)))), [])
              else
                bif ((decide (s.size ≤ 1000000000)) && true) then
                  bif (((linesV s).all shortS && decide ((linesV s).length ≤ 1000000) && okN o0 o1 o2 o5) && true) then
                    bif (((numF o1 o2 o3 o4 o5 (linesV s) o0).all V.isStr && decide ((numF o1 o2 o3 o4 o5 (linesV s) o0).length ≤ 1000000000) && decide ((resB (numF o1 o2 o3 o4 o5 (linesV s) o0)).size ≤ 100000000000)) && true) then
                      some (.sc (.bool (outc (numS o0 o1 o2 o3 o4 o5 s) (numE o0 o1 o2 o5 s) (resB (numF o1 o2 o3 o4 o5 (linesV s) o0)) (0 : Int))), [])
                    else none
                  else none
                else none
          else none
        else none
      else
        bif ((([.sc (.string s)] : List V).all shortS && decide (([.sc (.string s)] : List V).length ≤ 1000000000)) && true) then
          bif ((([.sc (.int .i64 (bif true then (3 : Int) else 0)), .sc (.int .i64 (bif (decide (((o5.size : Nat) : Int) > 1000)) then (5 : Int) else 0)), .sc (.int .i64 (bif ([.sc (.string s)] : List V).any largeV then (2 : Int) else 0))] : List V).all (V.isInt .i64) && decide (([.sc (.int .i64 (bif true then (3 : Int) else 0)), .sc (.int .i64 (bif (decide (((o5.size : Nat) : Int) > 1000)) then (5 : Int) else 0)), .sc (.int .i64 (bif ([.sc (.string s)] : List V).any largeV then (2 : Int) else 0))] : List V).length ≤ 1000000000)) && true) then
            bif ((firstBy V.intOf ([.sc (.int .i64 (bif true then (3 : Int) else 0)), .sc (.int .i64 (bif (decide (((o5.size : Nat) : Int) > 1000)) then (5 : Int) else 0)), .sc (.int .i64 (bif ([.sc (.string s)] : List V).any largeV then (2 : Int) else 0))] : List V)) != 0) then
              some (.sc (.bool (outc (numS o0 o1 o2 o3 o4 o5 s) (numE o0 o1 o2 o5 s) (numS o0 o1 o2 o3 o4 o5 s) (firstBy V.intOf ([.sc (.int .i64 (bif true then (3 : Int) else 0)), .sc (.int .i64 (bif (decide (((o5.size : Nat) : Int) > 1000)) then (5 : Int) else 0)), .sc (.int .i64 (bif ([.sc (.string s)] : List V).any largeV then (2 : Int) else 0))] : List V)))), [])
            else
              bif (!(decide (((s.size : Nat) : Int) ≤ 3000))) then
                some (.sc (.bool (outc (numS o0 o1 o2 o3 o4 o5 s) (numE o0 o1 o2 o5 s) (numS o0 o1 o2 o3 o4 o5 s) (firstBy V.intOf ([.sc (.int .i64 (bif true then (3 : Int) else 0)), .sc (.int .i64 (bif (decide (((o5.size : Nat) : Int) > 1000)) then (5 : Int) else 0)), .sc (.int .i64 (bif ([.sc (.string s)] : List V).any largeV then (2 : Int) else 0))] : List V)))), [])
              else
                bif ((decide (s.size ≤ 1000000000)) && true) then
                  bif (((linesV s).all shortS && decide ((linesV s).length ≤ 1000000) && okN o0 o1 o2 o5) && true) then
                    bif (((numF o1 o2 o3 o4 o5 (linesV s) o0).all V.isStr && decide ((numF o1 o2 o3 o4 o5 (linesV s) o0).length ≤ 1000000000) && decide ((resB (numF o1 o2 o3 o4 o5 (linesV s) o0)).size ≤ 100000000000)) && true) then
                      some (.sc (.bool (outc (numS o0 o1 o2 o3 o4 o5 s) (numE o0 o1 o2 o5 s) (resB (numF o1 o2 o3 o4 o5 (linesV s) o0)) (0 : Int))), [])
                    else none
                  else none
                else none
          else none
        else none
    else
      bif (!(decide (o1 ≥ ((-1000000) : Int)) && decide (o1 ≤ (1000000 : Int)))) then
        bif (hasB o5 10) then
          bif ((([.sc (.string s)] : List V).all shortS && decide (([.sc (.string s)] : List V).length ≤ 1000000000)) && true) then
            bif ((([.sc (.int .i64 (bif true then (3 : Int) else 0)), .sc (.int .i64 (bif true then (5 : Int) else 0)), .sc (.int .i64 (bif ([.sc (.string s)] : List V).any largeV then (2 : Int) else 0))] : List V).all (V.isInt .i64) && decide (([.sc (.int .i64 (bif true then (3 : Int) else 0)), .sc (.int .i64 (bif true then (5 : Int) else 0)), .sc (.int .i64 (bif ([.sc (.string s)] : List V).any largeV then (2 : Int) else 0))] : List V).length ≤ 1000000000)) && true) then
              bif ((firstBy V.intOf ([.sc (.int .i64 (bif true then (3 : Int) else 0)), .sc (.int .i64 (bif true then (5 : Int) else 0)), .sc (.int .i64 (bif ([.sc (.string s)] : List V).any largeV then (2 : Int) else 0))] : List V)) != 0) then
                some (.sc (.bool (outc (numS o0 o1 o2 o3 o4 o5 s) (numE o0 o1 o2 o5 s) (numS o0 o1 o2 o3 o4 o5 s) (firstBy V.intOf ([.sc (.int .i64 (bif true then (3 : Int) else 0)), .sc (.int .i64 (bif true then (5 : Int) else 0)), .sc (.int .i64 (bif ([.sc (.string s)] : List V).any largeV then (2 : Int) else 0))] : List V)))), [])
              else
                bif (!(decide (((s.size : Nat) : Int) ≤ 3000))) then
                  some (.sc (.bool (outc (numS o0 o1 o2 o3 o4 o5 s) (numE o0 o1 o2 o5 s) (numS o0 o1 o2 o3 o4 o5 s) (firstBy V.intOf ([.sc (.int .i64 (bif true then (3 : Int) else 0)), .sc (.int .i64 (bif true then (5 : Int) else 0)), .sc (.int .i64 (bif ([.sc (.string s)] : List V).any largeV then (2 : Int) else 0))] : List V)))), [])
                else
                  bif ((decide (s.size ≤ 1000000000)) && true) then
                    bif (((linesV s).all shortS && decide ((linesV s).length ≤ 1000000) && okN o0 o1 o2 o5) && true) then
                      bif (((numF o1 o2 o3 o4 o5 (linesV s) o0).all V.isStr && decide ((numF o1 o2 o3 o4 o5 (linesV s) o0).length ≤ 1000000000) && decide ((resB (numF o1 o2 o3 o4 o5 (linesV s) o0)).size ≤ 100000000000)) && true) then
                        some (.sc (.bool (outc (numS o0 o1 o2 o3 o4 o5 s) (numE o0 o1 o2 o5 s) (resB (numF o1 o2 o3 o4 o5 (linesV s) o0)) (0 : Int))), [])
                      else none
                    else none
                  else none
            else none
          else none
        else
          bif ((([.sc (.string s)] : List V).all shortS && decide (([.sc (.string s)] : List V).length ≤ 1000000000)) && true) then
            bif ((([.sc (.int .i64 (bif true then (3 : Int) else 0)), .sc (.int .i64 (bif (decide (((o5.size : Nat) : Int) > 1000)) then (5 : Int) else 0)), .sc (.int .i64 (bif ([.sc (.string s)] : List V).any largeV then (2 : Int) else 0))] : List V).all (V.isInt .i64) && decide (([.sc (.int .i64 (bif true then (3 : Int) else 0)), .sc (.int .i64 (bif (decide (((o5.size : Nat) : Int) > 1000)) then (5 : Int) else 0)), .sc (.int .i64 (bif ([.sc (.string s)] : List V).any largeV then (2 : Int) else 0))] : List V).length ≤ 1000000000)) && true) then
              bif ((firstBy V.intOf ([.sc (.int .i64 (bif true then (3 : Int) else 0)), .sc (.int .i64 (bif (decide (((o5.size : Nat) : Int) > 1000)) then (5 : Int) else 0)), .sc (.int .i64 (bif ([.sc (.string s)] : List V).any largeV then (2 : Int) else 0))] : List V)) != 0) then
                some (.sc (.bool (outc (numS o0 o1 o2 o3 o4 o5 s) (numE o0 o1 o2 o5 s) (numS o0 o1 o2 o3 o4 o5 s) (firstBy V.intOf ([.sc (.int .i64 (bif true then (3 : Int) else 0)), .sc (.int .i64 (bif (decide (((o5.size : Nat) : Int) > 1000)) then (5 : Int) else 0)), .sc (.int .i64 (bif ([.sc (.string s)] : List V).any largeV then (2 : Int) else 0))] : List V)))), [])
              else
                bif (!(decide (((s.size : Nat) : Int) ≤ 3000))) then
                  some (.sc (.bool (outc (numS o0 o1 o2 o3 o4 o5 s) (numE o0 o1 o2 o5 s) (numS o0 o1 o2 o3 o4 o5 s) (firstBy V.intOf ([.sc (.int .i64 (bif true then (3 : Int) else 0)), .sc (.int .i64 (bif (decide (((o5.size : Nat) : Int) > 1000)) then (5 : Int) else 0)), .sc (.int .i64 (bif ([.sc (.string s)] : List V).any largeV then (2 : Int) else 0))] : List V)))), [])
                else
                  bif ((decide (s.size ≤ 1000000000)) && true) then
                    bif (((linesV s).all shortS && decide ((linesV s).length ≤ 1000000) && okN o0 o1 o2 o5) && true) then
                      bif (((numF o1 o2 o3 o4 o5 (linesV s) o0).all V.isStr && decide ((numF o1 o2 o3 o4 o5 (linesV s) o0).length ≤ 1000000000) && decide ((resB (numF o1 o2 o3 o4 o5 (linesV s) o0)).size ≤ 100000000000)) && true) then
                        some (.sc (.bool (outc (numS o0 o1 o2 o3 o4 o5 s) (numE o0 o1 o2 o5 s) (resB (numF o1 o2 o3 o4 o5 (linesV s) o0)) (0 : Int))), [])
                      else none
                    else none
                  else none
            else none
          else none
      else
        bif (hasB o5 10) then
          bif ((([.sc (.string s)] : List V).all shortS && decide (([.sc (.string s)] : List V).length ≤ 1000000000)) && true) then
            bif ((([.sc (.int .i64 (bif (!(decide (o2 ≥ (0 : Int)) && decide (o2 ≤ (1000 : Int)))) then (3 : Int) else 0)), .sc (.int .i64 (bif true then (5 : Int) else 0)), .sc (.int .i64 (bif ([.sc (.string s)] : List V).any largeV then (2 : Int) else 0))] : List V).all (V.isInt .i64) && decide (([.sc (.int .i64 (bif (!(decide (o2 ≥ (0 : Int)) && decide (o2 ≤ (1000 : Int)))) then (3 : Int) else 0)), .sc (.int .i64 (bif true then (5 : Int) else 0)), .sc (.int .i64 (bif ([.sc (.string s)] : List V).any largeV then (2 : Int) else 0))] : List V).length ≤ 1000000000)) && true) then
              bif ((firstBy V.intOf ([.sc (.int .i64 (bif (!(decide (o2 ≥ (0 : Int)) && decide (o2 ≤ (1000 : Int)))) then (3 : Int) else 0)), .sc (.int .i64 (bif true then (5 : Int) else 0)), .sc (.int .i64 (bif ([.sc (.string s)] : List V).any largeV then (2 : Int) else 0))] : List V)) != 0) then
                some (.sc (.bool (outc (numS o0 o1 o2 o3 o4 o5 s) (numE o0 o1 o2 o5 s) (numS o0 o1 o2 o3 o4 o5 s) (firstBy V.intOf ([.sc (.int .i64 (bif (!(decide (o2 ≥ (0 : Int)) && decide (o2 ≤ (1000 : Int)))) then (3 : Int) else 0)), .sc (.int .i64 (bif true then (5 : Int) else 0)), .sc (.int .i64 (bif ([.sc (.string s)] : List V).any largeV then (2 : Int) else 0))] : List V)))), [])
              else
                bif (!(decide (((s.size : Nat) : Int) ≤ 3000))) then
                  some (.sc (.bool (outc (numS o0 o1 o2 o3 o4 o5 s) (numE o0 o1 o2 o5 s) (numS o0 o1 o2 o3 o4 o5 s) (firstBy V.intOf ([.sc (.int .i64 (bif (!(decide (o2 ≥ (0 : Int)) && decide (o2 ≤ (1000 : Int)))) then (3 : Int) else 0)), .sc (.int .i64 (bif true then (5 : Int) else 0)), .sc (.int .i64 (bif ([.sc (.string s)] : List V).any largeV then (2 : Int) else 0))] : List V)))), [])
                else
                  bif ((decide (s.size ≤ 1000000000)) && true) then
                    bif (((linesV s).all shortS && decide ((linesV s).length ≤ 1000000) && okN o0 o1 o2 o5) && true) then
                      bif (((numF o1 o2 o3 o4 o5 (linesV s) o0).all V.isStr && decide ((numF o1 o2 o3 o4 o5 (linesV s) o0).length ≤ 1000000000) && decide ((resB (numF o1 o2 o3 o4 o5 (linesV s) o0)).size ≤ 100000000000)) && true) then
                        some (.sc (.bool (outc (numS o0 o1 o2 o3 o4 o5 s) (numE o0 o1 o2 o5 s) (resB (numF o1 o2 o3 o4 o5 (linesV s) o0)) (0 : Int))), [])
                      else none
                    else none
                  else none
            else none
          else none
        else
          bif ((([.sc (.string s)] : List V).all shortS && decide (([.sc (.string s)] : List V).length ≤ 1000000000)) && true) then
            bif ((([.sc (.int .i64 (bif (!(decide (o2 ≥ (0 : Int)) && decide (o2 ≤ (1000 : Int)))) then (3 : Int) else 0)), .sc (.int .i64 (bif (decide (((o5.size : Nat) : Int) > 1000)) then (5 : Int) else 0)), .sc (.int .i64 (bif ([.sc (.string s)] : List V).any largeV then (2 : Int) else 0))] : List V).all (V.isInt .i64) && decide (([.sc (.int .i64 (bif (!(decide (o2 ≥ (0 : Int)) && decide (o2 ≤ (1000 : Int)))) then (3 : Int) else 0)), .sc (.int .i64 (bif (decide (((o5.size : Nat) : Int) > 1000)) then (5 : Int) else 0)), .sc (.int .i64 (bif ([.sc (.string s)] : List V).any largeV then (2 : Int) else 0))] : List V).length ≤ 1000000000)) && true) then
              bif ((firstBy V.intOf ([.sc (.int .i64 (bif (!(decide (o2 ≥ (0 : Int)) && decide (o2 ≤ (1000 : Int)))) then (3 : Int) else 0)), .sc (.int .i64 (bif (decide (((o5.size : Nat) : Int) > 1000)) then (5 : Int) else 0)), .sc (.int .i64 (bif ([.sc (.string s)] : List V).any largeV then (2 : Int) else 0))] : List V)) != 0) then
                some (.sc (.bool (outc (numS o0 o1 o2 o3 o4 o5 s) (numE o0 o1 o2 o5 s) (numS o0 o1 o2 o3 o4 o5 s) (firstBy V.intOf ([.sc (.int .i64 (bif (!(decide (o2 ≥ (0 : Int)) && decide (o2 ≤ (1000 : Int)))) then (3 : Int) else 0)), .sc (.int .i64 (bif (decide (((o5.size : Nat) : Int) > 1000)) then (5 : Int) else 0)), .sc (.int .i64 (bif ([.sc (.string s)] : List V).any largeV then (2 : Int) else 0))] : List V)))), [])
              else
                bif (!(decide (((s.size : Nat) : Int) ≤ 3000))) then
                  some (.sc (.bool (outc (numS o0 o1 o2 o3 o4 o5 s) (numE o0 o1 o2 o5 s) (numS o0 o1 o2 o3 o4 o5 s) (firstBy V.intOf ([.sc (.int .i64 (bif (!(decide (o2 ≥ (0 : Int)) && decide (o2 ≤ (1000 : Int)))) then (3 : Int) else 0)), .sc (.int .i64 (bif (decide (((o5.size : Nat) : Int) > 1000)) then (5 : Int) else 0)), .sc (.int .i64 (bif ([.sc (.string s)] : List V).any largeV then (2 : Int) else 0))] : List V)))), [])
                else
                  bif ((decide (s.size ≤ 1000000000)) && true) then
                    bif (((linesV s).all shortS && decide ((linesV s).length ≤ 1000000) && okN o0 o1 o2 o5) && true) then
                      bif (((numF o1 o2 o3 o4 o5 (linesV s) o0).all V.isStr && decide ((numF o1 o2 o3 o4 o5 (linesV s) o0).length ≤ 1000000000) && decide ((resB (numF o1 o2 o3 o4 o5 (linesV s) o0)).size ≤ 100000000000)) && true) then
                        some (.sc (.bool (outc (numS o0 o1 o2 o3 o4 o5 s) (numE o0 o1 o2 o5 s) (resB (numF o1 o2 o3 o4 o5 (linesV s) o0)) (0 : Int))), [])
                      else none
                    else none
                  else none
            else none
          else none
  else none
theorem f6_run (o0 : Int) (o1 : Int) (o2 : Int) (o3 : Bool) (o4 : Bool) (o5 : ByteArray) (s : ByteArray) (z9 : V × List Rg) (h : f6 o0 o1 o2 o3 o4 o5 s = some z9) : CallR C prim 6 [.ag [.sc (.int .i64 o0), .sc (.int .i64 o1), .sc (.int .i64 o2), .sc (.bool o3), .sc (.bool o4), .sc (.string o5)], .sc (.string s)] [] z9 := by
  refine call_fn (K := K_f6) (T := T_f6) K_f6_ok T_f6_ok (by kernel_rfl) ?_
  refine Eq.trans ?_ h
  kernel_rfl

theorem outc_no {s : ByteArray} {e f : Int} (hf : (f != 0) = true) (hs : s = ⟨#[]⟩) (he : e = f) : outc s e ⟨#[]⟩ f = true := by
  unfold outc
  rw [hf, hs, he, strEq_self, beq_self_eq_true]; rfl
theorem outc_yes (s : ByteArray) : outc s 0 s 0 = true := by
  unfold outc
  rw [strEq_self]; rfl
theorem num_tail (o0 o1 o2 : Int) (o3 o4 : Bool) (o5 s : ByteArray) (F : Int) (hE : numE o0 o1 o2 o5 s = F) (hs : s.size ≤ 10000000) : (bif F != 0 then
      some (V.sc (.bool (outc (numS o0 o1 o2 o3 o4 o5 s) (numE o0 o1 o2 o5 s) (numS o0 o1 o2 o3 o4 o5 s) F)), ([] : List Rg))
    else
      bif (!(decide (((s.size : Nat) : Int) ≤ 3000))) then
        some (.sc (.bool (outc (numS o0 o1 o2 o3 o4 o5 s) (numE o0 o1 o2 o5 s) (numS o0 o1 o2 o3 o4 o5 s) F)), [])
      else
        bif ((decide (s.size ≤ 1000000000)) && true) then
          bif (((linesV s).all shortS && decide ((linesV s).length ≤ 1000000) && okN o0 o1 o2 o5) && true) then
            bif (((numF o1 o2 o3 o4 o5 (linesV s) o0).all V.isStr && decide ((numF o1 o2 o3 o4 o5 (linesV s) o0).length ≤ 1000000000) && decide ((resB (numF o1 o2 o3 o4 o5 (linesV s) o0)).size ≤ 100000000000)) && true) then
              some (.sc (.bool (outc (numS o0 o1 o2 o3 o4 o5 s) (numE o0 o1 o2 o5 s) (resB (numF o1 o2 o3 o4 o5 (linesV s) o0)) (0 : Int))), [])
            else none
          else none
        else none) = some (.sc (.bool true), []) := by
  cases h : F != 0 with
  | true =>
    have hs : numS o0 o1 o2 o3 o4 o5 s = ⟨#[]⟩ := by
      unfold numS
      rw [hE]
      have : (F == 0) = false := by rw [bne_iff_ne] at h; exact beq_eq_false_iff_ne.2 h
      rw [this]; rfl
    rw [cond_true, hE, hs, outc_no h rfl rfl]
  | false =>
    have h0 : F = 0 := by simpa using h
    subst h0
    obtain ⟨a1, a2, a3, a4, a5⟩ := num_ok o3 o4 hE
    obtain ⟨l1, l2⟩ := large_no a2
    have hS : numS o0 o1 o2 o3 o4 o5 s = resB (numF o1 o2 o3 o4 o5 (linesV s) o0) := by unfold numS; rw [hE]; rfl
    rw [hS, hE, outc_yes, dec_true (show s.size ≤ 1000000000 by omega), linesV_short s (by omega), dec_true (show (linesV s).length ≤ 1000000 by omega), a1, a3, dec_true a4, dec_true a5]
    cases (!(decide (((s.size : Nat) : Int) ≤ 3000))) <;> rfl
theorem f6_eq (o0 : Int) (o1 : Int) (o2 : Int) (o3 : Bool) (o4 : Bool) (o5 : ByteArray) (s : ByteArray) (hp : (decide (s.size ≤ 10000000)) = true) : f6 o0 o1 o2 o3 o4 o5 s = some (.sc (.bool true), []) := by
  have hq := hp
  simp only [decide_eq_true_eq] at hp
  have h1 : ([.sc (.string s)] : List V).all shortS = true := by
    show ((true && decide (s.size ≤ 1000000000)) && true) = true
    rw [dec_true (show s.size ≤ 1000000000 by omega)]; rfl
  have h2 : ([.sc (.string s)] : List V).any largeV = largeB s := Bool.or_false _
  unfold f6
  rw [hq, h1, h2]
  cases hA : (decide (o0 ≥ ((-1000000) : Int)) && decide (o0 ≤ (1000000 : Int))) with
  | false =>
    cases hasB o5 10
    · exact num_tail o0 o1 o2 o3 o4 o5 s 3 (by unfold numE; rw [hA]; rfl) hp
    · exact num_tail o0 o1 o2 o3 o4 o5 s 3 (by unfold numE; rw [hA]; rfl) hp
  | true =>
  cases hB : (decide (o1 ≥ ((-1000000) : Int)) && decide (o1 ≤ (1000000 : Int))) with
  | false =>
    cases hasB o5 10
    · exact num_tail o0 o1 o2 o3 o4 o5 s 3 (by unfold numE; rw [hA, hB]; rfl) hp
    · exact num_tail o0 o1 o2 o3 o4 o5 s 3 (by unfold numE; rw [hA, hB]; rfl) hp
  | true =>
  cases hC : (decide (o2 ≥ (0 : Int)) && decide (o2 ≤ (1000 : Int))) with
  | false =>
    cases hasB o5 10
    · exact num_tail o0 o1 o2 o3 o4 o5 s 3 (by unfold numE; rw [hA, hB, hC]; rfl) hp
    · exact num_tail o0 o1 o2 o3 o4 o5 s 3 (by unfold numE; rw [hA, hB, hC]; rfl) hp
  | true =>
  cases hH : hasB o5 10 with
  | true => exact num_tail o0 o1 o2 o3 o4 o5 s 5 (by unfold numE; rw [hA, hB, hC, hH]; rfl) hp
  | false =>
  cases hG : decide (((o5.size : Nat) : Int) > 1000) with
  | true => exact num_tail o0 o1 o2 o3 o4 o5 s 5 (by unfold numE; rw [hA, hB, hC, hH, hG]; rfl) hp
  | false =>
  cases hL : largeB s with
  | true => exact num_tail o0 o1 o2 o3 o4 o5 s 2 (by unfold numE; rw [hA, hB, hC, hH, hG, hL]; rfl) hp
  | false => exact num_tail o0 o1 o2 o3 o4 o5 s 0 (by unfold numE; rw [hA, hB, hC, hH, hG, hL]; rfl) hp
def k6 : PrimT := fun vs gs => match vs, gs with
  | [.ag [.sc (.int .i64 o0), .sc (.int .i64 o1), .sc (.int .i64 o2), .sc (.bool o3), .sc (.bool o4), .sc (.string o5)], .sc (.string s)], [] => ((decide (s.size ≤ 10000000)), .sc (.bool true), [])
  | _, _ => (false, .bad, [])
theorem k6_ok : ∀ vs gs x, k6 vs gs = (true, x) → CallR C prim 6 vs gs x := by
  intro vs gs x h
  unfold k6 at h
  split at h
  · simp only [Prod.mk.injEq] at h
    obtain ⟨hp, rfl⟩ := h
    exact f6_run _ _ _ _ _ _ _ _ (f6_eq _ _ _ _ _ _ _ hp)
  · cases h
end Go.Ab
