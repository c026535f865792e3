/- Functions of a law, as the machine runs them. -/
import Derived.Test.YtbeemjiaohaamaaDoorDCM
import Derived.Test.YtbeemjiaohaamaaDoorZCM
namespace Go.Ab
open Go Go.Proofs Go.RowKit
set_option linter.unusedSimpArgs false
set_option linter.unusedVariables false

def K_f157 : CallK := kNil
theorem K_f157_ok : KOK C prim K_f157 := KOK.nil
def T_f157 : Tab := tNil
theorem T_f157_ok : TOK C prim 157 T_f157 := TOK.nil
def f157 (s : ByteArray) : Option (V × List Rg) :=
  bif (decide (((s.size : Nat) : Int) ≥ 1)) then
    bif ((((decide ((0 : Int) ≤ (IntKind.wrap .i64 (((s.size : Nat) : Int) - 1)))) && (decide ((IntKind.wrap .i64 (((s.size : Nat) : Int) - 1)) ≤ ((s.size : Nat) : Int)))) && true) && true) then
      some (.sc (.bool (strEq (s.extract ((IntKind.wrap .i64 (((s.size : Nat) : Int) - 1))).toNat (((s.size : Nat) : Int)).toNat) (⟨#[10]⟩ : ByteArray))), [])
    else none
  else
    some (.sc (.bool false), [])
theorem f157_run (s : ByteArray) (z9 : V × List Rg) (h : f157 s = some z9) : CallR C prim 157 [.sc (.string s), .sc (.string ⟨#[10]⟩)] [] z9 := by
  refine call_fn (K := K_f157) (T := T_f157) K_f157_ok T_f157_ok (by kernel_rfl) ?_
  refine Eq.trans ?_ h
  kernel_rfl

theorem f157_eq (s : ByteArray) (hp : (decide (s.size ≤ 1000000000)) = true) : f157 s = some (.sc (.bool (endNl s)), []) := by
  simp only [decide_eq_true_eq] at hp
  unfold f157
  rcases snoc_cases s.data.toList with h | ⟨t, b, h⟩
  · have hs : s.size = 0 := by rw [bl_size, h]; rfl
    rw [end_nil s h, hs]; rfl
  · have hs : s.size = t.length + 1 := by rw [bl_size, h]; simp
    have e1 : IntKind.wrap .i64 (((s.size : Nat) : Int) - 1) = ((t.length : Nat) : Int) := by rw [wrap_id (by omega) (by omega)]; omega
    have e : s.extract t.length (t.length + 1) = ⟨#[b]⟩ := ba_ext (by rw [bl_extract, h, List.take_of_length_le (by simp)]; simp)
    rw [end_snoc s h, e1, dec_true (show ((s.size : Nat) : Int) ≥ 1 by omega), dec_true (show (0 : Int) ≤ ((t.length : Nat) : Int) by omega), dec_true (show ((t.length : Nat) : Int) ≤ ((s.size : Nat) : Int) by omega), Int.toNat_natCast, Int.toNat_natCast, hs, e]
    have : strEq (⟨#[b]⟩ : ByteArray) ⟨#[10]⟩ = (b == 10) := by
      rw [Bool.eq_iff_iff, strEq_iff]
      constructor
      · intro h'
        have := congrArg (fun x : ByteArray => x.data.toList) h'
        simpa using this
      · intro h'
        rw [beq_iff_eq] at h'
        rw [h']
    rw [this]
    rfl
def k157 : PrimT := fun vs gs => match vs, gs with
  | [.sc (.string s), .sc (.string q1)], [] => ((strEq q1 (⟨#[10]⟩ : ByteArray) && (decide (s.size ≤ 1000000000))), .sc (.bool (endNl s)), [])
  | _, _ => (false, .bad, [])
theorem k157_ok : ∀ vs gs x, k157 vs gs = (true, x) → CallR C prim 157 vs gs x := by
  intro vs gs x h
  unfold k157 at h
  split at h
  · simp only [Prod.mk.injEq] at h
    obtain ⟨hp, rfl⟩ := h
    rw [Bool.and_eq_true] at hp
    obtain ⟨hq, hp⟩ := hp
    obtain rfl := (strEq_iff _ _).1 hq
    exact f157_run _ _ (f157_eq _ hp)
  · cases h

def K_f131 : CallK := kCons 157 k157 <| kNil
theorem K_f131_ok : KOK C prim K_f131 := KOK.cons k157_ok <| KOK.nil
def T_f131 : Tab := tNil
theorem T_f131_ok : TOK C prim 131 T_f131 := TOK.nil
def f131 (s : ByteArray) : Option (V × List Rg) :=
  bif ((decide (s.size ≤ 1000000000)) && true) then
    bif (endNl s) then
      bif ((((decide ((0 : Int) ≤ (IntKind.wrap .i64 (((s.size : Nat) : Int) - 1)))) && (decide ((IntKind.wrap .i64 (((s.size : Nat) : Int) - 1)) ≤ ((s.size : Nat) : Int)))) && true) && true) then
        some (.sc (.string (s.extract 0 ((IntKind.wrap .i64 (((s.size : Nat) : Int) - 1))).toNat)), [])
      else none
    else
      some (.sc (.string s), [])
  else none
theorem f131_run (s : ByteArray) (z9 : V × List Rg) (h : f131 s = some z9) : CallR C prim 131 [.sc (.string s), .sc (.string ⟨#[10]⟩)] [] z9 := by
  refine call_fn (K := K_f131) (T := T_f131) K_f131_ok T_f131_ok (by kernel_rfl) ?_
  refine Eq.trans ?_ h
  kernel_rfl

theorem endNl_pos (s : ByteArray) (h : endNl s = true) : 1 ≤ s.size := by
  rcases snoc_cases s.data.toList with h' | ⟨t, b, h'⟩
  · rw [end_nil s h'] at h; cases h
  · rw [bl_size, h']; simp
theorem f131_eq (s : ByteArray) (hp : (decide (s.size ≤ 1000000000)) = true) : f131 s = some (.sc (.string (trimNl s)), []) := by
  have hq := hp
  simp only [decide_eq_true_eq] at hp
  unfold f131 trimNl
  rw [hq]
  cases h : endNl s with
  | false => rfl
  | true =>
    have h1 := endNl_pos s h
    rw [wrap_id (n := ((s.size : Nat) : Int) - 1) (by omega) (by omega), dec_true (show (0 : Int) ≤ ((s.size : Nat) : Int) - 1 by omega), dec_true (show ((s.size : Nat) : Int) - 1 ≤ ((s.size : Nat) : Int) by omega), show ((s.size : Int) - 1).toNat = s.size - 1 by omega]
    rfl
def k131 : PrimT := fun vs gs => match vs, gs with
  | [.sc (.string s), .sc (.string q1)], [] => ((strEq q1 (⟨#[10]⟩ : ByteArray) && (decide (s.size ≤ 1000000000))), .sc (.string (trimNl s)), [])
  | _, _ => (false, .bad, [])
theorem k131_ok : ∀ vs gs x, k131 vs gs = (true, x) → CallR C prim 131 vs gs x := by
  intro vs gs x h
  unfold k131 at h
  split at h
  · simp only [Prod.mk.injEq] at h
    obtain ⟨hp, rfl⟩ := h
    rw [Bool.and_eq_true] at hp
    obtain ⟨hq, hp⟩ := hp
    obtain rfl := (strEq_iff _ _).1 hq
    exact f131_run _ _ (f131_eq _ hp)
  · cases h

def K_f95 : CallK := kCons 131 k131 <| kNil
theorem K_f95_ok : KOK C prim K_f95 := KOK.cons k131_ok <| KOK.nil
def T_f95 : Tab := tNil
theorem T_f95_ok : TOK C prim 95 T_f95 := TOK.nil
def f95 (s : ByteArray) : Option (V × List Rg) :=
  bif ((decide (s.size ≤ 1000000000)) && true) then
    some (.sc (.string (trimNl s)), [])
  else none
theorem f95_run (s : ByteArray) (z9 : V × List Rg) (h : f95 s = some z9) : CallR C prim 95 [.sc (.string s), .sc (.string ⟨#[10]⟩)] [] z9 := by
  refine call_fn (K := K_f95) (T := T_f95) K_f95_ok T_f95_ok (by kernel_rfl) ?_
  refine Eq.trans ?_ h
  kernel_rfl

theorem f95_eq (s : ByteArray) (hp : (decide (s.size ≤ 1000000000)) = true) : f95 s = some (.sc (.string (trimNl s)), []) := by
  unfold f95
  rw [hp]
  rfl
def k95 : PrimT := fun vs gs => match vs, gs with
  | [.sc (.string s), .sc (.string q1)], [] => ((strEq q1 (⟨#[10]⟩ : ByteArray) && (decide (s.size ≤ 1000000000))), .sc (.string (trimNl s)), [])
  | _, _ => (false, .bad, [])
theorem k95_ok : ∀ vs gs x, k95 vs gs = (true, x) → CallR C prim 95 vs gs x := by
  intro vs gs x h
  unfold k95 at h
  split at h
  · simp only [Prod.mk.injEq] at h
    obtain ⟨hp, rfl⟩ := h
    rw [Bool.and_eq_true] at hp
    obtain ⟨hq, hp⟩ := hp
    obtain rfl := (strEq_iff _ _).1 hq
    exact f95_run _ _ (f95_eq _ hp)
  · cases h

def K_f88 : CallK := kCons 121 k121 <| kNil
theorem K_f88_ok : KOK C prim K_f88 := KOK.cons k121_ok <| KOK.nil
def T_f88 : Tab := tNil
theorem T_f88_ok : TOK C prim 88 T_f88 := TOK.nil
def f88 (s : ByteArray) : Option (V × List Rg) :=
  bif (strEq (⟨#[10]⟩ : ByteArray) s) then
    some (.sc (.int .i64 0), [])
  else
    some (.sc (.int .i64 (idxB s 10)), [])
theorem f88_run (s : ByteArray) (z9 : V × List Rg) (h : f88 s = some z9) : CallR C prim 88 [.sc (.string s), .sc (.string ⟨#[10]⟩)] [] z9 := by
  refine call_fn (K := K_f88) (T := T_f88) K_f88_ok T_f88_ok (by kernel_rfl) ?_
  refine Eq.trans ?_ h
  kernel_rfl

theorem f88_eq (s : ByteArray) : f88 s = some (.sc (.int .i64 (idxB s 10)), []) := by
  unfold f88
  cases h : strEq (⟨#[10]⟩ : ByteArray) s with
  | false => rfl
  | true =>
    rw [strEq_iff] at h
    subst h
    rfl
def k88 : PrimT := fun vs gs => match vs, gs with
  | [.sc (.string s), .sc (.string q1)], [] => ((strEq q1 (⟨#[10]⟩ : ByteArray) && true), .sc (.int .i64 (idxB s 10)), [])
  | _, _ => (false, .bad, [])
theorem k88_ok : ∀ vs gs x, k88 vs gs = (true, x) → CallR C prim 88 vs gs x := by
  intro vs gs x h
  unfold k88 at h
  split at h
  · simp only [Prod.mk.injEq] at h
    obtain ⟨hp, rfl⟩ := h
    rw [Bool.and_eq_true] at hp
    obtain ⟨hq, hp⟩ := hp
    obtain rfl := (strEq_iff _ _).1 hq
    exact f88_run _ _ (f88_eq _)
  · cases h

def K_f46 : CallK := kCons 88 k88 <| kNil
theorem K_f46_ok : KOK C prim K_f46 := KOK.cons k88_ok <| KOK.nil
def T_f46 : Tab := tNil
theorem T_f46_ok : TOK C prim 46 T_f46 := TOK.nil
def f46 (s : ByteArray) : Option (V × List Rg) :=
  some (.sc (.int .i64 (idxB s 10)), [])
theorem f46_run (s : ByteArray) (z9 : V × List Rg) (h : f46 s = some z9) : CallR C prim 46 [.sc (.string s), .sc (.string ⟨#[10]⟩)] [] z9 := by
  refine call_fn (K := K_f46) (T := T_f46) K_f46_ok T_f46_ok (by kernel_rfl) ?_
  refine Eq.trans ?_ h
  kernel_rfl

def k46 : PrimT := fun vs gs => match vs, gs with
  | [.sc (.string s), .sc (.string sep)], [] => (isNl sep, .sc (.int .i64 (idxB s 10)), [])
  | _, _ => (false, .bad, [])
theorem k46_ok : ∀ vs gs x, k46 vs gs = (true, x) → CallR C prim 46 vs gs x := by
  intro vs gs x h
  unfold k46 at h
  split at h
  · next s sep =>
    simp only [Prod.mk.injEq] at h
    obtain ⟨hp, rfl⟩ := h
    rw [isNl_eq hp]
    exact f46_run s _ rfl
  · cases h

def K_f130_l0 : CallK := kCons 46 k46 <| kNil
theorem K_f130_l0_ok : KOK C prim K_f130_l0 := KOK.cons k46_ok <| KOK.nil
def T_f130_l0 : Tab := tNil
theorem T_f130_l0_ok : TOK C prim 130 T_f130_l0 := TOK.nil
def f130_l0 : Nat → ByteArray → ByteArray → Int → Int → Int → List V → (R : Type) → (Ex → St → Option R) → Option R
  | 0, _, _, _, _, _, _, _, _ => none
  | n + 1, s, sep, sepSave, n', i, a, R, κ =>
    bif (decide (i < n')) then
      bif ((isNl sep) && true) then
        bif (decide ((idxB s 10) < 0)) then
          κ (.ex 0) (mkS [(0, .sc (.string s)), (8, .bad), (9, .ref ⟨.loc 9, 0, [], 9, false⟩), (10, .sc (.int .i64 i))] [(.loc 9, some ⟨false, [.own 9 false a]⟩)])
        else
          bif ((((decide ((0 : Int) ≤ (IntKind.wrap .i64 ((idxB s 10) + sepSave)))) && (decide ((IntKind.wrap .i64 ((idxB s 10) + sepSave)) ≤ ((s.size : Nat) : Int)))) && true) && true) then
            bif (((decide ((0 : Int) ≤ i)) && (decide (i < ((a.length : Nat) : Int)))) && true) then
              bif ((((decide ((0 : Int) ≤ (IntKind.wrap .i64 ((idxB s 10) + ((sep.size : Nat) : Int))))) && (decide ((IntKind.wrap .i64 ((idxB s 10) + ((sep.size : Nat) : Int))) ≤ ((s.size : Nat) : Int)))) && true) && true) then
                f130_l0 n (s.extract ((IntKind.wrap .i64 ((idxB s 10) + ((sep.size : Nat) : Int)))).toNat (((s.size : Nat) : Int)).toNat) sep sepSave n' (IntKind.wrap .i64 (i + 1)) (a.set (((i).toNat * 1) + 0) (.sc (.string (s.extract 0 ((IntKind.wrap .i64 ((idxB s 10) + sepSave))).toNat)))) R κ
              else none
            else none
          else none
      else none
    else
      κ (.ex 0) (mkS [(0, .sc (.string s)), (8, .bad), (9, .ref ⟨.loc 9, 0, [], 9, false⟩), (10, .sc (.int .i64 i))] [(.loc 9, some ⟨false, [.own 9 false a]⟩)])
def f130_l0_ls : List (Nat × Pat) := [(0, .s), (1, .s), (2, .i .i64), (3, .i .i64), (9, .is (.ref ⟨.loc 9, 0, [], 9, false⟩)), (10, .i .i64)]
def f130_l0_rs : List RPat := [⟨.loc 9, false, [.own 9 false]⟩]
theorem f130_l0_ok (n : Nat) : ∀ (s : ByteArray) (sep : ByteArray) (sepSave : Int) (n' : Int) (i : Int) (a : List V) (R : Type) (κ : Ex → St → Option R) (r : R), f130_l0 n s sep sepSave n' i a R κ = some r → ∃ ee ss, κ ee ss = some r ∧ RunP C prim 130 [0, 0, 1, 1, 1, 1, 1, 1, 1, 1] (mkS [(0, .sc (.string s)), (1, .sc (.string sep)), (2, .sc (.int .i64 sepSave)), (3, .sc (.int .i64 n')), (9, .ref ⟨.loc 9, 0, [], 9, false⟩), (10, .sc (.int .i64 i))] [(.loc 9, some ⟨false, [.own 9 false a]⟩)]) ee ss := by
  induction n with
  | zero => intro s sep sepSave n' i a R κ r h; cases h
  | succ n ih =>
    intro s sep sepSave n' i a R κ r h
    refine loop_round (K := K_f130_l0) (T := T_f130_l0) K_f130_l0_ok T_f130_l0_ok (p := [0, 0, 1, 1, 1, 1, 1, 1, 1, 1]) (by kernel_rfl) (fun st => bif ckS f130_l0_ls f130_l0_rs st then f130_l0 n ((st.env 0).strOf) ((st.env 1).strOf) ((st.env 2).intOf) ((st.env 3).intOf) ((st.env 10).intOf) ((nthV (rowOf (st.regs (.loc 9))) 0).cellsOf) R κ else none) (fun st0 h0 => ?_) ?_
    · obtain ⟨hs, h0⟩ := cond_some h0
      rw [canon (ls := f130_l0_ls) (rs := f130_l0_rs) (by kernel_rfl) st0 hs]
      exact ih _ _ _ _ _ _ R κ r h0
    · refine Eq.trans ?_ h
      kernel_rfl

def f130_s0 (s : ByteArray) (sep : ByteArray) (sepSave : Int) (n' : Int) (i : Int) (a : List V) (R : Type) (κ : Ex → St → Option R) : Option R :=
  κ (.ex 0) (mkS [(0, .sc (.string (lastP s))), (8, .bad), (9, .ref ⟨.loc 9, 0, [], 9, false⟩), (10, .sc (.int .i64 n'))] [(.loc 9, some ⟨false, [.own 9 false (headP s ++ a.drop n'.toNat)]⟩)])
theorem idx_len (s : ByteArray) : ((headP s).length = 0 → idxB s 10 < 0) ∧ (0 < (headP s).length → ∃ m : Nat, idxB s 10 = (m : Int) ∧ m < s.size ∧ headP s = strV (s.data.toList.take m) :: headP (s.extract (m + 1) s.size) ∧ lastP s = lastP (s.extract (m + 1) s.size)) := by
  have hd : ∀ m : Nat, (s.extract (m + 1) s.size).data.toList = s.data.toList.drop (m + 1) := by
    intro m
    rw [bl_extract, List.take_of_length_le (by rw [bl_size]; exact Nat.le_refl _)]
  have hx : idxB s 10 = Lib.indexByte s.data.toList 10 := rfl
  constructor
  · intro h
    rw [hx]
    rcases (show Lib.indexByte s.data.toList 10 < 0 ∨ 0 ≤ Lib.indexByte s.data.toList 10 by omega) with h' | h'
    · exact h'
    · obtain ⟨h1, _, _⟩ := head_idx s.data.toList [] (Lib.indexByte s.data.toList 10).toNat (by omega)
      unfold headP at h
      rw [h1] at h
      cases h
  · intro h
    obtain ⟨m, hm⟩ := head_pos s.data.toList [] h
    obtain ⟨h1, h2, h3⟩ := head_idx s.data.toList [] m hm
    refine ⟨m, by rw [hx]; exact hm, by rw [bl_size]; exact h3, ?_, ?_⟩
    · unfold headP
      rw [h1, hd]
      rfl
    · unfold lastP
      rw [h2, hd]
theorem last_neg (s : ByteArray) (h : (headP s).length = 0) : headP s = [] ∧ lastP s = s := by
  have h1 : Lib.indexByte s.data.toList 10 < 0 := (idx_len s).1 h
  obtain ⟨h2, h3⟩ := head_neg s.data.toList [] h1
  refine ⟨h2, ba_ext ?_⟩
  unfold lastP
  rw [h3]
  simp
theorem f130_loop (sep : ByteArray) (hsep : isNl sep = true) (N : Nat) (hN : N ≤ 1000000000) (R : Type) (κ : Ex → St → Option R) : ∀ (k : Nat) (s : ByteArray) (i : Nat) (a : List V), (headP s).length = k → i + k = N → a.length = N + 1 → s.size ≤ 1000000000 →
    f130_l0 (k + 1) s sep 0 ((N : Nat) : Int) ((i : Nat) : Int) a R κ = κ (.ex 0) (mkS [(0, .sc (.string (lastP s))), (8, .bad), (9, .ref ⟨.loc 9, 0, [], 9, false⟩), (10, .sc (.int .i64 ((N : Nat) : Int)))] [(.loc 9, some ⟨false, [.own 9 false (a.take i ++ (headP s ++ a.drop N))]⟩)])
  | 0, s, i, a, h, h1, h2, h3 => by
    obtain ⟨h4, h5⟩ := last_neg s h
    obtain rfl : i = N := by omega
    rw [f130_l0, dec_false (by omega), cond_false, h4, h5, List.nil_append, List.take_append_drop]
  | k + 1, s, i, a, h, h1, h2, h3 => by
    obtain ⟨m, g1, g2, g3, g4⟩ := (idx_len s).2 (by omega)
    have hz : (sep.size : Nat) = 1 := by rw [isNl_eq hsep]; rfl
    have hk : (headP (s.extract (m + 1) s.size)).length = k := by rw [g3] at h; simpa using h
    have hs : (s.extract (m + 1) s.size).size ≤ 1000000000 := by rw [bl_size, bl_extract, List.length_drop, List.length_take]; rw [bl_size] at h3; omega
    have IH := f130_loop sep hsep N hN R κ k (s.extract (m + 1) s.size) (i + 1) (a.set i (strV (s.data.toList.take m))) hk (by omega) (by rw [List.length_set]; exact h2) hs
    rw [f130_l0, dec_true (show ((i : Nat) : Int) < ((N : Nat) : Int) by omega), hsep, g1, dec_false (show ¬ ((m : Nat) : Int) < 0 by omega), Int.add_zero, wrap_id (n := ((m : Nat) : Int)) (by omega) (by omega), hz, wrap_id (n := ((m : Nat) : Int) + ((1 : Nat) : Int)) (by omega) (by omega), wrap_succ (by omega), dec_true (show (0 : Int) ≤ ((m : Nat) : Int) by omega), dec_true (show ((m : Nat) : Int) ≤ ((s.size : Nat) : Int) by omega), dec_true (show (0 : Int) ≤ ((i : Nat) : Int) by omega), dec_true (show ((i : Nat) : Int) < ((a.length : Nat) : Int) by omega), dec_true (show (0 : Int) ≤ ((m : Nat) : Int) + ((1 : Nat) : Int) by omega), dec_true (show ((m : Nat) : Int) + ((1 : Nat) : Int) ≤ ((s.size : Nat) : Int) by omega)]
    simp only [Bool.and_self, cond_true, cond_false, Int.toNat_natCast, Nat.mul_one, Nat.add_zero, strV_extract s 0 m, List.drop_zero, show (((m : Nat) : Int) + ((1 : Nat) : Int)).toNat = m + 1 by omega, IH, g4]
    have : (a.set i (strV (s.data.toList.take m))).take (i + 1) ++ (headP (s.extract (m + 1) s.size) ++ (a.set i (strV (s.data.toList.take m))).drop N) = a.take i ++ (headP s ++ a.drop N) := by
      rw [g3, List.take_add_one, List.take_set_of_le (by omega), List.getElem?_set_self (by omega), List.drop_set_of_lt (by omega)]
      simp
    rw [this]
theorem f130_s0_eq (s : ByteArray) (sep : ByteArray) (sepSave : Int) (n' : Int) (i : Int) (a : List V) (hp : (isNl sep && (sepSave == 0) && (i == 0) && (n' == cntN s) && decide ((a.length : Int) = n' + 1) && decide (s.size ≤ 1000000000)) = true) : ∃ n, ∀ (R : Type) (κ : Ex → St → Option R), f130_l0 n s sep sepSave n' i a R κ = f130_s0 s sep sepSave n' i a R κ := by
  simp only [Bool.and_eq_true, decide_eq_true_eq, beq_iff_eq] at hp
  obtain ⟨⟨⟨⟨⟨g1, rfl⟩, rfl⟩, rfl⟩, g5⟩, g6⟩ := hp
  have hN := headP_le s
  refine ⟨(headP s).length + 1, fun R κ => ?_⟩
  unfold cntN at *
  have := f130_loop sep g1 (headP s).length (by omega) R κ (headP s).length s 0 a rfl (by omega) (by omega) g6
  rw [f130_s0, Int.toNat_natCast]
  exact this
def t_f130_l0 (st : St) (R : Type) (κ : Ex → St → Option R) : Option R := bif ckS f130_l0_ls f130_l0_rs st then (bif (isNl ((st.env 1).strOf) && (((st.env 2).intOf) == 0) && (((st.env 10).intOf) == 0) && (((st.env 3).intOf) == cntN ((st.env 0).strOf)) && decide ((((nthV (rowOf (st.regs (.loc 9))) 0).cellsOf).length : Int) = ((st.env 3).intOf) + 1) && decide (((st.env 0).strOf).size ≤ 1000000000)) then f130_s0 ((st.env 0).strOf) ((st.env 1).strOf) ((st.env 2).intOf) ((st.env 3).intOf) ((st.env 10).intOf) ((nthV (rowOf (st.regs (.loc 9))) 0).cellsOf) R κ else none) else none
theorem t_f130_l0_ok : ∀ st0 R κ r, t_f130_l0 (forget C 130 [0, 0, 1, 1, 1, 1, 1, 1, 1, 1] st0) R κ = some r → ∃ ee ss, κ ee ss = some r ∧ RunP C prim 130 [0, 0, 1, 1, 1, 1, 1, 1, 1, 1] (forget C 130 [0, 0, 1, 1, 1, 1, 1, 1, 1, 1] st0) ee ss := by
  intro st0 R κ r h
  obtain ⟨hs, h⟩ := cond_some h
  obtain ⟨hp, h⟩ := cond_some h
  rw [canon (ls := f130_l0_ls) (rs := f130_l0_rs) (by kernel_rfl) st0 hs]
  obtain ⟨n, hn⟩ := f130_s0_eq _ _ _ _ _ _ hp
  rw [← hn] at h
  exact f130_l0_ok n _ _ _ _ _ _ R κ r h

def K_f130 : CallK := kCons 73 k73 <| kNil
theorem K_f130_ok : KOK C prim K_f130 := KOK.cons k73_ok <| KOK.nil
def T_f130 : Tab := tCons [0, 0, 1, 1, 1, 1, 1, 1, 1, 1] t_f130_l0 <| tNil
theorem T_f130_ok : TOK C prim 130 T_f130 := TOK.cons t_f130_l0_ok <| TOK.nil
def f130 (s : ByteArray) : Option (V × List Rg) :=
  bif ((((((((((decide ((0 : Int) ≤ (bif (decide ((IntKind.wrap .i64 (((s.size : Nat) : Int) + 1)) < (IntKind.wrap .i64 ((cntB s (⟨#[10]⟩ : ByteArray)) + 1)))) then (IntKind.wrap .i64 (((s.size : Nat) : Int) + 1)) else (IntKind.wrap .i64 ((cntB s (⟨#[10]⟩ : ByteArray)) + 1))))) && (decide ((bif (decide ((IntKind.wrap .i64 (((s.size : Nat) : Int) + 1)) < (IntKind.wrap .i64 ((cntB s (⟨#[10]⟩ : ByteArray)) + 1)))) then (IntKind.wrap .i64 (((s.size : Nat) : Int) + 1)) else (IntKind.wrap .i64 ((cntB s (⟨#[10]⟩ : ByteArray)) + 1))) ≤ (bif (decide ((IntKind.wrap .i64 (((s.size : Nat) : Int) + 1)) < (IntKind.wrap .i64 ((cntB s (⟨#[10]⟩ : ByteArray)) + 1)))) then (IntKind.wrap .i64 (((s.size : Nat) : Int) + 1)) else (IntKind.wrap .i64 ((cntB s (⟨#[10]⟩ : ByteArray)) + 1)))))) && true) && true) && true) && true) && true) && (roomy (((bif (decide ((IntKind.wrap .i64 (((s.size : Nat) : Int) + 1)) < (IntKind.wrap .i64 ((cntB s (⟨#[10]⟩ : ByteArray)) + 1)))) then (IntKind.wrap .i64 (((s.size : Nat) : Int) + 1)) else (IntKind.wrap .i64 ((cntB s (⟨#[10]⟩ : ByteArray)) + 1)))).toNat * 16))) && (roomy ((bif (decide ((IntKind.wrap .i64 (((s.size : Nat) : Int) + 1)) < (IntKind.wrap .i64 ((cntB s (⟨#[10]⟩ : ByteArray)) + 1)))) then (IntKind.wrap .i64 (((s.size : Nat) : Int) + 1)) else (IntKind.wrap .i64 ((cntB s (⟨#[10]⟩ : ByteArray)) + 1)))).toNat)) && true) then
    bif (isNl (⟨#[10]⟩ : ByteArray) && ((0 : Int) == 0) && ((0 : Int) == 0) && ((IntKind.wrap .i64 ((bif (decide ((IntKind.wrap .i64 (((s.size : Nat) : Int) + 1)) < (IntKind.wrap .i64 ((cntB s (⟨#[10]⟩ : ByteArray)) + 1)))) then (IntKind.wrap .i64 (((s.size : Nat) : Int) + 1)) else (IntKind.wrap .i64 ((cntB s (⟨#[10]⟩ : ByteArray)) + 1))) - 1)) == cntN s) && decide ((((List.replicate ((bif (decide ((IntKind.wrap .i64 (((s.size : Nat) : Int) + 1)) < (IntKind.wrap .i64 ((cntB s (⟨#[10]⟩ : ByteArray)) + 1)))) then (IntKind.wrap .i64 (((s.size : Nat) : Int) + 1)) else (IntKind.wrap .i64 ((cntB s (⟨#[10]⟩ : ByteArray)) + 1)))).toNat ([.sc (.string ⟨#[]⟩)] : List V)).flatten).length : Int) = (IntKind.wrap .i64 ((bif (decide ((IntKind.wrap .i64 (((s.size : Nat) : Int) + 1)) < (IntKind.wrap .i64 ((cntB s (⟨#[10]⟩ : ByteArray)) + 1)))) then (IntKind.wrap .i64 (((s.size : Nat) : Int) + 1)) else (IntKind.wrap .i64 ((cntB s (⟨#[10]⟩ : ByteArray)) + 1))) - 1)) + 1) && decide (s.size ≤ 1000000000)) then
      bif (((decide ((0 : Int) ≤ (IntKind.wrap .i64 ((bif (decide ((IntKind.wrap .i64 (((s.size : Nat) : Int) + 1)) < (IntKind.wrap .i64 ((cntB s (⟨#[10]⟩ : ByteArray)) + 1)))) then (IntKind.wrap .i64 (((s.size : Nat) : Int) + 1)) else (IntKind.wrap .i64 ((cntB s (⟨#[10]⟩ : ByteArray)) + 1))) - 1)))) && (decide ((IntKind.wrap .i64 ((bif (decide ((IntKind.wrap .i64 (((s.size : Nat) : Int) + 1)) < (IntKind.wrap .i64 ((cntB s (⟨#[10]⟩ : ByteArray)) + 1)))) then (IntKind.wrap .i64 (((s.size : Nat) : Int) + 1)) else (IntKind.wrap .i64 ((cntB s (⟨#[10]⟩ : ByteArray)) + 1))) - 1)) < ((((headP s ++ ((List.replicate ((bif (decide ((IntKind.wrap .i64 (((s.size : Nat) : Int) + 1)) < (IntKind.wrap .i64 ((cntB s (⟨#[10]⟩ : ByteArray)) + 1)))) then (IntKind.wrap .i64 (((s.size : Nat) : Int) + 1)) else (IntKind.wrap .i64 ((cntB s (⟨#[10]⟩ : ByteArray)) + 1)))).toNat ([.sc (.string ⟨#[]⟩)] : List V)).flatten).drop (IntKind.wrap .i64 ((bif (decide ((IntKind.wrap .i64 (((s.size : Nat) : Int) + 1)) < (IntKind.wrap .i64 ((cntB s (⟨#[10]⟩ : ByteArray)) + 1)))) then (IntKind.wrap .i64 (((s.size : Nat) : Int) + 1)) else (IntKind.wrap .i64 ((cntB s (⟨#[10]⟩ : ByteArray)) + 1))) - 1)).toNat)).length : Nat) : Int)))) && true) then
        bif (((((decide ((0 : Int) ≤ (IntKind.wrap .i64 ((IntKind.wrap .i64 ((bif (decide ((IntKind.wrap .i64 (((s.size : Nat) : Int) + 1)) < (IntKind.wrap .i64 ((cntB s (⟨#[10]⟩ : ByteArray)) + 1)))) then (IntKind.wrap .i64 (((s.size : Nat) : Int) + 1)) else (IntKind.wrap .i64 ((cntB s (⟨#[10]⟩ : ByteArray)) + 1))) - 1)) + 1)))) && (decide ((IntKind.wrap .i64 ((IntKind.wrap .i64 ((bif (decide ((IntKind.wrap .i64 (((s.size : Nat) : Int) + 1)) < (IntKind.wrap .i64 ((cntB s (⟨#[10]⟩ : ByteArray)) + 1)))) then (IntKind.wrap .i64 (((s.size : Nat) : Int) + 1)) else (IntKind.wrap .i64 ((cntB s (⟨#[10]⟩ : ByteArray)) + 1))) - 1)) + 1)) ≤ (((((headP s ++ ((List.replicate ((bif (decide ((IntKind.wrap .i64 (((s.size : Nat) : Int) + 1)) < (IntKind.wrap .i64 ((cntB s (⟨#[10]⟩ : ByteArray)) + 1)))) then (IntKind.wrap .i64 (((s.size : Nat) : Int) + 1)) else (IntKind.wrap .i64 ((cntB s (⟨#[10]⟩ : ByteArray)) + 1)))).toNat ([.sc (.string ⟨#[]⟩)] : List V)).flatten).drop (IntKind.wrap .i64 ((bif (decide ((IntKind.wrap .i64 (((s.size : Nat) : Int) + 1)) < (IntKind.wrap .i64 ((cntB s (⟨#[10]⟩ : ByteArray)) + 1)))) then (IntKind.wrap .i64 (((s.size : Nat) : Int) + 1)) else (IntKind.wrap .i64 ((cntB s (⟨#[10]⟩ : ByteArray)) + 1))) - 1)).toNat).set ((((IntKind.wrap .i64 ((bif (decide ((IntKind.wrap .i64 (((s.size : Nat) : Int) + 1)) < (IntKind.wrap .i64 ((cntB s (⟨#[10]⟩ : ByteArray)) + 1)))) then (IntKind.wrap .i64 (((s.size : Nat) : Int) + 1)) else (IntKind.wrap .i64 ((cntB s (⟨#[10]⟩ : ByteArray)) + 1))) - 1))).toNat * 1) + 0) (.sc (.string (lastP s))))).length : Nat) : Int)))) && true) && true) && true) then
          some (.own 9 false (((headP s ++ ((List.replicate ((bif (decide ((IntKind.wrap .i64 (((s.size : Nat) : Int) + 1)) < (IntKind.wrap .i64 ((cntB s (⟨#[10]⟩ : ByteArray)) + 1)))) then (IntKind.wrap .i64 (((s.size : Nat) : Int) + 1)) else (IntKind.wrap .i64 ((cntB s (⟨#[10]⟩ : ByteArray)) + 1)))).toNat ([.sc (.string ⟨#[]⟩)] : List V)).flatten).drop (IntKind.wrap .i64 ((bif (decide ((IntKind.wrap .i64 (((s.size : Nat) : Int) + 1)) < (IntKind.wrap .i64 ((cntB s (⟨#[10]⟩ : ByteArray)) + 1)))) then (IntKind.wrap .i64 (((s.size : Nat) : Int) + 1)) else (IntKind.wrap .i64 ((cntB s (⟨#[10]⟩ : ByteArray)) + 1))) - 1)).toNat).set ((((IntKind.wrap .i64 ((bif (decide ((IntKind.wrap .i64 (((s.size : Nat) : Int) + 1)) < (IntKind.wrap .i64 ((cntB s (⟨#[10]⟩ : ByteArray)) + 1)))) then (IntKind.wrap .i64 (((s.size : Nat) : Int) + 1)) else (IntKind.wrap .i64 ((cntB s (⟨#[10]⟩ : ByteArray)) + 1))) - 1))).toNat * 1) + 0) (.sc (.string (lastP s)))).take (((IntKind.wrap .i64 ((IntKind.wrap .i64 ((bif (decide ((IntKind.wrap .i64 (((s.size : Nat) : Int) + 1)) < (IntKind.wrap .i64 ((cntB s (⟨#[10]⟩ : ByteArray)) + 1)))) then (IntKind.wrap .i64 (((s.size : Nat) : Int) + 1)) else (IntKind.wrap .i64 ((cntB s (⟨#[10]⟩ : ByteArray)) + 1))) - 1)) + 1))).toNat * 1)), [])
        else none
      else none
    else none
  else none
theorem f130_run (s : ByteArray) (z9 : V × List Rg) (h : f130 s = some z9) : CallR C prim 130 [.sc (.string s), .sc (.string ⟨#[10]⟩), .sc (.int .i64 0), .sc (.int .i64 (-1))] [] z9 := by
  refine call_fn (K := K_f130) (T := T_f130) K_f130_ok T_f130_ok (by kernel_rfl) ?_
  refine Eq.trans ?_ h
  kernel_rfl

theorem cntB_nl (s : ByteArray) : cntB s (⟨#[10]⟩ : ByteArray) = (((headP s).length : Nat) : Int) := by
  unfold headP
  rw [head_len]
  rfl
theorem rep_flat {α : Type} (n : Nat) (x : α) : (List.replicate n [x]).flatten = List.replicate n x := by
  induction n with
  | zero => rfl
  | succ n ih => rw [List.replicate_succ, List.flatten_cons, ih, List.replicate_succ]; rfl
theorem f130_eq (s : ByteArray) (hp : (decide (s.size ≤ 1000000000)) = true) : f130 s = some (.own 9 false (splitV s), []) := by
  simp only [decide_eq_true_eq] at hp
  have hN := headP_le s
  have hw2 : IntKind.wrap .i64 (((s.size : Nat) : Int) + 1) = ((s.size + 1 : Nat) : Int) := wrap_succ (by omega)
  have hw1 : IntKind.wrap .i64 ((((headP s).length : Nat) : Int) + 1) = (((headP s).length + 1 : Nat) : Int) := wrap_succ (by omega)
  have hlt : decide (((s.size + 1 : Nat) : Int) < (((headP s).length + 1 : Nat) : Int)) = false := dec_false (by omega)
  have hw3 : IntKind.wrap .i64 ((((headP s).length + 1 : Nat) : Int) - 1) = (((headP s).length : Nat) : Int) := by rw [wrap_id (by omega) (by omega)]; omega
  unfold f130
  simp only [cntB_nl, hw1, hw2, hlt, cond_false, hw3, Int.toNat_natCast, rep_flat, List.length_replicate, List.drop_replicate, Nat.mul_one, Nat.add_zero]
  have e1 : (headP s).length + 1 - (headP s).length = 1 := by omega
  have e2 : (headP s ++ List.replicate 1 (V.sc (.string ⟨#[]⟩))).set (headP s).length (.sc (.string (lastP s))) = splitV s := by
    rw [List.set_append_right _ _ (Nat.le_refl _), Nat.sub_self]
    rfl
  have e3 : (splitV s).length = (headP s).length + 1 := by unfold splitV; simp
  have e4 : (headP s ++ List.replicate 1 (V.sc (.string ⟨#[]⟩))).length = (headP s).length + 1 := by simp
  rw [e1, e2, e4, e3, List.take_of_length_le (by omega)]
  have r1 : roomy (((headP s).length + 1) * 16) = true := dec_true (by omega)
  have r2 : roomy ((headP s).length + 1) = true := dec_true (by omega)
  have d1 : decide ((0 : Int) ≤ (((headP s).length + 1 : Nat) : Int)) = true := dec_true (by omega)
  have d2 : decide ((((headP s).length + 1 : Nat) : Int) ≤ (((headP s).length + 1 : Nat) : Int)) = true := dec_true (by omega)
  have d3 : decide ((0 : Int) ≤ (((headP s).length : Nat) : Int)) = true := dec_true (by omega)
  have d4 : decide ((((headP s).length : Nat) : Int) < (((headP s).length + 1 : Nat) : Int)) = true := dec_true (by omega)
  have d5 : decide ((((headP s).length + 1 : Nat) : Int) = (((headP s).length : Nat) : Int) + 1) = true := dec_true (by omega)
  have d6 : ((((headP s).length : Nat) : Int) == cntN s) = true := beq_self_eq_true _
  rw [r1, r2, d1, d2, d3, d4, d5, d6, dec_true hp]
  rfl
def k130 : PrimT := fun vs gs => match vs, gs with
  | [.sc (.string s), .sc (.string q1), .sc (.int .i64 0), .sc (.int .i64 (-1))], [] => ((strEq q1 (⟨#[10]⟩ : ByteArray) && (decide (s.size ≤ 1000000000))), .own 9 false (splitV s), [])
  | _, _ => (false, .bad, [])
theorem k130_ok : ∀ vs gs x, k130 vs gs = (true, x) → CallR C prim 130 vs gs x := by
  intro vs gs x h
  unfold k130 at h
  split at h
  · simp only [Prod.mk.injEq] at h
    obtain ⟨hp, rfl⟩ := h
    rw [Bool.and_eq_true] at hp
    obtain ⟨hq, hp⟩ := hp
    obtain rfl := (strEq_iff _ _).1 hq
    exact f130_run _ _ (f130_eq _ hp)
  · cases h

def K_f94 : CallK := kCons 130 k130 <| kNil
theorem K_f94_ok : KOK C prim K_f94 := KOK.cons k130_ok <| KOK.nil
def T_f94 : Tab := tNil
theorem T_f94_ok : TOK C prim 94 T_f94 := TOK.nil
def f94 (s : ByteArray) : Option (V × List Rg) :=
  bif ((decide (s.size ≤ 1000000000)) && true) then
    some (.own 9 false (splitV s), [])
  else none
theorem f94_run (s : ByteArray) (z9 : V × List Rg) (h : f94 s = some z9) : CallR C prim 94 [.sc (.string s), .sc (.string ⟨#[10]⟩)] [] z9 := by
  refine call_fn (K := K_f94) (T := T_f94) K_f94_ok T_f94_ok (by kernel_rfl) ?_
  refine Eq.trans ?_ h
  kernel_rfl

theorem f94_eq (s : ByteArray) (hp : (decide (s.size ≤ 1000000000)) = true) : f94 s = some (.own 9 false (splitV s), []) := by
  unfold f94
  rw [hp]
  rfl
def k94 : PrimT := fun vs gs => match vs, gs with
  | [.sc (.string s), .sc (.string q1)], [] => ((strEq q1 (⟨#[10]⟩ : ByteArray) && (decide (s.size ≤ 1000000000))), .own 9 false (splitV s), [])
  | _, _ => (false, .bad, [])
theorem k94_ok : ∀ vs gs x, k94 vs gs = (true, x) → CallR C prim 94 vs gs x := by
  intro vs gs x h
  unfold k94 at h
  split at h
  · simp only [Prod.mk.injEq] at h
    obtain ⟨hp, rfl⟩ := h
    rw [Bool.and_eq_true] at hp
    obtain ⟨hq, hp⟩ := hp
    obtain rfl := (strEq_iff _ _).1 hq
    exact f94_run _ _ (f94_eq _ hp)
  · cases h

def K_f54 : CallK := kCons 94 k94 <| kCons 95 k95 <| kNil
theorem K_f54_ok : KOK C prim K_f54 := KOK.cons k94_ok <| KOK.cons k95_ok <| KOK.nil
def T_f54 : Tab := tNil
theorem T_f54_ok : TOK C prim 54 T_f54 := TOK.nil
def f54 (text : ByteArray) : Option (V × List Rg) :=
  bif (strEq text (⟨#[]⟩ : ByteArray)) then
    some (.sl 1 [], [])
  else
    bif ((decide (text.size ≤ 1000000000)) && true) then
      bif ((decide ((trimNl text).size ≤ 1000000000)) && true) then
        some (.sl 1 (splitV (trimNl text)), [])
      else none
    else none
theorem f54_run (text : ByteArray) (z9 : V × List Rg) (h : f54 text = some z9) : CallR C prim 54 [.sc (.string text)] [] z9 := by
  refine call_fn (K := K_f54) (T := T_f54) K_f54_ok T_f54_ok (by kernel_rfl) ?_
  refine Eq.trans ?_ h
  kernel_rfl

theorem f54_eq (text : ByteArray) (hp : (decide (text.size ≤ 1000000000)) = true) : f54 text = some (.sl 1 (linesV text), []) := by
  have hq := hp
  simp only [decide_eq_true_eq] at hp
  unfold f54
  cases h : strEq text (⟨#[]⟩ : ByteArray) with
  | true =>
    rw [strEq_iff] at h
    rw [linesV_nil text (by rw [h])]
    rfl
  | false =>
    have hne : text.data.toList ≠ [] := by
      intro h'
      have : text = ⟨#[]⟩ := ba_ext (by rw [h'])
      rw [this, strEq_self] at h
      cases h
    have ht : (trimNl text).size ≤ 1000000000 := by
      unfold trimNl
      cases endNl text
      · exact hp
      · rw [cond_true, bl_size, bl_extract, List.length_drop, List.length_take]; rw [bl_size] at hp; omega
    rw [linesV_trim text hne, dec_true ht, hq]
    rfl
def k54 : PrimT := fun vs gs => match vs, gs with
  | [.sc (.string text)], [] => ((decide (text.size ≤ 1000000000)), .sl 1 (linesV text), [])
  | _, _ => (false, .bad, [])
theorem k54_ok : ∀ vs gs x, k54 vs gs = (true, x) → CallR C prim 54 vs gs x := by
  intro vs gs x h
  unfold k54 at h
  split at h
  · simp only [Prod.mk.injEq] at h
    obtain ⟨hp, rfl⟩ := h
    exact f54_run _ _ (f54_eq _ hp)
  · cases h

def K_f68 : CallK := kCons 54 k54 <| kNil
theorem K_f68_ok : KOK C prim K_f68 := KOK.cons k54_ok <| KOK.nil
def T_f68 : Tab := tNil
theorem T_f68_ok : TOK C prim 68 T_f68 := TOK.nil
def f68 (text : ByteArray) : Option (V × List Rg) :=
  bif (decide (((text.size : Nat) : Int) > 65536)) then
    some (.sc (.bool true), [])
  else
    bif ((decide (text.size ≤ 1000000000)) && true) then
      some (.sc (.bool (decide (((((linesV text)).length : Nat) : Int) > 4096))), [])
    else none
theorem f68_run (text : ByteArray) (z9 : V × List Rg) (h : f68 text = some z9) : CallR C prim 68 [.sc (.string text)] [] z9 := by
  refine call_fn (K := K_f68) (T := T_f68) K_f68_ok T_f68_ok (by kernel_rfl) ?_
  refine Eq.trans ?_ h
  kernel_rfl

theorem f68_eq (text : ByteArray) (hp : (decide (text.size ≤ 1000000000)) = true) : f68 text = some (.sc (.bool (largeB text)), []) := by
  unfold f68 largeB
  rw [hp]
  cases decide (((text.size : Nat) : Int) > 65536) <;> rfl
def k68 : PrimT := fun vs gs => match vs, gs with
  | [.sc (.string text)], [] => ((decide (text.size ≤ 1000000000)), .sc (.bool (largeB text)), [])
  | _, _ => (false, .bad, [])
theorem k68_ok : ∀ vs gs x, k68 vs gs = (true, x) → CallR C prim 68 vs gs x := by
  intro vs gs x h
  unfold k68 at h
  split at h
  · simp only [Prod.mk.injEq] at h
    obtain ⟨hp, rfl⟩ := h
    exact f68_run _ _ (f68_eq _ hp)
  · cases h

def K_f21_l0 : CallK := kNil
theorem K_f21_l0_ok : KOK C prim K_f21_l0 := KOK.nil
def T_f21_l0 : Tab := tNil
theorem T_f21_l0_ok : TOK C prim 21 T_f21_l0 := TOK.nil
def f21_l0 : Nat → ByteArray → Int → Int → Int → List V → (R : Type) → (Ex → St → Option R) → Option R
  | 0, _, _, _, _, _, _, _ => none
  | n + 1, text, from', v7, v8, l, R, κ =>
    bif (decide (v8 < v7)) then
      bif (((decide ((0 : Int) ≤ v8)) && (decide (v8 < ((text.size : Nat) : Int)))) && true) then
        bif (((text.data.getD (v8).toNat 0).toNat : Int) == 10) then
          bif (((((decide ((0 : Int) ≤ from')) && (decide (from' ≤ v8))) && (decide (v8 ≤ ((text.size : Nat) : Int)))) && true) && true) then
            bif (((roomy ((l.length + 1) * 16)) && (roomy (l.length + 1))) && true) then
              f21_l0 n text (IntKind.wrap .i64 (v8 + 1)) v7 (IntKind.wrap .i64 (v8 + 1)) (l ++ [.sc (.string (text.extract (from').toNat (v8).toNat))]) R κ
            else none
          else none
        else
          f21_l0 n text from' v7 (IntKind.wrap .i64 (v8 + 1)) l R κ
      else none
    else
      κ (.ex 0) (mkS [(0, .sc (.string text)), (2, .bad), (3, .ref ⟨.loc 3, 0, [], 9, false⟩), (4, .sc (.int .i64 from'))] [(.loc 3, some ⟨false, [.own 9 false l]⟩)])
def f21_l0_ls : List (Nat × Pat) := [(0, .s), (3, .is (.ref ⟨.loc 3, 0, [], 9, false⟩)), (4, .i .i64), (7, .i .i64), (8, .i .i64)]
def f21_l0_rs : List RPat := [⟨.loc 3, false, [.own 9 false]⟩]
theorem f21_l0_ok (n : Nat) : ∀ (text : ByteArray) (from' : Int) (v7 : Int) (v8 : Int) (l : List V) (R : Type) (κ : Ex → St → Option R) (r : R), f21_l0 n text from' v7 v8 l R κ = some r → ∃ ee ss, κ ee ss = some r ∧ RunP C prim 21 [0, 1, 0, 1, 1, 1] (mkS [(0, .sc (.string text)), (3, .ref ⟨.loc 3, 0, [], 9, false⟩), (4, .sc (.int .i64 from')), (7, .sc (.int .i64 v7)), (8, .sc (.int .i64 v8))] [(.loc 3, some ⟨false, [.own 9 false l]⟩)]) ee ss := by
  induction n with
  | zero => intro text from' v7 v8 l R κ r h; cases h
  | succ n ih =>
    intro text from' v7 v8 l R κ r h
    refine loop_round (K := K_f21_l0) (T := T_f21_l0) K_f21_l0_ok T_f21_l0_ok (p := [0, 1, 0, 1, 1, 1]) (by kernel_rfl) (fun st => bif ckS f21_l0_ls f21_l0_rs st then f21_l0 n ((st.env 0).strOf) ((st.env 4).intOf) ((st.env 7).intOf) ((st.env 8).intOf) ((nthV (rowOf (st.regs (.loc 3))) 0).cellsOf) R κ else none) (fun st0 h0 => ?_) ?_
    · obtain ⟨hs, h0⟩ := cond_some h0
      rw [canon (ls := f21_l0_ls) (rs := f21_l0_rs) (by kernel_rfl) st0 hs]
      exact ih _ _ _ _ _ R κ r h0
    · refine Eq.trans ?_ h
      kernel_rfl

def f21_s0 (text : ByteArray) (from' : Int) (v7 : Int) (v8 : Int) (l : List V) (R : Type) (κ : Ex → St → Option R) : Option R :=
  κ (.ex 0) (mkS [(0, .sc (.string text)), (2, .bad), (3, .ref ⟨.loc 3, 0, [], 9, false⟩), (4, .sc (.int .i64 (fromP text)))] [(.loc 3, some ⟨false, [.own 9 false (headP text)]⟩)])
theorem f21_loop (text : ByteArray) (ht : text.size ≤ 1000000000) (R : Type) (κ : Ex → St → Option R) : ∀ (k i fr : Nat) (l : List V), i + k = text.size → fr ≤ i → l.length ≤ i →
    f21_l0 (k + 1) text ((fr : Nat) : Int) ((text.size : Nat) : Int) ((i : Nat) : Int) l R κ = κ (.ex 0) (mkS [(0, .sc (.string text)), (2, .bad), (3, .ref ⟨.loc 3, 0, [], 9, false⟩), (4, .sc (.int .i64 (((text.size : Nat) : Int) - (((lastL ((text.data.toList.take i).drop fr) (text.data.toList.drop i)).length : Nat) : Int))))] [(.loc 3, some ⟨false, [.own 9 false (l ++ headL ((text.data.toList.take i).drop fr) (text.data.toList.drop i))]⟩)])
  | 0, i, fr, l, h, h1, h2 => by
    have hl := bl_size text
    obtain rfl : i = text.size := by omega
    rw [f21_l0, dec_false (by omega), cond_false, List.drop_of_length_le (l := text.data.toList) (i := text.size) (by omega), headL, lastL, List.append_nil, List.length_drop, List.length_take, show ((min text.size text.data.toList.length - fr : Nat) : Int) = ((text.size : Nat) : Int) - (fr : Int) by omega, show ((text.size : Nat) : Int) - (((text.size : Nat) : Int) - (fr : Int)) = (fr : Int) by omega]
  | k + 1, i, fr, l, h, h1, h2 => by
    have hl := bl_size text
    have hlt : i < text.data.toList.length := by omega
    have hb : ((text.data.getD i 0).toNat : Int) = ((text.data.toList[i]).toNat : Int) := by rw [getD_list' text i hlt]
    have hc : ((((text.data.toList[i]).toNat : Nat) : Int) == 10) = (text.data.toList[i] == 10) := by
      rw [Bool.eq_iff_iff, beq_iff_eq, beq_iff_eq, ← UInt8.toNat_inj]
      show _ ↔ (text.data.toList[i]).toNat = 10
      omega
    have r1 : roomy ((l.length + 1) * 16) = true := dec_true (by omega)
    have r2 : roomy (l.length + 1) = true := dec_true (by omega)
    rw [f21_l0, dec_true (show ((i : Nat) : Int) < ((text.size : Nat) : Int) by omega), dec_true (show (0 : Int) ≤ ((i : Nat) : Int) by omega), Int.toNat_natCast, hb, hc, dec_true (show (0 : Int) ≤ ((fr : Nat) : Int) by omega), dec_true (show ((fr : Nat) : Int) ≤ ((i : Nat) : Int) by omega), dec_true (show ((i : Nat) : Int) ≤ ((text.size : Nat) : Int) by omega), r1, r2, Int.toNat_natCast, strV_extract, wrap_succ (by omega), List.drop_eq_getElem_cons hlt, headL_cons, lastL_cons]
    cases hx : text.data.toList[i] == 10 with
    | true =>
      have IH := f21_loop text ht R κ k (i + 1) (i + 1) (l ++ [strV ((text.data.toList.take i).drop fr)]) (by omega) (Nat.le_refl _) (by simp; omega)
      rw [List.drop_of_length_le (l := text.data.toList.take (i + 1)) (by rw [List.length_take]; omega), List.append_assoc] at IH
      simp only [Bool.and_self, cond_true]
      exact IH
    | false =>
      have IH := f21_loop text ht R κ k (i + 1) fr l (by omega) (by omega) (by omega)
      rw [List.take_add_one, List.getElem?_eq_getElem hlt, Option.toList_some, List.drop_append_of_le_length (by rw [List.length_take]; omega)] at IH
      simp only [Bool.and_self, cond_true, cond_false]
      exact IH
theorem f21_s0_eq (text : ByteArray) (from' : Int) (v7 : Int) (v8 : Int) (l : List V) (hp : ((v7 == ((text.size : Nat) : Int)) && (v8 == 0) && (from' == 0) && (l.length == 0) && decide (text.size ≤ 1000000000)) = true) : ∃ n, ∀ (R : Type) (κ : Ex → St → Option R), f21_l0 n text from' v7 v8 l R κ = f21_s0 text from' v7 v8 l R κ := by
  simp only [Bool.and_eq_true, decide_eq_true_eq, beq_iff_eq] at hp
  obtain ⟨⟨⟨⟨rfl, rfl⟩, rfl⟩, g4⟩, g5⟩ := hp
  obtain rfl : l = [] := List.eq_nil_of_length_eq_zero g4
  refine ⟨text.size + 1, fun R κ => ?_⟩
  have := f21_loop text g5 R κ text.size 0 0 [] (by omega) (Nat.le_refl _) (Nat.le_refl _)
  have e : fromP text = ((text.size : Nat) : Int) - (((lastL ((text.data.toList.take 0).drop 0) (text.data.toList.drop 0)).length : Nat) : Int) := by
    unfold fromP; rw [lastP_size]; rfl
  rw [f21_s0, e]
  exact this
def t_f21_l0 (st : St) (R : Type) (κ : Ex → St → Option R) : Option R := bif ckS f21_l0_ls f21_l0_rs st then (bif ((((st.env 7).intOf) == ((((st.env 0).strOf).size : Nat) : Int)) && (((st.env 8).intOf) == 0) && (((st.env 4).intOf) == 0) && (((nthV (rowOf (st.regs (.loc 3))) 0).cellsOf).length == 0) && decide (((st.env 0).strOf).size ≤ 1000000000)) then f21_s0 ((st.env 0).strOf) ((st.env 4).intOf) ((st.env 7).intOf) ((st.env 8).intOf) ((nthV (rowOf (st.regs (.loc 3))) 0).cellsOf) R κ else none) else none
theorem t_f21_l0_ok : ∀ st0 R κ r, t_f21_l0 (forget C 21 [0, 1, 0, 1, 1, 1] st0) R κ = some r → ∃ ee ss, κ ee ss = some r ∧ RunP C prim 21 [0, 1, 0, 1, 1, 1] (forget C 21 [0, 1, 0, 1, 1, 1] st0) ee ss := by
  intro st0 R κ r h
  obtain ⟨hs, h⟩ := cond_some h
  obtain ⟨hp, h⟩ := cond_some h
  rw [canon (ls := f21_l0_ls) (rs := f21_l0_rs) (by kernel_rfl) st0 hs]
  obtain ⟨n, hn⟩ := f21_s0_eq _ _ _ _ _ hp
  rw [← hn] at h
  exact f21_l0_ok n _ _ _ _ _ R κ r h

def K_f21 : CallK := kNil
theorem K_f21_ok : KOK C prim K_f21 := KOK.nil
def T_f21 : Tab := tCons [0, 1, 0, 1, 1, 1] t_f21_l0 <| tNil
theorem T_f21_ok : TOK C prim 21 T_f21 := TOK.cons t_f21_l0_ok <| TOK.nil
def f21 (text : ByteArray) : Option (V × List Rg) :=
  bif ((((text.size : Nat) : Int) == ((text.size : Nat) : Int)) && ((0 : Int) == 0) && ((0 : Int) == 0) && (([] : List V).length == 0) && decide (text.size ≤ 1000000000)) then
    bif (decide ((fromP text) < ((text.size : Nat) : Int))) then
      bif ((((decide ((0 : Int) ≤ (fromP text))) && (decide ((fromP text) ≤ ((text.size : Nat) : Int)))) && true) && true) then
        bif (((roomy ((((headP text)).length + 1) * 16)) && (roomy (((headP text)).length + 1))) && true) then
          some (.own 9 false ((headP text) ++ [.sc (.string (text.extract ((fromP text)).toNat (((text.size : Nat) : Int)).toNat))]), [])
        else none
      else none
    else
      some (.own 9 false (headP text), [])
  else none
theorem f21_run (text : ByteArray) (z9 : V × List Rg) (h : f21 text = some z9) : CallR C prim 21 [.sc (.string text)] [] z9 := by
  refine call_fn (K := K_f21) (T := T_f21) K_f21_ok T_f21_ok (by kernel_rfl) ?_
  refine Eq.trans ?_ h
  kernel_rfl

theorem from_last (s : ByteArray) : V.sc (.string (s.extract (fromP s).toNat s.size)) = .sc (.string (lastP s)) := by
  have key : ∀ (l cur : List UInt8), (cur ++ l).drop (cur.length + l.length - (lastL cur l).length) = lastL cur l := by
    intro l
    induction l with
    | nil => intro cur; simp [lastL]
    | cons b r ih =>
      intro cur
      have h1 := ih []
      have h2 := ih (cur ++ [b])
      rw [lastL_cons]
      cases b == 10 with
      | false =>
        simp only [cond_false]
        rw [List.append_assoc, List.singleton_append, List.length_append] at h2
        rw [List.length_cons, show cur.length + (r.length + 1) = cur.length + [b].length + r.length by simp; omega]
        exact h2
      | true =>
        simp only [cond_true]
        have hle := last_le r []
        simp only [List.length_nil, Nat.zero_add, List.nil_append] at h1 hle
        rw [List.length_cons, show cur.length + (r.length + 1) - (lastL [] r).length = (cur ++ [b]).length + (r.length - (lastL [] r).length) by simp; omega, show cur ++ b :: r = (cur ++ [b]) ++ r by simp, List.drop_length_add_append]
        exact h1
  have hle := lastP_le s
  have h := key s.data.toList []
  simp only [List.length_nil, Nat.zero_add, List.nil_append] at h
  congr 1
  congr 1
  refine ba_ext ?_
  have hf : (fromP s).toNat = s.data.toList.length - (lastL [] s.data.toList).length := by
    unfold fromP; rw [← lastP_size, ← bl_size]; omega
  rw [bl_extract, List.take_of_length_le (by rw [bl_size]; exact Nat.le_refl _), hf, h]
  rfl
theorem f21_eq (text : ByteArray) (hp : (decide (text.size ≤ 1000000000)) = true) : f21 text = some (.own 9 false (linesV text), []) := by
  have hq := hp
  simp only [decide_eq_true_eq] at hp
  have hl := lastP_le text
  have hh := headP_le text
  have r1 : roomy (((headP text).length + 1) * 16) = true := dec_true (by omega)
  have r2 : roomy ((headP text).length + 1) = true := dec_true (by omega)
  unfold f21 linesV splitV
  rw [hq, beq_self_eq_true, Int.toNat_natCast, from_last, r1, r2]
  by_cases hz : (lastP text).size = 0
  · rw [dec_false (show ¬ fromP text < ((text.size : Nat) : Int) by unfold fromP; omega), hz]
    rfl
  · have hz2 : ((lastP text).size == 0) = false := by simpa using hz
    rw [dec_true (show fromP text < ((text.size : Nat) : Int) by unfold fromP; omega), dec_true (show (0 : Int) ≤ fromP text by unfold fromP; omega), dec_true (show fromP text ≤ ((text.size : Nat) : Int) by unfold fromP; omega), hz2]
    rfl
def k21 : PrimT := fun vs gs => match vs, gs with
  | [.sc (.string text)], [] => ((decide (text.size ≤ 1000000000)), .own 9 false (linesV text), [])
  | _, _ => (false, .bad, [])
theorem k21_ok : ∀ vs gs x, k21 vs gs = (true, x) → CallR C prim 21 vs gs x := by
  intro vs gs x h
  unfold k21 at h
  split at h
  · simp only [Prod.mk.injEq] at h
    obtain ⟨hp, rfl⟩ := h
    exact f21_run _ _ (f21_eq _ hp)
  · cases h

def K_f19 : CallK := kCons 21 k21 <| kNil
theorem K_f19_ok : KOK C prim K_f19 := KOK.cons k21_ok <| KOK.nil
def T_f19 : Tab := tNil
theorem T_f19_ok : TOK C prim 19 T_f19 := TOK.nil
def f19 (text : ByteArray) : Option (V × List Rg) :=
  bif (decide (((text.size : Nat) : Int) > 65536)) then
    some (.sc (.bool true), [])
  else
    bif ((decide (text.size ≤ 1000000000)) && true) then
      some (.sc (.bool (decide (((((linesV text)).length : Nat) : Int) > 4096))), [])
    else none
theorem f19_run (text : ByteArray) (z9 : V × List Rg) (h : f19 text = some z9) : CallR C prim 19 [.sc (.string text)] [] z9 := by
  refine call_fn (K := K_f19) (T := T_f19) K_f19_ok T_f19_ok (by kernel_rfl) ?_
  refine Eq.trans ?_ h
  kernel_rfl

theorem f19_eq (text : ByteArray) (hp : (decide (text.size ≤ 1000000000)) = true) : f19 text = some (.sc (.bool (largeB text)), []) := by
  unfold f19 largeB
  rw [hp]
  cases decide (((text.size : Nat) : Int) > 65536) <;> rfl
def k19 : PrimT := fun vs gs => match vs, gs with
  | [.sc (.string text)], [] => ((decide (text.size ≤ 1000000000)), .sc (.bool (largeB text)), [])
  | _, _ => (false, .bad, [])
theorem k19_ok : ∀ vs gs x, k19 vs gs = (true, x) → CallR C prim 19 vs gs x := by
  intro vs gs x h
  unfold k19 at h
  split at h
  · simp only [Prod.mk.injEq] at h
    obtain ⟨hp, rfl⟩ := h
    exact f19_run _ _ (f19_eq _ hp)
  · cases h

def K_f97a_l0 : CallK := kCons 68 k68 <| kNil
theorem K_f97a_l0_ok : KOK C prim K_f97a_l0 := KOK.cons k68_ok <| KOK.nil
def T_f97a_l0 : Tab := tNil
theorem T_f97a_l0_ok : TOK C prim 97 T_f97a_l0 := TOK.nil
def f97a_l0 : Nat → List V → Int → Int → (R : Type) → (Ex → St → Option R) → Option R
  | 0, _, _, _, _, _ => none
  | n + 1, s, v7, v8, R, κ =>
    bif (decide (v8 < v7)) then
      bif (((decide ((0 : Int) ≤ v8)) && (decide (v8 < ((s.length : Nat) : Int)))) && true) then
        bif (((V.isStr (nthV s (((v8).toNat * 1) + 0))) && true) && true) then
          bif ((decide ((V.strOf (nthV s (((v8).toNat * 1) + 0))).size ≤ 1000000000)) && true) then
            bif (largeB (V.strOf (nthV s (((v8).toNat * 1) + 0)))) then
              κ .rt (mkS [(4, .sc (.int .i64 v8))] [])
            else
              f97a_l0 n s v7 (IntKind.wrap .i64 (v8 + 1)) R κ
          else none
        else none
      else none
    else
      κ (.ex 0) (mkS [(4, .bad)] [])
def f97a_l0_ls : List (Nat × Pat) := [(0, .sl 1), (1, .is (.fn 68 [] [])), (7, .i .i64), (8, .i .i64)]
def f97a_l0_rs : List RPat := []
theorem f97a_l0_ok (n : Nat) : ∀ (s : List V) (v7 : Int) (v8 : Int) (R : Type) (κ : Ex → St → Option R) (r : R), f97a_l0 n s v7 v8 R κ = some r → ∃ ee ss, κ ee ss = some r ∧ RunP C prim 97 [0, 1, 0, 1] (mkS [(0, .sl 1 s), (1, .fn 68 [] []), (7, .sc (.int .i64 v7)), (8, .sc (.int .i64 v8))] []) ee ss := by
  induction n with
  | zero => intro s v7 v8 R κ r h; cases h
  | succ n ih =>
    intro s v7 v8 R κ r h
    refine loop_round (K := K_f97a_l0) (T := T_f97a_l0) K_f97a_l0_ok T_f97a_l0_ok (p := [0, 1, 0, 1]) (by kernel_rfl) (fun st => bif ckS f97a_l0_ls f97a_l0_rs st then f97a_l0 n ((st.env 0).cellsOf) ((st.env 7).intOf) ((st.env 8).intOf) R κ else none) (fun st0 h0 => ?_) ?_
    · obtain ⟨hs, h0⟩ := cond_some h0
      rw [canon (ls := f97a_l0_ls) (rs := f97a_l0_rs) (by kernel_rfl) st0 hs]
      exact ih _ _ _ R κ r h0
    · refine Eq.trans ?_ h
      kernel_rfl

def f97a_s0 (s : List V) (v7 : Int) (v8 : Int) (R : Type) (κ : Ex → St → Option R) : Option R :=
  bif (s.any largeV) then
    κ .rt (mkS [(4, .sc (.int .i64 ((fstN largeV s : Nat) : Int)))] [])
  else
    κ (.ex 0) (mkS [(4, .bad)] [])
theorem f97a_loop (s : List V) (hs : s.all shortS = true) (hl : s.length ≤ 1000000000) (R : Type) (κ : Ex → St → Option R) : ∀ (k i : Nat), i + k = s.length →
    f97a_l0 (k + 1) s ((s.length : Nat) : Int) ((i : Nat) : Int) R κ = bif (s.drop i).any largeV then κ .rt (mkS [(4, .sc (.int .i64 ((i + fstN largeV (s.drop i) : Nat) : Int)))] []) else κ (.ex 0) (mkS [(4, .bad)] [])
  | 0, i, h => by
    rw [f97a_l0, dec_false (by omega), cond_false, List.drop_of_length_le (by omega)]
    rfl
  | k + 1, i, h => by
    have hlt : i < s.length := by omega
    obtain ⟨g1, g2⟩ := shortS_spec (List.all_eq_true.1 hs _ (List.getElem_mem hlt))
    have IH := f97a_loop s hs hl R κ k (i + 1) (by omega)
    rw [f97a_l0, dec_true (show ((i : Nat) : Int) < ((s.length : Nat) : Int) by omega), dec_true (show (0 : Int) ≤ ((i : Nat) : Int) by omega), nth_at hlt, g1, dec_true g2, wrap_succ (by omega), IH, any_drop hlt, fstN_drop hlt]
    cases hb : largeV s[i] with
    | true =>
      have hb' : largeB s[i].strOf = true := hb
      rw [hb']
      simp only [Bool.and_self, cond_true, Bool.true_or, Nat.add_zero]
    | false =>
      have hb' : largeB s[i].strOf = false := hb
      rw [hb']
      simp only [Bool.and_self, cond_true, cond_false, Bool.false_or]
      rw [show i + 1 + fstN largeV (s.drop (i + 1)) = i + (fstN largeV (s.drop (i + 1)) + 1) by omega]
theorem f97a_s0_eq (s : List V) (v7 : Int) (v8 : Int) (hp : ((v7 == ((s.length : Nat) : Int)) && (v8 == 0) && s.all shortS && decide (s.length ≤ 1000000000)) = true) : ∃ n, ∀ (R : Type) (κ : Ex → St → Option R), f97a_l0 n s v7 v8 R κ = f97a_s0 s v7 v8 R κ := by
  simp only [Bool.and_eq_true, decide_eq_true_eq, beq_iff_eq] at hp
  obtain ⟨⟨⟨rfl, rfl⟩, g3⟩, g4⟩ := hp
  refine ⟨s.length + 1, fun R κ => ?_⟩
  have := f97a_loop s g3 g4 R κ s.length 0 (by omega)
  rw [List.drop_zero, Nat.zero_add] at this
  exact this
def t_f97a_l0 (st : St) (R : Type) (κ : Ex → St → Option R) : Option R := bif ckS f97a_l0_ls f97a_l0_rs st then (bif ((((st.env 7).intOf) == ((((st.env 0).cellsOf).length : Nat) : Int)) && (((st.env 8).intOf) == 0) && ((st.env 0).cellsOf).all shortS && decide (((st.env 0).cellsOf).length ≤ 1000000000)) then f97a_s0 ((st.env 0).cellsOf) ((st.env 7).intOf) ((st.env 8).intOf) R κ else none) else none
theorem t_f97a_l0_ok : ∀ st0 R κ r, t_f97a_l0 (forget C 97 [0, 1, 0, 1] st0) R κ = some r → ∃ ee ss, κ ee ss = some r ∧ RunP C prim 97 [0, 1, 0, 1] (forget C 97 [0, 1, 0, 1] st0) ee ss := by
  intro st0 R κ r h
  obtain ⟨hs, h⟩ := cond_some h
  obtain ⟨hp, h⟩ := cond_some h
  rw [canon (ls := f97a_l0_ls) (rs := f97a_l0_rs) (by kernel_rfl) st0 hs]
  obtain ⟨n, hn⟩ := f97a_s0_eq _ _ _ hp
  rw [← hn] at h
  exact f97a_l0_ok n _ _ _ R κ r h

def K_f97a : CallK := kNil
theorem K_f97a_ok : KOK C prim K_f97a := KOK.nil
def T_f97a : Tab := tCons [0, 1, 0, 1] t_f97a_l0 <| tNil
theorem T_f97a_ok : TOK C prim 97 T_f97a := TOK.cons t_f97a_l0_ok <| TOK.nil
def f97a (s : List V) : Option (V × List Rg) :=
  bif ((((s.length : Nat) : Int) == ((s.length : Nat) : Int)) && ((0 : Int) == 0) && s.all shortS && decide (s.length ≤ 1000000000)) then
    bif (s.any largeV) then
      some (.sc (.int .i64 ((fstN largeV s : Nat) : Int)), [])
    else
      some (.sc (.int .i64 (-1)), [])
  else none
theorem f97a_run (s : List V) (z9 : V × List Rg) (h : f97a s = some z9) : CallR C prim 97 [.sl 1 s, .fn 68 [] []] [] z9 := by
  refine call_fn (K := K_f97a) (T := T_f97a) K_f97a_ok T_f97a_ok (by kernel_rfl) ?_
  refine Eq.trans ?_ h
  kernel_rfl

theorem f97a_eq (s : List V) (hp : (s.all shortS && decide (s.length ≤ 1000000000)) = true) : f97a s = some (.sc (.int .i64 (idxV largeV s)), []) := by
  simp only [Bool.and_eq_true, decide_eq_true_eq] at hp
  unfold f97a idxV
  rw [beq_self_eq_true, hp.1, dec_true hp.2]
  cases s.any largeV <;> rfl
def k97a : PrimT := fun vs gs => match vs, gs with
  | [.sl 1 s, .fn 68 [] []], [] => ((s.all shortS && decide (s.length ≤ 1000000000)), .sc (.int .i64 (idxV largeV s)), [])
  | _, _ => (false, .bad, [])
theorem k97a_ok : ∀ vs gs x, k97a vs gs = (true, x) → CallR C prim 97 vs gs x := by
  intro vs gs x h
  unfold k97a at h
  split at h
  · simp only [Prod.mk.injEq] at h
    obtain ⟨hp, rfl⟩ := h
    exact f97a_run _ _ (f97a_eq _ hp)
  · cases h

def K_f97b_l0 : CallK := kCons 19 k19 <| kNil
theorem K_f97b_l0_ok : KOK C prim K_f97b_l0 := KOK.cons k19_ok <| KOK.nil
def T_f97b_l0 : Tab := tNil
theorem T_f97b_l0_ok : TOK C prim 97 T_f97b_l0 := TOK.nil
def f97b_l0 : Nat → List V → Int → Int → (R : Type) → (Ex → St → Option R) → Option R
  | 0, _, _, _, _, _ => none
  | n + 1, s, v7, v8, R, κ =>
    bif (decide (v8 < v7)) then
      bif (((decide ((0 : Int) ≤ v8)) && (decide (v8 < ((s.length : Nat) : Int)))) && true) then
        bif (((V.isStr (nthV s (((v8).toNat * 1) + 0))) && true) && true) then
          bif ((decide ((V.strOf (nthV s (((v8).toNat * 1) + 0))).size ≤ 1000000000)) && true) then
            bif (largeB (V.strOf (nthV s (((v8).toNat * 1) + 0)))) then
              κ .rt (mkS [(4, .sc (.int .i64 v8))] [])
            else
              f97b_l0 n s v7 (IntKind.wrap .i64 (v8 + 1)) R κ
          else none
        else none
      else none
    else
      κ (.ex 0) (mkS [(4, .bad)] [])
def f97b_l0_ls : List (Nat × Pat) := [(0, .sl 1), (1, .is (.fn 19 [] [])), (7, .i .i64), (8, .i .i64)]
def f97b_l0_rs : List RPat := []
theorem f97b_l0_ok (n : Nat) : ∀ (s : List V) (v7 : Int) (v8 : Int) (R : Type) (κ : Ex → St → Option R) (r : R), f97b_l0 n s v7 v8 R κ = some r → ∃ ee ss, κ ee ss = some r ∧ RunP C prim 97 [0, 1, 0, 1] (mkS [(0, .sl 1 s), (1, .fn 19 [] []), (7, .sc (.int .i64 v7)), (8, .sc (.int .i64 v8))] []) ee ss := by
  induction n with
  | zero => intro s v7 v8 R κ r h; cases h
  | succ n ih =>
    intro s v7 v8 R κ r h
    refine loop_round (K := K_f97b_l0) (T := T_f97b_l0) K_f97b_l0_ok T_f97b_l0_ok (p := [0, 1, 0, 1]) (by kernel_rfl) (fun st => bif ckS f97b_l0_ls f97b_l0_rs st then f97b_l0 n ((st.env 0).cellsOf) ((st.env 7).intOf) ((st.env 8).intOf) R κ else none) (fun st0 h0 => ?_) ?_
    · obtain ⟨hs, h0⟩ := cond_some h0
      rw [canon (ls := f97b_l0_ls) (rs := f97b_l0_rs) (by kernel_rfl) st0 hs]
      exact ih _ _ _ R κ r h0
    · refine Eq.trans ?_ h
      kernel_rfl

def f97b_s0 (s : List V) (v7 : Int) (v8 : Int) (R : Type) (κ : Ex → St → Option R) : Option R :=
  bif (s.any largeV) then
    κ .rt (mkS [(4, .sc (.int .i64 ((fstN largeV s : Nat) : Int)))] [])
  else
    κ (.ex 0) (mkS [(4, .bad)] [])
theorem f97b_loop (s : List V) (hs : s.all shortS = true) (hl : s.length ≤ 1000000000) (R : Type) (κ : Ex → St → Option R) : ∀ (k i : Nat), i + k = s.length →
    f97b_l0 (k + 1) s ((s.length : Nat) : Int) ((i : Nat) : Int) R κ = bif (s.drop i).any largeV then κ .rt (mkS [(4, .sc (.int .i64 ((i + fstN largeV (s.drop i) : Nat) : Int)))] []) else κ (.ex 0) (mkS [(4, .bad)] [])
  | 0, i, h => by
    rw [f97b_l0, dec_false (by omega), cond_false, List.drop_of_length_le (by omega)]
    rfl
  | k + 1, i, h => by
    have hlt : i < s.length := by omega
    obtain ⟨g1, g2⟩ := shortS_spec (List.all_eq_true.1 hs _ (List.getElem_mem hlt))
    have IH := f97b_loop s hs hl R κ k (i + 1) (by omega)
    rw [f97b_l0, dec_true (show ((i : Nat) : Int) < ((s.length : Nat) : Int) by omega), dec_true (show (0 : Int) ≤ ((i : Nat) : Int) by omega), nth_at hlt, g1, dec_true g2, wrap_succ (by omega), IH, any_drop hlt, fstN_drop hlt]
    cases hb : largeV s[i] with
    | true =>
      have hb' : largeB s[i].strOf = true := hb
      rw [hb']
      simp only [Bool.and_self, cond_true, Bool.true_or, Nat.add_zero]
    | false =>
      have hb' : largeB s[i].strOf = false := hb
      rw [hb']
      simp only [Bool.and_self, cond_true, cond_false, Bool.false_or]
      rw [show i + 1 + fstN largeV (s.drop (i + 1)) = i + (fstN largeV (s.drop (i + 1)) + 1) by omega]
theorem f97b_s0_eq (s : List V) (v7 : Int) (v8 : Int) (hp : ((v7 == ((s.length : Nat) : Int)) && (v8 == 0) && s.all shortS && decide (s.length ≤ 1000000000)) = true) : ∃ n, ∀ (R : Type) (κ : Ex → St → Option R), f97b_l0 n s v7 v8 R κ = f97b_s0 s v7 v8 R κ := by
  simp only [Bool.and_eq_true, decide_eq_true_eq, beq_iff_eq] at hp
  obtain ⟨⟨⟨rfl, rfl⟩, g3⟩, g4⟩ := hp
  refine ⟨s.length + 1, fun R κ => ?_⟩
  have := f97b_loop s g3 g4 R κ s.length 0 (by omega)
  rw [List.drop_zero, Nat.zero_add] at this
  exact this
def t_f97b_l0 (st : St) (R : Type) (κ : Ex → St → Option R) : Option R := bif ckS f97b_l0_ls f97b_l0_rs st then (bif ((((st.env 7).intOf) == ((((st.env 0).cellsOf).length : Nat) : Int)) && (((st.env 8).intOf) == 0) && ((st.env 0).cellsOf).all shortS && decide (((st.env 0).cellsOf).length ≤ 1000000000)) then f97b_s0 ((st.env 0).cellsOf) ((st.env 7).intOf) ((st.env 8).intOf) R κ else none) else none
theorem t_f97b_l0_ok : ∀ st0 R κ r, t_f97b_l0 (forget C 97 [0, 1, 0, 1] st0) R κ = some r → ∃ ee ss, κ ee ss = some r ∧ RunP C prim 97 [0, 1, 0, 1] (forget C 97 [0, 1, 0, 1] st0) ee ss := by
  intro st0 R κ r h
  obtain ⟨hs, h⟩ := cond_some h
  obtain ⟨hp, h⟩ := cond_some h
  rw [canon (ls := f97b_l0_ls) (rs := f97b_l0_rs) (by kernel_rfl) st0 hs]
  obtain ⟨n, hn⟩ := f97b_s0_eq _ _ _ hp
  rw [← hn] at h
  exact f97b_l0_ok n _ _ _ R κ r h

def K_f97b : CallK := kNil
theorem K_f97b_ok : KOK C prim K_f97b := KOK.nil
def T_f97b : Tab := tCons [0, 1, 0, 1] t_f97b_l0 <| tNil
theorem T_f97b_ok : TOK C prim 97 T_f97b := TOK.cons t_f97b_l0_ok <| TOK.nil
def f97b (s : List V) : Option (V × List Rg) :=
  bif ((((s.length : Nat) : Int) == ((s.length : Nat) : Int)) && ((0 : Int) == 0) && s.all shortS && decide (s.length ≤ 1000000000)) then
    bif (s.any largeV) then
      some (.sc (.int .i64 ((fstN largeV s : Nat) : Int)), [])
    else
      some (.sc (.int .i64 (-1)), [])
  else none
theorem f97b_run (s : List V) (z9 : V × List Rg) (h : f97b s = some z9) : CallR C prim 97 [.sl 1 s, .fn 19 [] []] [] z9 := by
  refine call_fn (K := K_f97b) (T := T_f97b) K_f97b_ok T_f97b_ok (by kernel_rfl) ?_
  refine Eq.trans ?_ h
  kernel_rfl

theorem f97b_eq (s : List V) (hp : (s.all shortS && decide (s.length ≤ 1000000000)) = true) : f97b s = some (.sc (.int .i64 (idxV largeV s)), []) := by
  simp only [Bool.and_eq_true, decide_eq_true_eq] at hp
  unfold f97b idxV
  rw [beq_self_eq_true, hp.1, dec_true hp.2]
  cases s.any largeV <;> rfl
def k97b : PrimT := fun vs gs => match vs, gs with
  | [.sl 1 s, .fn 19 [] []], [] => ((s.all shortS && decide (s.length ≤ 1000000000)), .sc (.int .i64 (idxV largeV s)), [])
  | _, _ => (false, .bad, [])
theorem k97b_ok : ∀ vs gs x, k97b vs gs = (true, x) → CallR C prim 97 vs gs x := by
  intro vs gs x h
  unfold k97b at h
  split at h
  · simp only [Prod.mk.injEq] at h
    obtain ⟨hp, rfl⟩ := h
    exact f97b_run _ _ (f97b_eq _ hp)
  · cases h

def k97 : PrimT := fun vs gs => bif isFn 68 vs then k97a vs gs else k97b vs gs
theorem k97_ok : ∀ vs gs x, k97 vs gs = (true, x) → CallR C prim 97 vs gs x := by
  intro vs gs x h
  unfold k97 at h
  cases hb0 : isFn 68 vs with
  | true => rw [hb0] at h; exact k97a_ok vs gs x h
  | false =>
  rw [hb0] at h
  exact k97b_ok vs gs x h

def K_f59a : CallK := kCons 97 k97 <| kNil
theorem K_f59a_ok : KOK C prim K_f59a := KOK.cons k97_ok <| KOK.nil
def T_f59a : Tab := tNil
theorem T_f59a_ok : TOK C prim 59 T_f59a := TOK.nil
def f59a (s : List V) : Option (V × List Rg) :=
  bif ((s.all shortS && decide (s.length ≤ 1000000000)) && true) then
    some (.sc (.bool (decide ((idxV largeV s) ≥ 0))), [])
  else none
theorem f59a_run (s : List V) (z9 : V × List Rg) (h : f59a s = some z9) : CallR C prim 59 [.sl 1 s, .fn 68 [] []] [] z9 := by
  refine call_fn (K := K_f59a) (T := T_f59a) K_f59a_ok T_f59a_ok (by kernel_rfl) ?_
  refine Eq.trans ?_ h
  kernel_rfl

theorem f59a_eq (s : List V) (hp : (s.all shortS && decide (s.length ≤ 1000000000)) = true) : f59a s = some (.sc (.bool (s.any largeV)), []) := by
  unfold f59a
  rw [hp, idxV_ge]
  rfl
def k59a : PrimT := fun vs gs => match vs, gs with
  | [.sl 1 s, .fn 68 [] []], [] => ((s.all shortS && decide (s.length ≤ 1000000000)), .sc (.bool (s.any largeV)), [])
  | _, _ => (false, .bad, [])
theorem k59a_ok : ∀ vs gs x, k59a vs gs = (true, x) → CallR C prim 59 vs gs x := by
  intro vs gs x h
  unfold k59a at h
  split at h
  · simp only [Prod.mk.injEq] at h
    obtain ⟨hp, rfl⟩ := h
    exact f59a_run _ _ (f59a_eq _ hp)
  · cases h

def K_f59b : CallK := kCons 97 k97 <| kNil
theorem K_f59b_ok : KOK C prim K_f59b := KOK.cons k97_ok <| KOK.nil
def T_f59b : Tab := tNil
theorem T_f59b_ok : TOK C prim 59 T_f59b := TOK.nil
def f59b (s : List V) : Option (V × List Rg) :=
  bif ((s.all shortS && decide (s.length ≤ 1000000000)) && true) then
    some (.sc (.bool (decide ((idxV largeV s) ≥ 0))), [])
  else none
theorem f59b_run (s : List V) (z9 : V × List Rg) (h : f59b s = some z9) : CallR C prim 59 [.sl 1 s, .fn 19 [] []] [] z9 := by
  refine call_fn (K := K_f59b) (T := T_f59b) K_f59b_ok T_f59b_ok (by kernel_rfl) ?_
  refine Eq.trans ?_ h
  kernel_rfl

theorem f59b_eq (s : List V) (hp : (s.all shortS && decide (s.length ≤ 1000000000)) = true) : f59b s = some (.sc (.bool (s.any largeV)), []) := by
  unfold f59b
  rw [hp, idxV_ge]
  rfl
def k59b : PrimT := fun vs gs => match vs, gs with
  | [.sl 1 s, .fn 19 [] []], [] => ((s.all shortS && decide (s.length ≤ 1000000000)), .sc (.bool (s.any largeV)), [])
  | _, _ => (false, .bad, [])
theorem k59b_ok : ∀ vs gs x, k59b vs gs = (true, x) → CallR C prim 59 vs gs x := by
  intro vs gs x h
  unfold k59b at h
  split at h
  · simp only [Prod.mk.injEq] at h
    obtain ⟨hp, rfl⟩ := h
    exact f59b_run _ _ (f59b_eq _ hp)
  · cases h

def k59 : PrimT := fun vs gs => bif isFn 68 vs then k59a vs gs else k59b vs gs
theorem k59_ok : ∀ vs gs x, k59 vs gs = (true, x) → CallR C prim 59 vs gs x := by
  intro vs gs x h
  unfold k59 at h
  cases hb0 : isFn 68 vs with
  | true => rw [hb0] at h; exact k59a_ok vs gs x h
  | false =>
  rw [hb0] at h
  exact k59b_ok vs gs x h

def K_f52 : CallK := kCons 59 k59 <| kNil
theorem K_f52_ok : KOK C prim K_f52 := KOK.cons k59_ok <| KOK.nil
def T_f52 : Tab := tNil
theorem T_f52_ok : TOK C prim 52 T_f52 := TOK.nil
def f52 (texts : List V) : Option (V × List Rg) :=
  bif ((texts.all shortS && decide (texts.length ≤ 1000000000)) && true) then
    bif (texts.any largeV) then
      some (.sc (.int .i64 2), [])
    else
      some (.sc (.int .i64 0), [])
  else none
theorem f52_run (texts : List V) (z9 : V × List Rg) (h : f52 texts = some z9) : CallR C prim 52 [.sl 1 texts] [] z9 := by
  refine call_fn (K := K_f52) (T := T_f52) K_f52_ok T_f52_ok (by kernel_rfl) ?_
  refine Eq.trans ?_ h
  kernel_rfl

theorem f52_eq (texts : List V) (hp : (texts.all shortS && decide (texts.length ≤ 1000000000)) = true) : f52 texts = some (.sc (.int .i64 (bif texts.any largeV then (2 : Int) else 0)), []) := by
  unfold f52
  rw [hp]
  cases texts.any largeV <;> rfl
def k52 : PrimT := fun vs gs => match vs, gs with
  | [.sl 1 texts], [] => ((texts.all shortS && decide (texts.length ≤ 1000000000)), .sc (.int .i64 (bif texts.any largeV then (2 : Int) else 0)), [])
  | _, _ => (false, .bad, [])
theorem k52_ok : ∀ vs gs x, k52 vs gs = (true, x) → CallR C prim 52 vs gs x := by
  intro vs gs x h
  unfold k52 at h
  split at h
  · simp only [Prod.mk.injEq] at h
    obtain ⟨hp, rfl⟩ := h
    exact f52_run _ _ (f52_eq _ hp)
  · cases h

def K_f24 : CallK := kCons 59 k59 <| kNil
theorem K_f24_ok : KOK C prim K_f24 := KOK.cons k59_ok <| KOK.nil
def T_f24 : Tab := tNil
theorem T_f24_ok : TOK C prim 24 T_f24 := TOK.nil
def f24 (texts : List V) : Option (V × List Rg) :=
  bif ((texts.all shortS && decide (texts.length ≤ 1000000000)) && true) then
    bif (texts.any largeV) then
      some (.sc (.int .i64 2), [])
    else
      some (.sc (.int .i64 0), [])
  else none
theorem f24_run (texts : List V) (z9 : V × List Rg) (h : f24 texts = some z9) : CallR C prim 24 [.sl 1 texts] [] z9 := by
  refine call_fn (K := K_f24) (T := T_f24) K_f24_ok T_f24_ok (by kernel_rfl) ?_
  refine Eq.trans ?_ h
  kernel_rfl

theorem f24_eq (texts : List V) (hp : (texts.all shortS && decide (texts.length ≤ 1000000000)) = true) : f24 texts = some (.sc (.int .i64 (bif texts.any largeV then (2 : Int) else 0)), []) := by
  unfold f24
  rw [hp]
  cases texts.any largeV <;> rfl
def k24 : PrimT := fun vs gs => match vs, gs with
  | [.sl 1 texts], [] => ((texts.all shortS && decide (texts.length ≤ 1000000000)), .sc (.int .i64 (bif texts.any largeV then (2 : Int) else 0)), [])
  | _, _ => (false, .bad, [])
theorem k24_ok : ∀ vs gs x, k24 vs gs = (true, x) → CallR C prim 24 vs gs x := by
  intro vs gs x h
  unfold k24 at h
  split at h
  · simp only [Prod.mk.injEq] at h
    obtain ⟨hp, rfl⟩ := h
    exact f24_run _ _ (f24_eq _ hp)
  · cases h

def K_f55 : CallK := kNil
theorem K_f55_ok : KOK C prim K_f55 := KOK.nil
def T_f55 : Tab := tNil
theorem T_f55_ok : TOK C prim 55 T_f55 := TOK.nil
def f55 (n' : Int) (low : Int) (high : Int) : Option (V × List Rg) :=
  bif (decide (n' ≥ low)) then
    some (.sc (.bool (decide (n' ≤ high))), [])
  else
    some (.sc (.bool false), [])
theorem f55_run (n' : Int) (low : Int) (high : Int) (z9 : V × List Rg) (h : f55 n' low high = some z9) : CallR C prim 55 [.sc (.int .i64 n'), .sc (.int .i64 low), .sc (.int .i64 high)] [] z9 := by
  refine call_fn (K := K_f55) (T := T_f55) K_f55_ok T_f55_ok (by kernel_rfl) ?_
  refine Eq.trans ?_ h
  kernel_rfl

theorem f55_eq (n' : Int) (low : Int) (high : Int) : f55 n' low high = some (.sc (.bool (decide (n' ≥ low) && decide (n' ≤ high))), []) := by
  unfold f55
  cases decide (n' ≥ low) <;> rfl
def k55 : PrimT := fun vs gs => match vs, gs with
  | [.sc (.int .i64 n'), .sc (.int .i64 low), .sc (.int .i64 high)], [] => (true, .sc (.bool (decide (n' ≥ low) && decide (n' ≤ high))), [])
  | _, _ => (false, .bad, [])
theorem k55_ok : ∀ vs gs x, k55 vs gs = (true, x) → CallR C prim 55 vs gs x := by
  intro vs gs x h
  unfold k55 at h
  split at h
  · simp only [Prod.mk.injEq, true_and] at h
    subst h
    exact f55_run _ _ _ _ (f55_eq _ _ _)
  · cases h

def K_f23 : CallK := kNil
theorem K_f23_ok : KOK C prim K_f23 := KOK.nil
def T_f23 : Tab := tNil
theorem T_f23_ok : TOK C prim 23 T_f23 := TOK.nil
def f23 (n' : Int) (low : Int) (high : Int) : Option (V × List Rg) :=
  bif (decide (n' ≥ low)) then
    some (.sc (.bool (decide (n' ≤ high))), [])
  else
    some (.sc (.bool false), [])
theorem f23_run (n' : Int) (low : Int) (high : Int) (z9 : V × List Rg) (h : f23 n' low high = some z9) : CallR C prim 23 [.sc (.int .i64 n'), .sc (.int .i64 low), .sc (.int .i64 high)] [] z9 := by
  refine call_fn (K := K_f23) (T := T_f23) K_f23_ok T_f23_ok (by kernel_rfl) ?_
  refine Eq.trans ?_ h
  kernel_rfl

theorem f23_eq (n' : Int) (low : Int) (high : Int) : f23 n' low high = some (.sc (.bool (decide (n' ≥ low) && decide (n' ≤ high))), []) := by
  unfold f23
  cases decide (n' ≥ low) <;> rfl
def k23 : PrimT := fun vs gs => match vs, gs with
  | [.sc (.int .i64 n'), .sc (.int .i64 low), .sc (.int .i64 high)], [] => (true, .sc (.bool (decide (n' ≥ low) && decide (n' ≤ high))), [])
  | _, _ => (false, .bad, [])
theorem k23_ok : ∀ vs gs x, k23 vs gs = (true, x) → CallR C prim 23 vs gs x := by
  intro vs gs x h
  unfold k23 at h
  split at h
  · simp only [Prod.mk.injEq, true_and] at h
    subst h
    exact f23_run _ _ _ _ (f23_eq _ _ _)
  · cases h

def K_f14 : CallK := kNil
theorem K_f14_ok : KOK C prim K_f14 := KOK.nil
def T_f14 : Tab := tNil
theorem T_f14_ok : TOK C prim 14 T_f14 := TOK.nil
def f14 (is : Bool) (e : Int) : Option (V × List Rg) :=
  bif is then
    some (.sc (.int .i64 e), [])
  else
    some (.sc (.int .i64 0), [])
theorem f14_run (is : Bool) (e : Int) (z9 : V × List Rg) (h : f14 is e = some z9) : CallR C prim 14 [.sc (.bool is), .sc (.int .i64 e)] [] z9 := by
  refine call_fn (K := K_f14) (T := T_f14) K_f14_ok T_f14_ok (by kernel_rfl) ?_
  refine Eq.trans ?_ h
  kernel_rfl

theorem f14_eq (is : Bool) (e : Int) : f14 is e = some (.sc (.int .i64 (bif is then e else 0)), []) := by cases is <;> rfl
def k14 : PrimT := fun vs gs => match vs, gs with
  | [.sc (.bool is), .sc (.int .i64 e)], [] => (true, .sc (.int .i64 (bif is then e else 0)), [])
  | _, _ => (false, .bad, [])
theorem k14_ok : ∀ vs gs x, k14 vs gs = (true, x) → CallR C prim 14 vs gs x := by
  intro vs gs x h
  unfold k14 at h
  split at h
  · simp only [Prod.mk.injEq, true_and] at h
    subst h
    exact f14_run _ _ _ (f14_eq _ _)
  · cases h

def K_f25 : CallK := kNil
theorem K_f25_ok : KOK C prim K_f25 := KOK.nil
def T_f25 : Tab := tNil
theorem T_f25_ok : TOK C prim 25 T_f25 := TOK.nil
def f25 (s : ByteArray) (e : Int) (want : ByteArray) (f : Int) : Option (V × List Rg) :=
  bif (f != 0) then
    bif (strEq s (⟨#[]⟩ : ByteArray)) then
      some (.sc (.bool (e == f)), [])
    else
      some (.sc (.bool false), [])
  else
    bif (strEq s want) then
      some (.sc (.bool (e == 0)), [])
    else
      some (.sc (.bool false), [])
theorem f25_run (s : ByteArray) (e : Int) (want : ByteArray) (f : Int) (z9 : V × List Rg) (h : f25 s e want f = some z9) : CallR C prim 25 [.sc (.string s), .sc (.int .i64 e), .sc (.string want), .sc (.int .i64 f)] [] z9 := by
  refine call_fn (K := K_f25) (T := T_f25) K_f25_ok T_f25_ok (by kernel_rfl) ?_
  refine Eq.trans ?_ h
  kernel_rfl

theorem f25_eq (s : ByteArray) (e : Int) (want : ByteArray) (f : Int) : f25 s e want f = some (.sc (.bool (outc s e want f)), []) := by
  unfold f25 outc
  cases f != 0
  · cases strEq s want <;> rfl
  · cases strEq s ⟨#[]⟩ <;> rfl
def k25 : PrimT := fun vs gs => match vs, gs with
  | [.sc (.string s), .sc (.int .i64 e), .sc (.string want), .sc (.int .i64 f)], [] => (true, .sc (.bool (outc s e want f)), [])
  | _, _ => (false, .bad, [])
theorem k25_ok : ∀ vs gs x, k25 vs gs = (true, x) → CallR C prim 25 vs gs x := by
  intro vs gs x h
  unfold k25 at h
  split at h
  · simp only [Prod.mk.injEq, true_and] at h
    subst h
    exact f25_run _ _ _ _ _ (f25_eq _ _ _ _)
  · cases h

def K_f12_l0 : CallK := kNil
theorem K_f12_l0_ok : KOK C prim K_f12_l0 := KOK.nil
def T_f12_l0 : Tab := tNil
theorem T_f12_l0_ok : TOK C prim 12 T_f12_l0 := TOK.nil
def f12_l0 : Nat → List V → Int → Int → (R : Type) → (Ex → St → Option R) → Option R
  | 0, _, _, _, _, _ => none
  | n + 1, v5, v6, v7, R, κ =>
    bif (decide (v7 < v6)) then
      bif (((decide ((0 : Int) ≤ v7)) && (decide (v7 < ((v5.length : Nat) : Int)))) && true) then
        bif (((V.isInt .i64 (nthV v5 (((v7).toNat * 1) + 0))) && true) && true) then
          bif ((V.intOf (nthV v5 (((v7).toNat * 1) + 0))) != 0) then
            κ .rt (mkS [(2, .sc (.int .i64 (V.intOf (nthV v5 (((v7).toNat * 1) + 0)))))] [])
          else
            f12_l0 n v5 v6 (IntKind.wrap .i64 (v7 + 1)) R κ
        else none
      else none
    else
      κ (.ex 0) (mkS [(2, .bad)] [])
def f12_l0_ls : List (Nat × Pat) := [(5, .sl 1), (6, .i .i64), (7, .i .i64)]
def f12_l0_rs : List RPat := []
theorem f12_l0_ok (n : Nat) : ∀ (v5 : List V) (v6 : Int) (v7 : Int) (R : Type) (κ : Ex → St → Option R) (r : R), f12_l0 n v5 v6 v7 R κ = some r → ∃ ee ss, κ ee ss = some r ∧ RunP C prim 12 [0, 1, 0, 1] (mkS [(5, .sl 1 v5), (6, .sc (.int .i64 v6)), (7, .sc (.int .i64 v7))] []) ee ss := by
  induction n with
  | zero => intro v5 v6 v7 R κ r h; cases h
  | succ n ih =>
    intro v5 v6 v7 R κ r h
    refine loop_round (K := K_f12_l0) (T := T_f12_l0) K_f12_l0_ok T_f12_l0_ok (p := [0, 1, 0, 1]) (by kernel_rfl) (fun st => bif ckS f12_l0_ls f12_l0_rs st then f12_l0 n ((st.env 5).cellsOf) ((st.env 6).intOf) ((st.env 7).intOf) R κ else none) (fun st0 h0 => ?_) ?_
    · obtain ⟨hs, h0⟩ := cond_some h0
      rw [canon (ls := f12_l0_ls) (rs := f12_l0_rs) (by kernel_rfl) st0 hs]
      exact ih _ _ _ R κ r h0
    · refine Eq.trans ?_ h
      kernel_rfl

def f12_s0 (v5 : List V) (v6 : Int) (v7 : Int) (R : Type) (κ : Ex → St → Option R) : Option R :=
  bif (firstBy V.intOf v5 != 0) then
    κ .rt (mkS [(2, .sc (.int .i64 (firstBy V.intOf v5)))] [])
  else
    κ (.ex 0) (mkS [(2, .bad)] [])
theorem f12_s0_eq (v5 : List V) (v6 : Int) (v7 : Int) (hp : ((v6 == ((v5.length : Nat) : Int)) && (v7 == 0) && v5.all (V.isInt .i64) && decide (v5.length ≤ 1000000000)) = true) : ∃ n, ∀ (R : Type) (κ : Ex → St → Option R), f12_l0 n v5 v6 v7 R κ = f12_s0 v5 v6 v7 R κ := by
  simp only [Bool.and_eq_true, decide_eq_true_eq, beq_iff_eq] at hp
  obtain ⟨⟨⟨rfl, rfl⟩, h3⟩, h4⟩ := hp
  refine ⟨v5.length + 1, fun R κ => ?_⟩
  refine errLoop (fun n k => f12_l0 n v5 ((v5.length : Nat) : Int) k R κ) v5 V.intOf (fun e => κ .rt (mkS [(2, .sc (.int .i64 e))] [])) (κ (.ex 0) (mkS [(2, .bad)] [])) ?_ ?_ v5.length 0 (by omega) _ (by omega)
  · intro n k hk
    have hs : V.isInt .i64 v5[k] = true := List.all_eq_true.1 h3 _ (List.getElem_mem hk)
    show f12_l0 (n + 1) v5 ((v5.length : Nat) : Int) (k : Int) R κ = _
    rw [f12_l0, dec_true (show (k : Int) < ((v5.length : Nat) : Int) by omega), dec_true (show (0 : Int) ≤ (k : Int) by omega), nth_at hk, hs, wrap_succ (by omega)]
    rfl
  · intro n
    show f12_l0 (n + 1) v5 ((v5.length : Nat) : Int) ((v5.length : Nat) : Int) R κ = _
    rw [f12_l0, dec_false (by omega)]
    rfl
def t_f12_l0 (st : St) (R : Type) (κ : Ex → St → Option R) : Option R := bif ckS f12_l0_ls f12_l0_rs st then (bif ((((st.env 6).intOf) == ((((st.env 5).cellsOf).length : Nat) : Int)) && (((st.env 7).intOf) == 0) && ((st.env 5).cellsOf).all (V.isInt .i64) && decide (((st.env 5).cellsOf).length ≤ 1000000000)) then f12_s0 ((st.env 5).cellsOf) ((st.env 6).intOf) ((st.env 7).intOf) R κ else none) else none
theorem t_f12_l0_ok : ∀ st0 R κ r, t_f12_l0 (forget C 12 [0, 1, 0, 1] st0) R κ = some r → ∃ ee ss, κ ee ss = some r ∧ RunP C prim 12 [0, 1, 0, 1] (forget C 12 [0, 1, 0, 1] st0) ee ss := by
  intro st0 R κ r h
  obtain ⟨hs, h⟩ := cond_some h
  obtain ⟨hp, h⟩ := cond_some h
  rw [canon (ls := f12_l0_ls) (rs := f12_l0_rs) (by kernel_rfl) st0 hs]
  obtain ⟨n, hn⟩ := f12_s0_eq _ _ _ hp
  rw [← hn] at h
  exact f12_l0_ok n _ _ _ R κ r h

def K_f12 : CallK := kNil
theorem K_f12_ok : KOK C prim K_f12 := KOK.nil
def T_f12 : Tab := tCons [0, 1, 0, 1] t_f12_l0 <| tNil
theorem T_f12_ok : TOK C prim 12 T_f12 := TOK.cons t_f12_l0_ok <| TOK.nil
def f12 (l : List V) : Option (V × List Rg) :=
  bif ((((l.length : Nat) : Int) == ((l.length : Nat) : Int)) && ((0 : Int) == 0) && l.all (V.isInt .i64) && decide (l.length ≤ 1000000000)) then
    bif (firstBy V.intOf l != 0) then
      some (.sc (.int .i64 (firstBy V.intOf l)), [])
    else
      some (.sc (.int .i64 0), [])
  else none
theorem f12_run (l : List V) (z9 : V × List Rg) (h : f12 l = some z9) : CallR C prim 12 [.sl 1 l] [] z9 := by
  refine call_fn (K := K_f12) (T := T_f12) K_f12_ok T_f12_ok (by kernel_rfl) ?_
  refine Eq.trans ?_ h
  kernel_rfl

theorem f12_eq (l : List V) (hp : (l.all (V.isInt .i64) && decide (l.length ≤ 1000000000)) = true) : f12 l = some (.sc (.int .i64 (firstBy V.intOf l)), []) := by
  simp only [Bool.and_eq_true, decide_eq_true_eq] at hp
  unfold f12
  rw [hp.1, dec_true hp.2]
  simp only [beq_self_eq_true, Bool.and_true, cond_true]
  exact zero_or (x := firstBy V.intOf l) (fun e => some (V.sc (.int .i64 e), []))
def k12 : PrimT := fun vs gs => match vs, gs with
  | [.sl 1 l], [] => ((l.all (V.isInt .i64) && decide (l.length ≤ 1000000000)), .sc (.int .i64 (firstBy V.intOf l)), [])
  | _, _ => (false, .bad, [])
theorem k12_ok : ∀ vs gs x, k12 vs gs = (true, x) → CallR C prim 12 vs gs x := by
  intro vs gs x h
  unfold k12 at h
  split at h
  · simp only [Prod.mk.injEq] at h
    obtain ⟨hp, rfl⟩ := h
    exact f12_run _ _ (f12_eq _ hp)
  · cases h

def K_f120 : CallK := kNil
theorem K_f120_ok : KOK C prim K_f120 := KOK.nil
def T_f120 : Tab := tNil
theorem T_f120_ok : TOK C prim 120 T_f120 := TOK.nil
def f120 (x : ByteArray) : Option (V × List Rg) :=
  some (.sc (.bool (!(strEq x x))), [])
theorem f120_run (x : ByteArray) (z9 : V × List Rg) (h : f120 x = some z9) : CallR C prim 120 [.sc (.string x)] [] z9 := by
  refine call_fn (K := K_f120) (T := T_f120) K_f120_ok T_f120_ok (by kernel_rfl) ?_
  refine Eq.trans ?_ h
  kernel_rfl

theorem f120_eq (x : ByteArray) : f120 x = some (.sc (.bool false), []) := by
  unfold f120
  rw [strEq_self]
  rfl
def k120 : PrimT := fun vs gs => match vs, gs with
  | [.sc (.string x)], [] => (true, .sc (.bool false), [])
  | _, _ => (false, .bad, [])
theorem k120_ok : ∀ vs gs x, k120 vs gs = (true, x) → CallR C prim 120 vs gs x := by
  intro vs gs x h
  unfold k120 at h
  split at h
  · simp only [Prod.mk.injEq, true_and] at h
    subst h
    exact f120_run _ _ (f120_eq _)
  · cases h

def K_f96 : CallK := kCons 120 k120 <| kNil
theorem K_f96_ok : KOK C prim K_f96 := KOK.cons k120_ok <| KOK.nil
def T_f96 : Tab := tNil
theorem T_f96_ok : TOK C prim 96 T_f96 := TOK.nil
def f96 (x : ByteArray) (y : ByteArray) : Option (V × List Rg) :=
  some (.sc (.bool (strLt x y)), [])
theorem f96_run (x : ByteArray) (y : ByteArray) (z9 : V × List Rg) (h : f96 x y = some z9) : CallR C prim 96 [.sc (.string x), .sc (.string y)] [] z9 := by
  refine call_fn (K := K_f96) (T := T_f96) K_f96_ok T_f96_ok (by kernel_rfl) ?_
  refine Eq.trans ?_ h
  kernel_rfl

theorem f96_eq (x : ByteArray) (y : ByteArray) : f96 x y = some (.sc (.bool (strLt x y)), []) := by rfl
def k96 : PrimT := fun vs gs => match vs, gs with
  | [.sc (.string x), .sc (.string y)], [] => (true, .sc (.bool (strLt x y)), [])
  | _, _ => (false, .bad, [])
theorem k96_ok : ∀ vs gs x, k96 vs gs = (true, x) → CallR C prim 96 vs gs x := by
  intro vs gs x h
  unfold k96 at h
  split at h
  · simp only [Prod.mk.injEq, true_and] at h
    subst h
    exact f96_run _ _ _ (f96_eq _ _)
  · cases h

def K_f56_l0 : CallK := kCons 96 k96 <| kNil
theorem K_f56_l0_ok : KOK C prim K_f56_l0 := KOK.cons k96_ok <| KOK.nil
def T_f56_l0 : Tab := tNil
theorem T_f56_l0_ok : TOK C prim 56 T_f56_l0 := TOK.nil
def f56_l0 : Nat → List V → Int → (R : Type) → (Ex → St → Option R) → Option R
  | 0, _, _, _, _ => none
  | n + 1, x, i, R, κ =>
    bif (decide (i > 0)) then
      bif (((decide ((0 : Int) ≤ i)) && (decide (i < ((x.length : Nat) : Int)))) && true) then
        bif (((V.isStr (nthV x (((i).toNat * 1) + 0))) && true) && true) then
          bif (((decide ((0 : Int) ≤ (IntKind.wrap .i64 (i - 1)))) && (decide ((IntKind.wrap .i64 (i - 1)) < ((x.length : Nat) : Int)))) && true) then
            bif (((V.isStr (nthV x ((((IntKind.wrap .i64 (i - 1))).toNat * 1) + 0))) && true) && true) then
              bif (strLt (V.strOf (nthV x (((i).toNat * 1) + 0))) (V.strOf (nthV x ((((IntKind.wrap .i64 (i - 1))).toNat * 1) + 0)))) then
                κ .rt (mkS [(2, .sc (.bool false))] [])
              else
                f56_l0 n x (IntKind.wrap .i64 (i - 1)) R κ
            else none
          else none
        else none
      else none
    else
      κ (.ex 0) (mkS [(2, .bad)] [])
def f56_l0_ls : List (Nat × Pat) := [(0, .sl 1), (3, .i .i64)]
def f56_l0_rs : List RPat := []
theorem f56_l0_ok (n : Nat) : ∀ (x : List V) (i : Int) (R : Type) (κ : Ex → St → Option R) (r : R), f56_l0 n x i R κ = some r → ∃ ee ss, κ ee ss = some r ∧ RunP C prim 56 [0, 1, 0, 1] (mkS [(0, .sl 1 x), (3, .sc (.int .i64 i))] []) ee ss := by
  induction n with
  | zero => intro x i R κ r h; cases h
  | succ n ih =>
    intro x i R κ r h
    refine loop_round (K := K_f56_l0) (T := T_f56_l0) K_f56_l0_ok T_f56_l0_ok (p := [0, 1, 0, 1]) (by kernel_rfl) (fun st => bif ckS f56_l0_ls f56_l0_rs st then f56_l0 n ((st.env 0).cellsOf) ((st.env 3).intOf) R κ else none) (fun st0 h0 => ?_) ?_
    · obtain ⟨hs, h0⟩ := cond_some h0
      rw [canon (ls := f56_l0_ls) (rs := f56_l0_rs) (by kernel_rfl) st0 hs]
      exact ih _ _ R κ r h0
    · refine Eq.trans ?_ h
      kernel_rfl

def f56_s0 (x : List V) (i : Int) (R : Type) (κ : Ex → St → Option R) : Option R :=
  bif (sortedV x) then
    κ (.ex 0) (mkS [(2, .bad)] [])
  else
    κ .rt (mkS [(2, .sc (.bool false))] [])
theorem f56_loop (x : List V) (hx : x.all V.isStr = true) (hl : x.length ≤ 1000000000) (R : Type) (κ : Ex → St → Option R) : ∀ (k : Nat), k < x.length →
    f56_l0 (k + 1) x ((k : Nat) : Int) R κ = bif sortedV (x.take (k + 1)) then κ (.ex 0) (mkS [(2, .bad)] []) else κ .rt (mkS [(2, .sc (.bool false))] [])
  | 0, h => by
    rw [f56_l0, dec_false (by omega), sorted_short _ (by rw [List.length_take]; omega)]
    rfl
  | k + 1, h => by
    have hk : k < x.length := by omega
    have i1 : V.isStr x[k + 1] = true := List.all_eq_true.1 hx _ (List.getElem_mem h)
    have i2 : V.isStr x[k] = true := List.all_eq_true.1 hx _ (List.getElem_mem hk)
    have IH := f56_loop x hx hl R κ k hk
    have hw : IntKind.wrap .i64 (((k + 1 : Nat) : Int) - 1) = ((k : Nat) : Int) := by rw [wrap_id (by omega) (by omega)]; omega
    have ht : x.take (k + 1 + 1) = x.take k ++ [x[k], x[k + 1]] := by
      rw [List.take_add_one, List.getElem?_eq_getElem h, List.take_add_one, List.getElem?_eq_getElem hk, List.append_assoc]; rfl
    have ht2 : x.take (k + 1) = x.take k ++ [x[k]] := by
      rw [List.take_add_one, List.getElem?_eq_getElem hk]; rfl
    rw [f56_l0, dec_true (show ((k + 1 : Nat) : Int) > 0 by omega), hw, dec_true (show (0 : Int) ≤ ((k + 1 : Nat) : Int) by omega), dec_true (show ((k + 1 : Nat) : Int) < ((x.length : Nat) : Int) by omega), dec_true (show (0 : Int) ≤ ((k : Nat) : Int) by omega), dec_true (show ((k : Nat) : Int) < ((x.length : Nat) : Int) by omega), nth_at h, nth_at hk, i1, i2, IH, ht, sorted_snoc, ht2]
    cases strLt x[k + 1].strOf x[k].strOf <;> simp
theorem f56_s0_eq (x : List V) (i : Int) (hp : ((i == ((x.length : Nat) : Int) - 1) && x.all V.isStr && decide (x.length ≤ 1000000000)) = true) : ∃ n, ∀ (R : Type) (κ : Ex → St → Option R), f56_l0 n x i R κ = f56_s0 x i R κ := by
  simp only [Bool.and_eq_true, decide_eq_true_eq, beq_iff_eq] at hp
  obtain ⟨⟨rfl, h2⟩, h3⟩ := hp
  cases hn : x.length with
  | zero =>
    have hx : x = [] := List.eq_nil_of_length_eq_zero hn
    subst hx
    refine ⟨1, fun R κ => ?_⟩
    rw [f56_l0, dec_false (by simp)]
    rfl
  | succ m =>
    refine ⟨m + 1, fun R κ => ?_⟩
    have := f56_loop x h2 h3 R κ m (by omega)
    rw [← hn, List.take_length, show ((m : Nat) : Int) = ((x.length : Nat) : Int) - 1 by omega] at this
    rw [← hn]
    exact this
def t_f56_l0 (st : St) (R : Type) (κ : Ex → St → Option R) : Option R := bif ckS f56_l0_ls f56_l0_rs st then (bif ((((st.env 3).intOf) == ((((st.env 0).cellsOf).length : Nat) : Int) - 1) && ((st.env 0).cellsOf).all V.isStr && decide (((st.env 0).cellsOf).length ≤ 1000000000)) then f56_s0 ((st.env 0).cellsOf) ((st.env 3).intOf) R κ else none) else none
theorem t_f56_l0_ok : ∀ st0 R κ r, t_f56_l0 (forget C 56 [0, 1, 0, 1] st0) R κ = some r → ∃ ee ss, κ ee ss = some r ∧ RunP C prim 56 [0, 1, 0, 1] (forget C 56 [0, 1, 0, 1] st0) ee ss := by
  intro st0 R κ r h
  obtain ⟨hs, h⟩ := cond_some h
  obtain ⟨hp, h⟩ := cond_some h
  rw [canon (ls := f56_l0_ls) (rs := f56_l0_rs) (by kernel_rfl) st0 hs]
  obtain ⟨n, hn⟩ := f56_s0_eq _ _ hp
  rw [← hn] at h
  exact f56_l0_ok n _ _ R κ r h

def K_f56 : CallK := kNil
theorem K_f56_ok : KOK C prim K_f56 := KOK.nil
def T_f56 : Tab := tCons [0, 1, 0, 1] t_f56_l0 <| tNil
theorem T_f56_ok : TOK C prim 56 T_f56 := TOK.cons t_f56_l0_ok <| TOK.nil
def f56 (x : List V) : Option (V × List Rg) :=
  bif (((IntKind.wrap .i64 (((x.length : Nat) : Int) - 1)) == ((x.length : Nat) : Int) - 1) && x.all V.isStr && decide (x.length ≤ 1000000000)) then
    bif (sortedV x) then
      some (.sc (.bool true), [])
    else
      some (.sc (.bool false), [])
  else none
theorem f56_run (x : List V) (z9 : V × List Rg) (h : f56 x = some z9) : CallR C prim 56 [.sl 1 x] [] z9 := by
  refine call_fn (K := K_f56) (T := T_f56) K_f56_ok T_f56_ok (by kernel_rfl) ?_
  refine Eq.trans ?_ h
  kernel_rfl

theorem f56_eq (x : List V) (hp : (x.all V.isStr && decide (x.length ≤ 1000000000)) = true) : f56 x = some (.sc (.bool (sortedV x)), []) := by
  simp only [Bool.and_eq_true, decide_eq_true_eq] at hp
  unfold f56
  have hw : IntKind.wrap .i64 (((x.length : Nat) : Int) - 1) = ((x.length : Nat) : Int) - 1 := wrap_id (by omega) (by omega)
  rw [hw, hp.1, dec_true hp.2, beq_self_eq_true]
  cases sortedV x <;> rfl
def k56 : PrimT := fun vs gs => match vs, gs with
  | [.sl 1 x], [] => ((x.all V.isStr && decide (x.length ≤ 1000000000)), .sc (.bool (sortedV x)), [])
  | _, _ => (false, .bad, [])
theorem k56_ok : ∀ vs gs x, k56 vs gs = (true, x) → CallR C prim 56 vs gs x := by
  intro vs gs x h
  unfold k56 at h
  split at h
  · simp only [Prod.mk.injEq] at h
    obtain ⟨hp, rfl⟩ := h
    exact f56_run _ _ (f56_eq _ hp)
  · cases h

def K_f57_l0 : CallK := kNil
theorem K_f57_l0_ok : KOK C prim K_f57_l0 := KOK.nil
def T_f57_l0 : Tab := tNil
theorem T_f57_l0_ok : TOK C prim 57 T_f57_l0 := TOK.nil
def f57_l0 : Nat → ByteArray → ByteArray → Int → Int → Int → List V → (R : Type) → (Ex → St → Option R) → Option R
  | 0, _, _, _, _, _, _, _, _ => none
  | n + 1, line, tabs, v13, v14, r0, r1, R, κ =>
    bif (decide (v14 < v13)) then
      bif ((decide ((0 : Int) ≤ v14)) && true) then
        bif ((bitsI .and .i64 (Int.fdiv r0 (2 ^ (min (v14).toNat 64))) 1) == 0) then
          bif ((decide ((tabs.size + 1) ≤ 9223372036854775807)) && true) then
            f57_l0 n line (tabs ++ (⟨#[9]⟩ : ByteArray)) v13 (IntKind.wrap .i64 (v14 + 1)) r0 r1 R κ
          else none
        else
          f57_l0 n line tabs v13 (IntKind.wrap .i64 (v14 + 1)) r0 r1 R κ
      else none
    else
      κ (.ex 0) (mkS [(1, .sc (.string line)), (3, .ptrB (.par 1) 0), (6, .sc (.string tabs))] [(.par 1, some ⟨true, [.own 9 false r1]⟩), (.par 0, some ⟨true, [.sc (.int .i64 r0)]⟩)])
def f57_l0_ls : List (Nat × Pat) := [(1, .s), (2, .is (.ptrB (.par 0) 0)), (3, .is (.ptrB (.par 1) 0)), (6, .s), (13, .i .i64), (14, .i .i64)]
def f57_l0_rs : List RPat := [⟨.par 0, true, [.i .i64]⟩, ⟨.par 1, true, [.own 9 false]⟩]
theorem f57_l0_ok (n : Nat) : ∀ (line : ByteArray) (tabs : ByteArray) (v13 : Int) (v14 : Int) (r0 : Int) (r1 : List V) (R : Type) (κ : Ex → St → Option R) (r : R), f57_l0 n line tabs v13 v14 r0 r1 R κ = some r → ∃ ee ss, κ ee ss = some r ∧ RunP C prim 57 [0, 1, 0, 1, 1] (mkS [(1, .sc (.string line)), (2, .ptrB (.par 0) 0), (3, .ptrB (.par 1) 0), (6, .sc (.string tabs)), (13, .sc (.int .i64 v13)), (14, .sc (.int .i64 v14))] [(.par 0, some ⟨true, [.sc (.int .i64 r0)]⟩), (.par 1, some ⟨true, [.own 9 false r1]⟩)]) ee ss := by
  induction n with
  | zero => intro line tabs v13 v14 r0 r1 R κ r h; cases h
  | succ n ih =>
    intro line tabs v13 v14 r0 r1 R κ r h
    refine loop_round (K := K_f57_l0) (T := T_f57_l0) K_f57_l0_ok T_f57_l0_ok (p := [0, 1, 0, 1, 1]) (by kernel_rfl) (fun st => bif ckS f57_l0_ls f57_l0_rs st then f57_l0 n ((st.env 1).strOf) ((st.env 6).strOf) ((st.env 13).intOf) ((st.env 14).intOf) ((nthV (rowOf (st.regs (.par 0))) 0).intOf) ((nthV (rowOf (st.regs (.par 1))) 0).cellsOf) R κ else none) (fun st0 h0 => ?_) ?_
    · obtain ⟨hs, h0⟩ := cond_some h0
      rw [canon (ls := f57_l0_ls) (rs := f57_l0_rs) (by kernel_rfl) st0 hs]
      exact ih _ _ _ _ _ _ R κ r h0
    · refine Eq.trans ?_ h
      kernel_rfl

def f57_s0 (line : ByteArray) (tabs : ByteArray) (v13 : Int) (v14 : Int) (r0 : Int) (r1 : List V) (R : Type) (κ : Ex → St → Option R) : Option R :=
  κ (.ex 0) (mkS [(1, .sc (.string line)), (3, .ptrB (.par 1) 0), (6, .sc (.string (tabB r0 v13)))] [(.par 1, some ⟨true, [.own 9 false r1]⟩), (.par 0, some ⟨true, [.sc (.int .i64 r0)]⟩)])
theorem int02 {v : Int} (h1 : 0 ≤ v) (h2 : v ≤ 2) : v = 0 ∨ v = 1 ∨ v = 2 := by omega
theorem int07 {v : Int} (h1 : 0 ≤ v) (h2 : v ≤ 7) : v = 0 ∨ v = 1 ∨ v = 2 ∨ v = 3 ∨ v = 4 ∨ v = 5 ∨ v = 6 ∨ v = 7 := by omega
theorem ba_zero {s : ByteArray} (h : s.size = 0) : s = ⟨#[]⟩ := ba_ext (by rw [bl_size] at h; exact List.eq_nil_of_length_eq_zero h)
theorem f57_s0_eq (line : ByteArray) (tabs : ByteArray) (v13 : Int) (v14 : Int) (r0 : Int) (r1 : List V) (hp : ((tabs.size == 0) && (v14 == 0) && decide (0 ≤ v13) && decide (v13 ≤ 2) && decide (0 ≤ r0) && decide (r0 ≤ 7)) = true) : ∃ n, ∀ (R : Type) (κ : Ex → St → Option R), f57_l0 n line tabs v13 v14 r0 r1 R κ = f57_s0 line tabs v13 v14 r0 r1 R κ := by
  simp only [Bool.and_eq_true, decide_eq_true_eq, beq_iff_eq] at hp
  obtain ⟨⟨⟨⟨⟨h1, rfl⟩, h3⟩, h4⟩, h5⟩, h6⟩ := hp
  obtain rfl := ba_zero h1
  refine ⟨4, fun R κ => ?_⟩
  rcases int02 h3 h4 with rfl | rfl | rfl <;> rcases int07 h5 h6 with rfl | rfl | rfl | rfl | rfl | rfl | rfl | rfl <;> kernel_rfl
def t_f57_l0 (st : St) (R : Type) (κ : Ex → St → Option R) : Option R := bif ckS f57_l0_ls f57_l0_rs st then (bif ((((st.env 6).strOf).size == 0) && (((st.env 14).intOf) == 0) && decide (0 ≤ ((st.env 13).intOf)) && decide (((st.env 13).intOf) ≤ 2) && decide (0 ≤ ((nthV (rowOf (st.regs (.par 0))) 0).intOf)) && decide (((nthV (rowOf (st.regs (.par 0))) 0).intOf) ≤ 7)) then f57_s0 ((st.env 1).strOf) ((st.env 6).strOf) ((st.env 13).intOf) ((st.env 14).intOf) ((nthV (rowOf (st.regs (.par 0))) 0).intOf) ((nthV (rowOf (st.regs (.par 1))) 0).cellsOf) R κ else none) else none
theorem t_f57_l0_ok : ∀ st0 R κ r, t_f57_l0 (forget C 57 [0, 1, 0, 1, 1] st0) R κ = some r → ∃ ee ss, κ ee ss = some r ∧ RunP C prim 57 [0, 1, 0, 1, 1] (forget C 57 [0, 1, 0, 1, 1] st0) ee ss := by
  intro st0 R κ r h
  obtain ⟨hs, h⟩ := cond_some h
  obtain ⟨hp, h⟩ := cond_some h
  rw [canon (ls := f57_l0_ls) (rs := f57_l0_rs) (by kernel_rfl) st0 hs]
  obtain ⟨n, hn⟩ := f57_s0_eq _ _ _ _ _ _ hp
  rw [← hn] at h
  exact f57_l0_ok n _ _ _ _ _ _ R κ r h

def K_f57 : CallK := kNil
theorem K_f57_ok : KOK C prim K_f57 := KOK.nil
def T_f57 : Tab := tCons [0, 1, 0, 1, 1] t_f57_l0 <| tNil
theorem T_f57_ok : TOK C prim 57 T_f57 := TOK.cons t_f57_l0_ok <| TOK.nil
def f57 (column : Int) (line : ByteArray) (r0 : Int) (r1 : List V) : Option (V × List Rg) :=
  bif ((decide ((0 : Int) ≤ column)) && true) then
    bif ((bitsI .and .i64 (Int.fdiv r0 (2 ^ (min (column).toNat 64))) 1) == 1) then
      some (.tp [], [⟨true, [.sc (.int .i64 r0)]⟩, ⟨true, [.own 9 false r1]⟩])
    else
      bif (((⟨#[]⟩ : ByteArray).size == 0) && ((0 : Int) == 0) && decide (0 ≤ column) && decide (column ≤ 2) && decide (0 ≤ r0) && decide (r0 ≤ 7)) then
        bif ((decide (((tabB r0 column).size + line.size) ≤ 9223372036854775807)) && true) then
          bif (((roomy ((r1.length + 1) * 16)) && (roomy (r1.length + 1))) && true) then
            some (.tp [], [⟨true, [.sc (.int .i64 r0)]⟩, ⟨true, [.own 9 false (r1 ++ [.sc (.string ((tabB r0 column) ++ line))])]⟩])
          else none
        else none
      else none
  else none
theorem f57_run (column : Int) (line : ByteArray) (r0 : Int) (r1 : List V) (z9 : V × List Rg) (h : f57 column line r0 r1 = some z9) : CallR C prim 57 [.sc (.int .i64 column), .sc (.string line), .ptrB (.par 0) 0, .ptrB (.par 1) 0] [⟨true, [.sc (.int .i64 r0)]⟩, ⟨true, [.own 9 false r1]⟩] z9 := by
  refine call_fn (K := K_f57) (T := T_f57) K_f57_ok T_f57_ok (by kernel_rfl) ?_
  refine Eq.trans ?_ h
  kernel_rfl

theorem bit57 {c h : Int} (c1 : 0 ≤ c) (c2 : c ≤ 2) (h1 : 0 ≤ h) (h2 : h ≤ 7) : ((bitsI .and .i64 (Int.fdiv h (2 ^ (min (c).toNat 64))) 1) == 1) = hB h c := by
  rcases int02 c1 c2 with rfl | rfl | rfl <;> rcases int07 h1 h2 with rfl | rfl | rfl | rfl | rfl | rfl | rfl | rfl <;> kernel_rfl
theorem f57_eq (column : Int) (line : ByteArray) (r0 : Int) (r1 : List V) (hp : (decide (0 ≤ column) && decide (column ≤ 2) && decide (0 ≤ r0) && decide (r0 ≤ 7) && decide (line.size ≤ 1000000000) && decide (r1.length ≤ 1000000000)) = true) : f57 column line r0 r1 = some (.tp [], [⟨true, [.sc (.int .i64 r0)]⟩, ⟨true, [.own 9 false (r1 ++ tellV r0 column line)]⟩]) := by
  simp only [Bool.and_eq_true, decide_eq_true_eq, beq_iff_eq] at hp
  obtain ⟨⟨⟨⟨⟨h1, h2⟩, h3⟩, h4⟩, h5⟩, h6⟩ := hp
  have ht := tab_le r0 column
  have r1' : roomy ((r1.length + 1) * 16) = true := dec_true (by omega)
  have r2' : roomy (r1.length + 1) = true := dec_true (by omega)
  have e0 : ((⟨#[]⟩ : ByteArray).size == 0) = true := rfl
  unfold f57 tellV
  rw [bit57 h1 h2 h3 h4, dec_true h1, dec_true h2, dec_true h3, dec_true h4, dec_true (show (tabB r0 column).size + line.size ≤ 9223372036854775807 by omega), r1', r2', e0]
  cases hB r0 column
  · rfl
  · simp only [cond_true, Bool.and_true, List.append_nil]
def k57 : PrimT := fun vs gs => match vs, gs with
  | [.sc (.int .i64 column), .sc (.string line), .ptrB (.par 0) 0, .ptrB (.par 1) 0], [⟨true, [.sc (.int .i64 r0)]⟩, ⟨true, [.own 9 false r1]⟩] => ((decide (0 ≤ column) && decide (column ≤ 2) && decide (0 ≤ r0) && decide (r0 ≤ 7) && decide (line.size ≤ 1000000000) && decide (r1.length ≤ 1000000000)), .tp [], [⟨true, [.sc (.int .i64 r0)]⟩, ⟨true, [.own 9 false (r1 ++ tellV r0 column line)]⟩])
  | _, _ => (false, .bad, [])
theorem k57_ok : ∀ vs gs x, k57 vs gs = (true, x) → CallR C prim 57 vs gs x := by
  intro vs gs x h
  unfold k57 at h
  split at h
  · simp only [Prod.mk.injEq] at h
    obtain ⟨hp, rfl⟩ := h
    exact f57_run _ _ _ _ _ (f57_eq _ _ _ _ hp)
  · cases h

def K_f60_l0 : CallK := kNil
theorem K_f60_l0_ok : KOK C prim K_f60_l0 := KOK.nil
def T_f60_l0 : Tab := tNil
theorem T_f60_l0_ok : TOK C prim 60 T_f60_l0 := TOK.nil
def f60_l0 : Nat → ByteArray → Int → ByteArray → Int → Int → Int → List V → (R : Type) → (Ex → St → Option R) → Option R
  | 0, _, _, _, _, _, _, _, _, _ => none
  | n + 1, s, bit, tabs, v8, v9, r0, r1, R, κ =>
    bif (decide (v9 < v8)) then
      bif ((bitsI .and .i64 r0 bit) == 0) then
        bif ((decide ((tabs.size + 1) ≤ 9223372036854775807)) && true) then
          f60_l0 n s (IntKind.wrap .i64 (bit * 2)) (tabs ++ (⟨#[9]⟩ : ByteArray)) v8 (IntKind.wrap .i64 (v9 + 1)) r0 r1 R κ
        else none
      else
        f60_l0 n s (IntKind.wrap .i64 (bit * 2)) tabs v8 (IntKind.wrap .i64 (v9 + 1)) r0 r1 R κ
    else
      κ (.ex 0) (mkS [(1, .sc (.string s)), (2, .ptrB (.par 0) 0), (3, .ptrB (.par 1) 0), (6, .sc (.int .i64 bit)), (7, .sc (.string tabs))] [(.par 0, some ⟨true, [.sc (.int .i64 r0)]⟩), (.par 1, some ⟨true, [.own 9 false r1]⟩)])
def f60_l0_ls : List (Nat × Pat) := [(1, .s), (2, .is (.ptrB (.par 0) 0)), (3, .is (.ptrB (.par 1) 0)), (6, .i .i64), (7, .s), (8, .i .i64), (9, .i .i64)]
def f60_l0_rs : List RPat := [⟨.par 0, true, [.i .i64]⟩, ⟨.par 1, true, [.own 9 false]⟩]
theorem f60_l0_ok (n : Nat) : ∀ (s : ByteArray) (bit : Int) (tabs : ByteArray) (v8 : Int) (v9 : Int) (r0 : Int) (r1 : List V) (R : Type) (κ : Ex → St → Option R) (r : R), f60_l0 n s bit tabs v8 v9 r0 r1 R κ = some r → ∃ ee ss, κ ee ss = some r ∧ RunP C prim 60 [0, 1, 0, 1, 1] (mkS [(1, .sc (.string s)), (2, .ptrB (.par 0) 0), (3, .ptrB (.par 1) 0), (6, .sc (.int .i64 bit)), (7, .sc (.string tabs)), (8, .sc (.int .i64 v8)), (9, .sc (.int .i64 v9))] [(.par 0, some ⟨true, [.sc (.int .i64 r0)]⟩), (.par 1, some ⟨true, [.own 9 false r1]⟩)]) ee ss := by
  induction n with
  | zero => intro s bit tabs v8 v9 r0 r1 R κ r h; cases h
  | succ n ih =>
    intro s bit tabs v8 v9 r0 r1 R κ r h
    refine loop_round (K := K_f60_l0) (T := T_f60_l0) K_f60_l0_ok T_f60_l0_ok (p := [0, 1, 0, 1, 1]) (by kernel_rfl) (fun st => bif ckS f60_l0_ls f60_l0_rs st then f60_l0 n ((st.env 1).strOf) ((st.env 6).intOf) ((st.env 7).strOf) ((st.env 8).intOf) ((st.env 9).intOf) ((nthV (rowOf (st.regs (.par 0))) 0).intOf) ((nthV (rowOf (st.regs (.par 1))) 0).cellsOf) R κ else none) (fun st0 h0 => ?_) ?_
    · obtain ⟨hs, h0⟩ := cond_some h0
      rw [canon (ls := f60_l0_ls) (rs := f60_l0_rs) (by kernel_rfl) st0 hs]
      exact ih _ _ _ _ _ _ _ R κ r h0
    · refine Eq.trans ?_ h
      kernel_rfl

def f60_s0 (s : ByteArray) (bit : Int) (tabs : ByteArray) (v8 : Int) (v9 : Int) (r0 : Int) (r1 : List V) (R : Type) (κ : Ex → St → Option R) : Option R :=
  κ (.ex 0) (mkS [(1, .sc (.string s)), (2, .ptrB (.par 0) 0), (3, .ptrB (.par 1) 0), (6, .sc (.int .i64 (bitP v8))), (7, .sc (.string (tabB r0 v8)))] [(.par 0, some ⟨true, [.sc (.int .i64 r0)]⟩), (.par 1, some ⟨true, [.own 9 false r1]⟩)])
theorem f60_s0_eq (s : ByteArray) (bit : Int) (tabs : ByteArray) (v8 : Int) (v9 : Int) (r0 : Int) (r1 : List V) (hp : ((bit == 1) && (tabs.size == 0) && (v9 == 0) && decide (0 ≤ v8) && decide (v8 ≤ 2) && decide (0 ≤ r0) && decide (r0 ≤ 7)) = true) : ∃ n, ∀ (R : Type) (κ : Ex → St → Option R), f60_l0 n s bit tabs v8 v9 r0 r1 R κ = f60_s0 s bit tabs v8 v9 r0 r1 R κ := by
  simp only [Bool.and_eq_true, decide_eq_true_eq, beq_iff_eq] at hp
  obtain ⟨⟨⟨⟨⟨⟨rfl, h1⟩, rfl⟩, h3⟩, h4⟩, h5⟩, h6⟩ := hp
  obtain rfl := ba_zero h1
  refine ⟨4, fun R κ => ?_⟩
  rcases int02 h3 h4 with rfl | rfl | rfl <;> rcases int07 h5 h6 with rfl | rfl | rfl | rfl | rfl | rfl | rfl | rfl <;> kernel_rfl
def t_f60_l0 (st : St) (R : Type) (κ : Ex → St → Option R) : Option R := bif ckS f60_l0_ls f60_l0_rs st then (bif ((((st.env 6).intOf) == 1) && (((st.env 7).strOf).size == 0) && (((st.env 9).intOf) == 0) && decide (0 ≤ ((st.env 8).intOf)) && decide (((st.env 8).intOf) ≤ 2) && decide (0 ≤ ((nthV (rowOf (st.regs (.par 0))) 0).intOf)) && decide (((nthV (rowOf (st.regs (.par 0))) 0).intOf) ≤ 7)) then f60_s0 ((st.env 1).strOf) ((st.env 6).intOf) ((st.env 7).strOf) ((st.env 8).intOf) ((st.env 9).intOf) ((nthV (rowOf (st.regs (.par 0))) 0).intOf) ((nthV (rowOf (st.regs (.par 1))) 0).cellsOf) R κ else none) else none
theorem t_f60_l0_ok : ∀ st0 R κ r, t_f60_l0 (forget C 60 [0, 1, 0, 1, 1] st0) R κ = some r → ∃ ee ss, κ ee ss = some r ∧ RunP C prim 60 [0, 1, 0, 1, 1] (forget C 60 [0, 1, 0, 1, 1] st0) ee ss := by
  intro st0 R κ r h
  obtain ⟨hs, h⟩ := cond_some h
  obtain ⟨hp, h⟩ := cond_some h
  rw [canon (ls := f60_l0_ls) (rs := f60_l0_rs) (by kernel_rfl) st0 hs]
  obtain ⟨n, hn⟩ := f60_s0_eq _ _ _ _ _ _ _ hp
  rw [← hn] at h
  exact f60_l0_ok n _ _ _ _ _ _ _ R κ r h

def K_f60 : CallK := kNil
theorem K_f60_ok : KOK C prim K_f60 := KOK.nil
def T_f60 : Tab := tCons [0, 1, 0, 1, 1] t_f60_l0 <| tNil
theorem T_f60_ok : TOK C prim 60 T_f60 := TOK.cons t_f60_l0_ok <| TOK.nil
def f60 (column : Int) (s : ByteArray) (r0 : Int) (r1 : List V) : Option (V × List Rg) :=
  bif (((1 : Int) == 1) && ((⟨#[]⟩ : ByteArray).size == 0) && ((0 : Int) == 0) && decide (0 ≤ column) && decide (column ≤ 2) && decide (0 ≤ r0) && decide (r0 ≤ 7)) then
    bif ((bitsI .and .i64 r0 (bitP column)) == 0) then
      bif ((decide (((tabB r0 column).size + s.size) ≤ 9223372036854775807)) && true) then
        bif (((roomy ((r1.length + 1) * 16)) && (roomy (r1.length + 1))) && true) then
          some (.tp [], [⟨true, [.sc (.int .i64 r0)]⟩, ⟨true, [.own 9 false (r1 ++ [.sc (.string ((tabB r0 column) ++ s))])]⟩])
        else none
      else none
    else
      some (.tp [], [⟨true, [.sc (.int .i64 r0)]⟩, ⟨true, [.own 9 false r1]⟩])
  else none
theorem f60_run (column : Int) (s : ByteArray) (r0 : Int) (r1 : List V) (z9 : V × List Rg) (h : f60 column s r0 r1 = some z9) : CallR C prim 60 [.sc (.int .i64 column), .sc (.string s), .ptrB (.par 0) 0, .ptrB (.par 1) 0] [⟨true, [.sc (.int .i64 r0)]⟩, ⟨true, [.own 9 false r1]⟩] z9 := by
  refine call_fn (K := K_f60) (T := T_f60) K_f60_ok T_f60_ok (by kernel_rfl) ?_
  refine Eq.trans ?_ h
  kernel_rfl

theorem bit60 {c h : Int} (c1 : 0 ≤ c) (c2 : c ≤ 2) (h1 : 0 ≤ h) (h2 : h ≤ 7) : ((bitsI .and .i64 h (bitP c)) == 0) = !hB h c := by
  rcases int02 c1 c2 with rfl | rfl | rfl <;> rcases int07 h1 h2 with rfl | rfl | rfl | rfl | rfl | rfl | rfl | rfl <;> kernel_rfl
theorem f60_eq (column : Int) (s : ByteArray) (r0 : Int) (r1 : List V) (hp : (decide (0 ≤ column) && decide (column ≤ 2) && decide (0 ≤ r0) && decide (r0 ≤ 7) && decide (s.size ≤ 1000000000) && decide (r1.length ≤ 1000000000)) = true) : f60 column s r0 r1 = some (.tp [], [⟨true, [.sc (.int .i64 r0)]⟩, ⟨true, [.own 9 false (r1 ++ tellV r0 column s)]⟩]) := by
  simp only [Bool.and_eq_true, decide_eq_true_eq, beq_iff_eq] at hp
  obtain ⟨⟨⟨⟨⟨h1, h2⟩, h3⟩, h4⟩, h5⟩, h6⟩ := hp
  have ht := tab_le r0 column
  have r1' : roomy ((r1.length + 1) * 16) = true := dec_true (by omega)
  have r2' : roomy (r1.length + 1) = true := dec_true (by omega)
  have e0 : ((⟨#[]⟩ : ByteArray).size == 0) = true := rfl
  unfold f60 tellV
  rw [bit60 h1 h2 h3 h4, dec_true h1, dec_true h2, dec_true h3, dec_true h4, dec_true (show (tabB r0 column).size + s.size ≤ 9223372036854775807 by omega), r1', r2', e0]
  cases hB r0 column
  · rfl
  · simp only [cond_true, cond_false, Bool.not_true, Bool.and_true, List.append_nil, beq_self_eq_true]
def k60 : PrimT := fun vs gs => match vs, gs with
  | [.sc (.int .i64 column), .sc (.string s), .ptrB (.par 0) 0, .ptrB (.par 1) 0], [⟨true, [.sc (.int .i64 r0)]⟩, ⟨true, [.own 9 false r1]⟩] => ((decide (0 ≤ column) && decide (column ≤ 2) && decide (0 ≤ r0) && decide (r0 ≤ 7) && decide (s.size ≤ 1000000000) && decide (r1.length ≤ 1000000000)), .tp [], [⟨true, [.sc (.int .i64 r0)]⟩, ⟨true, [.own 9 false (r1 ++ tellV r0 column s)]⟩])
  | _, _ => (false, .bad, [])
theorem k60_ok : ∀ vs gs x, k60 vs gs = (true, x) → CallR C prim 60 vs gs x := by
  intro vs gs x h
  unfold k60 at h
  split at h
  · simp only [Prod.mk.injEq] at h
    obtain ⟨hp, rfl⟩ := h
    exact f60_run _ _ _ _ _ (f60_eq _ _ _ _ hp)
  · cases h

def K_f78 : CallK := kCons 110 k110 <| kNil
theorem K_f78_ok : KOK C prim K_f78 := KOK.cons k110_ok <| KOK.nil
def T_f78 : Tab := tNil
theorem T_f78_ok : TOK C prim 78 T_f78 := TOK.nil
def f78 (s : ByteArray) (r01 : List V) : Option (V × List Rg) :=
  bif (((roomy ((r01.length + ((bytesV s)).length) * 1)) && (roomy (r01.length + ((bytesV s)).length))) && true) then
    some (.tp [.sc (.int .i64 ((s.size : Nat) : Int)), .sc .nilIface], [⟨true, [.slf, .own 5 false (r01 ++ (bytesV s))]⟩])
  else none
theorem f78_run (s : ByteArray) (r01 : List V) (z9 : V × List Rg) (h : f78 s r01 = some z9) : CallR C prim 78 [.ptrB (.par 0) 0, .sc (.string s)] [⟨true, [.slf, .own 5 false r01]⟩] z9 := by
  refine call_fn (K := K_f78) (T := T_f78) K_f78_ok T_f78_ok (by kernel_rfl) ?_
  refine Eq.trans ?_ h
  kernel_rfl

theorem f78_eq (s : ByteArray) (r01 : List V) (hp : (roomB r01 s) = true) : f78 s r01 = some (.tp [.sc (.int .i64 ((s.size : Nat) : Int)), .sc .nilIface], [⟨true, [.slf, .own 5 false (r01 ++ bytesV s)]⟩]) := by
  unfold roomB at hp
  have h := of_decide_eq_true hp
  unfold f78 roomy
  rw [bytesV_len, dec_true (by omega), dec_true (by omega)]
  rfl
def k78 : PrimT := fun vs gs => match vs, gs with
  | [.ptrB (.par 0) 0, .sc (.string s)], [⟨true, [.slf, .own 5 false r01]⟩] => ((roomB r01 s), .tp [.sc (.int .i64 ((s.size : Nat) : Int)), .sc .nilIface], [⟨true, [.slf, .own 5 false (r01 ++ bytesV s)]⟩])
  | _, _ => (false, .bad, [])
theorem k78_ok : ∀ vs gs x, k78 vs gs = (true, x) → CallR C prim 78 vs gs x := by
  intro vs gs x h
  unfold k78 at h
  split at h
  · simp only [Prod.mk.injEq] at h
    obtain ⟨hp, rfl⟩ := h
    exact f78_run _ _ _ (f78_eq _ _ hp)
  · cases h

def K_f58_l0 : CallK := kCons 78 k78 <| kNil
theorem K_f58_l0_ok : KOK C prim K_f58_l0 := KOK.cons k78_ok <| KOK.nil
def T_f58_l0 : Tab := tNil
theorem T_f58_l0_ok : TOK C prim 58 T_f58_l0 := TOK.nil
def f58_l0 : Nat → List V → Int → Int → List V → (R : Type) → (Ex → St → Option R) → Option R
  | 0, _, _, _, _, _, _ => none
  | n + 1, v6, v7, v8, b1, R, κ =>
    bif (decide (v8 < v7)) then
      bif (((decide ((0 : Int) ≤ v8)) && (decide (v8 < ((v6.length : Nat) : Int)))) && true) then
        bif (((V.isStr (nthV v6 (((v8).toNat * 1) + 0))) && true) && true) then
          bif ((decide (((V.strOf (nthV v6 (((v8).toNat * 1) + 0))).size + 1) ≤ 9223372036854775807)) && true) then
            bif ((roomB b1 ((V.strOf (nthV v6 (((v8).toNat * 1) + 0))) ++ (⟨#[10]⟩ : ByteArray))) && true) then
              f58_l0 n v6 v7 (IntKind.wrap .i64 (v8 + 1)) (b1 ++ bytesV ((V.strOf (nthV v6 (((v8).toNat * 1) + 0))) ++ (⟨#[10]⟩ : ByteArray))) R κ
            else none
          else none
        else none
      else none
    else
      κ (.ex 0) (mkS [(2, .bad), (3, .ptrB (.loc 3) 0)] [(.loc 3, some ⟨true, [.slf, .own 5 false b1]⟩)])
def f58_l0_ls : List (Nat × Pat) := [(3, .is (.ptrB (.loc 3) 0)), (6, .sl 1), (7, .i .i64), (8, .i .i64)]
def f58_l0_rs : List RPat := [⟨.loc 3, true, [.is (.slf), .own 5 false]⟩]
theorem f58_l0_ok (n : Nat) : ∀ (v6 : List V) (v7 : Int) (v8 : Int) (b1 : List V) (R : Type) (κ : Ex → St → Option R) (r : R), f58_l0 n v6 v7 v8 b1 R κ = some r → ∃ ee ss, κ ee ss = some r ∧ RunP C prim 58 [0, 1, 0, 1, 1] (mkS [(3, .ptrB (.loc 3) 0), (6, .sl 1 v6), (7, .sc (.int .i64 v7)), (8, .sc (.int .i64 v8))] [(.loc 3, some ⟨true, [.slf, .own 5 false b1]⟩)]) ee ss := by
  induction n with
  | zero => intro v6 v7 v8 b1 R κ r h; cases h
  | succ n ih =>
    intro v6 v7 v8 b1 R κ r h
    refine loop_round (K := K_f58_l0) (T := T_f58_l0) K_f58_l0_ok T_f58_l0_ok (p := [0, 1, 0, 1, 1]) (by kernel_rfl) (fun st => bif ckS f58_l0_ls f58_l0_rs st then f58_l0 n ((st.env 6).cellsOf) ((st.env 7).intOf) ((st.env 8).intOf) ((nthV (rowOf (st.regs (.loc 3))) 1).cellsOf) R κ else none) (fun st0 h0 => ?_) ?_
    · obtain ⟨hs, h0⟩ := cond_some h0
      rw [canon (ls := f58_l0_ls) (rs := f58_l0_rs) (by kernel_rfl) st0 hs]
      exact ih _ _ _ _ R κ r h0
    · refine Eq.trans ?_ h
      kernel_rfl

def f58_s0 (v6 : List V) (v7 : Int) (v8 : Int) (b1 : List V) (R : Type) (κ : Ex → St → Option R) : Option R :=
  κ (.ex 0) (mkS [(2, .bad), (3, .ptrB (.loc 3) 0)] [(.loc 3, some ⟨true, [.slf, .own 5 false (b1 ++ bytesV (resB v6))]⟩)])
theorem f58_l0_c (v6 : List V) (hu : v6.all V.isStr = true) (hl : v6.length ≤ 1000000000) : ∀ (m k : Nat) (r : List V), k + m = v6.length → r.length + (resB (v6.drop k)).size ≤ 100000000000 → ∀ n, m < n → ∀ (R : Type) (κ : Ex → St → Option R), f58_l0 n v6 ((v6.length : Nat) : Int) (k : Int) r R κ = κ (.ex 0) (mkS [(2, .bad), (3, .ptrB (.loc 3) 0)] [(.loc 3, some ⟨true, [.slf, .own 5 false (r ++ bytesV (resB (v6.drop k)))]⟩)]) := by
  intro m
  induction m with
  | zero =>
    intro k r hk hs n hn R κ
    obtain ⟨n, rfl⟩ : ∃ j, n = j + 1 := ⟨n - 1, by omega⟩
    rw [List.drop_of_length_le (by omega), f58_l0, dec_false (by omega)]
    unfold resB
    rw [bytesV_nil, List.append_nil]
    rfl
  | succ m ih =>
    intro k r hk hs n hn R κ
    obtain ⟨n, rfl⟩ : ∃ j, n = j + 1 := ⟨n - 1, by omega⟩
    have hlt : k < v6.length := by omega
    have hx : V.isStr v6[k] = true := List.all_eq_true.1 hu _ (List.getElem_mem hlt)
    rw [List.drop_eq_getElem_cons hlt] at hs ⊢
    unfold resB at hs ⊢
    have e10 : (⟨#[10]⟩ : ByteArray).size = 1 := rfl
    simp only [ba_size_append, e10] at hs
    have hroom : roomB r (v6[k].strOf ++ (⟨#[10]⟩ : ByteArray)) = true := by
      unfold roomB
      rw [ba_size_append, e10]
      exact dec_true (by omega)
    rw [f58_l0, dec_true (show (k : Int) < ((v6.length : Nat) : Int) by omega), dec_true (show (0 : Int) ≤ (k : Int) by omega), nth_at hlt, hx, dec_true (show v6[k].strOf.size + 1 ≤ 9223372036854775807 by omega), hroom, wrap_succ (by omega),
      ih (k + 1) _ (by omega) (by rw [List.length_append, bytesV_len, ba_size_append, e10]; omega) n (by omega) R κ, bytesV_app _ (resB _), List.append_assoc]
    rfl
theorem f58_s0_eq (v6 : List V) (v7 : Int) (v8 : Int) (b1 : List V) (hp : ((v7 == ((v6.length : Nat) : Int)) && (v8 == 0) && v6.all V.isStr && decide (v6.length ≤ 1000000000) && decide (b1.length + (resB v6).size ≤ 100000000000)) = true) : ∃ n, ∀ (R : Type) (κ : Ex → St → Option R), f58_l0 n v6 v7 v8 b1 R κ = f58_s0 v6 v7 v8 b1 R κ := by
  simp only [Bool.and_eq_true, decide_eq_true_eq, beq_iff_eq] at hp
  obtain ⟨⟨⟨⟨rfl, rfl⟩, h3⟩, h4⟩, h5⟩ := hp
  exact ⟨v6.length + 1, fun R κ => f58_l0_c v6 h3 h4 v6.length 0 b1 (by omega) h5 _ (by omega) R κ⟩
def t_f58_l0 (st : St) (R : Type) (κ : Ex → St → Option R) : Option R := bif ckS f58_l0_ls f58_l0_rs st then (bif ((((st.env 7).intOf) == ((((st.env 6).cellsOf).length : Nat) : Int)) && (((st.env 8).intOf) == 0) && ((st.env 6).cellsOf).all V.isStr && decide (((st.env 6).cellsOf).length ≤ 1000000000) && decide (((nthV (rowOf (st.regs (.loc 3))) 1).cellsOf).length + (resB ((st.env 6).cellsOf)).size ≤ 100000000000)) then f58_s0 ((st.env 6).cellsOf) ((st.env 7).intOf) ((st.env 8).intOf) ((nthV (rowOf (st.regs (.loc 3))) 1).cellsOf) R κ else none) else none
theorem t_f58_l0_ok : ∀ st0 R κ r, t_f58_l0 (forget C 58 [0, 1, 0, 1, 1] st0) R κ = some r → ∃ ee ss, κ ee ss = some r ∧ RunP C prim 58 [0, 1, 0, 1, 1] (forget C 58 [0, 1, 0, 1, 1] st0) ee ss := by
  intro st0 R κ r h
  obtain ⟨hs, h⟩ := cond_some h
  obtain ⟨hp, h⟩ := cond_some h
  rw [canon (ls := f58_l0_ls) (rs := f58_l0_rs) (by kernel_rfl) st0 hs]
  obtain ⟨n, hn⟩ := f58_s0_eq _ _ _ _ hp
  rw [← hn] at h
  exact f58_l0_ok n _ _ _ _ R κ r h

def K_f58 : CallK := kCons 79 k79 <| kNil
theorem K_f58_ok : KOK C prim K_f58 := KOK.cons k79_ok <| KOK.nil
def T_f58 : Tab := tCons [0, 1, 0, 1, 1] t_f58_l0 <| tNil
theorem T_f58_ok : TOK C prim 58 T_f58 := TOK.cons t_f58_l0_ok <| TOK.nil
def f58 (l : List V) : Option (V × List Rg) :=
  bif ((((l.length : Nat) : Int) == ((l.length : Nat) : Int)) && ((0 : Int) == 0) && l.all V.isStr && decide (l.length ≤ 1000000000) && decide (([] : List V).length + (resB l).size ≤ 100000000000)) then
    bif ((((([] : List V) ++ bytesV (resB l))).all okU8) && true) then
      some (.sc (.string (strOfCells (([] : List V) ++ bytesV (resB l)))), [])
    else none
  else none
theorem f58_run (l : List V) (z9 : V × List Rg) (h : f58 l = some z9) : CallR C prim 58 [.sl 1 l] [] z9 := by
  refine call_fn (K := K_f58) (T := T_f58) K_f58_ok T_f58_ok (by kernel_rfl) ?_
  refine Eq.trans ?_ h
  kernel_rfl

theorem f58_eq (l : List V) (hp : (l.all V.isStr && decide (l.length ≤ 1000000000) && decide ((resB l).size ≤ 100000000000)) = true) : f58 l = some (.sc (.string (resB l)), []) := by
  simp only [Bool.and_eq_true, decide_eq_true_eq] at hp
  unfold f58
  rw [hp.1.1, dec_true hp.1.2, dec_true (show ([] : List V).length + (resB l).size ≤ 100000000000 by simp; omega), List.nil_append, okU8_bytesV, strOf_bytesV]
  simp only [beq_self_eq_true, Bool.and_true, cond_true]
def k58 : PrimT := fun vs gs => match vs, gs with
  | [.sl 1 l], [] => ((l.all V.isStr && decide (l.length ≤ 1000000000) && decide ((resB l).size ≤ 100000000000)), .sc (.string (resB l)), [])
  | _, _ => (false, .bad, [])
theorem k58_ok : ∀ vs gs x, k58 vs gs = (true, x) → CallR C prim 58 vs gs x := by
  intro vs gs x h
  unfold k58 at h
  split at h
  · simp only [Prod.mk.injEq] at h
    obtain ⟨hp, rfl⟩ := h
    exact f58_run _ _ (f58_eq _ hp)
  · cases h

def K_f50_l0 : CallK := kNil
theorem K_f50_l0_ok : KOK C prim K_f50_l0 := KOK.nil
def T_f50_l0 : Tab := tNil
theorem T_f50_l0_ok : TOK C prim 50 T_f50_l0 := TOK.nil
def f50_l0 : Nat → ByteArray → ByteArray → Int → Int → (R : Type) → (Ex → St → Option R) → Option R
  | 0, _, _, _, _, _, _ => none
  | n + 1, a, b, v7, v8, R, κ =>
    bif (decide (v8 < v7)) then
      bif (decide (v8 ≥ ((b.size : Nat) : Int))) then
        κ .rt (mkS [(0, .sc (.string a)), (1, .sc (.string b)), (4, .sc (.int .i64 1))] [])
      else
        bif (((decide ((0 : Int) ≤ v8)) && (decide (v8 < ((a.size : Nat) : Int)))) && true) then
          bif (((decide ((0 : Int) ≤ v8)) && (decide (v8 < ((b.size : Nat) : Int)))) && true) then
            bif (((a.data.getD (v8).toNat 0).toNat : Int) != ((b.data.getD (v8).toNat 0).toNat : Int)) then
              bif (((decide ((0 : Int) ≤ v8)) && (decide (v8 < ((a.size : Nat) : Int)))) && true) then
                bif (((decide ((0 : Int) ≤ v8)) && (decide (v8 < ((b.size : Nat) : Int)))) && true) then
                  bif (decide (((a.data.getD (v8).toNat 0).toNat : Int) < ((b.data.getD (v8).toNat 0).toNat : Int))) then
                    κ .rt (mkS [(0, .sc (.string a)), (1, .sc (.string b)), (4, .sc (.int .i64 (-1)))] [])
                  else
                    κ .rt (mkS [(0, .sc (.string a)), (1, .sc (.string b)), (4, .sc (.int .i64 1))] [])
                else none
              else none
            else
              f50_l0 n a b v7 (IntKind.wrap .i64 (v8 + 1)) R κ
          else none
        else none
    else
      κ (.ex 0) (mkS [(0, .sc (.string a)), (1, .sc (.string b)), (4, .bad)] [])
def f50_l0_ls : List (Nat × Pat) := [(0, .s), (1, .s), (7, .i .i64), (8, .i .i64)]
def f50_l0_rs : List RPat := []
theorem f50_l0_ok (n : Nat) : ∀ (a : ByteArray) (b : ByteArray) (v7 : Int) (v8 : Int) (R : Type) (κ : Ex → St → Option R) (r : R), f50_l0 n a b v7 v8 R κ = some r → ∃ ee ss, κ ee ss = some r ∧ RunP C prim 50 [0, 1, 0, 1] (mkS [(0, .sc (.string a)), (1, .sc (.string b)), (7, .sc (.int .i64 v7)), (8, .sc (.int .i64 v8))] []) ee ss := by
  induction n with
  | zero => intro a b v7 v8 R κ r h; cases h
  | succ n ih =>
    intro a b v7 v8 R κ r h
    refine loop_round (K := K_f50_l0) (T := T_f50_l0) K_f50_l0_ok T_f50_l0_ok (p := [0, 1, 0, 1]) (by kernel_rfl) (fun st => bif ckS f50_l0_ls f50_l0_rs st then f50_l0 n ((st.env 0).strOf) ((st.env 1).strOf) ((st.env 7).intOf) ((st.env 8).intOf) R κ else none) (fun st0 h0 => ?_) ?_
    · obtain ⟨hs, h0⟩ := cond_some h0
      rw [canon (ls := f50_l0_ls) (rs := f50_l0_rs) (by kernel_rfl) st0 hs]
      exact ih _ _ _ _ R κ r h0
    · refine Eq.trans ?_ h
      kernel_rfl

def f50_s0 (a : ByteArray) (b : ByteArray) (v7 : Int) (v8 : Int) (R : Type) (κ : Ex → St → Option R) : Option R :=
  bif (prefB a b) then
    κ (.ex 0) (mkS [(0, .sc (.string a)), (1, .sc (.string b)), (4, .bad)] [])
  else
    κ .rt (mkS [(0, .sc (.string a)), (1, .sc (.string b)), (4, .sc (.int .i64 (bwI a b)))] [])
theorem f50_loop (a b : ByteArray) (ha : a.size ≤ 1000000000) (R : Type) (κ : Ex → St → Option R) : ∀ (k i : Nat), i + k = a.size →
    f50_l0 (k + 1) a b ((a.size : Nat) : Int) ((i : Nat) : Int) R κ = bif prefL (a.data.toList.drop i) (b.data.toList.drop i) then κ (.ex 0) (mkS [(0, .sc (.string a)), (1, .sc (.string b)), (4, .bad)] []) else κ .rt (mkS [(0, .sc (.string a)), (1, .sc (.string b)), (4, .sc (.int .i64 (cmpL (a.data.toList.drop i) (b.data.toList.drop i))))] [])
  | 0, i, h => by
    have hl := bl_size a
    rw [f50_l0, dec_false (by omega), List.drop_of_length_le (l := a.data.toList) (by omega)]
    rfl
  | k + 1, i, h => by
    have hl := bl_size a
    have hm := bl_size b
    have h1 : i < a.data.toList.length := by omega
    rw [f50_l0, dec_true (show ((i : Nat) : Int) < ((a.size : Nat) : Int) by omega), List.drop_eq_getElem_cons h1]
    by_cases hb : i < b.size
    · have h2 : i < b.data.toList.length := by omega
      have e1 : (((a.data.getD i 0).toNat : Int) != ((b.data.getD i 0).toNat : Int)) = !(a.data.toList[i] == b.data.toList[i]) := by
        rw [getD_list' a i h1, getD_list' b i h2]
        by_cases he : a.data.toList[i] = b.data.toList[i]
        · rw [he]; simp
        · have : a.data.toList[i].toNat ≠ b.data.toList[i].toNat := fun e => he (UInt8.toNat_inj.1 e)
          have h3 : (a.data.toList[i] == b.data.toList[i]) = false := beq_eq_false_iff_ne.2 he
          rw [h3, bne_iff_ne.2 (by omega)]
          rfl
      have e2 : decide (((a.data.getD i 0).toNat : Int) < ((b.data.getD i 0).toNat : Int)) = decide (a.data.toList[i] < b.data.toList[i]) := by
        rw [getD_list' a i h1, getD_list' b i h2]
        rw [decide_eq_decide, UInt8.lt_iff_toNat_lt]
        omega
      rw [dec_false (show ¬ ((i : Nat) : Int) ≥ ((b.size : Nat) : Int) by omega), dec_true (show (0 : Int) ≤ ((i : Nat) : Int) by omega), dec_true (show ((i : Nat) : Int) < ((b.size : Nat) : Int) by omega), Int.toNat_natCast, e1, e2, wrap_succ (by omega), f50_loop a b ha R κ k (i + 1) (by omega), List.drop_eq_getElem_cons h2, cmpL, prefL]
      cases a.data.toList[i] == b.data.toList[i]
      · cases decide (a.data.toList[i] < b.data.toList[i]) <;> rfl
      · rfl
    · rw [dec_true (show ((i : Nat) : Int) ≥ ((b.size : Nat) : Int) by omega), List.drop_of_length_le (l := b.data.toList) (by omega)]
      rfl
theorem f50_s0_eq (a : ByteArray) (b : ByteArray) (v7 : Int) (v8 : Int) (hp : ((v7 == ((a.size : Nat) : Int)) && (v8 == 0) && decide (a.size ≤ 1000000000)) = true) : ∃ n, ∀ (R : Type) (κ : Ex → St → Option R), f50_l0 n a b v7 v8 R κ = f50_s0 a b v7 v8 R κ := by
  simp only [Bool.and_eq_true, decide_eq_true_eq, beq_iff_eq] at hp
  obtain ⟨⟨rfl, rfl⟩, h3⟩ := hp
  exact ⟨a.size + 1, fun R κ => f50_loop a b h3 R κ a.size 0 (by omega)⟩
def t_f50_l0 (st : St) (R : Type) (κ : Ex → St → Option R) : Option R := bif ckS f50_l0_ls f50_l0_rs st then (bif ((((st.env 7).intOf) == ((((st.env 0).strOf).size : Nat) : Int)) && (((st.env 8).intOf) == 0) && decide (((st.env 0).strOf).size ≤ 1000000000)) then f50_s0 ((st.env 0).strOf) ((st.env 1).strOf) ((st.env 7).intOf) ((st.env 8).intOf) R κ else none) else none
theorem t_f50_l0_ok : ∀ st0 R κ r, t_f50_l0 (forget C 50 [0, 1, 0, 1] st0) R κ = some r → ∃ ee ss, κ ee ss = some r ∧ RunP C prim 50 [0, 1, 0, 1] (forget C 50 [0, 1, 0, 1] st0) ee ss := by
  intro st0 R κ r h
  obtain ⟨hs, h⟩ := cond_some h
  obtain ⟨hp, h⟩ := cond_some h
  rw [canon (ls := f50_l0_ls) (rs := f50_l0_rs) (by kernel_rfl) st0 hs]
  obtain ⟨n, hn⟩ := f50_s0_eq _ _ _ _ hp
  rw [← hn] at h
  exact f50_l0_ok n _ _ _ _ R κ r h

def K_f50 : CallK := kNil
theorem K_f50_ok : KOK C prim K_f50 := KOK.nil
def T_f50 : Tab := tCons [0, 1, 0, 1] t_f50_l0 <| tNil
theorem T_f50_ok : TOK C prim 50 T_f50 := TOK.cons t_f50_l0_ok <| TOK.nil
def f50 (a : ByteArray) (b : ByteArray) : Option (V × List Rg) :=
  bif ((((a.size : Nat) : Int) == ((a.size : Nat) : Int)) && ((0 : Int) == 0) && decide (a.size ≤ 1000000000)) then
    bif (prefB a b) then
      bif (decide (((a.size : Nat) : Int) < ((b.size : Nat) : Int))) then
        some (.sc (.int .i64 (-1)), [])
      else
        some (.sc (.int .i64 0), [])
    else
      some (.sc (.int .i64 (bwI a b)), [])
  else none
theorem f50_run (a : ByteArray) (b : ByteArray) (z9 : V × List Rg) (h : f50 a b = some z9) : CallR C prim 50 [.sc (.string a), .sc (.string b)] [] z9 := by
  refine call_fn (K := K_f50) (T := T_f50) K_f50_ok T_f50_ok (by kernel_rfl) ?_
  refine Eq.trans ?_ h
  kernel_rfl

theorem f50_eq (a : ByteArray) (b : ByteArray) (hp : (decide (a.size ≤ 1000000000)) = true) : f50 a b = some (.sc (.int .i64 (bwI a b)), []) := by
  unfold f50
  rw [hp, beq_self_eq_true]
  cases h : prefB a b with
  | false => rfl
  | true =>
    have h1 : bwI a b = (if a.size < b.size then -1 else 0) := by
      rw [bl_size a, bl_size b]
      exact pref_cmp _ _ h
    rw [h1]
    by_cases h2 : a.size < b.size
    · rw [dec_true (show ((a.size : Nat) : Int) < ((b.size : Nat) : Int) by omega), if_pos h2]; rfl
    · rw [dec_false (show ¬ ((a.size : Nat) : Int) < ((b.size : Nat) : Int) by omega), if_neg h2]; rfl
def k50 : PrimT := fun vs gs => match vs, gs with
  | [.sc (.string a), .sc (.string b)], [] => ((decide (a.size ≤ 1000000000)), .sc (.int .i64 (bwI a b)), [])
  | _, _ => (false, .bad, [])
theorem k50_ok : ∀ vs gs x, k50 vs gs = (true, x) → CallR C prim 50 vs gs x := by
  intro vs gs x h
  unfold k50 at h
  split at h
  · simp only [Prod.mk.injEq] at h
    obtain ⟨hp, rfl⟩ := h
    exact f50_run _ _ _ (f50_eq _ _ hp)
  · cases h

def K_f26_l1 : CallK := kCons 50 k50 <| kNil
theorem K_f26_l1_ok : KOK C prim K_f26_l1 := KOK.cons k50_ok <| KOK.nil
def T_f26_l1 : Tab := tNil
theorem T_f26_l1_ok : TOK C prim 26 T_f26_l1 := TOK.nil
def f26_l1 : Nat → List V → List V → List V → Int → Int → Int → Int → List V → (R : Type) → (Ex → St → Option R) → Option R
  | 0, _, _, _, _, _, _, _, _, _, _ => none
  | n + 1, a, b, l, i, v19, v20, hide, r18, R, κ =>
    bif (decide (i < ((l.length : Nat) : Int))) then
      bif (((decide ((0 : Int) ≤ (IntKind.wrap .i64 (i - 1)))) && (decide ((IntKind.wrap .i64 (i - 1)) < ((l.length : Nat) : Int)))) && true) then
        bif (((V.isStr (nthV l ((((IntKind.wrap .i64 (i - 1))).toNat * 1) + 0))) && true) && true) then
          bif (((decide ((0 : Int) ≤ i)) && (decide (i < ((l.length : Nat) : Int)))) && true) then
            bif (((V.isStr (nthV l (((i).toNat * 1) + 0))) && true) && true) then
              bif ((decide ((V.strOf (nthV l ((((IntKind.wrap .i64 (i - 1))).toNat * 1) + 0))).size ≤ 1000000000)) && true) then
                bif (decide ((bwI (V.strOf (nthV l ((((IntKind.wrap .i64 (i - 1))).toNat * 1) + 0))) (V.strOf (nthV l (((i).toNat * 1) + 0)))) > 0)) then
                  κ .rt (mkS [(0, .sl 1 a), (1, .sl 1 b), (5, .ptrB (.loc 5) 0), (6, .ref ⟨.loc 6, 0, [], 9, false⟩), (7, .sc (.bool false)), (18, .ref ⟨.loc 18, 0, [], 35, false⟩), (19, .sc (.int .i64 v19)), (20, .sc (.int .i64 v20))] [(.loc 5, some ⟨true, [.sc (.int .i64 hide)]⟩), (.loc 6, some ⟨false, [.own 9 false []]⟩), (.loc 18, some ⟨false, [.own 35 false r18]⟩)])
                else
                  f26_l1 n a b l (IntKind.wrap .i64 (i + 1)) v19 v20 hide r18 R κ
              else none
            else none
          else none
        else none
      else none
    else
      κ (.ex 2) (mkS [(0, .sl 1 a), (1, .sl 1 b), (5, .ptrB (.loc 5) 0), (6, .bad), (7, .bad), (18, .ref ⟨.loc 18, 0, [], 35, false⟩), (19, .sc (.int .i64 v19)), (20, .sc (.int .i64 v20))] [(.loc 5, some ⟨true, [.sc (.int .i64 hide)]⟩), (.loc 6, none), (.loc 18, some ⟨false, [.own 35 false r18]⟩)])
def f26_l1_ls : List (Nat × Pat) := [(0, .sl 1), (1, .sl 1), (5, .is (.ptrB (.loc 5) 0)), (9, .sl 1), (10, .i .i64), (18, .is (.ref ⟨.loc 18, 0, [], 35, false⟩)), (19, .i .i64), (20, .i .i64)]
def f26_l1_rs : List RPat := [⟨.loc 5, true, [.i .i64]⟩, ⟨.loc 18, false, [.own 35 false]⟩]
theorem f26_l1_ok (n : Nat) : ∀ (a : List V) (b : List V) (l : List V) (i : Int) (v19 : Int) (v20 : Int) (hide : Int) (r18 : List V) (R : Type) (κ : Ex → St → Option R) (r : R), f26_l1 n a b l i v19 v20 hide r18 R κ = some r → ∃ ee ss, κ ee ss = some r ∧ RunP C prim 26 [0, 1, 1, 0, 0, 1, 1, 0, 0, 1, 0, 1] (mkS [(0, .sl 1 a), (1, .sl 1 b), (5, .ptrB (.loc 5) 0), (9, .sl 1 l), (10, .sc (.int .i64 i)), (18, .ref ⟨.loc 18, 0, [], 35, false⟩), (19, .sc (.int .i64 v19)), (20, .sc (.int .i64 v20))] [(.loc 5, some ⟨true, [.sc (.int .i64 hide)]⟩), (.loc 18, some ⟨false, [.own 35 false r18]⟩)]) ee ss := by
  induction n with
  | zero => intro a b l i v19 v20 hide r18 R κ r h; cases h
  | succ n ih =>
    intro a b l i v19 v20 hide r18 R κ r h
    refine loop_round (K := K_f26_l1) (T := T_f26_l1) K_f26_l1_ok T_f26_l1_ok (p := [0, 1, 1, 0, 0, 1, 1, 0, 0, 1, 0, 1]) (by kernel_rfl) (fun st => bif ckS f26_l1_ls f26_l1_rs st then f26_l1 n ((st.env 0).cellsOf) ((st.env 1).cellsOf) ((st.env 9).cellsOf) ((st.env 10).intOf) ((st.env 19).intOf) ((st.env 20).intOf) ((nthV (rowOf (st.regs (.loc 5))) 0).intOf) ((nthV (rowOf (st.regs (.loc 18))) 0).cellsOf) R κ else none) (fun st0 h0 => ?_) ?_
    · obtain ⟨hs, h0⟩ := cond_some h0
      rw [canon (ls := f26_l1_ls) (rs := f26_l1_rs) (by kernel_rfl) st0 hs]
      exact ih _ _ _ _ _ _ _ _ R κ r h0
    · refine Eq.trans ?_ h
      kernel_rfl

def f26_s1 (a : List V) (b : List V) (l : List V) (i : Int) (v19 : Int) (v20 : Int) (hide : Int) (r18 : List V) (R : Type) (κ : Ex → St → Option R) : Option R :=
  bif (sortedV l) then
    κ (.ex 2) (mkS [(0, .sl 1 a), (1, .sl 1 b), (5, .ptrB (.loc 5) 0), (6, .bad), (7, .bad), (18, .ref ⟨.loc 18, 0, [], 35, false⟩), (19, .sc (.int .i64 v19)), (20, .sc (.int .i64 v20))] [(.loc 5, some ⟨true, [.sc (.int .i64 hide)]⟩), (.loc 6, none), (.loc 18, some ⟨false, [.own 35 false r18]⟩)])
  else
    κ .rt (mkS [(0, .sl 1 a), (1, .sl 1 b), (5, .ptrB (.loc 5) 0), (6, .ref ⟨.loc 6, 0, [], 9, false⟩), (7, .sc (.bool false)), (18, .ref ⟨.loc 18, 0, [], 35, false⟩), (19, .sc (.int .i64 v19)), (20, .sc (.int .i64 v20))] [(.loc 5, some ⟨true, [.sc (.int .i64 hide)]⟩), (.loc 6, some ⟨false, [.own 9 false []]⟩), (.loc 18, some ⟨false, [.own 35 false r18]⟩)])
theorem f26_loop1 (a b l : List V) (v19 v20 hide : Int) (r18 : List V) (hs : l.all shortS = true) (hl : l.length ≤ 1000000000) (R : Type) (κ : Ex → St → Option R) : ∀ (k j : Nat), l.length ≤ j + 1 + k →
    f26_l1 (k + 1) a b l ((j + 1 : Nat) : Int) v19 v20 hide r18 R κ = bif sortedV (l.drop j) then κ (.ex 2) (mkS [(0, .sl 1 a), (1, .sl 1 b), (5, .ptrB (.loc 5) 0), (6, .bad), (7, .bad), (18, .ref ⟨.loc 18, 0, [], 35, false⟩), (19, .sc (.int .i64 v19)), (20, .sc (.int .i64 v20))] [(.loc 5, some ⟨true, [.sc (.int .i64 hide)]⟩), (.loc 6, none), (.loc 18, some ⟨false, [.own 35 false r18]⟩)]) else κ .rt (mkS [(0, .sl 1 a), (1, .sl 1 b), (5, .ptrB (.loc 5) 0), (6, .ref ⟨.loc 6, 0, [], 9, false⟩), (7, .sc (.bool false)), (18, .ref ⟨.loc 18, 0, [], 35, false⟩), (19, .sc (.int .i64 v19)), (20, .sc (.int .i64 v20))] [(.loc 5, some ⟨true, [.sc (.int .i64 hide)]⟩), (.loc 6, some ⟨false, [.own 9 false []]⟩), (.loc 18, some ⟨false, [.own 35 false r18]⟩)])
  | 0, j, h => by
    rw [f26_l1, dec_false (by omega), sorted_short _ (by rw [List.length_drop]; omega)]
    rfl
  | k + 1, j, h => by
    by_cases hj : j + 1 < l.length
    case neg =>
      rw [f26_l1, dec_false (by omega), sorted_short _ (by rw [List.length_drop]; omega)]
      rfl
    have hk : j < l.length := by omega
    obtain ⟨i1, i3⟩ := shortS_spec (List.all_eq_true.1 hs _ (List.getElem_mem hj))
    obtain ⟨i2, i4⟩ := shortS_spec (List.all_eq_true.1 hs _ (List.getElem_mem hk))
    have IH := f26_loop1 a b l v19 v20 hide r18 hs hl R κ k (j + 1) (by omega)
    have hw : IntKind.wrap .i64 (((j + 1 : Nat) : Int) - 1) = ((j : Nat) : Int) := by rw [wrap_id (by omega) (by omega)]; omega
    have hd : sortedV (l.drop j) = bif strLt l[j + 1].strOf l[j].strOf then false else sortedV (l.drop (j + 1)) := by
      rw [List.drop_eq_getElem_cons hk, List.drop_eq_getElem_cons hj]; rfl
    rw [f26_l1, dec_true (show ((j + 1 : Nat) : Int) < ((l.length : Nat) : Int) by omega), hw, dec_true (show (0 : Int) ≤ ((j : Nat) : Int) by omega), dec_true (show ((j : Nat) : Int) < ((l.length : Nat) : Int) by omega), dec_true (show (0 : Int) ≤ ((j + 1 : Nat) : Int) by omega), nth_at hj, nth_at hk, i1, i2, dec_true i4, ← strLt_cmp', wrap_succ (by omega), IH, hd]
    cases strLt l[j + 1].strOf l[j].strOf <;> rfl
theorem f26_s1_eq (a : List V) (b : List V) (l : List V) (i : Int) (v19 : Int) (v20 : Int) (hide : Int) (r18 : List V) (hp : ((i == 1) && l.all shortS && decide (l.length ≤ 1000000000)) = true) : ∃ n, ∀ (R : Type) (κ : Ex → St → Option R), f26_l1 n a b l i v19 v20 hide r18 R κ = f26_s1 a b l i v19 v20 hide r18 R κ := by
  simp only [Bool.and_eq_true, decide_eq_true_eq, beq_iff_eq] at hp
  obtain ⟨⟨rfl, h2⟩, h3⟩ := hp
  refine ⟨l.length + 1, fun R κ => ?_⟩
  exact f26_loop1 a b l v19 v20 hide r18 h2 h3 R κ l.length 0 (by omega)
def t_f26_l1 (st : St) (R : Type) (κ : Ex → St → Option R) : Option R := bif ckS f26_l1_ls f26_l1_rs st then (bif ((((st.env 10).intOf) == 1) && ((st.env 9).cellsOf).all shortS && decide (((st.env 9).cellsOf).length ≤ 1000000000)) then f26_s1 ((st.env 0).cellsOf) ((st.env 1).cellsOf) ((st.env 9).cellsOf) ((st.env 10).intOf) ((st.env 19).intOf) ((st.env 20).intOf) ((nthV (rowOf (st.regs (.loc 5))) 0).intOf) ((nthV (rowOf (st.regs (.loc 18))) 0).cellsOf) R κ else none) else none
theorem t_f26_l1_ok : ∀ st0 R κ r, t_f26_l1 (forget C 26 [0, 1, 1, 0, 0, 1, 1, 0, 0, 1, 0, 1] st0) R κ = some r → ∃ ee ss, κ ee ss = some r ∧ RunP C prim 26 [0, 1, 1, 0, 0, 1, 1, 0, 0, 1, 0, 1] (forget C 26 [0, 1, 1, 0, 0, 1, 1, 0, 0, 1, 0, 1] st0) ee ss := by
  intro st0 R κ r h
  obtain ⟨hs, h⟩ := cond_some h
  obtain ⟨hp, h⟩ := cond_some h
  rw [canon (ls := f26_l1_ls) (rs := f26_l1_rs) (by kernel_rfl) st0 hs]
  obtain ⟨n, hn⟩ := f26_s1_eq _ _ _ _ _ _ _ _ hp
  rw [← hn] at h
  exact f26_l1_ok n _ _ _ _ _ _ _ _ R κ r h

def K_f26_l0 : CallK := kNil
theorem K_f26_l0_ok : KOK C prim K_f26_l0 := KOK.nil
def T_f26_l0 : Tab := tCons [0, 1, 1, 0, 0, 1, 1, 0, 0, 1, 0, 1] t_f26_l1 <| tNil
theorem T_f26_l0_ok : TOK C prim 26 T_f26_l0 := TOK.cons t_f26_l1_ok <| TOK.nil
def f26_l0 : Nat → List V → List V → Int → Int → Int → List V → (R : Type) → (Ex → St → Option R) → Option R
  | 0, _, _, _, _, _, _, _, _ => none
  | n + 1, a, b, v19, v20, hide, r18, R, κ =>
    bif (decide (v20 < v19)) then
      bif (((decide ((0 : Int) ≤ v20)) && (decide (v20 < ((r18.length : Nat) : Int)))) && true) then
        bif (((V.isSl 1 (nthV r18 (((v20).toNat * 1) + 0))) && true) && true) then
          bif (((1 : Int) == 1) && (V.cellsOf (nthV r18 (((v20).toNat * 1) + 0))).all shortS && decide ((V.cellsOf (nthV r18 (((v20).toNat * 1) + 0))).length ≤ 1000000000)) then
            bif (sortedV (V.cellsOf (nthV r18 (((v20).toNat * 1) + 0)))) then
              f26_l0 n a b v19 (IntKind.wrap .i64 (v20 + 1)) hide r18 R κ
            else
              κ .rt (mkS [(0, .sl 1 a), (1, .sl 1 b), (5, .ptrB (.loc 5) 0), (6, .ref ⟨.loc 6, 0, [], 9, false⟩), (7, .sc (.bool false))] [(.loc 5, some ⟨true, [.sc (.int .i64 hide)]⟩), (.loc 6, some ⟨false, [.own 9 false []]⟩)])
          else none
        else none
      else none
    else
      κ (.ex 0) (mkS [(0, .sl 1 a), (1, .sl 1 b), (5, .ptrB (.loc 5) 0), (6, .bad), (7, .bad)] [(.loc 5, some ⟨true, [.sc (.int .i64 hide)]⟩), (.loc 6, none)])
def f26_l0_ls : List (Nat × Pat) := [(0, .sl 1), (1, .sl 1), (5, .is (.ptrB (.loc 5) 0)), (18, .is (.ref ⟨.loc 18, 0, [], 35, false⟩)), (19, .i .i64), (20, .i .i64)]
def f26_l0_rs : List RPat := [⟨.loc 5, true, [.i .i64]⟩, ⟨.loc 18, false, [.own 35 false]⟩]
theorem f26_l0_ok (n : Nat) : ∀ (a : List V) (b : List V) (v19 : Int) (v20 : Int) (hide : Int) (r18 : List V) (R : Type) (κ : Ex → St → Option R) (r : R), f26_l0 n a b v19 v20 hide r18 R κ = some r → ∃ ee ss, κ ee ss = some r ∧ RunP C prim 26 [0, 1, 0, 1] (mkS [(0, .sl 1 a), (1, .sl 1 b), (5, .ptrB (.loc 5) 0), (18, .ref ⟨.loc 18, 0, [], 35, false⟩), (19, .sc (.int .i64 v19)), (20, .sc (.int .i64 v20))] [(.loc 5, some ⟨true, [.sc (.int .i64 hide)]⟩), (.loc 18, some ⟨false, [.own 35 false r18]⟩)]) ee ss := by
  induction n with
  | zero => intro a b v19 v20 hide r18 R κ r h; cases h
  | succ n ih =>
    intro a b v19 v20 hide r18 R κ r h
    refine loop_round (K := K_f26_l0) (T := T_f26_l0) K_f26_l0_ok T_f26_l0_ok (p := [0, 1, 0, 1]) (by kernel_rfl) (fun st => bif ckS f26_l0_ls f26_l0_rs st then f26_l0 n ((st.env 0).cellsOf) ((st.env 1).cellsOf) ((st.env 19).intOf) ((st.env 20).intOf) ((nthV (rowOf (st.regs (.loc 5))) 0).intOf) ((nthV (rowOf (st.regs (.loc 18))) 0).cellsOf) R κ else none) (fun st0 h0 => ?_) ?_
    · obtain ⟨hs, h0⟩ := cond_some h0
      rw [canon (ls := f26_l0_ls) (rs := f26_l0_rs) (by kernel_rfl) st0 hs]
      exact ih _ _ _ _ _ _ R κ r h0
    · refine Eq.trans ?_ h
      kernel_rfl

def f26_s0 (a : List V) (b : List V) (v19 : Int) (v20 : Int) (hide : Int) (r18 : List V) (R : Type) (κ : Ex → St → Option R) : Option R :=
  bif (r18.all sortedC) then
    κ (.ex 0) (mkS [(0, .sl 1 a), (1, .sl 1 b), (5, .ptrB (.loc 5) 0), (6, .bad), (7, .bad)] [(.loc 5, some ⟨true, [.sc (.int .i64 hide)]⟩), (.loc 6, none)])
  else
    κ .rt (mkS [(0, .sl 1 a), (1, .sl 1 b), (5, .ptrB (.loc 5) 0), (6, .ref ⟨.loc 6, 0, [], 9, false⟩), (7, .sc (.bool false))] [(.loc 5, some ⟨true, [.sc (.int .i64 hide)]⟩), (.loc 6, some ⟨false, [.own 9 false []]⟩)])
theorem f26_loop0 (a b : List V) (hide : Int) (r18 : List V) (hs : r18.all sortC = true) (hl : r18.length ≤ 1000000000) (R : Type) (κ : Ex → St → Option R) : ∀ (k i : Nat), i + k = r18.length →
    f26_l0 (k + 1) a b ((r18.length : Nat) : Int) ((i : Nat) : Int) hide r18 R κ = bif (r18.drop i).all sortedC then κ (.ex 0) (mkS [(0, .sl 1 a), (1, .sl 1 b), (5, .ptrB (.loc 5) 0), (6, .bad), (7, .bad)] [(.loc 5, some ⟨true, [.sc (.int .i64 hide)]⟩), (.loc 6, none)]) else κ .rt (mkS [(0, .sl 1 a), (1, .sl 1 b), (5, .ptrB (.loc 5) 0), (6, .ref ⟨.loc 6, 0, [], 9, false⟩), (7, .sc (.bool false))] [(.loc 5, some ⟨true, [.sc (.int .i64 hide)]⟩), (.loc 6, some ⟨false, [.own 9 false []]⟩)])
  | 0, i, h => by
    rw [f26_l0, dec_false (by omega), List.drop_of_length_le (by omega)]
    rfl
  | k + 1, i, h => by
    have hi : i < r18.length := by omega
    have hc := List.all_eq_true.1 hs _ (List.getElem_mem hi)
    unfold sortC at hc
    simp only [Bool.and_eq_true, decide_eq_true_eq] at hc
    obtain ⟨⟨c1, c2⟩, c3⟩ := hc
    have IH := f26_loop0 a b hide r18 hs hl R κ k (i + 1) (by omega)
    rw [f26_l0, dec_true (show ((i : Nat) : Int) < ((r18.length : Nat) : Int) by omega), dec_true (show (0 : Int) ≤ ((i : Nat) : Int) by omega), nth_at hi, c1, c2, dec_true c3, wrap_succ (by omega), IH, List.drop_eq_getElem_cons hi, List.all_cons]
    have hd : sortedC r18[i] = sortedV r18[i].cellsOf := rfl
    rw [hd]
    cases sortedV r18[i].cellsOf <;> rfl
theorem f26_s0_eq (a : List V) (b : List V) (v19 : Int) (v20 : Int) (hide : Int) (r18 : List V) (hp : ((v20 == 0) && (v19 == ((r18.length : Nat) : Int)) && r18.all sortC && decide (r18.length ≤ 1000000000)) = true) : ∃ n, ∀ (R : Type) (κ : Ex → St → Option R), f26_l0 n a b v19 v20 hide r18 R κ = f26_s0 a b v19 v20 hide r18 R κ := by
  simp only [Bool.and_eq_true, decide_eq_true_eq, beq_iff_eq] at hp
  obtain ⟨⟨⟨rfl, rfl⟩, h2⟩, h3⟩ := hp
  exact ⟨r18.length + 1, fun R κ => f26_loop0 a b hide r18 h2 h3 R κ r18.length 0 (by omega)⟩
def t_f26_l0 (st : St) (R : Type) (κ : Ex → St → Option R) : Option R := bif ckS f26_l0_ls f26_l0_rs st then (bif ((((st.env 20).intOf) == 0) && (((st.env 19).intOf) == ((((nthV (rowOf (st.regs (.loc 18))) 0).cellsOf).length : Nat) : Int)) && ((nthV (rowOf (st.regs (.loc 18))) 0).cellsOf).all sortC && decide (((nthV (rowOf (st.regs (.loc 18))) 0).cellsOf).length ≤ 1000000000)) then f26_s0 ((st.env 0).cellsOf) ((st.env 1).cellsOf) ((st.env 19).intOf) ((st.env 20).intOf) ((nthV (rowOf (st.regs (.loc 5))) 0).intOf) ((nthV (rowOf (st.regs (.loc 18))) 0).cellsOf) R κ else none) else none
theorem t_f26_l0_ok : ∀ st0 R κ r, t_f26_l0 (forget C 26 [0, 1, 0, 1] st0) R κ = some r → ∃ ee ss, κ ee ss = some r ∧ RunP C prim 26 [0, 1, 0, 1] (forget C 26 [0, 1, 0, 1] st0) ee ss := by
  intro st0 R κ r h
  obtain ⟨hs, h⟩ := cond_some h
  obtain ⟨hp, h⟩ := cond_some h
  rw [canon (ls := f26_l0_ls) (rs := f26_l0_rs) (by kernel_rfl) st0 hs]
  obtain ⟨n, hn⟩ := f26_s0_eq _ _ _ _ _ _ hp
  rw [← hn] at h
  exact f26_l0_ok n _ _ _ _ _ _ R κ r h

def K_f26_l2 : CallK := kCons 50 k50 <| kCons 60 k60 <| kNil
theorem K_f26_l2_ok : KOK C prim K_f26_l2 := KOK.cons k50_ok <| KOK.cons k60_ok <| KOK.nil
def T_f26_l2 : Tab := tNil
theorem T_f26_l2_ok : TOK C prim 26 T_f26_l2 := TOK.nil
def f26_l2 : Nat → List V → List V → Int → Int → List V → Int → (R : Type) → (Ex → St → Option R) → Option R
  | 0, _, _, _, _, _, _, _, _ => none
  | n + 1, a, b, i, k, out, hide, R, κ =>
    bif (decide (i < ((a.length : Nat) : Int))) then
      bif (i == ((a.length : Nat) : Int)) then
        bif (((decide ((0 : Int) ≤ k)) && (decide (k < ((b.length : Nat) : Int)))) && true) then
          bif (((V.isStr (nthV b (((k).toNat * 1) + 0))) && true) && true) then
            bif ((decide (0 ≤ (1 : Int)) && decide ((1 : Int) ≤ 2) && decide (0 ≤ hide) && decide (hide ≤ 7) && decide ((V.strOf (nthV b (((k).toNat * 1) + 0))).size ≤ 1000000000) && decide (out.length ≤ 1000000000)) && true) then
              f26_l2 n a b i (IntKind.wrap .i64 (k + 1)) (out ++ tellV hide (1 : Int) (V.strOf (nthV b (((k).toNat * 1) + 0)))) hide R κ
            else none
          else none
        else none
      else
        bif (k == ((b.length : Nat) : Int)) then
          bif (((decide ((0 : Int) ≤ i)) && (decide (i < ((a.length : Nat) : Int)))) && true) then
            bif (((V.isStr (nthV a (((i).toNat * 1) + 0))) && true) && true) then
              bif ((decide (0 ≤ (0 : Int)) && decide ((0 : Int) ≤ 2) && decide (0 ≤ hide) && decide (hide ≤ 7) && decide ((V.strOf (nthV a (((i).toNat * 1) + 0))).size ≤ 1000000000) && decide (out.length ≤ 1000000000)) && true) then
                f26_l2 n a b (IntKind.wrap .i64 (i + 1)) k (out ++ tellV hide (0 : Int) (V.strOf (nthV a (((i).toNat * 1) + 0)))) hide R κ
              else none
            else none
          else none
        else
          bif (((decide ((0 : Int) ≤ i)) && (decide (i < ((a.length : Nat) : Int)))) && true) then
            bif (((V.isStr (nthV a (((i).toNat * 1) + 0))) && true) && true) then
              bif (((decide ((0 : Int) ≤ k)) && (decide (k < ((b.length : Nat) : Int)))) && true) then
                bif (((V.isStr (nthV b (((k).toNat * 1) + 0))) && true) && true) then
                  bif ((decide ((V.strOf (nthV a (((i).toNat * 1) + 0))).size ≤ 1000000000)) && true) then
                    bif (decide ((bwI (V.strOf (nthV a (((i).toNat * 1) + 0))) (V.strOf (nthV b (((k).toNat * 1) + 0)))) < 0)) then
                      bif (((decide ((0 : Int) ≤ i)) && (decide (i < ((a.length : Nat) : Int)))) && true) then
                        bif (((V.isStr (nthV a (((i).toNat * 1) + 0))) && true) && true) then
                          bif ((decide (0 ≤ (0 : Int)) && decide ((0 : Int) ≤ 2) && decide (0 ≤ hide) && decide (hide ≤ 7) && decide ((V.strOf (nthV a (((i).toNat * 1) + 0))).size ≤ 1000000000) && decide (out.length ≤ 1000000000)) && true) then
                            f26_l2 n a b (IntKind.wrap .i64 (i + 1)) k (out ++ tellV hide (0 : Int) (V.strOf (nthV a (((i).toNat * 1) + 0)))) hide R κ
                          else none
                        else none
                      else none
                    else
                      bif (decide ((bwI (V.strOf (nthV a (((i).toNat * 1) + 0))) (V.strOf (nthV b (((k).toNat * 1) + 0)))) > 0)) then
                        bif (((decide ((0 : Int) ≤ k)) && (decide (k < ((b.length : Nat) : Int)))) && true) then
                          bif (((V.isStr (nthV b (((k).toNat * 1) + 0))) && true) && true) then
                            bif ((decide (0 ≤ (1 : Int)) && decide ((1 : Int) ≤ 2) && decide (0 ≤ hide) && decide (hide ≤ 7) && decide ((V.strOf (nthV b (((k).toNat * 1) + 0))).size ≤ 1000000000) && decide (out.length ≤ 1000000000)) && true) then
                              f26_l2 n a b i (IntKind.wrap .i64 (k + 1)) (out ++ tellV hide (1 : Int) (V.strOf (nthV b (((k).toNat * 1) + 0)))) hide R κ
                            else none
                          else none
                        else none
                      else
                        bif (((decide ((0 : Int) ≤ i)) && (decide (i < ((a.length : Nat) : Int)))) && true) then
                          bif (((V.isStr (nthV a (((i).toNat * 1) + 0))) && true) && true) then
                            bif ((decide (0 ≤ (2 : Int)) && decide ((2 : Int) ≤ 2) && decide (0 ≤ hide) && decide (hide ≤ 7) && decide ((V.strOf (nthV a (((i).toNat * 1) + 0))).size ≤ 1000000000) && decide (out.length ≤ 1000000000)) && true) then
                              f26_l2 n a b (IntKind.wrap .i64 (i + 1)) (IntKind.wrap .i64 (k + 1)) (out ++ tellV hide (2 : Int) (V.strOf (nthV a (((i).toNat * 1) + 0)))) hide R κ
                            else none
                          else none
                        else none
                  else none
                else none
              else none
            else none
          else none
    else
      bif (decide (k < ((b.length : Nat) : Int))) then
        bif (i == ((a.length : Nat) : Int)) then
          bif (((decide ((0 : Int) ≤ k)) && (decide (k < ((b.length : Nat) : Int)))) && true) then
            bif (((V.isStr (nthV b (((k).toNat * 1) + 0))) && true) && true) then
              bif ((decide (0 ≤ (1 : Int)) && decide ((1 : Int) ≤ 2) && decide (0 ≤ hide) && decide (hide ≤ 7) && decide ((V.strOf (nthV b (((k).toNat * 1) + 0))).size ≤ 1000000000) && decide (out.length ≤ 1000000000)) && true) then
                f26_l2 n a b i (IntKind.wrap .i64 (k + 1)) (out ++ tellV hide (1 : Int) (V.strOf (nthV b (((k).toNat * 1) + 0)))) hide R κ
              else none
            else none
          else none
        else
          bif (k == ((b.length : Nat) : Int)) then
            bif (((decide ((0 : Int) ≤ i)) && (decide (i < ((a.length : Nat) : Int)))) && true) then
              bif (((V.isStr (nthV a (((i).toNat * 1) + 0))) && true) && true) then
                bif ((decide (0 ≤ (0 : Int)) && decide ((0 : Int) ≤ 2) && decide (0 ≤ hide) && decide (hide ≤ 7) && decide ((V.strOf (nthV a (((i).toNat * 1) + 0))).size ≤ 1000000000) && decide (out.length ≤ 1000000000)) && true) then
                  f26_l2 n a b (IntKind.wrap .i64 (i + 1)) k (out ++ tellV hide (0 : Int) (V.strOf (nthV a (((i).toNat * 1) + 0)))) hide R κ
                else none
              else none
            else none
          else
            bif (((decide ((0 : Int) ≤ i)) && (decide (i < ((a.length : Nat) : Int)))) && true) then
              bif (((V.isStr (nthV a (((i).toNat * 1) + 0))) && true) && true) then
                bif (((decide ((0 : Int) ≤ k)) && (decide (k < ((b.length : Nat) : Int)))) && true) then
                  bif (((V.isStr (nthV b (((k).toNat * 1) + 0))) && true) && true) then
                    bif ((decide ((V.strOf (nthV a (((i).toNat * 1) + 0))).size ≤ 1000000000)) && true) then
                      bif (decide ((bwI (V.strOf (nthV a (((i).toNat * 1) + 0))) (V.strOf (nthV b (((k).toNat * 1) + 0)))) < 0)) then
                        bif (((decide ((0 : Int) ≤ i)) && (decide (i < ((a.length : Nat) : Int)))) && true) then
                          bif (((V.isStr (nthV a (((i).toNat * 1) + 0))) && true) && true) then
                            bif ((decide (0 ≤ (0 : Int)) && decide ((0 : Int) ≤ 2) && decide (0 ≤ hide) && decide (hide ≤ 7) && decide ((V.strOf (nthV a (((i).toNat * 1) + 0))).size ≤ 1000000000) && decide (out.length ≤ 1000000000)) && true) then
                              f26_l2 n a b (IntKind.wrap .i64 (i + 1)) k (out ++ tellV hide (0 : Int) (V.strOf (nthV a (((i).toNat * 1) + 0)))) hide R κ
                            else none
                          else none
                        else none
                      else
                        bif (decide ((bwI (V.strOf (nthV a (((i).toNat * 1) + 0))) (V.strOf (nthV b (((k).toNat * 1) + 0)))) > 0)) then
                          bif (((decide ((0 : Int) ≤ k)) && (decide (k < ((b.length : Nat) : Int)))) && true) then
                            bif (((V.isStr (nthV b (((k).toNat * 1) + 0))) && true) && true) then
                              bif ((decide (0 ≤ (1 : Int)) && decide ((1 : Int) ≤ 2) && decide (0 ≤ hide) && decide (hide ≤ 7) && decide ((V.strOf (nthV b (((k).toNat * 1) + 0))).size ≤ 1000000000) && decide (out.length ≤ 1000000000)) && true) then
                                f26_l2 n a b i (IntKind.wrap .i64 (k + 1)) (out ++ tellV hide (1 : Int) (V.strOf (nthV b (((k).toNat * 1) + 0)))) hide R κ
                              else none
                            else none
                          else none
                        else
                          bif (((decide ((0 : Int) ≤ i)) && (decide (i < ((a.length : Nat) : Int)))) && true) then
                            bif (((V.isStr (nthV a (((i).toNat * 1) + 0))) && true) && true) then
                              bif ((decide (0 ≤ (2 : Int)) && decide ((2 : Int) ≤ 2) && decide (0 ≤ hide) && decide (hide ≤ 7) && decide ((V.strOf (nthV a (((i).toNat * 1) + 0))).size ≤ 1000000000) && decide (out.length ≤ 1000000000)) && true) then
                                f26_l2 n a b (IntKind.wrap .i64 (i + 1)) (IntKind.wrap .i64 (k + 1)) (out ++ tellV hide (2 : Int) (V.strOf (nthV a (((i).toNat * 1) + 0)))) hide R κ
                              else none
                            else none
                          else none
                    else none
                  else none
                else none
              else none
            else none
      else
        κ (.ex 4) (mkS [(6, .bad), (7, .bad), (11, .ptrB (.loc 11) 0)] [(.loc 11, some ⟨true, [.own 9 false out]⟩)])
def f26_l2_ls : List (Nat × Pat) := [(0, .sl 1), (1, .sl 1), (11, .is (.ptrB (.loc 11) 0)), (12, .is (.fn 60 [] [.ptrB (.loc 5) 0, .ptrB (.loc 11) 0])), (13, .i .i64), (14, .i .i64)]
def f26_l2_rs : List RPat := [⟨.loc 11, true, [.own 9 false]⟩, ⟨.loc 5, true, [.i .i64]⟩]
theorem f26_l2_ok (n : Nat) : ∀ (a : List V) (b : List V) (i : Int) (k : Int) (out : List V) (hide : Int) (R : Type) (κ : Ex → St → Option R) (r : R), f26_l2 n a b i k out hide R κ = some r → ∃ ee ss, κ ee ss = some r ∧ RunP C prim 26 [0, 0, 1, 1, 1, 1, 1] (mkS [(0, .sl 1 a), (1, .sl 1 b), (11, .ptrB (.loc 11) 0), (12, .fn 60 [] [.ptrB (.loc 5) 0, .ptrB (.loc 11) 0]), (13, .sc (.int .i64 i)), (14, .sc (.int .i64 k))] [(.loc 11, some ⟨true, [.own 9 false out]⟩), (.loc 5, some ⟨true, [.sc (.int .i64 hide)]⟩)]) ee ss := by
  induction n with
  | zero => intro a b i k out hide R κ r h; cases h
  | succ n ih =>
    intro a b i k out hide R κ r h
    refine loop_round (K := K_f26_l2) (T := T_f26_l2) K_f26_l2_ok T_f26_l2_ok (p := [0, 0, 1, 1, 1, 1, 1]) (by kernel_rfl) (fun st => bif ckS f26_l2_ls f26_l2_rs st then f26_l2 n ((st.env 0).cellsOf) ((st.env 1).cellsOf) ((st.env 13).intOf) ((st.env 14).intOf) ((nthV (rowOf (st.regs (.loc 11))) 0).cellsOf) ((nthV (rowOf (st.regs (.loc 5))) 0).intOf) R κ else none) (fun st0 h0 => ?_) ?_
    · obtain ⟨hs, h0⟩ := cond_some h0
      rw [canon (ls := f26_l2_ls) (rs := f26_l2_rs) (by kernel_rfl) st0 hs]
      exact ih _ _ _ _ _ _ R κ r h0
    · refine Eq.trans ?_ h
      kernel_rfl

def f26_s2 (a : List V) (b : List V) (i : Int) (k : Int) (out : List V) (hide : Int) (R : Type) (κ : Ex → St → Option R) : Option R :=
  κ (.ex 4) (mkS [(6, .bad), (7, .bad), (11, .ptrB (.loc 11) 0)] [(.loc 11, some ⟨true, [.own 9 false (commV hide a b)]⟩)])
theorem f26_loop2 (a b : List V) (hide : Int) (ha : a.all shortS = true) (hb : b.all shortS = true) (la : a.length ≤ 100000000) (lb : b.length ≤ 100000000) (h0 : 0 ≤ hide) (h7 : hide ≤ 7) (R : Type) (κ : Ex → St → Option R) : ∀ (m i k : Nat) (out : List V), i ≤ a.length → k ≤ b.length → (a.length - i) + (b.length - k) ≤ m → out.length + m ≤ 1000000000 →
    f26_l2 (m + 1) a b ((i : Nat) : Int) ((k : Nat) : Int) out hide R κ = κ (.ex 4) (mkS [(6, .bad), (7, .bad), (11, .ptrB (.loc 11) 0)] [(.loc 11, some ⟨true, [.own 9 false (out ++ commF hide m (a.drop i) (b.drop k))]⟩)])
  | 0, i, k, out, hi, hk, hm, ho => by
    rw [f26_l2, dec_false (show ¬ ((i : Nat) : Int) < ((a.length : Nat) : Int) by omega), dec_false (show ¬ ((k : Nat) : Int) < ((b.length : Nat) : Int) by omega), commF, List.append_nil]
    rfl
  | m + 1, i, k, out, hi, hk, hm, ho => by
    have d0 : decide ((0 : Int) ≤ ((i : Nat) : Int)) = true := dec_true (by omega)
    have d1 : decide ((0 : Int) ≤ ((k : Nat) : Int)) = true := dec_true (by omega)
    have e0 : decide ((0 : Int) ≤ hide) = true := dec_true h0
    have e7 : decide (hide ≤ 7) = true := dec_true h7
    have eo : decide (out.length ≤ 1000000000) = true := dec_true (by omega)
    have c1 : decide ((0 : Int) ≤ 0) = true := rfl
    have c2 : decide ((0 : Int) ≤ 1) = true := rfl
    have c3 : decide ((0 : Int) ≤ 2) = true := rfl
    have c4 : decide ((1 : Int) ≤ 2) = true := rfl
    have c5 : decide ((2 : Int) ≤ 2) = true := rfl
    have t0 := fun c x => tell_len hide c x
    by_cases hia : i < a.length
    · obtain ⟨a1, a2⟩ := shortS_spec (List.all_eq_true.1 ha _ (List.getElem_mem hia))
      have a3 : decide (((i : Nat) : Int) < ((a.length : Nat) : Int)) = true := dec_true (by omega)
      have a4 : (((i : Nat) : Int) == ((a.length : Nat) : Int)) = false := beq_eq_false_iff_ne.2 (by omega)
      have a5 := nth_at hia
      have a6 : decide (a[i].strOf.size ≤ 1000000000) = true := dec_true a2
      have a7 : IntKind.wrap .i64 (((i : Nat) : Int) + 1) = ((i + 1 : Nat) : Int) := wrap_succ (by omega)
      by_cases hkb : k < b.length
      · obtain ⟨b1, b2⟩ := shortS_spec (List.all_eq_true.1 hb _ (List.getElem_mem hkb))
        have b3 : decide (((k : Nat) : Int) < ((b.length : Nat) : Int)) = true := dec_true (by omega)
        have b4 : (((k : Nat) : Int) == ((b.length : Nat) : Int)) = false := beq_eq_false_iff_ne.2 (by omega)
        have b5 := nth_at hkb
        have b6 : decide (b[k].strOf.size ≤ 1000000000) = true := dec_true b2
        have b7 : IntKind.wrap .i64 (((k : Nat) : Int) + 1) = ((k + 1 : Nat) : Int) := wrap_succ (by omega)
        have I1 := f26_loop2 a b hide ha hb la lb h0 h7 R κ m (i + 1) k (out ++ tellV hide 0 a[i].strOf) (by omega) (by omega) (by omega) (by rw [List.length_append]; have := t0 0 a[i].strOf; omega)
        have I2 := f26_loop2 a b hide ha hb la lb h0 h7 R κ m i (k + 1) (out ++ tellV hide 1 b[k].strOf) (by omega) (by omega) (by omega) (by rw [List.length_append]; have := t0 1 b[k].strOf; omega)
        have I3 := f26_loop2 a b hide ha hb la lb h0 h7 R κ m (i + 1) (k + 1) (out ++ tellV hide 2 a[i].strOf) (by omega) (by omega) (by omega) (by rw [List.length_append]; have := t0 2 a[i].strOf; omega)
        have x1 := List.drop_eq_getElem_cons hia
        have x2 := List.drop_eq_getElem_cons hkb
        rw [x2] at I1
        rw [x1] at I2
        rw [f26_l2, x1, x2, commF]
        simp only [a1, a3, a4, a5, a6, a7, b1, b3, b4, b5, b6, b7, d0, d1, e0, e7, eo, c1, c2, c3, c4, c5, Bool.and_self, cond_true, cond_false, ← strLt_cmp, ← strLt_cmp', I1, I2, I3, List.append_assoc]
        cases strLt a[i].strOf b[k].strOf <;> cases strLt b[k].strOf a[i].strOf <;> rfl
      · obtain rfl : k = b.length := by omega
        have b4 : (((b.length : Nat) : Int) == ((b.length : Nat) : Int)) = true := beq_self_eq_true _
        have I1 := f26_loop2 a b hide ha hb la lb h0 h7 R κ m (i + 1) b.length (out ++ tellV hide 0 a[i].strOf) (by omega) (by omega) (by omega) (by rw [List.length_append]; have := t0 0 a[i].strOf; omega)
        rw [List.drop_length] at I1 ⊢
        rw [f26_l2, List.drop_eq_getElem_cons hia, commF]
        simp only [a1, a3, a4, a5, a6, a7, b4, d0, d1, e0, e7, eo, c1, c2, c3, c4, c5, Bool.and_self, cond_true, cond_false, I1, List.append_assoc]
    · obtain rfl : i = a.length := by omega
      have a3 : decide (((a.length : Nat) : Int) < ((a.length : Nat) : Int)) = false := dec_false (by omega)
      have a4 : (((a.length : Nat) : Int) == ((a.length : Nat) : Int)) = true := beq_self_eq_true _
      by_cases hkb : k < b.length
      · obtain ⟨b1, b2⟩ := shortS_spec (List.all_eq_true.1 hb _ (List.getElem_mem hkb))
        have b3 : decide (((k : Nat) : Int) < ((b.length : Nat) : Int)) = true := dec_true (by omega)
        have b5 := nth_at hkb
        have b6 : decide (b[k].strOf.size ≤ 1000000000) = true := dec_true b2
        have b7 : IntKind.wrap .i64 (((k : Nat) : Int) + 1) = ((k + 1 : Nat) : Int) := wrap_succ (by omega)
        have I2 := f26_loop2 a b hide ha hb la lb h0 h7 R κ m a.length (k + 1) (out ++ tellV hide 1 b[k].strOf) (by omega) (by omega) (by omega) (by rw [List.length_append]; have := t0 1 b[k].strOf; omega)
        rw [List.drop_length] at I2 ⊢
        rw [f26_l2, List.drop_eq_getElem_cons hkb, commF]
        simp only [a3, a4, b1, b3, b5, b6, b7, d0, d1, e0, e7, eo, c1, c2, c3, c4, c5, Bool.and_self, cond_true, cond_false, I2, List.append_assoc]
      · obtain rfl : k = b.length := by omega
        have b3 : decide (((b.length : Nat) : Int) < ((b.length : Nat) : Int)) = false := dec_false (by omega)
        rw [f26_l2, List.drop_length, List.drop_length, commF, List.append_nil]
        simp only [a3, b3, cond_false]
theorem f26_s2_eq (a : List V) (b : List V) (i : Int) (k : Int) (out : List V) (hide : Int) (hp : ((i == 0) && (k == 0) && (out.length == 0) && a.all shortS && b.all shortS && decide (a.length ≤ 100000000) && decide (b.length ≤ 100000000) && decide (0 ≤ hide) && decide (hide ≤ 7)) = true) : ∃ n, ∀ (R : Type) (κ : Ex → St → Option R), f26_l2 n a b i k out hide R κ = f26_s2 a b i k out hide R κ := by
  simp only [Bool.and_eq_true, decide_eq_true_eq, beq_iff_eq] at hp
  obtain ⟨⟨⟨⟨⟨⟨⟨⟨rfl, rfl⟩, g3⟩, g4⟩, g5⟩, g6⟩, g7⟩, g8⟩, g9⟩ := hp
  obtain rfl : out = [] := List.eq_nil_of_length_eq_zero g3
  exact ⟨a.length + b.length + 1, fun R κ => f26_loop2 a b hide g4 g5 g6 g7 g8 g9 R κ (a.length + b.length) 0 0 [] (by omega) (by omega) (by omega) (by simp; omega)⟩
def t_f26_l2 (st : St) (R : Type) (κ : Ex → St → Option R) : Option R := bif ckS f26_l2_ls f26_l2_rs st then (bif ((((st.env 13).intOf) == 0) && (((st.env 14).intOf) == 0) && (((nthV (rowOf (st.regs (.loc 11))) 0).cellsOf).length == 0) && ((st.env 0).cellsOf).all shortS && ((st.env 1).cellsOf).all shortS && decide (((st.env 0).cellsOf).length ≤ 100000000) && decide (((st.env 1).cellsOf).length ≤ 100000000) && decide (0 ≤ ((nthV (rowOf (st.regs (.loc 5))) 0).intOf)) && decide (((nthV (rowOf (st.regs (.loc 5))) 0).intOf) ≤ 7)) then f26_s2 ((st.env 0).cellsOf) ((st.env 1).cellsOf) ((st.env 13).intOf) ((st.env 14).intOf) ((nthV (rowOf (st.regs (.loc 11))) 0).cellsOf) ((nthV (rowOf (st.regs (.loc 5))) 0).intOf) R κ else none) else none
theorem t_f26_l2_ok : ∀ st0 R κ r, t_f26_l2 (forget C 26 [0, 0, 1, 1, 1, 1, 1] st0) R κ = some r → ∃ ee ss, κ ee ss = some r ∧ RunP C prim 26 [0, 0, 1, 1, 1, 1, 1] (forget C 26 [0, 0, 1, 1, 1, 1, 1] st0) ee ss := by
  intro st0 R κ r h
  obtain ⟨hs, h⟩ := cond_some h
  obtain ⟨hp, h⟩ := cond_some h
  rw [canon (ls := f26_l2_ls) (rs := f26_l2_rs) (by kernel_rfl) st0 hs]
  obtain ⟨n, hn⟩ := f26_s2_eq _ _ _ _ _ _ hp
  rw [← hn] at h
  exact f26_l2_ok n _ _ _ _ _ _ R κ r h

def K_f26 : CallK := kNil
theorem K_f26_ok : KOK C prim K_f26 := KOK.nil
def T_f26 : Tab := tCons [0, 1, 0, 1] t_f26_l0 <| tCons [0, 0, 1, 1, 1, 1, 1] t_f26_l2 <| tNil
theorem T_f26_ok : TOK C prim 26 T_f26 := TOK.cons t_f26_l0_ok <| TOK.cons t_f26_l2_ok <| TOK.nil
def f26 (a : List V) (b : List V) (hide : Int) : Option (V × List Rg) :=
  bif (((0 : Int) == 0) && ((2 : Int) == ((([.sl 1 a, .sl 1 b] : List V).length : Nat) : Int)) && ([.sl 1 a, .sl 1 b] : List V).all sortC && decide (([.sl 1 a, .sl 1 b] : List V).length ≤ 1000000000)) then
    bif (([.sl 1 a, .sl 1 b] : List V).all sortedC) then
      bif (((0 : Int) == 0) && ((0 : Int) == 0) && (([] : List V).length == 0) && a.all shortS && b.all shortS && decide (a.length ≤ 100000000) && decide (b.length ≤ 100000000) && decide (0 ≤ hide) && decide (hide ≤ 7)) then
        some (.tp [.own 9 false (commV hide a b), .sc (.bool true)], [])
      else none
    else
      some (.tp [.own 9 false [], .sc (.bool false)], [])
  else none
theorem f26_run (a : List V) (b : List V) (hide : Int) (z9 : V × List Rg) (h : f26 a b hide = some z9) : CallR C prim 26 [.sl 1 a, .sl 1 b, .sc (.int .i64 hide)] [] z9 := by
  refine call_fn (K := K_f26) (T := T_f26) K_f26_ok T_f26_ok (by kernel_rfl) ?_
  refine Eq.trans ?_ h
  kernel_rfl

theorem sortC_sl {l : List V} (h1 : l.all shortS = true) (h2 : l.length ≤ 1000000000) : sortC (.sl 1 l) = true := by
  show (true && l.all shortS && decide (l.length ≤ 1000000000)) = true
  rw [h1, dec_true h2]; rfl
theorem f26_eq (a : List V) (b : List V) (hide : Int) (hp : (a.all shortS && b.all shortS && decide (a.length ≤ 100000000) && decide (b.length ≤ 100000000) && decide (0 ≤ hide) && decide (hide ≤ 7)) = true) : f26 a b hide = some (.tp [.own 9 false (bif sortedV a && sortedV b then commV hide a b else []), .sc (.bool (sortedV a && sortedV b))], []) := by
  simp only [Bool.and_eq_true, decide_eq_true_eq] at hp
  obtain ⟨⟨⟨⟨⟨g4, g5⟩, g6⟩, g7⟩, g8⟩, g9⟩ := hp
  have s1 : ([.sl 1 a, .sl 1 b] : List V).all sortC = true := by
    rw [List.all_cons, List.all_cons, sortC_sl g4 (by omega), sortC_sl g5 (by omega)]; rfl
  have s2 : ([.sl 1 a, .sl 1 b] : List V).all sortedC = (sortedV a && sortedV b) := by
    show (sortedV a && (sortedV b && true)) = _
    rw [Bool.and_true]
  have s3 : decide (([.sl 1 a, .sl 1 b] : List V).length ≤ 1000000000) = true := dec_true (by simp)
  unfold f26
  rw [s1, s2, s3, g4, g5, dec_true g6, dec_true g7, dec_true g8, dec_true g9]
  cases sortedV a && sortedV b <;> rfl
def k26 : PrimT := fun vs gs => match vs, gs with
  | [.sl 1 a, .sl 1 b, .sc (.int .i64 hide)], [] => ((a.all shortS && b.all shortS && decide (a.length ≤ 100000000) && decide (b.length ≤ 100000000) && decide (0 ≤ hide) && decide (hide ≤ 7)), .tp [.own 9 false (bif sortedV a && sortedV b then commV hide a b else []), .sc (.bool (sortedV a && sortedV b))], [])
  | _, _ => (false, .bad, [])
theorem k26_ok : ∀ vs gs x, k26 vs gs = (true, x) → CallR C prim 26 vs gs x := by
  intro vs gs x h
  unfold k26 at h
  split at h
  · simp only [Prod.mk.injEq] at h
    obtain ⟨hp, rfl⟩ := h
    exact f26_run _ _ _ _ (f26_eq _ _ _ hp)
  · cases h

def K_f22_l0 : CallK := kCons 57 k57 <| kNil
theorem K_f22_l0_ok : KOK C prim K_f22_l0 := KOK.cons k57_ok <| KOK.nil
def T_f22_l0 : Tab := tNil
theorem T_f22_l0_ok : TOK C prim 22 T_f22_l0 := TOK.nil
def f22_l0 : Nat → List V → List V → List V → Int → (R : Type) → (Ex → St → Option R) → Option R
  | 0, _, _, _, _, _, _ => none
  | n + 1, x, y, out, hide, R, κ =>
    bif (decide (((x.length : Nat) : Int) > 0)) then
      bif (((y.length : Nat) : Int) == 0) then
        bif ((decide ((0 : Int) < ((x.length : Nat) : Int))) && true) then
          bif (((V.isStr (nthV x 0)) && true) && true) then
            bif ((decide (0 ≤ (0 : Int)) && decide ((0 : Int) ≤ 2) && decide (0 ≤ hide) && decide (hide ≤ 7) && decide ((V.strOf (nthV x 0)).size ≤ 1000000000) && decide (out.length ≤ 1000000000)) && true) then
              bif ((((decide ((1 : Int) ≤ ((x.length : Nat) : Int))) && true) && true) && true) then
                f22_l0 n (x.drop 1) y (out ++ tellV hide (0 : Int) (V.strOf (nthV x 0))) hide R κ
              else none
            else none
          else none
        else none
      else
        bif (decide (((x.length : Nat) : Int) > 0)) then
          bif ((decide ((0 : Int) < ((x.length : Nat) : Int))) && true) then
            bif (((V.isStr (nthV x 0)) && true) && true) then
              bif ((decide ((0 : Int) < ((y.length : Nat) : Int))) && true) then
                bif (((V.isStr (nthV y 0)) && true) && true) then
                  bif (strLt (V.strOf (nthV x 0)) (V.strOf (nthV y 0))) then
                    bif ((decide ((0 : Int) < ((x.length : Nat) : Int))) && true) then
                      bif (((V.isStr (nthV x 0)) && true) && true) then
                        bif ((decide (0 ≤ (0 : Int)) && decide ((0 : Int) ≤ 2) && decide (0 ≤ hide) && decide (hide ≤ 7) && decide ((V.strOf (nthV x 0)).size ≤ 1000000000) && decide (out.length ≤ 1000000000)) && true) then
                          bif ((((decide ((1 : Int) ≤ ((x.length : Nat) : Int))) && true) && true) && true) then
                            f22_l0 n (x.drop 1) y (out ++ tellV hide (0 : Int) (V.strOf (nthV x 0))) hide R κ
                          else none
                        else none
                      else none
                    else none
                  else
                    bif (((x.length : Nat) : Int) == 0) then
                      bif ((decide ((0 : Int) < ((y.length : Nat) : Int))) && true) then
                        bif (((V.isStr (nthV y 0)) && true) && true) then
                          bif ((decide (0 ≤ (1 : Int)) && decide ((1 : Int) ≤ 2) && decide (0 ≤ hide) && decide (hide ≤ 7) && decide ((V.strOf (nthV y 0)).size ≤ 1000000000) && decide (out.length ≤ 1000000000)) && true) then
                            bif ((((decide ((1 : Int) ≤ ((y.length : Nat) : Int))) && true) && true) && true) then
                              f22_l0 n x (y.drop 1) (out ++ tellV hide (1 : Int) (V.strOf (nthV y 0))) hide R κ
                            else none
                          else none
                        else none
                      else none
                    else
                      bif ((decide ((0 : Int) < ((y.length : Nat) : Int))) && true) then
                        bif (((V.isStr (nthV y 0)) && true) && true) then
                          bif ((decide ((0 : Int) < ((x.length : Nat) : Int))) && true) then
                            bif (((V.isStr (nthV x 0)) && true) && true) then
                              bif (strLt (V.strOf (nthV y 0)) (V.strOf (nthV x 0))) then
                                bif ((decide ((0 : Int) < ((y.length : Nat) : Int))) && true) then
                                  bif (((V.isStr (nthV y 0)) && true) && true) then
                                    bif ((decide (0 ≤ (1 : Int)) && decide ((1 : Int) ≤ 2) && decide (0 ≤ hide) && decide (hide ≤ 7) && decide ((V.strOf (nthV y 0)).size ≤ 1000000000) && decide (out.length ≤ 1000000000)) && true) then
                                      bif ((((decide ((1 : Int) ≤ ((y.length : Nat) : Int))) && true) && true) && true) then
                                        f22_l0 n x (y.drop 1) (out ++ tellV hide (1 : Int) (V.strOf (nthV y 0))) hide R κ
                                      else none
                                    else none
                                  else none
                                else none
                              else
                                bif ((decide ((0 : Int) < ((x.length : Nat) : Int))) && true) then
                                  bif (((V.isStr (nthV x 0)) && true) && true) then
                                    bif ((decide (0 ≤ (2 : Int)) && decide ((2 : Int) ≤ 2) && decide (0 ≤ hide) && decide (hide ≤ 7) && decide ((V.strOf (nthV x 0)).size ≤ 1000000000) && decide (out.length ≤ 1000000000)) && true) then
                                      bif ((((decide ((1 : Int) ≤ ((x.length : Nat) : Int))) && true) && true) && true) then
                                        bif ((((decide ((1 : Int) ≤ ((y.length : Nat) : Int))) && true) && true) && true) then
                                          f22_l0 n (x.drop 1) (y.drop 1) (out ++ tellV hide (2 : Int) (V.strOf (nthV x 0))) hide R κ
                                        else none
                                      else none
                                    else none
                                  else none
                                else none
                            else none
                          else none
                        else none
                      else none
                else none
              else none
            else none
          else none
        else
          bif (((x.length : Nat) : Int) == 0) then
            bif ((decide ((0 : Int) < ((y.length : Nat) : Int))) && true) then
              bif (((V.isStr (nthV y 0)) && true) && true) then
                bif ((decide (0 ≤ (1 : Int)) && decide ((1 : Int) ≤ 2) && decide (0 ≤ hide) && decide (hide ≤ 7) && decide ((V.strOf (nthV y 0)).size ≤ 1000000000) && decide (out.length ≤ 1000000000)) && true) then
                  bif ((((decide ((1 : Int) ≤ ((y.length : Nat) : Int))) && true) && true) && true) then
                    f22_l0 n x (y.drop 1) (out ++ tellV hide (1 : Int) (V.strOf (nthV y 0))) hide R κ
                  else none
                else none
              else none
            else none
          else
            bif ((decide ((0 : Int) < ((y.length : Nat) : Int))) && true) then
              bif (((V.isStr (nthV y 0)) && true) && true) then
                bif ((decide ((0 : Int) < ((x.length : Nat) : Int))) && true) then
                  bif (((V.isStr (nthV x 0)) && true) && true) then
                    bif (strLt (V.strOf (nthV y 0)) (V.strOf (nthV x 0))) then
                      bif ((decide ((0 : Int) < ((y.length : Nat) : Int))) && true) then
                        bif (((V.isStr (nthV y 0)) && true) && true) then
                          bif ((decide (0 ≤ (1 : Int)) && decide ((1 : Int) ≤ 2) && decide (0 ≤ hide) && decide (hide ≤ 7) && decide ((V.strOf (nthV y 0)).size ≤ 1000000000) && decide (out.length ≤ 1000000000)) && true) then
                            bif ((((decide ((1 : Int) ≤ ((y.length : Nat) : Int))) && true) && true) && true) then
                              f22_l0 n x (y.drop 1) (out ++ tellV hide (1 : Int) (V.strOf (nthV y 0))) hide R κ
                            else none
                          else none
                        else none
                      else none
                    else
                      bif ((decide ((0 : Int) < ((x.length : Nat) : Int))) && true) then
                        bif (((V.isStr (nthV x 0)) && true) && true) then
                          bif ((decide (0 ≤ (2 : Int)) && decide ((2 : Int) ≤ 2) && decide (0 ≤ hide) && decide (hide ≤ 7) && decide ((V.strOf (nthV x 0)).size ≤ 1000000000) && decide (out.length ≤ 1000000000)) && true) then
                            bif ((((decide ((1 : Int) ≤ ((x.length : Nat) : Int))) && true) && true) && true) then
                              bif ((((decide ((1 : Int) ≤ ((y.length : Nat) : Int))) && true) && true) && true) then
                                f22_l0 n (x.drop 1) (y.drop 1) (out ++ tellV hide (2 : Int) (V.strOf (nthV x 0))) hide R κ
                              else none
                            else none
                          else none
                        else none
                      else none
                  else none
                else none
              else none
            else none
    else
      bif (decide (((y.length : Nat) : Int) > 0)) then
        bif (((y.length : Nat) : Int) == 0) then
          bif ((decide ((0 : Int) < ((x.length : Nat) : Int))) && true) then
            bif (((V.isStr (nthV x 0)) && true) && true) then
              bif ((decide (0 ≤ (0 : Int)) && decide ((0 : Int) ≤ 2) && decide (0 ≤ hide) && decide (hide ≤ 7) && decide ((V.strOf (nthV x 0)).size ≤ 1000000000) && decide (out.length ≤ 1000000000)) && true) then
                bif ((((decide ((1 : Int) ≤ ((x.length : Nat) : Int))) && true) && true) && true) then
                  f22_l0 n (x.drop 1) y (out ++ tellV hide (0 : Int) (V.strOf (nthV x 0))) hide R κ
                else none
              else none
            else none
          else none
        else
          bif (decide (((x.length : Nat) : Int) > 0)) then
            bif ((decide ((0 : Int) < ((x.length : Nat) : Int))) && true) then
              bif (((V.isStr (nthV x 0)) && true) && true) then
                bif ((decide ((0 : Int) < ((y.length : Nat) : Int))) && true) then
                  bif (((V.isStr (nthV y 0)) && true) && true) then
                    bif (strLt (V.strOf (nthV x 0)) (V.strOf (nthV y 0))) then
                      bif ((decide ((0 : Int) < ((x.length : Nat) : Int))) && true) then
                        bif (((V.isStr (nthV x 0)) && true) && true) then
                          bif ((decide (0 ≤ (0 : Int)) && decide ((0 : Int) ≤ 2) && decide (0 ≤ hide) && decide (hide ≤ 7) && decide ((V.strOf (nthV x 0)).size ≤ 1000000000) && decide (out.length ≤ 1000000000)) && true) then
                            bif ((((decide ((1 : Int) ≤ ((x.length : Nat) : Int))) && true) && true) && true) then
                              f22_l0 n (x.drop 1) y (out ++ tellV hide (0 : Int) (V.strOf (nthV x 0))) hide R κ
                            else none
                          else none
                        else none
                      else none
                    else
                      bif (((x.length : Nat) : Int) == 0) then
                        bif ((decide ((0 : Int) < ((y.length : Nat) : Int))) && true) then
                          bif (((V.isStr (nthV y 0)) && true) && true) then
                            bif ((decide (0 ≤ (1 : Int)) && decide ((1 : Int) ≤ 2) && decide (0 ≤ hide) && decide (hide ≤ 7) && decide ((V.strOf (nthV y 0)).size ≤ 1000000000) && decide (out.length ≤ 1000000000)) && true) then
                              bif ((((decide ((1 : Int) ≤ ((y.length : Nat) : Int))) && true) && true) && true) then
                                f22_l0 n x (y.drop 1) (out ++ tellV hide (1 : Int) (V.strOf (nthV y 0))) hide R κ
                              else none
                            else none
                          else none
                        else none
                      else
                        bif ((decide ((0 : Int) < ((y.length : Nat) : Int))) && true) then
                          bif (((V.isStr (nthV y 0)) && true) && true) then
                            bif ((decide ((0 : Int) < ((x.length : Nat) : Int))) && true) then
                              bif (((V.isStr (nthV x 0)) && true) && true) then
                                bif (strLt (V.strOf (nthV y 0)) (V.strOf (nthV x 0))) then
                                  bif ((decide ((0 : Int) < ((y.length : Nat) : Int))) && true) then
                                    bif (((V.isStr (nthV y 0)) && true) && true) then
                                      bif ((decide (0 ≤ (1 : Int)) && decide ((1 : Int) ≤ 2) && decide (0 ≤ hide) && decide (hide ≤ 7) && decide ((V.strOf (nthV y 0)).size ≤ 1000000000) && decide (out.length ≤ 1000000000)) && true) then
                                        bif ((((decide ((1 : Int) ≤ ((y.length : Nat) : Int))) && true) && true) && true) then
                                          f22_l0 n x (y.drop 1) (out ++ tellV hide (1 : Int) (V.strOf (nthV y 0))) hide R κ
                                        else none
                                      else none
                                    else none
                                  else none
                                else
                                  bif ((decide ((0 : Int) < ((x.length : Nat) : Int))) && true) then
                                    bif (((V.isStr (nthV x 0)) && true) && true) then
                                      bif ((decide (0 ≤ (2 : Int)) && decide ((2 : Int) ≤ 2) && decide (0 ≤ hide) && decide (hide ≤ 7) && decide ((V.strOf (nthV x 0)).size ≤ 1000000000) && decide (out.length ≤ 1000000000)) && true) then
                                        bif ((((decide ((1 : Int) ≤ ((x.length : Nat) : Int))) && true) && true) && true) then
                                          bif ((((decide ((1 : Int) ≤ ((y.length : Nat) : Int))) && true) && true) && true) then
                                            f22_l0 n (x.drop 1) (y.drop 1) (out ++ tellV hide (2 : Int) (V.strOf (nthV x 0))) hide R κ
                                          else none
                                        else none
                                      else none
                                    else none
                                  else none
                              else none
                            else none
                          else none
                        else none
                  else none
                else none
              else none
            else none
          else
            bif (((x.length : Nat) : Int) == 0) then
              bif ((decide ((0 : Int) < ((y.length : Nat) : Int))) && true) then
                bif (((V.isStr (nthV y 0)) && true) && true) then
                  bif ((decide (0 ≤ (1 : Int)) && decide ((1 : Int) ≤ 2) && decide (0 ≤ hide) && decide (hide ≤ 7) && decide ((V.strOf (nthV y 0)).size ≤ 1000000000) && decide (out.length ≤ 1000000000)) && true) then
                    bif ((((decide ((1 : Int) ≤ ((y.length : Nat) : Int))) && true) && true) && true) then
                      f22_l0 n x (y.drop 1) (out ++ tellV hide (1 : Int) (V.strOf (nthV y 0))) hide R κ
                    else none
                  else none
                else none
              else none
            else
              bif ((decide ((0 : Int) < ((y.length : Nat) : Int))) && true) then
                bif (((V.isStr (nthV y 0)) && true) && true) then
                  bif ((decide ((0 : Int) < ((x.length : Nat) : Int))) && true) then
                    bif (((V.isStr (nthV x 0)) && true) && true) then
                      bif (strLt (V.strOf (nthV y 0)) (V.strOf (nthV x 0))) then
                        bif ((decide ((0 : Int) < ((y.length : Nat) : Int))) && true) then
                          bif (((V.isStr (nthV y 0)) && true) && true) then
                            bif ((decide (0 ≤ (1 : Int)) && decide ((1 : Int) ≤ 2) && decide (0 ≤ hide) && decide (hide ≤ 7) && decide ((V.strOf (nthV y 0)).size ≤ 1000000000) && decide (out.length ≤ 1000000000)) && true) then
                              bif ((((decide ((1 : Int) ≤ ((y.length : Nat) : Int))) && true) && true) && true) then
                                f22_l0 n x (y.drop 1) (out ++ tellV hide (1 : Int) (V.strOf (nthV y 0))) hide R κ
                              else none
                            else none
                          else none
                        else none
                      else
                        bif ((decide ((0 : Int) < ((x.length : Nat) : Int))) && true) then
                          bif (((V.isStr (nthV x 0)) && true) && true) then
                            bif ((decide (0 ≤ (2 : Int)) && decide ((2 : Int) ≤ 2) && decide (0 ≤ hide) && decide (hide ≤ 7) && decide ((V.strOf (nthV x 0)).size ≤ 1000000000) && decide (out.length ≤ 1000000000)) && true) then
                              bif ((((decide ((1 : Int) ≤ ((x.length : Nat) : Int))) && true) && true) && true) then
                                bif ((((decide ((1 : Int) ≤ ((y.length : Nat) : Int))) && true) && true) && true) then
                                  f22_l0 n (x.drop 1) (y.drop 1) (out ++ tellV hide (2 : Int) (V.strOf (nthV x 0))) hide R κ
                                else none
                              else none
                            else none
                          else none
                        else none
                    else none
                  else none
                else none
              else none
      else
        κ (.ex 0) (mkS [(6, .bad), (7, .bad), (11, .ptrB (.loc 11) 0)] [(.loc 11, some ⟨true, [.own 9 false out]⟩)])
def f22_l0_ls : List (Nat × Pat) := [(9, .sl 1), (10, .sl 1), (11, .is (.ptrB (.loc 11) 0)), (12, .is (.fn 57 [] [.ptrB (.loc 5) 0, .ptrB (.loc 11) 0]))]
def f22_l0_rs : List RPat := [⟨.loc 11, true, [.own 9 false]⟩, ⟨.loc 5, true, [.i .i64]⟩]
theorem f22_l0_ok (n : Nat) : ∀ (x : List V) (y : List V) (out : List V) (hide : Int) (R : Type) (κ : Ex → St → Option R) (r : R), f22_l0 n x y out hide R κ = some r → ∃ ee ss, κ ee ss = some r ∧ RunP C prim 22 [0, 0, 1, 1, 1, 1, 1, 1, 1] (mkS [(9, .sl 1 x), (10, .sl 1 y), (11, .ptrB (.loc 11) 0), (12, .fn 57 [] [.ptrB (.loc 5) 0, .ptrB (.loc 11) 0])] [(.loc 11, some ⟨true, [.own 9 false out]⟩), (.loc 5, some ⟨true, [.sc (.int .i64 hide)]⟩)]) ee ss := by
  induction n with
  | zero => intro x y out hide R κ r h; cases h
  | succ n ih =>
    intro x y out hide R κ r h
    refine loop_round (K := K_f22_l0) (T := T_f22_l0) K_f22_l0_ok T_f22_l0_ok (p := [0, 0, 1, 1, 1, 1, 1, 1, 1]) (by kernel_rfl) (fun st => bif ckS f22_l0_ls f22_l0_rs st then f22_l0 n ((st.env 9).cellsOf) ((st.env 10).cellsOf) ((nthV (rowOf (st.regs (.loc 11))) 0).cellsOf) ((nthV (rowOf (st.regs (.loc 5))) 0).intOf) R κ else none) (fun st0 h0 => ?_) ?_
    · obtain ⟨hs, h0⟩ := cond_some h0
      rw [canon (ls := f22_l0_ls) (rs := f22_l0_rs) (by kernel_rfl) st0 hs]
      exact ih _ _ _ _ R κ r h0
    · refine Eq.trans ?_ h
      kernel_rfl

def f22_s0 (x : List V) (y : List V) (out : List V) (hide : Int) (R : Type) (κ : Ex → St → Option R) : Option R :=
  κ (.ex 0) (mkS [(6, .bad), (7, .bad), (11, .ptrB (.loc 11) 0)] [(.loc 11, some ⟨true, [.own 9 false (commV hide x y)]⟩)])
theorem f22_loop (hide : Int) (h0 : 0 ≤ hide) (h7 : hide ≤ 7) (R : Type) (κ : Ex → St → Option R) : ∀ (m : Nat) (x y out : List V), x.all shortS = true → y.all shortS = true → x.length + y.length ≤ m → out.length + m ≤ 1000000000 →
    f22_l0 (m + 1) x y out hide R κ = κ (.ex 0) (mkS [(6, .bad), (7, .bad), (11, .ptrB (.loc 11) 0)] [(.loc 11, some ⟨true, [.own 9 false (out ++ commF hide m x y)]⟩)])
  | 0, x, y, out, hx, hy, hm, ho => by
    obtain rfl : x = [] := List.eq_nil_of_length_eq_zero (by omega)
    obtain rfl : y = [] := List.eq_nil_of_length_eq_zero (by omega)
    rw [f22_l0, commF, List.append_nil]
    rfl
  | m + 1, [], [], out, hx, hy, hm, ho => by
    rw [f22_l0, commF, List.append_nil]
    rfl
  | m + 1, x :: a, [], out, hx, hy, hm, ho => by
    rw [List.all_cons, Bool.and_eq_true] at hx
    obtain ⟨a1, a2⟩ := shortS_spec hx.1
    have t := tell_len hide 0 x.strOf
    simp only [List.length_cons, List.length_nil] at hm
    have I1 := f22_loop hide h0 h7 R κ m a [] (out ++ tellV hide 0 x.strOf) hx.2 hy (by simp; omega) (by rw [List.length_append]; omega)
    have e0 : decide ((0 : Int) ≤ hide) = true := dec_true h0
    have e7 : decide (hide ≤ 7) = true := dec_true h7
    have eo : decide (out.length ≤ 1000000000) = true := dec_true (by omega)
    have a6 : decide (x.strOf.size ≤ 1000000000) = true := dec_true a2
    have l1 : decide ((((x :: a).length : Nat) : Int) > 0) = true := dec_true (by rw [List.length_cons]; omega)
    have l2 : decide ((0 : Int) < (((x :: a).length : Nat) : Int)) = true := l1
    have l3 : decide ((1 : Int) ≤ (((x :: a).length : Nat) : Int)) = true := dec_true (by rw [List.length_cons]; omega)
    have n0 : nthV (x :: a) 0 = x := rfl
    have l4 : (((([] : List V).length : Nat) : Int) == 0) = true := rfl
    have c1 : decide ((0 : Int) ≤ 0) = true := rfl
    have c2 : decide ((0 : Int) ≤ 2) = true := rfl
    have n1 : (x :: a).drop 1 = a := rfl
    rw [f22_l0, commF]
    simp only [l1, l2, l3, l4, n0, n1, a1, a6, e0, e7, eo, c1, c2, Bool.and_self, cond_true, cond_false, I1, List.append_assoc]
  | m + 1, [], y :: b, out, hx, hy, hm, ho => by
    rw [List.all_cons, Bool.and_eq_true] at hy
    obtain ⟨b1, b2⟩ := shortS_spec hy.1
    have t := tell_len hide 1 y.strOf
    simp only [List.length_cons, List.length_nil] at hm
    have I1 := f22_loop hide h0 h7 R κ m [] b (out ++ tellV hide 1 y.strOf) hx hy.2 (by simp; omega) (by rw [List.length_append]; omega)
    have e0 : decide ((0 : Int) ≤ hide) = true := dec_true h0
    have e7 : decide (hide ≤ 7) = true := dec_true h7
    have eo : decide (out.length ≤ 1000000000) = true := dec_true (by omega)
    have b6 : decide (y.strOf.size ≤ 1000000000) = true := dec_true b2
    have l1 : decide ((((y :: b).length : Nat) : Int) > 0) = true := dec_true (by rw [List.length_cons]; omega)
    have l2 : decide ((0 : Int) < (((y :: b).length : Nat) : Int)) = true := l1
    have l3 : decide ((1 : Int) ≤ (((y :: b).length : Nat) : Int)) = true := dec_true (by rw [List.length_cons]; omega)
    have l5 : ((((y :: b).length : Nat) : Int) == 0) = false := beq_eq_false_iff_ne.2 (by rw [List.length_cons]; omega)
    have n0 : nthV (y :: b) 0 = y := rfl
    have l4 : (((([] : List V).length : Nat) : Int) == 0) = true := rfl
    have l6 : decide (((([] : List V).length : Nat) : Int) > 0) = false := rfl
    have c1 : decide ((0 : Int) ≤ 1) = true := rfl
    have c2 : decide ((1 : Int) ≤ 2) = true := rfl
    have n1 : (y :: b).drop 1 = b := rfl
    rw [f22_l0, commF]
    simp only [l1, l2, l3, l4, l5, l6, n0, n1, b1, b6, e0, e7, eo, c1, c2, Bool.and_self, cond_true, cond_false, I1, List.append_assoc]
  | m + 1, x :: a, y :: b, out, hx, hy, hm, ho => by
    have hx' := hx
    have hy' := hy
    rw [List.all_cons, Bool.and_eq_true] at hx hy
    obtain ⟨a1, a2⟩ := shortS_spec hx.1
    obtain ⟨b1, b2⟩ := shortS_spec hy.1
    have t0 := tell_len hide 0 x.strOf
    have t1 := tell_len hide 1 y.strOf
    have t2 := tell_len hide 2 x.strOf
    simp only [List.length_cons] at hm
    have I1 := f22_loop hide h0 h7 R κ m a (y :: b) (out ++ tellV hide 0 x.strOf) hx.2 hy' (by simp; omega) (by rw [List.length_append]; omega)
    have I2 := f22_loop hide h0 h7 R κ m (x :: a) b (out ++ tellV hide 1 y.strOf) hx' hy.2 (by simp; omega) (by rw [List.length_append]; omega)
    have I3 := f22_loop hide h0 h7 R κ m a b (out ++ tellV hide 2 x.strOf) hx.2 hy.2 (by omega) (by rw [List.length_append]; omega)
    have e0 : decide ((0 : Int) ≤ hide) = true := dec_true h0
    have e7 : decide (hide ≤ 7) = true := dec_true h7
    have eo : decide (out.length ≤ 1000000000) = true := dec_true (by omega)
    have a6 : decide (x.strOf.size ≤ 1000000000) = true := dec_true a2
    have b6 : decide (y.strOf.size ≤ 1000000000) = true := dec_true b2
    have p1 : decide ((((x :: a).length : Nat) : Int) > 0) = true := dec_true (by rw [List.length_cons]; omega)
    have p2 : decide ((0 : Int) < (((x :: a).length : Nat) : Int)) = true := p1
    have p3 : decide ((1 : Int) ≤ (((x :: a).length : Nat) : Int)) = true := dec_true (by rw [List.length_cons]; omega)
    have p5 : ((((x :: a).length : Nat) : Int) == 0) = false := beq_eq_false_iff_ne.2 (by rw [List.length_cons]; omega)
    have l1 : decide ((((y :: b).length : Nat) : Int) > 0) = true := dec_true (by rw [List.length_cons]; omega)
    have l2 : decide ((0 : Int) < (((y :: b).length : Nat) : Int)) = true := l1
    have l3 : decide ((1 : Int) ≤ (((y :: b).length : Nat) : Int)) = true := dec_true (by rw [List.length_cons]; omega)
    have l5 : ((((y :: b).length : Nat) : Int) == 0) = false := beq_eq_false_iff_ne.2 (by rw [List.length_cons]; omega)
    have m0 : nthV (x :: a) 0 = x := rfl
    have m1 : (x :: a).drop 1 = a := rfl
    have n0 : nthV (y :: b) 0 = y := rfl
    have n1 : (y :: b).drop 1 = b := rfl
    have c1 : decide ((0 : Int) ≤ 1) = true := rfl
    have c2 : decide ((1 : Int) ≤ 2) = true := rfl
    have c3 : decide ((0 : Int) ≤ 0) = true := rfl
    have c4 : decide ((0 : Int) ≤ 2) = true := rfl
    have c5 : decide ((2 : Int) ≤ 2) = true := rfl
    rw [f22_l0, commF]
    simp only [p1, p2, p3, p5, l1, l2, l3, l5, m0, m1, n0, n1, a1, a6, b1, b6, e0, e7, eo, c1, c2, c3, c4, c5, Bool.and_self, cond_true, cond_false, I1, I2, I3, List.append_assoc]
    cases strLt x.strOf y.strOf <;> cases strLt y.strOf x.strOf <;> rfl
theorem f22_s0_eq (x : List V) (y : List V) (out : List V) (hide : Int) (hp : ((out.length == 0) && x.all shortS && y.all shortS && decide (x.length ≤ 100000000) && decide (y.length ≤ 100000000) && decide (0 ≤ hide) && decide (hide ≤ 7)) = true) : ∃ n, ∀ (R : Type) (κ : Ex → St → Option R), f22_l0 n x y out hide R κ = f22_s0 x y out hide R κ := by
  simp only [Bool.and_eq_true, decide_eq_true_eq, beq_iff_eq] at hp
  obtain ⟨⟨⟨⟨⟨⟨g3, g4⟩, g5⟩, g6⟩, g7⟩, g8⟩, g9⟩ := hp
  obtain rfl : out = [] := List.eq_nil_of_length_eq_zero g3
  exact ⟨x.length + y.length + 1, fun R κ => f22_loop hide g8 g9 R κ (x.length + y.length) x y [] g4 g5 (Nat.le_refl _) (by simp; omega)⟩
def t_f22_l0 (st : St) (R : Type) (κ : Ex → St → Option R) : Option R := bif ckS f22_l0_ls f22_l0_rs st then (bif ((((nthV (rowOf (st.regs (.loc 11))) 0).cellsOf).length == 0) && ((st.env 9).cellsOf).all shortS && ((st.env 10).cellsOf).all shortS && decide (((st.env 9).cellsOf).length ≤ 100000000) && decide (((st.env 10).cellsOf).length ≤ 100000000) && decide (0 ≤ ((nthV (rowOf (st.regs (.loc 5))) 0).intOf)) && decide (((nthV (rowOf (st.regs (.loc 5))) 0).intOf) ≤ 7)) then f22_s0 ((st.env 9).cellsOf) ((st.env 10).cellsOf) ((nthV (rowOf (st.regs (.loc 11))) 0).cellsOf) ((nthV (rowOf (st.regs (.loc 5))) 0).intOf) R κ else none) else none
theorem t_f22_l0_ok : ∀ st0 R κ r, t_f22_l0 (forget C 22 [0, 0, 1, 1, 1, 1, 1, 1, 1] st0) R κ = some r → ∃ ee ss, κ ee ss = some r ∧ RunP C prim 22 [0, 0, 1, 1, 1, 1, 1, 1, 1] (forget C 22 [0, 0, 1, 1, 1, 1, 1, 1, 1] st0) ee ss := by
  intro st0 R κ r h
  obtain ⟨hs, h⟩ := cond_some h
  obtain ⟨hp, h⟩ := cond_some h
  rw [canon (ls := f22_l0_ls) (rs := f22_l0_rs) (by kernel_rfl) st0 hs]
  obtain ⟨n, hn⟩ := f22_s0_eq _ _ _ _ hp
  rw [← hn] at h
  exact f22_l0_ok n _ _ _ _ R κ r h

def K_f22 : CallK := kCons 52 k52 <| kCons 54 k54 <| kCons 55 k55 <| kCons 56 k56 <| kCons 58 k58 <| kNil
theorem K_f22_ok : KOK C prim K_f22 := KOK.cons k52_ok <| KOK.cons k54_ok <| KOK.cons k55_ok <| KOK.cons k56_ok <| KOK.cons k58_ok <| KOK.nil
def T_f22 : Tab := tCons [0, 0, 1, 1, 1, 1, 1, 1, 1] t_f22_l0 <| tNil
theorem T_f22_ok : TOK C prim 22 T_f22 := TOK.cons t_f22_l0_ok <| TOK.nil
def f22 (a : ByteArray) (b : ByteArray) (hide : Int) : Option (V × List Rg) :=
  bif (!(decide (hide ≥ (0 : Int)) && decide (hide ≤ (7 : Int)))) then
    some (.tp [.sc (.string ⟨#[]⟩), .sc (.int .i64 3)], [])
  else
    bif ((([.sc (.string a), .sc (.string b)] : List V).all shortS && decide (([.sc (.string a), .sc (.string b)] : List V).length ≤ 1000000000)) && true) then
      bif ((bif ([.sc (.string a), .sc (.string b)] : List V).any largeV then (2 : Int) else 0) != 0) then
        some (.tp [.sc (.string ⟨#[]⟩), .sc (.int .i64 (bif ([.sc (.string a), .sc (.string b)] : List V).any largeV then (2 : Int) else 0))], [])
      else
        bif ((decide (a.size ≤ 1000000000)) && true) then
          bif ((decide (b.size ≤ 1000000000)) && true) then
            bif (((linesV a).all V.isStr && decide ((linesV a).length ≤ 1000000000)) && true) then
              bif (!(sortedV (linesV a))) then
                some (.tp [.sc (.string ⟨#[]⟩), .sc (.int .i64 9)], [])
              else
                bif (((linesV b).all V.isStr && decide ((linesV b).length ≤ 1000000000)) && true) then
                  bif (!(sortedV (linesV b))) then
                    some (.tp [.sc (.string ⟨#[]⟩), .sc (.int .i64 9)], [])
                  else
                    bif ((([] : List V).length == 0) && (linesV a).all shortS && (linesV b).all shortS && decide ((linesV a).length ≤ 100000000) && decide ((linesV b).length ≤ 100000000) && decide (0 ≤ hide) && decide (hide ≤ 7)) then
                      bif (((commV hide (linesV a) (linesV b)).all V.isStr && decide ((commV hide (linesV a) (linesV b)).length ≤ 1000000000) && decide ((resB (commV hide (linesV a) (linesV b))).size ≤ 100000000000)) && true) then
                        some (.tp [.sc (.string (resB (commV hide (linesV a) (linesV b)))), .sc (.int .i64 0)], [])
                      else none
                    else none
                else none
            else none
          else none
        else none
    else none
theorem f22_run (a : ByteArray) (b : ByteArray) (hide : Int) (z9 : V × List Rg) (h : f22 a b hide = some z9) : CallR C prim 22 [.sc (.string a), .sc (.string b), .sc (.int .i64 hide)] [] z9 := by
  refine call_fn (K := K_f22) (T := T_f22) K_f22_ok T_f22_ok (by kernel_rfl) ?_
  refine Eq.trans ?_ h
  kernel_rfl

theorem two_short {a b : ByteArray} (ha : a.size ≤ 1000000000) (hb : b.size ≤ 1000000000) : ([.sc (.string a), .sc (.string b)] : List V).all shortS = true := by
  show (decide (a.size ≤ 1000000000) && (decide (b.size ≤ 1000000000) && true)) = true
  rw [dec_true ha, dec_true hb]; rfl
theorem two_large (a b : ByteArray) : ([.sc (.string a), .sc (.string b)] : List V).any largeV = (largeB a || largeB b) := by
  show (largeB a || (largeB b || false)) = _
  rw [Bool.or_false]
theorem f22_eq (a : ByteArray) (b : ByteArray) (hide : Int) (hp : (decide (a.size ≤ 10000000) && decide (b.size ≤ 10000000)) = true) : f22 a b hide = some (.tp [.sc (.string (commS a b hide)), .sc (.int .i64 (commE a b hide))], []) := by
  simp only [Bool.and_eq_true, decide_eq_true_eq] at hp
  obtain ⟨ha, hb⟩ := hp
  have la := linesV_len a
  have lb := linesV_len b
  unfold f22 commS commE
  rw [two_short (by omega) (by omega), two_large]
  have s3 : decide (([.sc (.string a), .sc (.string b)] : List V).length ≤ 1000000000) = true := dec_true (by simp)
  rw [s3]
  cases hd : decide (hide ≥ 0) && decide (hide ≤ 7) with
  | false => rfl
  | true =>
    simp only [Bool.and_eq_true, decide_eq_true_eq] at hd
    cases h1 : largeB a with
    | true => rfl
    | false =>
    cases h2 : largeB b with
    | true => rfl
    | false =>
    obtain ⟨r1, r2, r3⟩ := comm_res (a := a) (b := b) hide h1 h2
    rw [dec_true (show a.size ≤ 1000000000 by omega), dec_true (show b.size ≤ 1000000000 by omega), linesV_str a, linesV_str b, dec_true (show (linesV a).length ≤ 1000000000 by omega), dec_true (show (linesV b).length ≤ 1000000000 by omega), linesV_short a (by omega), linesV_short b (by omega), dec_true (show (linesV a).length ≤ 100000000 by omega), dec_true (show (linesV b).length ≤ 100000000 by omega), r1, dec_true r2, dec_true r3, dec_true (show (0 : Int) ≤ hide from hd.1), dec_true hd.2]
    cases sortedV (linesV a) <;> cases sortedV (linesV b) <;> rfl
def k22 : PrimT := fun vs gs => match vs, gs with
  | [.sc (.string a), .sc (.string b), .sc (.int .i64 hide)], [] => ((decide (a.size ≤ 10000000) && decide (b.size ≤ 10000000)), .tp [.sc (.string (commS a b hide)), .sc (.int .i64 (commE a b hide))], [])
  | _, _ => (false, .bad, [])
theorem k22_ok : ∀ vs gs x, k22 vs gs = (true, x) → CallR C prim 22 vs gs x := by
  intro vs gs x h
  unfold k22 at h
  split at h
  · simp only [Prod.mk.injEq] at h
    obtain ⟨hp, rfl⟩ := h
    exact f22_run _ _ _ _ (f22_eq _ _ _ hp)
  · cases h

def K_f27_l0 : CallK := kNil
theorem K_f27_l0_ok : KOK C prim K_f27_l0 := KOK.nil
def T_f27_l0 : Tab := tNil
theorem T_f27_l0_ok : TOK C prim 27 T_f27_l0 := TOK.nil
def f27_l0 : Nat → ByteArray → List V → Int → Int → (R : Type) → (Ex → St → Option R) → Option R
  | 0, _, _, _, _, _, _ => none
  | n + 1, s, v6, v7, v8, R, κ =>
    bif (decide (v8 < v7)) then
      bif (((decide ((0 : Int) ≤ v8)) && (decide (v8 < ((v6.length : Nat) : Int)))) && true) then
        bif (((V.isStr (nthV v6 (((v8).toNat * 1) + 0))) && true) && true) then
          bif ((decide (((V.strOf (nthV v6 (((v8).toNat * 1) + 0))).size + 1) ≤ 9223372036854775807)) && true) then
            bif ((decide ((s.size + ((V.strOf (nthV v6 (((v8).toNat * 1) + 0))) ++ (⟨#[10]⟩ : ByteArray)).size) ≤ 9223372036854775807)) && true) then
              f27_l0 n (s ++ ((V.strOf (nthV v6 (((v8).toNat * 1) + 0))) ++ (⟨#[10]⟩ : ByteArray))) v6 v7 (IntKind.wrap .i64 (v8 + 1)) R κ
            else none
          else none
        else none
      else none
    else
      κ (.ex 0) (mkS [(2, .bad), (3, .sc (.string s))] [])
def f27_l0_ls : List (Nat × Pat) := [(3, .s), (6, .sl 1), (7, .i .i64), (8, .i .i64)]
def f27_l0_rs : List RPat := []
theorem f27_l0_ok (n : Nat) : ∀ (s : ByteArray) (v6 : List V) (v7 : Int) (v8 : Int) (R : Type) (κ : Ex → St → Option R) (r : R), f27_l0 n s v6 v7 v8 R κ = some r → ∃ ee ss, κ ee ss = some r ∧ RunP C prim 27 [0, 1, 0, 1, 1] (mkS [(3, .sc (.string s)), (6, .sl 1 v6), (7, .sc (.int .i64 v7)), (8, .sc (.int .i64 v8))] []) ee ss := by
  induction n with
  | zero => intro s v6 v7 v8 R κ r h; cases h
  | succ n ih =>
    intro s v6 v7 v8 R κ r h
    refine loop_round (K := K_f27_l0) (T := T_f27_l0) K_f27_l0_ok T_f27_l0_ok (p := [0, 1, 0, 1, 1]) (by kernel_rfl) (fun st => bif ckS f27_l0_ls f27_l0_rs st then f27_l0 n ((st.env 3).strOf) ((st.env 6).cellsOf) ((st.env 7).intOf) ((st.env 8).intOf) R κ else none) (fun st0 h0 => ?_) ?_
    · obtain ⟨hs, h0⟩ := cond_some h0
      rw [canon (ls := f27_l0_ls) (rs := f27_l0_rs) (by kernel_rfl) st0 hs]
      exact ih _ _ _ _ R κ r h0
    · refine Eq.trans ?_ h
      kernel_rfl

def f27_s0 (s : ByteArray) (v6 : List V) (v7 : Int) (v8 : Int) (R : Type) (κ : Ex → St → Option R) : Option R :=
  κ (.ex 0) (mkS [(2, .bad), (3, .sc (.string (s ++ resB v6)))] [])
theorem f27_l0_c (v6 : List V) (hu : v6.all V.isStr = true) (hl : v6.length ≤ 1000000000) : ∀ (m k : Nat) (s : ByteArray), k + m = v6.length → s.size + (resB (v6.drop k)).size ≤ 100000000000 → ∀ n, m < n → ∀ (R : Type) (κ : Ex → St → Option R), f27_l0 n s v6 ((v6.length : Nat) : Int) (k : Int) R κ = κ (.ex 0) (mkS [(2, .bad), (3, .sc (.string (s ++ resB (v6.drop k))))] []) := by
  intro m
  induction m with
  | zero =>
    intro k s hk hs n hn R κ
    obtain ⟨n, rfl⟩ : ∃ j, n = j + 1 := ⟨n - 1, by omega⟩
    rw [List.drop_of_length_le (by omega), f27_l0, dec_false (by omega)]
    unfold resB
    rw [ba_nil']
    rfl
  | succ m ih =>
    intro k s hk hs n hn R κ
    obtain ⟨n, rfl⟩ : ∃ j, n = j + 1 := ⟨n - 1, by omega⟩
    have hlt : k < v6.length := by omega
    have hx : V.isStr v6[k] = true := List.all_eq_true.1 hu _ (List.getElem_mem hlt)
    rw [List.drop_eq_getElem_cons hlt] at hs ⊢
    unfold resB at hs ⊢
    have e10 : (⟨#[10]⟩ : ByteArray).size = 1 := rfl
    simp only [ba_size_append, e10] at hs
    rw [f27_l0, dec_true (show (k : Int) < ((v6.length : Nat) : Int) by omega), dec_true (show (0 : Int) ≤ (k : Int) by omega), nth_at hlt, hx, ba_size_append, e10, dec_true (show v6[k].strOf.size + 1 ≤ 9223372036854775807 by omega), dec_true (show s.size + (v6[k].strOf.size + 1) ≤ 9223372036854775807 by omega), wrap_succ (by omega),
      ih (k + 1) _ (by omega) (by simp only [ba_size_append, e10]; omega) n (by omega) R κ, ba_assoc s]
    rfl
theorem f27_s0_eq (s : ByteArray) (v6 : List V) (v7 : Int) (v8 : Int) (hp : ((v7 == ((v6.length : Nat) : Int)) && (v8 == 0) && v6.all V.isStr && decide (v6.length ≤ 1000000000) && decide (s.size + (resB v6).size ≤ 100000000000)) = true) : ∃ n, ∀ (R : Type) (κ : Ex → St → Option R), f27_l0 n s v6 v7 v8 R κ = f27_s0 s v6 v7 v8 R κ := by
  simp only [Bool.and_eq_true, decide_eq_true_eq, beq_iff_eq] at hp
  obtain ⟨⟨⟨⟨rfl, rfl⟩, h3⟩, h4⟩, h5⟩ := hp
  exact ⟨v6.length + 1, fun R κ => f27_l0_c v6 h3 h4 v6.length 0 s (by omega) h5 _ (by omega) R κ⟩
def t_f27_l0 (st : St) (R : Type) (κ : Ex → St → Option R) : Option R := bif ckS f27_l0_ls f27_l0_rs st then (bif ((((st.env 7).intOf) == ((((st.env 6).cellsOf).length : Nat) : Int)) && (((st.env 8).intOf) == 0) && ((st.env 6).cellsOf).all V.isStr && decide (((st.env 6).cellsOf).length ≤ 1000000000) && decide (((st.env 3).strOf).size + (resB ((st.env 6).cellsOf)).size ≤ 100000000000)) then f27_s0 ((st.env 3).strOf) ((st.env 6).cellsOf) ((st.env 7).intOf) ((st.env 8).intOf) R κ else none) else none
theorem t_f27_l0_ok : ∀ st0 R κ r, t_f27_l0 (forget C 27 [0, 1, 0, 1, 1] st0) R κ = some r → ∃ ee ss, κ ee ss = some r ∧ RunP C prim 27 [0, 1, 0, 1, 1] (forget C 27 [0, 1, 0, 1, 1] st0) ee ss := by
  intro st0 R κ r h
  obtain ⟨hs, h⟩ := cond_some h
  obtain ⟨hp, h⟩ := cond_some h
  rw [canon (ls := f27_l0_ls) (rs := f27_l0_rs) (by kernel_rfl) st0 hs]
  obtain ⟨n, hn⟩ := f27_s0_eq _ _ _ _ hp
  rw [← hn] at h
  exact f27_l0_ok n _ _ _ _ R κ r h

def K_f27 : CallK := kNil
theorem K_f27_ok : KOK C prim K_f27 := KOK.nil
def T_f27 : Tab := tCons [0, 1, 0, 1, 1] t_f27_l0 <| tNil
theorem T_f27_ok : TOK C prim 27 T_f27 := TOK.cons t_f27_l0_ok <| TOK.nil
def f27 (l : List V) : Option (V × List Rg) :=
  bif ((((l.length : Nat) : Int) == ((l.length : Nat) : Int)) && ((0 : Int) == 0) && l.all V.isStr && decide (l.length ≤ 1000000000) && decide ((⟨#[]⟩ : ByteArray).size + (resB l).size ≤ 100000000000)) then
    some (.sc (.string ((⟨#[]⟩ : ByteArray) ++ resB l)), [])
  else none
theorem f27_run (l : List V) (z9 : V × List Rg) (h : f27 l = some z9) : CallR C prim 27 [.sl 1 l] [] z9 := by
  refine call_fn (K := K_f27) (T := T_f27) K_f27_ok T_f27_ok (by kernel_rfl) ?_
  refine Eq.trans ?_ h
  kernel_rfl

theorem f27_eq (l : List V) (hp : (l.all V.isStr && decide (l.length ≤ 1000000000) && decide ((resB l).size ≤ 100000000000)) = true) : f27 l = some (.sc (.string (resB l)), []) := by
  simp only [Bool.and_eq_true, decide_eq_true_eq] at hp
  have e0 : (⟨#[]⟩ : ByteArray).size = 0 := rfl
  unfold f27
  rw [hp.1.1, dec_true hp.1.2, e0, dec_true (by omega), ba_nil]
  simp only [beq_self_eq_true, Bool.and_true, cond_true]
def k27 : PrimT := fun vs gs => match vs, gs with
  | [.sl 1 l], [] => ((l.all V.isStr && decide (l.length ≤ 1000000000) && decide ((resB l).size ≤ 100000000000)), .sc (.string (resB l)), [])
  | _, _ => (false, .bad, [])
theorem k27_ok : ∀ vs gs x, k27 vs gs = (true, x) → CallR C prim 27 vs gs x := by
  intro vs gs x h
  unfold k27 at h
  split at h
  · simp only [Prod.mk.injEq] at h
    obtain ⟨hp, rfl⟩ := h
    exact f27_run _ _ (f27_eq _ hp)
  · cases h

def K_f5 : CallK := kCons 12 k12 <| kCons 14 k14 <| kCons 16 k16 <| kCons 21 k21 <| kCons 22 k22 <| kCons 23 k23 <| kCons 24 k24 <| kCons 25 k25 <| kCons 26 k26 <| kCons 27 k27 <| kNil
theorem K_f5_ok : KOK C prim K_f5 := KOK.cons k12_ok <| KOK.cons k14_ok <| KOK.cons k16_ok <| KOK.cons k21_ok <| KOK.cons k22_ok <| KOK.cons k23_ok <| KOK.cons k24_ok <| KOK.cons k25_ok <| KOK.cons k26_ok <| KOK.cons k27_ok <| KOK.nil
def T_f5 : Tab := tNil
theorem T_f5_ok : TOK C prim 5 T_f5 := TOK.nil
def f5 (a : ByteArray) (b : ByteArray) (hide : Int) : Option (V × List Rg) :=
  bif ((decide (a.size ≤ 10000000) && decide (b.size ≤ 10000000)) && true) then
    bif ((([.sc (.string a), .sc (.string b)] : List V).all shortS && decide (([.sc (.string a), .sc (.string b)] : List V).length ≤ 1000000000)) && true) then
      bif ((([.sc (.int .i64 (bif (!(decide (hide ≥ (0 : Int)) && decide (hide ≤ (7 : Int)))) then (3 : Int) else 0)), .sc (.int .i64 (bif ([.sc (.string a), .sc (.string b)] : List V).any largeV then (2 : Int) else 0))] : List V).all (V.isInt .i64) && decide (([.sc (.int .i64 (bif (!(decide (hide ≥ (0 : Int)) && decide (hide ≤ (7 : Int)))) then (3 : Int) else 0)), .sc (.int .i64 (bif ([.sc (.string a), .sc (.string b)] : List V).any largeV then (2 : Int) else 0))] : List V).length ≤ 1000000000)) && true) then
        bif ((firstBy V.intOf ([.sc (.int .i64 (bif (!(decide (hide ≥ (0 : Int)) && decide (hide ≤ (7 : Int)))) then (3 : Int) else 0)), .sc (.int .i64 (bif ([.sc (.string a), .sc (.string b)] : List V).any largeV then (2 : Int) else 0))] : List V)) != 0) then
          some (.sc (.bool (outc (commS a b hide) (commE a b hide) (⟨#[]⟩ : ByteArray) (firstBy V.intOf ([.sc (.int .i64 (bif (!(decide (hide ≥ (0 : Int)) && decide (hide ≤ (7 : Int)))) then (3 : Int) else 0)), .sc (.int .i64 (bif ([.sc (.string a), .sc (.string b)] : List V).any largeV then (2 : Int) else 0))] : List V)))), [])
        else
          bif ((decide (a.size ≤ 1000000000)) && true) then
            bif ((decide (b.size ≤ 1000000000)) && true) then
              bif (((linesV a).all shortS && (linesV b).all shortS && decide ((linesV a).length ≤ 100000000) && decide ((linesV b).length ≤ 100000000) && decide (0 ≤ hide) && decide (hide ≤ 7)) && true) then
                bif (((bif sortedV (linesV a) && sortedV (linesV b) then commV hide (linesV a) (linesV b) else []).all V.isStr && decide ((bif sortedV (linesV a) && sortedV (linesV b) then commV hide (linesV a) (linesV b) else []).length ≤ 1000000000) && decide ((resB (bif sortedV (linesV a) && sortedV (linesV b) then commV hide (linesV a) (linesV b) else [])).size ≤ 100000000000)) && true) then
                  some (.sc (.bool (outc (commS a b hide) (commE a b hide) (resB (bif sortedV (linesV a) && sortedV (linesV b) then commV hide (linesV a) (linesV b) else [])) (bif (!(sortedV (linesV a) && sortedV (linesV b))) then (9 : Int) else 0))), [])
                else none
              else none
            else none
          else none
      else none
    else none
  else none
theorem f5_run (a : ByteArray) (b : ByteArray) (hide : Int) (z9 : V × List Rg) (h : f5 a b hide = some z9) : CallR C prim 5 [.sc (.string a), .sc (.string b), .sc (.int .i64 hide)] [] z9 := by
  refine call_fn (K := K_f5) (T := T_f5) K_f5_ok T_f5_ok (by kernel_rfl) ?_
  refine Eq.trans ?_ h
  kernel_rfl

theorem f5_eq (a : ByteArray) (b : ByteArray) (hide : Int) (hp : (decide (a.size ≤ 10000000) && decide (b.size ≤ 10000000)) = true) : f5 a b hide = some (.sc (.bool true), []) := by
  simp only [Bool.and_eq_true, decide_eq_true_eq] at hp
  obtain ⟨ha, hb⟩ := hp
  have la := linesV_len a
  have lb := linesV_len b
  unfold f5 outc commS commE
  rw [two_short (by omega) (by omega), two_large]
  have s3 : decide (([.sc (.string a), .sc (.string b)] : List V).length ≤ 1000000000) = true := dec_true (by simp)
  rw [s3, dec_true ha, dec_true hb]
  cases hd : decide (hide ≥ 0) && decide (hide ≤ 7) with
  | false => cases largeB a <;> cases largeB b <;> exact (show some (V.sc (.bool (strEq (⟨#[]⟩ : ByteArray) ⟨#[]⟩ && true)), []) = some (V.sc (.bool true), []) from by rw [strEq_self]; rfl)
  | true =>
    simp only [Bool.and_eq_true, decide_eq_true_eq] at hd
    cases h1 : largeB a with
    | true => cases largeB b <;> exact (show some (V.sc (.bool (strEq (⟨#[]⟩ : ByteArray) ⟨#[]⟩ && true)), []) = some (V.sc (.bool true), []) from by rw [strEq_self]; rfl)
    | false =>
    cases h2 : largeB b with
    | true => exact (show some (V.sc (.bool (strEq (⟨#[]⟩ : ByteArray) ⟨#[]⟩ && true)), []) = some (V.sc (.bool true), []) from by rw [strEq_self]; rfl)
    | false =>
    obtain ⟨r1, r2, r3⟩ := comm_res (a := a) (b := b) hide h1 h2
    rw [dec_true (show a.size ≤ 1000000000 by omega), dec_true (show b.size ≤ 1000000000 by omega), linesV_short a (by omega), linesV_short b (by omega), dec_true (show (linesV a).length ≤ 100000000 by omega), dec_true (show (linesV b).length ≤ 100000000 by omega), dec_true (show (0 : Int) ≤ hide from hd.1), dec_true hd.2]
    cases sortedV (linesV a)
    · exact (show some (V.sc (.bool (strEq (⟨#[]⟩ : ByteArray) ⟨#[]⟩ && true)), []) = some (V.sc (.bool true), []) from by rw [strEq_self]; rfl)
    · cases sortedV (linesV b)
      · exact (show some (V.sc (.bool (strEq (⟨#[]⟩ : ByteArray) ⟨#[]⟩ && true)), []) = some (V.sc (.bool true), []) from by rw [strEq_self]; rfl)
      · simp only [Bool.and_self, cond_true]
        rw [r1, dec_true r2, dec_true r3]
        show some (V.sc (.bool (strEq (resB (commV hide (linesV a) (linesV b))) (resB (commV hide (linesV a) (linesV b))) && true)), []) = _
        rw [strEq_self]
        rfl
def k5 : PrimT := fun vs gs => match vs, gs with
  | [.sc (.string a), .sc (.string b), .sc (.int .i64 hide)], [] => ((decide (a.size ≤ 10000000) && decide (b.size ≤ 10000000)), .sc (.bool true), [])
  | _, _ => (false, .bad, [])
theorem k5_ok : ∀ vs gs x, k5 vs gs = (true, x) → CallR C prim 5 vs gs x := by
  intro vs gs x h
  unfold k5 at h
  split at h
  · simp only [Prod.mk.injEq] at h
    obtain ⟨hp, rfl⟩ := h
    exact f5_run _ _ _ _ (f5_eq _ _ _ hp)
  · cases h
end Go.Ab
