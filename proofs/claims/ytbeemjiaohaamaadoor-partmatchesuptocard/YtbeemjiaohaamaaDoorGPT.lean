/- Functions of a law, as the machine runs them. -/
import Derived.Test.YtbeemjiaohaamaaDoorDPT
import Derived.Test.YtbeemjiaohaamaaDoorZPT
namespace Go.Ab
open Go Go.Proofs Go.RowKit
set_option linter.unusedSimpArgs false
set_option linter.unusedVariables false

def K_f157 : CallK := kNil
theorem K_f157_ok : KOK C prim K_f157 := KOK.nil
def T_f157 : Tab := tNil
theorem T_f157_ok : TOK C prim 157 T_f157 := TOK.nil
def f157 (s : ByteArray) : Option (V × List Rg) :=
  bif (decide (((s.size : Nat) : Int) ≥ 1)) then
    bif ((((decide ((0 : Int) ≤ (IntKind.wrap .i64 (((s.size : Nat) : Int) - 1)))) && (decide ((IntKind.wrap .i64 (((s.size : Nat) : Int) - 1)) ≤ ((s.size : Nat) : Int)))) && true) && true) then
      some (.sc (.bool (strEq (s.extract ((IntKind.wrap .i64 (((s.size : Nat) : Int) - 1))).toNat (((s.size : Nat) : Int)).toNat) (⟨#[10]⟩ : ByteArray))), [])
    else none
  else
    some (.sc (.bool false), [])
theorem f157_run (s : ByteArray) (z9 : V × List Rg) (h : f157 s = some z9) : CallR C prim 157 [.sc (.string s), .sc (.string ⟨#[10]⟩)] [] z9 := by
  refine call_fn (K := K_f157) (T := T_f157) K_f157_ok T_f157_ok (by kernel_rfl) ?_
  refine Eq.trans ?_ h
  kernel_rfl

theorem f157_eq (s : ByteArray) (hp : (decide (s.size ≤ 1000000000)) = true) : f157 s = some (.sc (.bool (endNl s)), []) := by
  simp only [decide_eq_true_eq] at hp
  unfold f157
  rcases snoc_cases s.data.toList with h | ⟨t, b, h⟩
  · have hs : s.size = 0 := by rw [bl_size, h]; rfl
    rw [end_nil s h, hs]; rfl
  · have hs : s.size = t.length + 1 := by rw [bl_size, h]; simp
    have e1 : IntKind.wrap .i64 (((s.size : Nat) : Int) - 1) = ((t.length : Nat) : Int) := by rw [wrap_id (by omega) (by omega)]; omega
    have e : s.extract t.length (t.length + 1) = ⟨#[b]⟩ := ba_ext (by rw [bl_extract, h, List.take_of_length_le (by simp)]; simp)
    rw [end_snoc s h, e1, dec_true (show ((s.size : Nat) : Int) ≥ 1 by omega), dec_true (show (0 : Int) ≤ ((t.length : Nat) : Int) by omega), dec_true (show ((t.length : Nat) : Int) ≤ ((s.size : Nat) : Int) by omega), Int.toNat_natCast, Int.toNat_natCast, hs, e]
    have : strEq (⟨#[b]⟩ : ByteArray) ⟨#[10]⟩ = (b == 10) := by
      rw [Bool.eq_iff_iff, strEq_iff]
      constructor
      · intro h'
        have := congrArg (fun x : ByteArray => x.data.toList) h'
        simpa using this
      · intro h'
        rw [beq_iff_eq] at h'
        rw [h']
    rw [this]
    rfl
def k157 : PrimT := fun vs gs => match vs, gs with
  | [.sc (.string s), .sc (.string q1)], [] => ((strEq q1 (⟨#[10]⟩ : ByteArray) && (decide (s.size ≤ 1000000000))), .sc (.bool (endNl s)), [])
  | _, _ => (false, .bad, [])
theorem k157_ok : ∀ vs gs x, k157 vs gs = (true, x) → CallR C prim 157 vs gs x := by
  intro vs gs x h
  unfold k157 at h
  split at h
  · simp only [Prod.mk.injEq] at h
    obtain ⟨hp, rfl⟩ := h
    rw [Bool.and_eq_true] at hp
    obtain ⟨hq, hp⟩ := hp
    obtain rfl := (strEq_iff _ _).1 hq
    exact f157_run _ _ (f157_eq _ hp)
  · cases h

def K_f131 : CallK := kCons 157 k157 <| kNil
theorem K_f131_ok : KOK C prim K_f131 := KOK.cons k157_ok <| KOK.nil
def T_f131 : Tab := tNil
theorem T_f131_ok : TOK C prim 131 T_f131 := TOK.nil
def f131 (s : ByteArray) : Option (V × List Rg) :=
  bif ((decide (s.size ≤ 1000000000)) && true) then
    bif (endNl s) then
      bif ((((decide ((0 : Int) ≤ (IntKind.wrap .i64 (((s.size : Nat) : Int) - 1)))) && (decide ((IntKind.wrap .i64 (((s.size : Nat) : Int) - 1)) ≤ ((s.size : Nat) : Int)))) && true) && true) then
        some (.sc (.string (s.extract 0 ((IntKind.wrap .i64 (((s.size : Nat) : Int) - 1))).toNat)), [])
      else none
    else
      some (.sc (.string s), [])
  else none
theorem f131_run (s : ByteArray) (z9 : V × List Rg) (h : f131 s = some z9) : CallR C prim 131 [.sc (.string s), .sc (.string ⟨#[10]⟩)] [] z9 := by
  refine call_fn (K := K_f131) (T := T_f131) K_f131_ok T_f131_ok (by kernel_rfl) ?_
  refine Eq.trans ?_ h
  kernel_rfl

theorem endNl_pos (s : ByteArray) (h : endNl s = true) : 1 ≤ s.size := by
  rcases snoc_cases s.data.toList with h' | ⟨t, b, h'⟩
  · rw [end_nil s h'] at h; cases h
  · rw [bl_size, h']; simp
theorem f131_eq (s : ByteArray) (hp : (decide (s.size ≤ 1000000000)) = true) : f131 s = some (.sc (.string (trimNl s)), []) := by
  have hq := hp
  simp only [decide_eq_true_eq] at hp
  unfold f131 trimNl
  rw [hq]
  cases h : endNl s with
  | false => rfl
  | true =>
    have h1 := endNl_pos s h
    rw [wrap_id (n := ((s.size : Nat) : Int) - 1) (by omega) (by omega), dec_true (show (0 : Int) ≤ ((s.size : Nat) : Int) - 1 by omega), dec_true (show ((s.size : Nat) : Int) - 1 ≤ ((s.size : Nat) : Int) by omega), show ((s.size : Int) - 1).toNat = s.size - 1 by omega]
    rfl
def k131 : PrimT := fun vs gs => match vs, gs with
  | [.sc (.string s), .sc (.string q1)], [] => ((strEq q1 (⟨#[10]⟩ : ByteArray) && (decide (s.size ≤ 1000000000))), .sc (.string (trimNl s)), [])
  | _, _ => (false, .bad, [])
theorem k131_ok : ∀ vs gs x, k131 vs gs = (true, x) → CallR C prim 131 vs gs x := by
  intro vs gs x h
  unfold k131 at h
  split at h
  · simp only [Prod.mk.injEq] at h
    obtain ⟨hp, rfl⟩ := h
    rw [Bool.and_eq_true] at hp
    obtain ⟨hq, hp⟩ := hp
    obtain rfl := (strEq_iff _ _).1 hq
    exact f131_run _ _ (f131_eq _ hp)
  · cases h

def K_f95 : CallK := kCons 131 k131 <| kNil
theorem K_f95_ok : KOK C prim K_f95 := KOK.cons k131_ok <| KOK.nil
def T_f95 : Tab := tNil
theorem T_f95_ok : TOK C prim 95 T_f95 := TOK.nil
def f95 (s : ByteArray) : Option (V × List Rg) :=
  bif ((decide (s.size ≤ 1000000000)) && true) then
    some (.sc (.string (trimNl s)), [])
  else none
theorem f95_run (s : ByteArray) (z9 : V × List Rg) (h : f95 s = some z9) : CallR C prim 95 [.sc (.string s), .sc (.string ⟨#[10]⟩)] [] z9 := by
  refine call_fn (K := K_f95) (T := T_f95) K_f95_ok T_f95_ok (by kernel_rfl) ?_
  refine Eq.trans ?_ h
  kernel_rfl

theorem f95_eq (s : ByteArray) (hp : (decide (s.size ≤ 1000000000)) = true) : f95 s = some (.sc (.string (trimNl s)), []) := by
  unfold f95
  rw [hp]
  rfl
def k95 : PrimT := fun vs gs => match vs, gs with
  | [.sc (.string s), .sc (.string q1)], [] => ((strEq q1 (⟨#[10]⟩ : ByteArray) && (decide (s.size ≤ 1000000000))), .sc (.string (trimNl s)), [])
  | _, _ => (false, .bad, [])
theorem k95_ok : ∀ vs gs x, k95 vs gs = (true, x) → CallR C prim 95 vs gs x := by
  intro vs gs x h
  unfold k95 at h
  split at h
  · simp only [Prod.mk.injEq] at h
    obtain ⟨hp, rfl⟩ := h
    rw [Bool.and_eq_true] at hp
    obtain ⟨hq, hp⟩ := hp
    obtain rfl := (strEq_iff _ _).1 hq
    exact f95_run _ _ (f95_eq _ hp)
  · cases h

def K_f88 : CallK := kCons 121 k121 <| kNil
theorem K_f88_ok : KOK C prim K_f88 := KOK.cons k121_ok <| KOK.nil
def T_f88 : Tab := tNil
theorem T_f88_ok : TOK C prim 88 T_f88 := TOK.nil
def f88 (s : ByteArray) : Option (V × List Rg) :=
  bif (strEq (⟨#[10]⟩ : ByteArray) s) then
    some (.sc (.int .i64 0), [])
  else
    some (.sc (.int .i64 (idxB s 10)), [])
theorem f88_run (s : ByteArray) (z9 : V × List Rg) (h : f88 s = some z9) : CallR C prim 88 [.sc (.string s), .sc (.string ⟨#[10]⟩)] [] z9 := by
  refine call_fn (K := K_f88) (T := T_f88) K_f88_ok T_f88_ok (by kernel_rfl) ?_
  refine Eq.trans ?_ h
  kernel_rfl

theorem f88_eq (s : ByteArray) : f88 s = some (.sc (.int .i64 (idxB s 10)), []) := by
  unfold f88
  cases h : strEq (⟨#[10]⟩ : ByteArray) s with
  | false => rfl
  | true =>
    rw [strEq_iff] at h
    subst h
    rfl
def k88 : PrimT := fun vs gs => match vs, gs with
  | [.sc (.string s), .sc (.string q1)], [] => ((strEq q1 (⟨#[10]⟩ : ByteArray) && true), .sc (.int .i64 (idxB s 10)), [])
  | _, _ => (false, .bad, [])
theorem k88_ok : ∀ vs gs x, k88 vs gs = (true, x) → CallR C prim 88 vs gs x := by
  intro vs gs x h
  unfold k88 at h
  split at h
  · simp only [Prod.mk.injEq] at h
    obtain ⟨hp, rfl⟩ := h
    rw [Bool.and_eq_true] at hp
    obtain ⟨hq, hp⟩ := hp
    obtain rfl := (strEq_iff _ _).1 hq
    exact f88_run _ _ (f88_eq _)
  · cases h

def K_f46 : CallK := kCons 88 k88 <| kNil
theorem K_f46_ok : KOK C prim K_f46 := KOK.cons k88_ok <| KOK.nil
def T_f46 : Tab := tNil
theorem T_f46_ok : TOK C prim 46 T_f46 := TOK.nil
def f46 (s : ByteArray) : Option (V × List Rg) :=
  some (.sc (.int .i64 (idxB s 10)), [])
theorem f46_run (s : ByteArray) (z9 : V × List Rg) (h : f46 s = some z9) : CallR C prim 46 [.sc (.string s), .sc (.string ⟨#[10]⟩)] [] z9 := by
  refine call_fn (K := K_f46) (T := T_f46) K_f46_ok T_f46_ok (by kernel_rfl) ?_
  refine Eq.trans ?_ h
  kernel_rfl

def k46 : PrimT := fun vs gs => match vs, gs with
  | [.sc (.string s), .sc (.string sep)], [] => (isNl sep, .sc (.int .i64 (idxB s 10)), [])
  | _, _ => (false, .bad, [])
theorem k46_ok : ∀ vs gs x, k46 vs gs = (true, x) → CallR C prim 46 vs gs x := by
  intro vs gs x h
  unfold k46 at h
  split at h
  · next s sep =>
    simp only [Prod.mk.injEq] at h
    obtain ⟨hp, rfl⟩ := h
    rw [isNl_eq hp]
    exact f46_run s _ rfl
  · cases h

def K_f130_l0 : CallK := kCons 46 k46 <| kNil
theorem K_f130_l0_ok : KOK C prim K_f130_l0 := KOK.cons k46_ok <| KOK.nil
def T_f130_l0 : Tab := tNil
theorem T_f130_l0_ok : TOK C prim 130 T_f130_l0 := TOK.nil
def f130_l0 : Nat → ByteArray → ByteArray → Int → Int → Int → List V → (R : Type) → (Ex → St → Option R) → Option R
  | 0, _, _, _, _, _, _, _, _ => none
  | n + 1, s, sep, sepSave, n', i, a, R, κ =>
    bif (decide (i < n')) then
      bif ((isNl sep) && true) then
        bif (decide ((idxB s 10) < 0)) then
          κ (.ex 0) (mkS [(0, .sc (.string s)), (8, .bad), (9, .ref ⟨.loc 9, 0, [], 9, false⟩), (10, .sc (.int .i64 i))] [(.loc 9, some ⟨false, [.own 9 false a]⟩)])
        else
          bif ((((decide ((0 : Int) ≤ (IntKind.wrap .i64 ((idxB s 10) + sepSave)))) && (decide ((IntKind.wrap .i64 ((idxB s 10) + sepSave)) ≤ ((s.size : Nat) : Int)))) && true) && true) then
            bif (((decide ((0 : Int) ≤ i)) && (decide (i < ((a.length : Nat) : Int)))) && true) then
              bif ((((decide ((0 : Int) ≤ (IntKind.wrap .i64 ((idxB s 10) + ((sep.size : Nat) : Int))))) && (decide ((IntKind.wrap .i64 ((idxB s 10) + ((sep.size : Nat) : Int))) ≤ ((s.size : Nat) : Int)))) && true) && true) then
                f130_l0 n (s.extract ((IntKind.wrap .i64 ((idxB s 10) + ((sep.size : Nat) : Int)))).toNat (((s.size : Nat) : Int)).toNat) sep sepSave n' (IntKind.wrap .i64 (i + 1)) (a.set (((i).toNat * 1) + 0) (.sc (.string (s.extract 0 ((IntKind.wrap .i64 ((idxB s 10) + sepSave))).toNat)))) R κ
              else none
            else none
          else none
      else none
    else
      κ (.ex 0) (mkS [(0, .sc (.string s)), (8, .bad), (9, .ref ⟨.loc 9, 0, [], 9, false⟩), (10, .sc (.int .i64 i))] [(.loc 9, some ⟨false, [.own 9 false a]⟩)])
def f130_l0_ls : List (Nat × Pat) := [(0, .s), (1, .s), (2, .i .i64), (3, .i .i64), (9, .is (.ref ⟨.loc 9, 0, [], 9, false⟩)), (10, .i .i64)]
def f130_l0_rs : List RPat := [⟨.loc 9, false, [.own 9 false]⟩]
theorem f130_l0_ok (n : Nat) : ∀ (s : ByteArray) (sep : ByteArray) (sepSave : Int) (n' : Int) (i : Int) (a : List V) (R : Type) (κ : Ex → St → Option R) (r : R), f130_l0 n s sep sepSave n' i a R κ = some r → ∃ ee ss, κ ee ss = some r ∧ RunP C prim 130 [0, 0, 1, 1, 1, 1, 1, 1, 1, 1] (mkS [(0, .sc (.string s)), (1, .sc (.string sep)), (2, .sc (.int .i64 sepSave)), (3, .sc (.int .i64 n')), (9, .ref ⟨.loc 9, 0, [], 9, false⟩), (10, .sc (.int .i64 i))] [(.loc 9, some ⟨false, [.own 9 false a]⟩)]) ee ss := by
  induction n with
  | zero => intro s sep sepSave n' i a R κ r h; cases h
  | succ n ih =>
    intro s sep sepSave n' i a R κ r h
    refine loop_round (K := K_f130_l0) (T := T_f130_l0) K_f130_l0_ok T_f130_l0_ok (p := [0, 0, 1, 1, 1, 1, 1, 1, 1, 1]) (by kernel_rfl) (fun st => bif ckS f130_l0_ls f130_l0_rs st then f130_l0 n ((st.env 0).strOf) ((st.env 1).strOf) ((st.env 2).intOf) ((st.env 3).intOf) ((st.env 10).intOf) ((nthV (rowOf (st.regs (.loc 9))) 0).cellsOf) R κ else none) (fun st0 h0 => ?_) ?_
    · obtain ⟨hs, h0⟩ := cond_some h0
      rw [canon (ls := f130_l0_ls) (rs := f130_l0_rs) (by kernel_rfl) st0 hs]
      exact ih _ _ _ _ _ _ R κ r h0
    · refine Eq.trans ?_ h
      kernel_rfl

def f130_s0 (s : ByteArray) (sep : ByteArray) (sepSave : Int) (n' : Int) (i : Int) (a : List V) (R : Type) (κ : Ex → St → Option R) : Option R :=
  κ (.ex 0) (mkS [(0, .sc (.string (lastP s))), (8, .bad), (9, .ref ⟨.loc 9, 0, [], 9, false⟩), (10, .sc (.int .i64 n'))] [(.loc 9, some ⟨false, [.own 9 false (headW s sepSave ++ a.drop n'.toNat)]⟩)])
theorem idx_len (s : ByteArray) : ((headP s).length = 0 → idxB s 10 < 0) ∧ (0 < (headP s).length → ∃ m : Nat, idxB s 10 = (m : Int) ∧ m < s.size ∧ headP s = strV (s.data.toList.take m) :: headP (s.extract (m + 1) s.size) ∧ lastP s = lastP (s.extract (m + 1) s.size)) := by
  have hd : ∀ m : Nat, (s.extract (m + 1) s.size).data.toList = s.data.toList.drop (m + 1) := by
    intro m
    rw [bl_extract, List.take_of_length_le (by rw [bl_size]; exact Nat.le_refl _)]
  have hx : idxB s 10 = Lib.indexByte s.data.toList 10 := rfl
  constructor
  · intro h
    rw [hx]
    rcases (show Lib.indexByte s.data.toList 10 < 0 ∨ 0 ≤ Lib.indexByte s.data.toList 10 by omega) with h' | h'
    · exact h'
    · obtain ⟨h1, _, _⟩ := head_idx s.data.toList [] (Lib.indexByte s.data.toList 10).toNat (by omega)
      unfold headP at h
      rw [h1] at h
      cases h
  · intro h
    obtain ⟨m, hm⟩ := head_pos s.data.toList [] h
    obtain ⟨h1, h2, h3⟩ := head_idx s.data.toList [] m hm
    refine ⟨m, by rw [hx]; exact hm, by rw [bl_size]; exact h3, ?_, ?_⟩
    · unfold headP
      rw [h1, hd]
      rfl
    · unfold lastP
      rw [h2, hd]
theorem last_neg (s : ByteArray) (h : (headP s).length = 0) : headP s = [] ∧ lastP s = s := by
  have h1 : Lib.indexByte s.data.toList 10 < 0 := (idx_len s).1 h
  obtain ⟨h2, h3⟩ := head_neg s.data.toList [] h1
  refine ⟨h2, ba_ext ?_⟩
  unfold lastP
  rw [h3]
  simp
theorem f130_loop (sep : ByteArray) (hsep : isNl sep = true) (N : Nat) (hN : N ≤ 1000000000) (R : Type) (κ : Ex → St → Option R) : ∀ (k : Nat) (s : ByteArray) (i : Nat) (a : List V), (headP s).length = k → i + k = N → a.length = N + 1 → s.size ≤ 1000000000 →
    f130_l0 (k + 1) s sep 0 ((N : Nat) : Int) ((i : Nat) : Int) a R κ = κ (.ex 0) (mkS [(0, .sc (.string (lastP s))), (8, .bad), (9, .ref ⟨.loc 9, 0, [], 9, false⟩), (10, .sc (.int .i64 ((N : Nat) : Int)))] [(.loc 9, some ⟨false, [.own 9 false (a.take i ++ (headP s ++ a.drop N))]⟩)])
  | 0, s, i, a, h, h1, h2, h3 => by
    obtain ⟨h4, h5⟩ := last_neg s h
    obtain rfl : i = N := by omega
    rw [f130_l0, dec_false (by omega), cond_false, h4, h5, List.nil_append, List.take_append_drop]
  | k + 1, s, i, a, h, h1, h2, h3 => by
    obtain ⟨m, g1, g2, g3, g4⟩ := (idx_len s).2 (by omega)
    have hz : (sep.size : Nat) = 1 := by rw [isNl_eq hsep]; rfl
    have hk : (headP (s.extract (m + 1) s.size)).length = k := by rw [g3] at h; simpa using h
    have hs : (s.extract (m + 1) s.size).size ≤ 1000000000 := by rw [bl_size, bl_extract, List.length_drop, List.length_take]; rw [bl_size] at h3; omega
    have IH := f130_loop sep hsep N hN R κ k (s.extract (m + 1) s.size) (i + 1) (a.set i (strV (s.data.toList.take m))) hk (by omega) (by rw [List.length_set]; exact h2) hs
    rw [f130_l0, dec_true (show ((i : Nat) : Int) < ((N : Nat) : Int) by omega), hsep, g1, dec_false (show ¬ ((m : Nat) : Int) < 0 by omega), Int.add_zero, wrap_id (n := ((m : Nat) : Int)) (by omega) (by omega), hz, wrap_id (n := ((m : Nat) : Int) + ((1 : Nat) : Int)) (by omega) (by omega), wrap_succ (by omega), dec_true (show (0 : Int) ≤ ((m : Nat) : Int) by omega), dec_true (show ((m : Nat) : Int) ≤ ((s.size : Nat) : Int) by omega), dec_true (show (0 : Int) ≤ ((i : Nat) : Int) by omega), dec_true (show ((i : Nat) : Int) < ((a.length : Nat) : Int) by omega), dec_true (show (0 : Int) ≤ ((m : Nat) : Int) + ((1 : Nat) : Int) by omega), dec_true (show ((m : Nat) : Int) + ((1 : Nat) : Int) ≤ ((s.size : Nat) : Int) by omega)]
    simp only [Bool.and_self, cond_true, cond_false, Int.toNat_natCast, Nat.mul_one, Nat.add_zero, strV_extract s 0 m, List.drop_zero, show (((m : Nat) : Int) + ((1 : Nat) : Int)).toNat = m + 1 by omega, IH, g4]
    have : (a.set i (strV (s.data.toList.take m))).take (i + 1) ++ (headP (s.extract (m + 1) s.size) ++ (a.set i (strV (s.data.toList.take m))).drop N) = a.take i ++ (headP s ++ a.drop N) := by
      rw [g3, List.take_add_one, List.take_set_of_le (by omega), List.getElem?_set_self (by omega), List.drop_set_of_lt (by omega)]
      simp
    rw [this]
theorem idx_lenN (s : ByteArray) : ((headP s).length = 0 → headN s = []) ∧ (∀ m : Nat, idxB s 10 = (m : Int) → headN s = strV (s.data.toList.take (m + 1)) :: headN (s.extract (m + 1) s.size)) := by
  have hd : ∀ m : Nat, (s.extract (m + 1) s.size).data.toList = s.data.toList.drop (m + 1) := by
    intro m
    rw [bl_extract, List.take_of_length_le (by rw [bl_size]; exact Nat.le_refl _)]
  constructor
  · intro h
    exact headN_neg _ _ ((idx_len s).1 h)
  · intro m hm
    unfold headN
    rw [headN_idx s.data.toList [] m hm, hd]
    rfl
theorem f130_loopN (sep : ByteArray) (hsep : isNl sep = true) (N : Nat) (hN : N ≤ 1000000000) (R : Type) (κ : Ex → St → Option R) : ∀ (k : Nat) (s : ByteArray) (i : Nat) (a : List V), (headP s).length = k → i + k = N → a.length = N + 1 → s.size ≤ 1000000000 →
    f130_l0 (k + 1) s sep 1 ((N : Nat) : Int) ((i : Nat) : Int) a R κ = κ (.ex 0) (mkS [(0, .sc (.string (lastP s))), (8, .bad), (9, .ref ⟨.loc 9, 0, [], 9, false⟩), (10, .sc (.int .i64 ((N : Nat) : Int)))] [(.loc 9, some ⟨false, [.own 9 false (a.take i ++ (headN s ++ a.drop N))]⟩)])
  | 0, s, i, a, h, h1, h2, h3 => by
    obtain ⟨h4, h5⟩ := last_neg s h
    obtain rfl : i = N := by omega
    rw [f130_l0, dec_false (by omega), cond_false, (idx_lenN s).1 h, h5, List.nil_append, List.take_append_drop]
  | k + 1, s, i, a, h, h1, h2, h3 => by
    obtain ⟨m, g1, g2, g3, g4⟩ := (idx_len s).2 (by omega)
    have g5 := (idx_lenN s).2 m g1
    have hz : (sep.size : Nat) = 1 := by rw [isNl_eq hsep]; rfl
    have hk : (headP (s.extract (m + 1) s.size)).length = k := by rw [g3] at h; simpa using h
    have hs : (s.extract (m + 1) s.size).size ≤ 1000000000 := by rw [bl_size, bl_extract, List.length_drop, List.length_take]; rw [bl_size] at h3; omega
    have IH := f130_loopN sep hsep N hN R κ k (s.extract (m + 1) s.size) (i + 1) (a.set i (strV (s.data.toList.take (m + 1)))) hk (by omega) (by rw [List.length_set]; exact h2) hs
    rw [f130_l0, dec_true (show ((i : Nat) : Int) < ((N : Nat) : Int) by omega), hsep, g1, dec_false (show ¬ ((m : Nat) : Int) < 0 by omega), wrap_succ (k := m) (by omega), hz, wrap_id (n := ((m : Nat) : Int) + ((1 : Nat) : Int)) (by omega) (by omega), wrap_succ (by omega), dec_true (show (0 : Int) ≤ ((m + 1 : Nat) : Int) by omega), dec_true (show ((m + 1 : Nat) : Int) ≤ ((s.size : Nat) : Int) by omega), dec_true (show (0 : Int) ≤ ((i : Nat) : Int) by omega), dec_true (show ((i : Nat) : Int) < ((a.length : Nat) : Int) by omega), dec_true (show (0 : Int) ≤ ((m : Nat) : Int) + ((1 : Nat) : Int) by omega), dec_true (show ((m : Nat) : Int) + ((1 : Nat) : Int) ≤ ((s.size : Nat) : Int) by omega)]
    simp only [Bool.and_self, cond_true, cond_false, Int.toNat_natCast, Nat.mul_one, Nat.add_zero, strV_extract s 0 (m + 1), List.drop_zero, show (((m : Nat) : Int) + ((1 : Nat) : Int)).toNat = m + 1 by omega, IH, g4]
    have : (a.set i (strV (s.data.toList.take (m + 1)))).take (i + 1) ++ (headN (s.extract (m + 1) s.size) ++ (a.set i (strV (s.data.toList.take (m + 1)))).drop N) = a.take i ++ (headN s ++ a.drop N) := by
      rw [g5, List.take_add_one, List.take_set_of_le (by omega), List.getElem?_set_self (by omega), List.drop_set_of_lt (by omega)]
      simp
    rw [this]
theorem f130_s0_eq (s : ByteArray) (sep : ByteArray) (sepSave : Int) (n' : Int) (i : Int) (a : List V) (hp : (isNl sep && ((sepSave == 0) || (sepSave == 1)) && (i == 0) && (n' == cntN s) && decide ((a.length : Int) = n' + 1) && decide (s.size ≤ 1000000000)) = true) : ∃ n, ∀ (R : Type) (κ : Ex → St → Option R), f130_l0 n s sep sepSave n' i a R κ = f130_s0 s sep sepSave n' i a R κ := by
  simp only [Bool.and_eq_true, Bool.or_eq_true, decide_eq_true_eq, beq_iff_eq] at hp
  obtain ⟨⟨⟨⟨⟨g1, g0⟩, rfl⟩, rfl⟩, g5⟩, g6⟩ := hp
  have hN := headP_le s
  refine ⟨(headP s).length + 1, fun R κ => ?_⟩
  unfold cntN at *
  rw [f130_s0, Int.toNat_natCast]
  rcases g0 with rfl | rfl
  · exact f130_loop sep g1 (headP s).length (by omega) R κ (headP s).length s 0 a rfl (by omega) (by omega) g6
  · exact f130_loopN sep g1 (headP s).length (by omega) R κ (headP s).length s 0 a rfl (by omega) (by omega) g6
def t_f130_l0 (st : St) (R : Type) (κ : Ex → St → Option R) : Option R := bif ckS f130_l0_ls f130_l0_rs st then (bif (isNl ((st.env 1).strOf) && ((((st.env 2).intOf) == 0) || (((st.env 2).intOf) == 1)) && (((st.env 10).intOf) == 0) && (((st.env 3).intOf) == cntN ((st.env 0).strOf)) && decide ((((nthV (rowOf (st.regs (.loc 9))) 0).cellsOf).length : Int) = ((st.env 3).intOf) + 1) && decide (((st.env 0).strOf).size ≤ 1000000000)) then f130_s0 ((st.env 0).strOf) ((st.env 1).strOf) ((st.env 2).intOf) ((st.env 3).intOf) ((st.env 10).intOf) ((nthV (rowOf (st.regs (.loc 9))) 0).cellsOf) R κ else none) else none
theorem t_f130_l0_ok : ∀ st0 R κ r, t_f130_l0 (forget C 130 [0, 0, 1, 1, 1, 1, 1, 1, 1, 1] st0) R κ = some r → ∃ ee ss, κ ee ss = some r ∧ RunP C prim 130 [0, 0, 1, 1, 1, 1, 1, 1, 1, 1] (forget C 130 [0, 0, 1, 1, 1, 1, 1, 1, 1, 1] st0) ee ss := by
  intro st0 R κ r h
  obtain ⟨hs, h⟩ := cond_some h
  obtain ⟨hp, h⟩ := cond_some h
  rw [canon (ls := f130_l0_ls) (rs := f130_l0_rs) (by kernel_rfl) st0 hs]
  obtain ⟨n, hn⟩ := f130_s0_eq _ _ _ _ _ _ hp
  rw [← hn] at h
  exact f130_l0_ok n _ _ _ _ _ _ R κ r h

def K_f130 : CallK := kCons 73 k73 <| kNil
theorem K_f130_ok : KOK C prim K_f130 := KOK.cons k73_ok <| KOK.nil
def T_f130 : Tab := tCons [0, 0, 1, 1, 1, 1, 1, 1, 1, 1] t_f130_l0 <| tNil
theorem T_f130_ok : TOK C prim 130 T_f130 := TOK.cons t_f130_l0_ok <| TOK.nil
def f130 (s : ByteArray) (sepSave : Int) : Option (V × List Rg) :=
  bif ((((((((((decide ((0 : Int) ≤ (bif (decide ((IntKind.wrap .i64 (((s.size : Nat) : Int) + 1)) < (IntKind.wrap .i64 ((cntB s (⟨#[10]⟩ : ByteArray)) + 1)))) then (IntKind.wrap .i64 (((s.size : Nat) : Int) + 1)) else (IntKind.wrap .i64 ((cntB s (⟨#[10]⟩ : ByteArray)) + 1))))) && (decide ((bif (decide ((IntKind.wrap .i64 (((s.size : Nat) : Int) + 1)) < (IntKind.wrap .i64 ((cntB s (⟨#[10]⟩ : ByteArray)) + 1)))) then (IntKind.wrap .i64 (((s.size : Nat) : Int) + 1)) else (IntKind.wrap .i64 ((cntB s (⟨#[10]⟩ : ByteArray)) + 1))) ≤ (bif (decide ((IntKind.wrap .i64 (((s.size : Nat) : Int) + 1)) < (IntKind.wrap .i64 ((cntB s (⟨#[10]⟩ : ByteArray)) + 1)))) then (IntKind.wrap .i64 (((s.size : Nat) : Int) + 1)) else (IntKind.wrap .i64 ((cntB s (⟨#[10]⟩ : ByteArray)) + 1)))))) && true) && true) && true) && true) && true) && (roomy (((bif (decide ((IntKind.wrap .i64 (((s.size : Nat) : Int) + 1)) < (IntKind.wrap .i64 ((cntB s (⟨#[10]⟩ : ByteArray)) + 1)))) then (IntKind.wrap .i64 (((s.size : Nat) : Int) + 1)) else (IntKind.wrap .i64 ((cntB s (⟨#[10]⟩ : ByteArray)) + 1)))).toNat * 16))) && (roomy ((bif (decide ((IntKind.wrap .i64 (((s.size : Nat) : Int) + 1)) < (IntKind.wrap .i64 ((cntB s (⟨#[10]⟩ : ByteArray)) + 1)))) then (IntKind.wrap .i64 (((s.size : Nat) : Int) + 1)) else (IntKind.wrap .i64 ((cntB s (⟨#[10]⟩ : ByteArray)) + 1)))).toNat)) && true) then
    bif (isNl (⟨#[10]⟩ : ByteArray) && ((sepSave == 0) || (sepSave == 1)) && ((0 : Int) == 0) && ((IntKind.wrap .i64 ((bif (decide ((IntKind.wrap .i64 (((s.size : Nat) : Int) + 1)) < (IntKind.wrap .i64 ((cntB s (⟨#[10]⟩ : ByteArray)) + 1)))) then (IntKind.wrap .i64 (((s.size : Nat) : Int) + 1)) else (IntKind.wrap .i64 ((cntB s (⟨#[10]⟩ : ByteArray)) + 1))) - 1)) == cntN s) && decide ((((List.replicate ((bif (decide ((IntKind.wrap .i64 (((s.size : Nat) : Int) + 1)) < (IntKind.wrap .i64 ((cntB s (⟨#[10]⟩ : ByteArray)) + 1)))) then (IntKind.wrap .i64 (((s.size : Nat) : Int) + 1)) else (IntKind.wrap .i64 ((cntB s (⟨#[10]⟩ : ByteArray)) + 1)))).toNat ([.sc (.string ⟨#[]⟩)] : List V)).flatten).length : Int) = (IntKind.wrap .i64 ((bif (decide ((IntKind.wrap .i64 (((s.size : Nat) : Int) + 1)) < (IntKind.wrap .i64 ((cntB s (⟨#[10]⟩ : ByteArray)) + 1)))) then (IntKind.wrap .i64 (((s.size : Nat) : Int) + 1)) else (IntKind.wrap .i64 ((cntB s (⟨#[10]⟩ : ByteArray)) + 1))) - 1)) + 1) && decide (s.size ≤ 1000000000)) then
      bif (((decide ((0 : Int) ≤ (IntKind.wrap .i64 ((bif (decide ((IntKind.wrap .i64 (((s.size : Nat) : Int) + 1)) < (IntKind.wrap .i64 ((cntB s (⟨#[10]⟩ : ByteArray)) + 1)))) then (IntKind.wrap .i64 (((s.size : Nat) : Int) + 1)) else (IntKind.wrap .i64 ((cntB s (⟨#[10]⟩ : ByteArray)) + 1))) - 1)))) && (decide ((IntKind.wrap .i64 ((bif (decide ((IntKind.wrap .i64 (((s.size : Nat) : Int) + 1)) < (IntKind.wrap .i64 ((cntB s (⟨#[10]⟩ : ByteArray)) + 1)))) then (IntKind.wrap .i64 (((s.size : Nat) : Int) + 1)) else (IntKind.wrap .i64 ((cntB s (⟨#[10]⟩ : ByteArray)) + 1))) - 1)) < ((((headW s sepSave ++ ((List.replicate ((bif (decide ((IntKind.wrap .i64 (((s.size : Nat) : Int) + 1)) < (IntKind.wrap .i64 ((cntB s (⟨#[10]⟩ : ByteArray)) + 1)))) then (IntKind.wrap .i64 (((s.size : Nat) : Int) + 1)) else (IntKind.wrap .i64 ((cntB s (⟨#[10]⟩ : ByteArray)) + 1)))).toNat ([.sc (.string ⟨#[]⟩)] : List V)).flatten).drop (IntKind.wrap .i64 ((bif (decide ((IntKind.wrap .i64 (((s.size : Nat) : Int) + 1)) < (IntKind.wrap .i64 ((cntB s (⟨#[10]⟩ : ByteArray)) + 1)))) then (IntKind.wrap .i64 (((s.size : Nat) : Int) + 1)) else (IntKind.wrap .i64 ((cntB s (⟨#[10]⟩ : ByteArray)) + 1))) - 1)).toNat)).length : Nat) : Int)))) && true) then
        bif (((((decide ((0 : Int) ≤ (IntKind.wrap .i64 ((IntKind.wrap .i64 ((bif (decide ((IntKind.wrap .i64 (((s.size : Nat) : Int) + 1)) < (IntKind.wrap .i64 ((cntB s (⟨#[10]⟩ : ByteArray)) + 1)))) then (IntKind.wrap .i64 (((s.size : Nat) : Int) + 1)) else (IntKind.wrap .i64 ((cntB s (⟨#[10]⟩ : ByteArray)) + 1))) - 1)) + 1)))) && (decide ((IntKind.wrap .i64 ((IntKind.wrap .i64 ((bif (decide ((IntKind.wrap .i64 (((s.size : Nat) : Int) + 1)) < (IntKind.wrap .i64 ((cntB s (⟨#[10]⟩ : ByteArray)) + 1)))) then (IntKind.wrap .i64 (((s.size : Nat) : Int) + 1)) else (IntKind.wrap .i64 ((cntB s (⟨#[10]⟩ : ByteArray)) + 1))) - 1)) + 1)) ≤ (((((headW s sepSave ++ ((List.replicate ((bif (decide ((IntKind.wrap .i64 (((s.size : Nat) : Int) + 1)) < (IntKind.wrap .i64 ((cntB s (⟨#[10]⟩ : ByteArray)) + 1)))) then (IntKind.wrap .i64 (((s.size : Nat) : Int) + 1)) else (IntKind.wrap .i64 ((cntB s (⟨#[10]⟩ : ByteArray)) + 1)))).toNat ([.sc (.string ⟨#[]⟩)] : List V)).flatten).drop (IntKind.wrap .i64 ((bif (decide ((IntKind.wrap .i64 (((s.size : Nat) : Int) + 1)) < (IntKind.wrap .i64 ((cntB s (⟨#[10]⟩ : ByteArray)) + 1)))) then (IntKind.wrap .i64 (((s.size : Nat) : Int) + 1)) else (IntKind.wrap .i64 ((cntB s (⟨#[10]⟩ : ByteArray)) + 1))) - 1)).toNat).set ((((IntKind.wrap .i64 ((bif (decide ((IntKind.wrap .i64 (((s.size : Nat) : Int) + 1)) < (IntKind.wrap .i64 ((cntB s (⟨#[10]⟩ : ByteArray)) + 1)))) then (IntKind.wrap .i64 (((s.size : Nat) : Int) + 1)) else (IntKind.wrap .i64 ((cntB s (⟨#[10]⟩ : ByteArray)) + 1))) - 1))).toNat * 1) + 0) (.sc (.string (lastP s))))).length : Nat) : Int)))) && true) && true) && true) then
          some (.own 9 false (((headW s sepSave ++ ((List.replicate ((bif (decide ((IntKind.wrap .i64 (((s.size : Nat) : Int) + 1)) < (IntKind.wrap .i64 ((cntB s (⟨#[10]⟩ : ByteArray)) + 1)))) then (IntKind.wrap .i64 (((s.size : Nat) : Int) + 1)) else (IntKind.wrap .i64 ((cntB s (⟨#[10]⟩ : ByteArray)) + 1)))).toNat ([.sc (.string ⟨#[]⟩)] : List V)).flatten).drop (IntKind.wrap .i64 ((bif (decide ((IntKind.wrap .i64 (((s.size : Nat) : Int) + 1)) < (IntKind.wrap .i64 ((cntB s (⟨#[10]⟩ : ByteArray)) + 1)))) then (IntKind.wrap .i64 (((s.size : Nat) : Int) + 1)) else (IntKind.wrap .i64 ((cntB s (⟨#[10]⟩ : ByteArray)) + 1))) - 1)).toNat).set ((((IntKind.wrap .i64 ((bif (decide ((IntKind.wrap .i64 (((s.size : Nat) : Int) + 1)) < (IntKind.wrap .i64 ((cntB s (⟨#[10]⟩ : ByteArray)) + 1)))) then (IntKind.wrap .i64 (((s.size : Nat) : Int) + 1)) else (IntKind.wrap .i64 ((cntB s (⟨#[10]⟩ : ByteArray)) + 1))) - 1))).toNat * 1) + 0) (.sc (.string (lastP s)))).take (((IntKind.wrap .i64 ((IntKind.wrap .i64 ((bif (decide ((IntKind.wrap .i64 (((s.size : Nat) : Int) + 1)) < (IntKind.wrap .i64 ((cntB s (⟨#[10]⟩ : ByteArray)) + 1)))) then (IntKind.wrap .i64 (((s.size : Nat) : Int) + 1)) else (IntKind.wrap .i64 ((cntB s (⟨#[10]⟩ : ByteArray)) + 1))) - 1)) + 1))).toNat * 1)), [])
        else none
      else none
    else none
  else none
theorem f130_run (s : ByteArray) (sepSave : Int) (z9 : V × List Rg) (h : f130 s sepSave = some z9) : CallR C prim 130 [.sc (.string s), .sc (.string ⟨#[10]⟩), .sc (.int .i64 sepSave), .sc (.int .i64 (-1))] [] z9 := by
  refine call_fn (K := K_f130) (T := T_f130) K_f130_ok T_f130_ok (by kernel_rfl) ?_
  refine Eq.trans ?_ h
  kernel_rfl

theorem cntB_nl (s : ByteArray) : cntB s (⟨#[10]⟩ : ByteArray) = (((headP s).length : Nat) : Int) := by
  unfold headP
  rw [head_len]
  rfl
theorem rep_flat {α : Type} (n : Nat) (x : α) : (List.replicate n [x]).flatten = List.replicate n x := by
  induction n with
  | zero => rfl
  | succ n ih => rw [List.replicate_succ, List.flatten_cons, ih, List.replicate_succ]; rfl
theorem headW_len (s : ByteArray) (v : Int) : (headW s v).length = (headP s).length := by
  unfold headW
  cases v == 0
  · exact headN_len _ _
  · rfl
theorem f130_eq (s : ByteArray) (sepSave : Int) (hp : (((sepSave == 0) || (sepSave == 1)) && decide (s.size ≤ 1000000000)) = true) : f130 s sepSave = some (.own 9 false (splitW s sepSave), []) := by
  have hpp := hp
  simp only [Bool.and_eq_true, decide_eq_true_eq] at hp
  obtain ⟨hv, hp⟩ := hp
  have hH := headW_len s sepSave
  have hN := headP_le s
  have hw2 : IntKind.wrap .i64 (((s.size : Nat) : Int) + 1) = ((s.size + 1 : Nat) : Int) := wrap_succ (by omega)
  have hw1 : IntKind.wrap .i64 ((((headP s).length : Nat) : Int) + 1) = (((headP s).length + 1 : Nat) : Int) := wrap_succ (by omega)
  have hlt : decide (((s.size + 1 : Nat) : Int) < (((headP s).length + 1 : Nat) : Int)) = false := dec_false (by omega)
  have hw3 : IntKind.wrap .i64 ((((headP s).length + 1 : Nat) : Int) - 1) = (((headP s).length : Nat) : Int) := by rw [wrap_id (by omega) (by omega)]; omega
  unfold f130
  simp only [cntB_nl, hw1, hw2, hlt, cond_false, hw3, Int.toNat_natCast, rep_flat, List.length_replicate, List.drop_replicate, Nat.mul_one, Nat.add_zero]
  have e1 : (headP s).length + 1 - (headP s).length = 1 := by omega
  have e2 : (headW s sepSave ++ List.replicate 1 (V.sc (.string ⟨#[]⟩))).set (headP s).length (.sc (.string (lastP s))) = splitW s sepSave := by
    rw [List.set_append_right _ _ (by omega), hH, Nat.sub_self]
    rfl
  have e3 : (splitW s sepSave).length = (headP s).length + 1 := by unfold splitW; simp [hH]
  have e4 : (headW s sepSave ++ List.replicate 1 (V.sc (.string ⟨#[]⟩))).length = (headP s).length + 1 := by simp [hH]
  rw [e1, e2, e4, e3, List.take_of_length_le (by omega)]
  have r1 : roomy (((headP s).length + 1) * 16) = true := dec_true (by omega)
  have r2 : roomy ((headP s).length + 1) = true := dec_true (by omega)
  have d1 : decide ((0 : Int) ≤ (((headP s).length + 1 : Nat) : Int)) = true := dec_true (by omega)
  have d2 : decide ((((headP s).length + 1 : Nat) : Int) ≤ (((headP s).length + 1 : Nat) : Int)) = true := dec_true (by omega)
  have d3 : decide ((0 : Int) ≤ (((headP s).length : Nat) : Int)) = true := dec_true (by omega)
  have d4 : decide ((((headP s).length : Nat) : Int) < (((headP s).length + 1 : Nat) : Int)) = true := dec_true (by omega)
  have d5 : decide ((((headP s).length + 1 : Nat) : Int) = (((headP s).length : Nat) : Int) + 1) = true := dec_true (by omega)
  have d6 : ((((headP s).length : Nat) : Int) == cntN s) = true := beq_self_eq_true _
  rw [r1, r2, d1, d2, d3, d4, d5, d6, hv, dec_true hp]
  rfl
def k130 : PrimT := fun vs gs => match vs, gs with
  | [.sc (.string s), .sc (.string q1), .sc (.int .i64 sepSave), .sc (.int .i64 (-1))], [] => ((strEq q1 (⟨#[10]⟩ : ByteArray) && (((sepSave == 0) || (sepSave == 1)) && decide (s.size ≤ 1000000000))), .own 9 false (splitW s sepSave), [])
  | _, _ => (false, .bad, [])
theorem k130_ok : ∀ vs gs x, k130 vs gs = (true, x) → CallR C prim 130 vs gs x := by
  intro vs gs x h
  unfold k130 at h
  split at h
  · simp only [Prod.mk.injEq] at h
    obtain ⟨hp, rfl⟩ := h
    rw [Bool.and_eq_true] at hp
    obtain ⟨hq, hp⟩ := hp
    obtain rfl := (strEq_iff _ _).1 hq
    exact f130_run _ _ _ (f130_eq _ _ hp)
  · cases h

def K_f94 : CallK := kCons 130 k130 <| kNil
theorem K_f94_ok : KOK C prim K_f94 := KOK.cons k130_ok <| KOK.nil
def T_f94 : Tab := tNil
theorem T_f94_ok : TOK C prim 94 T_f94 := TOK.nil
def f94 (s : ByteArray) : Option (V × List Rg) :=
  bif (((((0 : Int) == 0) || ((0 : Int) == 1)) && decide (s.size ≤ 1000000000)) && true) then
    some (.own 9 false (splitW s (0 : Int)), [])
  else none
theorem f94_run (s : ByteArray) (z9 : V × List Rg) (h : f94 s = some z9) : CallR C prim 94 [.sc (.string s), .sc (.string ⟨#[10]⟩)] [] z9 := by
  refine call_fn (K := K_f94) (T := T_f94) K_f94_ok T_f94_ok (by kernel_rfl) ?_
  refine Eq.trans ?_ h
  kernel_rfl

theorem f94_eq (s : ByteArray) (hp : (decide (s.size ≤ 1000000000)) = true) : f94 s = some (.own 9 false (splitV s), []) := by
  unfold f94
  rw [hp]
  rfl
def k94 : PrimT := fun vs gs => match vs, gs with
  | [.sc (.string s), .sc (.string q1)], [] => ((strEq q1 (⟨#[10]⟩ : ByteArray) && (decide (s.size ≤ 1000000000))), .own 9 false (splitV s), [])
  | _, _ => (false, .bad, [])
theorem k94_ok : ∀ vs gs x, k94 vs gs = (true, x) → CallR C prim 94 vs gs x := by
  intro vs gs x h
  unfold k94 at h
  split at h
  · simp only [Prod.mk.injEq] at h
    obtain ⟨hp, rfl⟩ := h
    rw [Bool.and_eq_true] at hp
    obtain ⟨hq, hp⟩ := hp
    obtain rfl := (strEq_iff _ _).1 hq
    exact f94_run _ _ (f94_eq _ hp)
  · cases h

def K_f54 : CallK := kCons 94 k94 <| kCons 95 k95 <| kNil
theorem K_f54_ok : KOK C prim K_f54 := KOK.cons k94_ok <| KOK.cons k95_ok <| KOK.nil
def T_f54 : Tab := tNil
theorem T_f54_ok : TOK C prim 54 T_f54 := TOK.nil
def f54 (text : ByteArray) : Option (V × List Rg) :=
  bif (strEq text (⟨#[]⟩ : ByteArray)) then
    some (.sl 1 [], [])
  else
    bif ((decide (text.size ≤ 1000000000)) && true) then
      bif ((decide ((trimNl text).size ≤ 1000000000)) && true) then
        some (.sl 1 (splitV (trimNl text)), [])
      else none
    else none
theorem f54_run (text : ByteArray) (z9 : V × List Rg) (h : f54 text = some z9) : CallR C prim 54 [.sc (.string text)] [] z9 := by
  refine call_fn (K := K_f54) (T := T_f54) K_f54_ok T_f54_ok (by kernel_rfl) ?_
  refine Eq.trans ?_ h
  kernel_rfl

theorem f54_eq (text : ByteArray) (hp : (decide (text.size ≤ 1000000000)) = true) : f54 text = some (.sl 1 (linesV text), []) := by
  have hq := hp
  simp only [decide_eq_true_eq] at hp
  unfold f54
  cases h : strEq text (⟨#[]⟩ : ByteArray) with
  | true =>
    rw [strEq_iff] at h
    rw [linesV_nil text (by rw [h])]
    rfl
  | false =>
    have hne : text.data.toList ≠ [] := by
      intro h'
      have : text = ⟨#[]⟩ := ba_ext (by rw [h'])
      rw [this, strEq_self] at h
      cases h
    have ht : (trimNl text).size ≤ 1000000000 := by
      unfold trimNl
      cases endNl text
      · exact hp
      · rw [cond_true, bl_size, bl_extract, List.length_drop, List.length_take]; rw [bl_size] at hp; omega
    rw [linesV_trim text hne, dec_true ht, hq]
    rfl
def k54 : PrimT := fun vs gs => match vs, gs with
  | [.sc (.string text)], [] => ((decide (text.size ≤ 1000000000)), .sl 1 (linesV text), [])
  | _, _ => (false, .bad, [])
theorem k54_ok : ∀ vs gs x, k54 vs gs = (true, x) → CallR C prim 54 vs gs x := by
  intro vs gs x h
  unfold k54 at h
  split at h
  · simp only [Prod.mk.injEq] at h
    obtain ⟨hp, rfl⟩ := h
    exact f54_run _ _ (f54_eq _ hp)
  · cases h

def K_f68 : CallK := kCons 54 k54 <| kNil
theorem K_f68_ok : KOK C prim K_f68 := KOK.cons k54_ok <| KOK.nil
def T_f68 : Tab := tNil
theorem T_f68_ok : TOK C prim 68 T_f68 := TOK.nil
def f68 (text : ByteArray) : Option (V × List Rg) :=
  bif (decide (((text.size : Nat) : Int) > 65536)) then
    some (.sc (.bool true), [])
  else
    bif ((decide (text.size ≤ 1000000000)) && true) then
      some (.sc (.bool (decide (((((linesV text)).length : Nat) : Int) > 4096))), [])
    else none
theorem f68_run (text : ByteArray) (z9 : V × List Rg) (h : f68 text = some z9) : CallR C prim 68 [.sc (.string text)] [] z9 := by
  refine call_fn (K := K_f68) (T := T_f68) K_f68_ok T_f68_ok (by kernel_rfl) ?_
  refine Eq.trans ?_ h
  kernel_rfl

theorem f68_eq (text : ByteArray) (hp : (decide (text.size ≤ 1000000000)) = true) : f68 text = some (.sc (.bool (largeB text)), []) := by
  unfold f68 largeB
  rw [hp]
  cases decide (((text.size : Nat) : Int) > 65536) <;> rfl
def k68 : PrimT := fun vs gs => match vs, gs with
  | [.sc (.string text)], [] => ((decide (text.size ≤ 1000000000)), .sc (.bool (largeB text)), [])
  | _, _ => (false, .bad, [])
theorem k68_ok : ∀ vs gs x, k68 vs gs = (true, x) → CallR C prim 68 vs gs x := by
  intro vs gs x h
  unfold k68 at h
  split at h
  · simp only [Prod.mk.injEq] at h
    obtain ⟨hp, rfl⟩ := h
    exact f68_run _ _ (f68_eq _ hp)
  · cases h

def K_f21_l0 : CallK := kNil
theorem K_f21_l0_ok : KOK C prim K_f21_l0 := KOK.nil
def T_f21_l0 : Tab := tNil
theorem T_f21_l0_ok : TOK C prim 21 T_f21_l0 := TOK.nil
def f21_l0 : Nat → ByteArray → Int → Int → Int → List V → (R : Type) → (Ex → St → Option R) → Option R
  | 0, _, _, _, _, _, _, _ => none
  | n + 1, text, from', v7, v8, l, R, κ =>
    bif (decide (v8 < v7)) then
      bif (((decide ((0 : Int) ≤ v8)) && (decide (v8 < ((text.size : Nat) : Int)))) && true) then
        bif (((text.data.getD (v8).toNat 0).toNat : Int) == 10) then
          bif (((((decide ((0 : Int) ≤ from')) && (decide (from' ≤ v8))) && (decide (v8 ≤ ((text.size : Nat) : Int)))) && true) && true) then
            bif (((roomy ((l.length + 1) * 16)) && (roomy (l.length + 1))) && true) then
              f21_l0 n text (IntKind.wrap .i64 (v8 + 1)) v7 (IntKind.wrap .i64 (v8 + 1)) (l ++ [.sc (.string (text.extract (from').toNat (v8).toNat))]) R κ
            else none
          else none
        else
          f21_l0 n text from' v7 (IntKind.wrap .i64 (v8 + 1)) l R κ
      else none
    else
      κ (.ex 0) (mkS [(0, .sc (.string text)), (2, .bad), (3, .ref ⟨.loc 3, 0, [], 9, false⟩), (4, .sc (.int .i64 from'))] [(.loc 3, some ⟨false, [.own 9 false l]⟩)])
def f21_l0_ls : List (Nat × Pat) := [(0, .s), (3, .is (.ref ⟨.loc 3, 0, [], 9, false⟩)), (4, .i .i64), (7, .i .i64), (8, .i .i64)]
def f21_l0_rs : List RPat := [⟨.loc 3, false, [.own 9 false]⟩]
theorem f21_l0_ok (n : Nat) : ∀ (text : ByteArray) (from' : Int) (v7 : Int) (v8 : Int) (l : List V) (R : Type) (κ : Ex → St → Option R) (r : R), f21_l0 n text from' v7 v8 l R κ = some r → ∃ ee ss, κ ee ss = some r ∧ RunP C prim 21 [0, 1, 0, 1, 1, 1] (mkS [(0, .sc (.string text)), (3, .ref ⟨.loc 3, 0, [], 9, false⟩), (4, .sc (.int .i64 from')), (7, .sc (.int .i64 v7)), (8, .sc (.int .i64 v8))] [(.loc 3, some ⟨false, [.own 9 false l]⟩)]) ee ss := by
  induction n with
  | zero => intro text from' v7 v8 l R κ r h; cases h
  | succ n ih =>
    intro text from' v7 v8 l R κ r h
    refine loop_round (K := K_f21_l0) (T := T_f21_l0) K_f21_l0_ok T_f21_l0_ok (p := [0, 1, 0, 1, 1, 1]) (by kernel_rfl) (fun st => bif ckS f21_l0_ls f21_l0_rs st then f21_l0 n ((st.env 0).strOf) ((st.env 4).intOf) ((st.env 7).intOf) ((st.env 8).intOf) ((nthV (rowOf (st.regs (.loc 3))) 0).cellsOf) R κ else none) (fun st0 h0 => ?_) ?_
    · obtain ⟨hs, h0⟩ := cond_some h0
      rw [canon (ls := f21_l0_ls) (rs := f21_l0_rs) (by kernel_rfl) st0 hs]
      exact ih _ _ _ _ _ R κ r h0
    · refine Eq.trans ?_ h
      kernel_rfl

def f21_s0 (text : ByteArray) (from' : Int) (v7 : Int) (v8 : Int) (l : List V) (R : Type) (κ : Ex → St → Option R) : Option R :=
  κ (.ex 0) (mkS [(0, .sc (.string text)), (2, .bad), (3, .ref ⟨.loc 3, 0, [], 9, false⟩), (4, .sc (.int .i64 (fromP text)))] [(.loc 3, some ⟨false, [.own 9 false (headP text)]⟩)])
theorem f21_loop (text : ByteArray) (ht : text.size ≤ 1000000000) (R : Type) (κ : Ex → St → Option R) : ∀ (k i fr : Nat) (l : List V), i + k = text.size → fr ≤ i → l.length ≤ i →
    f21_l0 (k + 1) text ((fr : Nat) : Int) ((text.size : Nat) : Int) ((i : Nat) : Int) l R κ = κ (.ex 0) (mkS [(0, .sc (.string text)), (2, .bad), (3, .ref ⟨.loc 3, 0, [], 9, false⟩), (4, .sc (.int .i64 (((text.size : Nat) : Int) - (((lastL ((text.data.toList.take i).drop fr) (text.data.toList.drop i)).length : Nat) : Int))))] [(.loc 3, some ⟨false, [.own 9 false (l ++ headL ((text.data.toList.take i).drop fr) (text.data.toList.drop i))]⟩)])
  | 0, i, fr, l, h, h1, h2 => by
    have hl := bl_size text
    obtain rfl : i = text.size := by omega
    rw [f21_l0, dec_false (by omega), cond_false, List.drop_of_length_le (l := text.data.toList) (i := text.size) (by omega), headL, lastL, List.append_nil, List.length_drop, List.length_take, show ((min text.size text.data.toList.length - fr : Nat) : Int) = ((text.size : Nat) : Int) - (fr : Int) by omega, show ((text.size : Nat) : Int) - (((text.size : Nat) : Int) - (fr : Int)) = (fr : Int) by omega]
  | k + 1, i, fr, l, h, h1, h2 => by
    have hl := bl_size text
    have hlt : i < text.data.toList.length := by omega
    have hb : ((text.data.getD i 0).toNat : Int) = ((text.data.toList[i]).toNat : Int) := by rw [getD_list' text i hlt]
    have hc : ((((text.data.toList[i]).toNat : Nat) : Int) == 10) = (text.data.toList[i] == 10) := by
      rw [Bool.eq_iff_iff, beq_iff_eq, beq_iff_eq, ← UInt8.toNat_inj]
      show _ ↔ (text.data.toList[i]).toNat = 10
      omega
    have r1 : roomy ((l.length + 1) * 16) = true := dec_true (by omega)
    have r2 : roomy (l.length + 1) = true := dec_true (by omega)
    rw [f21_l0, dec_true (show ((i : Nat) : Int) < ((text.size : Nat) : Int) by omega), dec_true (show (0 : Int) ≤ ((i : Nat) : Int) by omega), Int.toNat_natCast, hb, hc, dec_true (show (0 : Int) ≤ ((fr : Nat) : Int) by omega), dec_true (show ((fr : Nat) : Int) ≤ ((i : Nat) : Int) by omega), dec_true (show ((i : Nat) : Int) ≤ ((text.size : Nat) : Int) by omega), r1, r2, Int.toNat_natCast, strV_extract, wrap_succ (by omega), List.drop_eq_getElem_cons hlt, headL_cons, lastL_cons]
    cases hx : text.data.toList[i] == 10 with
    | true =>
      have IH := f21_loop text ht R κ k (i + 1) (i + 1) (l ++ [strV ((text.data.toList.take i).drop fr)]) (by omega) (Nat.le_refl _) (by simp; omega)
      rw [List.drop_of_length_le (l := text.data.toList.take (i + 1)) (by rw [List.length_take]; omega), List.append_assoc] at IH
      simp only [Bool.and_self, cond_true]
      exact IH
    | false =>
      have IH := f21_loop text ht R κ k (i + 1) fr l (by omega) (by omega) (by omega)
      rw [List.take_add_one, List.getElem?_eq_getElem hlt, Option.toList_some, List.drop_append_of_le_length (by rw [List.length_take]; omega)] at IH
      simp only [Bool.and_self, cond_true, cond_false]
      exact IH
theorem f21_s0_eq (text : ByteArray) (from' : Int) (v7 : Int) (v8 : Int) (l : List V) (hp : ((v7 == ((text.size : Nat) : Int)) && (v8 == 0) && (from' == 0) && (l.length == 0) && decide (text.size ≤ 1000000000)) = true) : ∃ n, ∀ (R : Type) (κ : Ex → St → Option R), f21_l0 n text from' v7 v8 l R κ = f21_s0 text from' v7 v8 l R κ := by
  simp only [Bool.and_eq_true, decide_eq_true_eq, beq_iff_eq] at hp
  obtain ⟨⟨⟨⟨rfl, rfl⟩, rfl⟩, g4⟩, g5⟩ := hp
  obtain rfl : l = [] := List.eq_nil_of_length_eq_zero g4
  refine ⟨text.size + 1, fun R κ => ?_⟩
  have := f21_loop text g5 R κ text.size 0 0 [] (by omega) (Nat.le_refl _) (Nat.le_refl _)
  have e : fromP text = ((text.size : Nat) : Int) - (((lastL ((text.data.toList.take 0).drop 0) (text.data.toList.drop 0)).length : Nat) : Int) := by
    unfold fromP; rw [lastP_size]; rfl
  rw [f21_s0, e]
  exact this
def t_f21_l0 (st : St) (R : Type) (κ : Ex → St → Option R) : Option R := bif ckS f21_l0_ls f21_l0_rs st then (bif ((((st.env 7).intOf) == ((((st.env 0).strOf).size : Nat) : Int)) && (((st.env 8).intOf) == 0) && (((st.env 4).intOf) == 0) && (((nthV (rowOf (st.regs (.loc 3))) 0).cellsOf).length == 0) && decide (((st.env 0).strOf).size ≤ 1000000000)) then f21_s0 ((st.env 0).strOf) ((st.env 4).intOf) ((st.env 7).intOf) ((st.env 8).intOf) ((nthV (rowOf (st.regs (.loc 3))) 0).cellsOf) R κ else none) else none
theorem t_f21_l0_ok : ∀ st0 R κ r, t_f21_l0 (forget C 21 [0, 1, 0, 1, 1, 1] st0) R κ = some r → ∃ ee ss, κ ee ss = some r ∧ RunP C prim 21 [0, 1, 0, 1, 1, 1] (forget C 21 [0, 1, 0, 1, 1, 1] st0) ee ss := by
  intro st0 R κ r h
  obtain ⟨hs, h⟩ := cond_some h
  obtain ⟨hp, h⟩ := cond_some h
  rw [canon (ls := f21_l0_ls) (rs := f21_l0_rs) (by kernel_rfl) st0 hs]
  obtain ⟨n, hn⟩ := f21_s0_eq _ _ _ _ _ hp
  rw [← hn] at h
  exact f21_l0_ok n _ _ _ _ _ R κ r h

def K_f21 : CallK := kNil
theorem K_f21_ok : KOK C prim K_f21 := KOK.nil
def T_f21 : Tab := tCons [0, 1, 0, 1, 1, 1] t_f21_l0 <| tNil
theorem T_f21_ok : TOK C prim 21 T_f21 := TOK.cons t_f21_l0_ok <| TOK.nil
def f21 (text : ByteArray) : Option (V × List Rg) :=
  bif ((((text.size : Nat) : Int) == ((text.size : Nat) : Int)) && ((0 : Int) == 0) && ((0 : Int) == 0) && (([] : List V).length == 0) && decide (text.size ≤ 1000000000)) then
    bif (decide ((fromP text) < ((text.size : Nat) : Int))) then
      bif ((((decide ((0 : Int) ≤ (fromP text))) && (decide ((fromP text) ≤ ((text.size : Nat) : Int)))) && true) && true) then
        bif (((roomy ((((headP text)).length + 1) * 16)) && (roomy (((headP text)).length + 1))) && true) then
          some (.own 9 false ((headP text) ++ [.sc (.string (text.extract ((fromP text)).toNat (((text.size : Nat) : Int)).toNat))]), [])
        else none
      else none
    else
      some (.own 9 false (headP text), [])
  else none
theorem f21_run (text : ByteArray) (z9 : V × List Rg) (h : f21 text = some z9) : CallR C prim 21 [.sc (.string text)] [] z9 := by
  refine call_fn (K := K_f21) (T := T_f21) K_f21_ok T_f21_ok (by kernel_rfl) ?_
  refine Eq.trans ?_ h
  kernel_rfl

theorem from_last (s : ByteArray) : V.sc (.string (s.extract (fromP s).toNat s.size)) = .sc (.string (lastP s)) := by
  have key : ∀ (l cur : List UInt8), (cur ++ l).drop (cur.length + l.length - (lastL cur l).length) = lastL cur l := by
    intro l
    induction l with
    | nil => intro cur; simp [lastL]
    | cons b r ih =>
      intro cur
      have h1 := ih []
      have h2 := ih (cur ++ [b])
      rw [lastL_cons]
      cases b == 10 with
      | false =>
        simp only [cond_false]
        rw [List.append_assoc, List.singleton_append, List.length_append] at h2
        rw [List.length_cons, show cur.length + (r.length + 1) = cur.length + [b].length + r.length by simp; omega]
        exact h2
      | true =>
        simp only [cond_true]
        have hle := last_le r []
        simp only [List.length_nil, Nat.zero_add, List.nil_append] at h1 hle
        rw [List.length_cons, show cur.length + (r.length + 1) - (lastL [] r).length = (cur ++ [b]).length + (r.length - (lastL [] r).length) by simp; omega, show cur ++ b :: r = (cur ++ [b]) ++ r by simp, List.drop_length_add_append]
        exact h1
  have hle := lastP_le s
  have h := key s.data.toList []
  simp only [List.length_nil, Nat.zero_add, List.nil_append] at h
  congr 1
  congr 1
  refine ba_ext ?_
  have hf : (fromP s).toNat = s.data.toList.length - (lastL [] s.data.toList).length := by
    unfold fromP; rw [← lastP_size, ← bl_size]; omega
  rw [bl_extract, List.take_of_length_le (by rw [bl_size]; exact Nat.le_refl _), hf, h]
  rfl
theorem f21_eq (text : ByteArray) (hp : (decide (text.size ≤ 1000000000)) = true) : f21 text = some (.own 9 false (linesV text), []) := by
  have hq := hp
  simp only [decide_eq_true_eq] at hp
  have hl := lastP_le text
  have hh := headP_le text
  have r1 : roomy (((headP text).length + 1) * 16) = true := dec_true (by omega)
  have r2 : roomy ((headP text).length + 1) = true := dec_true (by omega)
  unfold f21 linesV splitV
  rw [hq, beq_self_eq_true, Int.toNat_natCast, from_last, r1, r2]
  by_cases hz : (lastP text).size = 0
  · rw [dec_false (show ¬ fromP text < ((text.size : Nat) : Int) by unfold fromP; omega), hz]
    rfl
  · have hz2 : ((lastP text).size == 0) = false := by simpa using hz
    rw [dec_true (show fromP text < ((text.size : Nat) : Int) by unfold fromP; omega), dec_true (show (0 : Int) ≤ fromP text by unfold fromP; omega), dec_true (show fromP text ≤ ((text.size : Nat) : Int) by unfold fromP; omega), hz2]
    rfl
def k21 : PrimT := fun vs gs => match vs, gs with
  | [.sc (.string text)], [] => ((decide (text.size ≤ 1000000000)), .own 9 false (linesV text), [])
  | _, _ => (false, .bad, [])
theorem k21_ok : ∀ vs gs x, k21 vs gs = (true, x) → CallR C prim 21 vs gs x := by
  intro vs gs x h
  unfold k21 at h
  split at h
  · simp only [Prod.mk.injEq] at h
    obtain ⟨hp, rfl⟩ := h
    exact f21_run _ _ (f21_eq _ hp)
  · cases h

def K_f19 : CallK := kCons 21 k21 <| kNil
theorem K_f19_ok : KOK C prim K_f19 := KOK.cons k21_ok <| KOK.nil
def T_f19 : Tab := tNil
theorem T_f19_ok : TOK C prim 19 T_f19 := TOK.nil
def f19 (text : ByteArray) : Option (V × List Rg) :=
  bif (decide (((text.size : Nat) : Int) > 65536)) then
    some (.sc (.bool true), [])
  else
    bif ((decide (text.size ≤ 1000000000)) && true) then
      some (.sc (.bool (decide (((((linesV text)).length : Nat) : Int) > 4096))), [])
    else none
theorem f19_run (text : ByteArray) (z9 : V × List Rg) (h : f19 text = some z9) : CallR C prim 19 [.sc (.string text)] [] z9 := by
  refine call_fn (K := K_f19) (T := T_f19) K_f19_ok T_f19_ok (by kernel_rfl) ?_
  refine Eq.trans ?_ h
  kernel_rfl

theorem f19_eq (text : ByteArray) (hp : (decide (text.size ≤ 1000000000)) = true) : f19 text = some (.sc (.bool (largeB text)), []) := by
  unfold f19 largeB
  rw [hp]
  cases decide (((text.size : Nat) : Int) > 65536) <;> rfl
def k19 : PrimT := fun vs gs => match vs, gs with
  | [.sc (.string text)], [] => ((decide (text.size ≤ 1000000000)), .sc (.bool (largeB text)), [])
  | _, _ => (false, .bad, [])
theorem k19_ok : ∀ vs gs x, k19 vs gs = (true, x) → CallR C prim 19 vs gs x := by
  intro vs gs x h
  unfold k19 at h
  split at h
  · simp only [Prod.mk.injEq] at h
    obtain ⟨hp, rfl⟩ := h
    exact f19_run _ _ (f19_eq _ hp)
  · cases h

def K_f97a_l0 : CallK := kCons 68 k68 <| kNil
theorem K_f97a_l0_ok : KOK C prim K_f97a_l0 := KOK.cons k68_ok <| KOK.nil
def T_f97a_l0 : Tab := tNil
theorem T_f97a_l0_ok : TOK C prim 97 T_f97a_l0 := TOK.nil
def f97a_l0 : Nat → List V → Int → Int → (R : Type) → (Ex → St → Option R) → Option R
  | 0, _, _, _, _, _ => none
  | n + 1, s, v7, v8, R, κ =>
    bif (decide (v8 < v7)) then
      bif (((decide ((0 : Int) ≤ v8)) && (decide (v8 < ((s.length : Nat) : Int)))) && true) then
        bif (((V.isStr (nthV s (((v8).toNat * 1) + 0))) && true) && true) then
          bif ((decide ((V.strOf (nthV s (((v8).toNat * 1) + 0))).size ≤ 1000000000)) && true) then
            bif (largeB (V.strOf (nthV s (((v8).toNat * 1) + 0)))) then
              κ .rt (mkS [(4, .sc (.int .i64 v8))] [])
            else
              f97a_l0 n s v7 (IntKind.wrap .i64 (v8 + 1)) R κ
          else none
        else none
      else none
    else
      κ (.ex 0) (mkS [(4, .bad)] [])
def f97a_l0_ls : List (Nat × Pat) := [(0, .sl 1), (1, .is (.fn 68 [] [])), (7, .i .i64), (8, .i .i64)]
def f97a_l0_rs : List RPat := []
theorem f97a_l0_ok (n : Nat) : ∀ (s : List V) (v7 : Int) (v8 : Int) (R : Type) (κ : Ex → St → Option R) (r : R), f97a_l0 n s v7 v8 R κ = some r → ∃ ee ss, κ ee ss = some r ∧ RunP C prim 97 [0, 1, 0, 1] (mkS [(0, .sl 1 s), (1, .fn 68 [] []), (7, .sc (.int .i64 v7)), (8, .sc (.int .i64 v8))] []) ee ss := by
  induction n with
  | zero => intro s v7 v8 R κ r h; cases h
  | succ n ih =>
    intro s v7 v8 R κ r h
    refine loop_round (K := K_f97a_l0) (T := T_f97a_l0) K_f97a_l0_ok T_f97a_l0_ok (p := [0, 1, 0, 1]) (by kernel_rfl) (fun st => bif ckS f97a_l0_ls f97a_l0_rs st then f97a_l0 n ((st.env 0).cellsOf) ((st.env 7).intOf) ((st.env 8).intOf) R κ else none) (fun st0 h0 => ?_) ?_
    · obtain ⟨hs, h0⟩ := cond_some h0
      rw [canon (ls := f97a_l0_ls) (rs := f97a_l0_rs) (by kernel_rfl) st0 hs]
      exact ih _ _ _ R κ r h0
    · refine Eq.trans ?_ h
      kernel_rfl

def f97a_s0 (s : List V) (v7 : Int) (v8 : Int) (R : Type) (κ : Ex → St → Option R) : Option R :=
  bif (s.any largeV) then
    κ .rt (mkS [(4, .sc (.int .i64 ((fstN largeV s : Nat) : Int)))] [])
  else
    κ (.ex 0) (mkS [(4, .bad)] [])
theorem f97a_loop (s : List V) (hs : s.all shortS = true) (hl : s.length ≤ 1000000000) (R : Type) (κ : Ex → St → Option R) : ∀ (k i : Nat), i + k = s.length →
    f97a_l0 (k + 1) s ((s.length : Nat) : Int) ((i : Nat) : Int) R κ = bif (s.drop i).any largeV then κ .rt (mkS [(4, .sc (.int .i64 ((i + fstN largeV (s.drop i) : Nat) : Int)))] []) else κ (.ex 0) (mkS [(4, .bad)] [])
  | 0, i, h => by
    rw [f97a_l0, dec_false (by omega), cond_false, List.drop_of_length_le (by omega)]
    rfl
  | k + 1, i, h => by
    have hlt : i < s.length := by omega
    obtain ⟨g1, g2⟩ := shortS_spec (List.all_eq_true.1 hs _ (List.getElem_mem hlt))
    have IH := f97a_loop s hs hl R κ k (i + 1) (by omega)
    rw [f97a_l0, dec_true (show ((i : Nat) : Int) < ((s.length : Nat) : Int) by omega), dec_true (show (0 : Int) ≤ ((i : Nat) : Int) by omega), nth_at hlt, g1, dec_true g2, wrap_succ (by omega), IH, any_drop hlt, fstN_drop hlt]
    cases hb : largeV s[i] with
    | true =>
      have hb' : largeB s[i].strOf = true := hb
      rw [hb']
      simp only [Bool.and_self, cond_true, Bool.true_or, Nat.add_zero]
    | false =>
      have hb' : largeB s[i].strOf = false := hb
      rw [hb']
      simp only [Bool.and_self, cond_true, cond_false, Bool.false_or]
      rw [show i + 1 + fstN largeV (s.drop (i + 1)) = i + (fstN largeV (s.drop (i + 1)) + 1) by omega]
theorem f97a_s0_eq (s : List V) (v7 : Int) (v8 : Int) (hp : ((v7 == ((s.length : Nat) : Int)) && (v8 == 0) && s.all shortS && decide (s.length ≤ 1000000000)) = true) : ∃ n, ∀ (R : Type) (κ : Ex → St → Option R), f97a_l0 n s v7 v8 R κ = f97a_s0 s v7 v8 R κ := by
  simp only [Bool.and_eq_true, decide_eq_true_eq, beq_iff_eq] at hp
  obtain ⟨⟨⟨rfl, rfl⟩, g3⟩, g4⟩ := hp
  refine ⟨s.length + 1, fun R κ => ?_⟩
  have := f97a_loop s g3 g4 R κ s.length 0 (by omega)
  rw [List.drop_zero, Nat.zero_add] at this
  exact this
def t_f97a_l0 (st : St) (R : Type) (κ : Ex → St → Option R) : Option R := bif ckS f97a_l0_ls f97a_l0_rs st then (bif ((((st.env 7).intOf) == ((((st.env 0).cellsOf).length : Nat) : Int)) && (((st.env 8).intOf) == 0) && ((st.env 0).cellsOf).all shortS && decide (((st.env 0).cellsOf).length ≤ 1000000000)) then f97a_s0 ((st.env 0).cellsOf) ((st.env 7).intOf) ((st.env 8).intOf) R κ else none) else none
theorem t_f97a_l0_ok : ∀ st0 R κ r, t_f97a_l0 (forget C 97 [0, 1, 0, 1] st0) R κ = some r → ∃ ee ss, κ ee ss = some r ∧ RunP C prim 97 [0, 1, 0, 1] (forget C 97 [0, 1, 0, 1] st0) ee ss := by
  intro st0 R κ r h
  obtain ⟨hs, h⟩ := cond_some h
  obtain ⟨hp, h⟩ := cond_some h
  rw [canon (ls := f97a_l0_ls) (rs := f97a_l0_rs) (by kernel_rfl) st0 hs]
  obtain ⟨n, hn⟩ := f97a_s0_eq _ _ _ hp
  rw [← hn] at h
  exact f97a_l0_ok n _ _ _ R κ r h

def K_f97a : CallK := kNil
theorem K_f97a_ok : KOK C prim K_f97a := KOK.nil
def T_f97a : Tab := tCons [0, 1, 0, 1] t_f97a_l0 <| tNil
theorem T_f97a_ok : TOK C prim 97 T_f97a := TOK.cons t_f97a_l0_ok <| TOK.nil
def f97a (s : List V) : Option (V × List Rg) :=
  bif ((((s.length : Nat) : Int) == ((s.length : Nat) : Int)) && ((0 : Int) == 0) && s.all shortS && decide (s.length ≤ 1000000000)) then
    bif (s.any largeV) then
      some (.sc (.int .i64 ((fstN largeV s : Nat) : Int)), [])
    else
      some (.sc (.int .i64 (-1)), [])
  else none
theorem f97a_run (s : List V) (z9 : V × List Rg) (h : f97a s = some z9) : CallR C prim 97 [.sl 1 s, .fn 68 [] []] [] z9 := by
  refine call_fn (K := K_f97a) (T := T_f97a) K_f97a_ok T_f97a_ok (by kernel_rfl) ?_
  refine Eq.trans ?_ h
  kernel_rfl

theorem f97a_eq (s : List V) (hp : (s.all shortS && decide (s.length ≤ 1000000000)) = true) : f97a s = some (.sc (.int .i64 (idxV largeV s)), []) := by
  simp only [Bool.and_eq_true, decide_eq_true_eq] at hp
  unfold f97a idxV
  rw [beq_self_eq_true, hp.1, dec_true hp.2]
  cases s.any largeV <;> rfl
def k97a : PrimT := fun vs gs => match vs, gs with
  | [.sl 1 s, .fn 68 [] []], [] => ((s.all shortS && decide (s.length ≤ 1000000000)), .sc (.int .i64 (idxV largeV s)), [])
  | _, _ => (false, .bad, [])
theorem k97a_ok : ∀ vs gs x, k97a vs gs = (true, x) → CallR C prim 97 vs gs x := by
  intro vs gs x h
  unfold k97a at h
  split at h
  · simp only [Prod.mk.injEq] at h
    obtain ⟨hp, rfl⟩ := h
    exact f97a_run _ _ (f97a_eq _ hp)
  · cases h

def K_f97b_l0 : CallK := kCons 19 k19 <| kNil
theorem K_f97b_l0_ok : KOK C prim K_f97b_l0 := KOK.cons k19_ok <| KOK.nil
def T_f97b_l0 : Tab := tNil
theorem T_f97b_l0_ok : TOK C prim 97 T_f97b_l0 := TOK.nil
def f97b_l0 : Nat → List V → Int → Int → (R : Type) → (Ex → St → Option R) → Option R
  | 0, _, _, _, _, _ => none
  | n + 1, s, v7, v8, R, κ =>
    bif (decide (v8 < v7)) then
      bif (((decide ((0 : Int) ≤ v8)) && (decide (v8 < ((s.length : Nat) : Int)))) && true) then
        bif (((V.isStr (nthV s (((v8).toNat * 1) + 0))) && true) && true) then
          bif ((decide ((V.strOf (nthV s (((v8).toNat * 1) + 0))).size ≤ 1000000000)) && true) then
            bif (largeB (V.strOf (nthV s (((v8).toNat * 1) + 0)))) then
              κ .rt (mkS [(4, .sc (.int .i64 v8))] [])
            else
              f97b_l0 n s v7 (IntKind.wrap .i64 (v8 + 1)) R κ
          else none
        else none
      else none
    else
      κ (.ex 0) (mkS [(4, .bad)] [])
def f97b_l0_ls : List (Nat × Pat) := [(0, .sl 1), (1, .is (.fn 19 [] [])), (7, .i .i64), (8, .i .i64)]
def f97b_l0_rs : List RPat := []
theorem f97b_l0_ok (n : Nat) : ∀ (s : List V) (v7 : Int) (v8 : Int) (R : Type) (κ : Ex → St → Option R) (r : R), f97b_l0 n s v7 v8 R κ = some r → ∃ ee ss, κ ee ss = some r ∧ RunP C prim 97 [0, 1, 0, 1] (mkS [(0, .sl 1 s), (1, .fn 19 [] []), (7, .sc (.int .i64 v7)), (8, .sc (.int .i64 v8))] []) ee ss := by
  induction n with
  | zero => intro s v7 v8 R κ r h; cases h
  | succ n ih =>
    intro s v7 v8 R κ r h
    refine loop_round (K := K_f97b_l0) (T := T_f97b_l0) K_f97b_l0_ok T_f97b_l0_ok (p := [0, 1, 0, 1]) (by kernel_rfl) (fun st => bif ckS f97b_l0_ls f97b_l0_rs st then f97b_l0 n ((st.env 0).cellsOf) ((st.env 7).intOf) ((st.env 8).intOf) R κ else none) (fun st0 h0 => ?_) ?_
    · obtain ⟨hs, h0⟩ := cond_some h0
      rw [canon (ls := f97b_l0_ls) (rs := f97b_l0_rs) (by kernel_rfl) st0 hs]
      exact ih _ _ _ R κ r h0
    · refine Eq.trans ?_ h
      kernel_rfl

def f97b_s0 (s : List V) (v7 : Int) (v8 : Int) (R : Type) (κ : Ex → St → Option R) : Option R :=
  bif (s.any largeV) then
    κ .rt (mkS [(4, .sc (.int .i64 ((fstN largeV s : Nat) : Int)))] [])
  else
    κ (.ex 0) (mkS [(4, .bad)] [])
theorem f97b_loop (s : List V) (hs : s.all shortS = true) (hl : s.length ≤ 1000000000) (R : Type) (κ : Ex → St → Option R) : ∀ (k i : Nat), i + k = s.length →
    f97b_l0 (k + 1) s ((s.length : Nat) : Int) ((i : Nat) : Int) R κ = bif (s.drop i).any largeV then κ .rt (mkS [(4, .sc (.int .i64 ((i + fstN largeV (s.drop i) : Nat) : Int)))] []) else κ (.ex 0) (mkS [(4, .bad)] [])
  | 0, i, h => by
    rw [f97b_l0, dec_false (by omega), cond_false, List.drop_of_length_le (by omega)]
    rfl
  | k + 1, i, h => by
    have hlt : i < s.length := by omega
    obtain ⟨g1, g2⟩ := shortS_spec (List.all_eq_true.1 hs _ (List.getElem_mem hlt))
    have IH := f97b_loop s hs hl R κ k (i + 1) (by omega)
    rw [f97b_l0, dec_true (show ((i : Nat) : Int) < ((s.length : Nat) : Int) by omega), dec_true (show (0 : Int) ≤ ((i : Nat) : Int) by omega), nth_at hlt, g1, dec_true g2, wrap_succ (by omega), IH, any_drop hlt, fstN_drop hlt]
    cases hb : largeV s[i] with
    | true =>
      have hb' : largeB s[i].strOf = true := hb
      rw [hb']
      simp only [Bool.and_self, cond_true, Bool.true_or, Nat.add_zero]
    | false =>
      have hb' : largeB s[i].strOf = false := hb
      rw [hb']
      simp only [Bool.and_self, cond_true, cond_false, Bool.false_or]
      rw [show i + 1 + fstN largeV (s.drop (i + 1)) = i + (fstN largeV (s.drop (i + 1)) + 1) by omega]
theorem f97b_s0_eq (s : List V) (v7 : Int) (v8 : Int) (hp : ((v7 == ((s.length : Nat) : Int)) && (v8 == 0) && s.all shortS && decide (s.length ≤ 1000000000)) = true) : ∃ n, ∀ (R : Type) (κ : Ex → St → Option R), f97b_l0 n s v7 v8 R κ = f97b_s0 s v7 v8 R κ := by
  simp only [Bool.and_eq_true, decide_eq_true_eq, beq_iff_eq] at hp
  obtain ⟨⟨⟨rfl, rfl⟩, g3⟩, g4⟩ := hp
  refine ⟨s.length + 1, fun R κ => ?_⟩
  have := f97b_loop s g3 g4 R κ s.length 0 (by omega)
  rw [List.drop_zero, Nat.zero_add] at this
  exact this
def t_f97b_l0 (st : St) (R : Type) (κ : Ex → St → Option R) : Option R := bif ckS f97b_l0_ls f97b_l0_rs st then (bif ((((st.env 7).intOf) == ((((st.env 0).cellsOf).length : Nat) : Int)) && (((st.env 8).intOf) == 0) && ((st.env 0).cellsOf).all shortS && decide (((st.env 0).cellsOf).length ≤ 1000000000)) then f97b_s0 ((st.env 0).cellsOf) ((st.env 7).intOf) ((st.env 8).intOf) R κ else none) else none
theorem t_f97b_l0_ok : ∀ st0 R κ r, t_f97b_l0 (forget C 97 [0, 1, 0, 1] st0) R κ = some r → ∃ ee ss, κ ee ss = some r ∧ RunP C prim 97 [0, 1, 0, 1] (forget C 97 [0, 1, 0, 1] st0) ee ss := by
  intro st0 R κ r h
  obtain ⟨hs, h⟩ := cond_some h
  obtain ⟨hp, h⟩ := cond_some h
  rw [canon (ls := f97b_l0_ls) (rs := f97b_l0_rs) (by kernel_rfl) st0 hs]
  obtain ⟨n, hn⟩ := f97b_s0_eq _ _ _ hp
  rw [← hn] at h
  exact f97b_l0_ok n _ _ _ R κ r h

def K_f97b : CallK := kNil
theorem K_f97b_ok : KOK C prim K_f97b := KOK.nil
def T_f97b : Tab := tCons [0, 1, 0, 1] t_f97b_l0 <| tNil
theorem T_f97b_ok : TOK C prim 97 T_f97b := TOK.cons t_f97b_l0_ok <| TOK.nil
def f97b (s : List V) : Option (V × List Rg) :=
  bif ((((s.length : Nat) : Int) == ((s.length : Nat) : Int)) && ((0 : Int) == 0) && s.all shortS && decide (s.length ≤ 1000000000)) then
    bif (s.any largeV) then
      some (.sc (.int .i64 ((fstN largeV s : Nat) : Int)), [])
    else
      some (.sc (.int .i64 (-1)), [])
  else none
theorem f97b_run (s : List V) (z9 : V × List Rg) (h : f97b s = some z9) : CallR C prim 97 [.sl 1 s, .fn 19 [] []] [] z9 := by
  refine call_fn (K := K_f97b) (T := T_f97b) K_f97b_ok T_f97b_ok (by kernel_rfl) ?_
  refine Eq.trans ?_ h
  kernel_rfl

theorem f97b_eq (s : List V) (hp : (s.all shortS && decide (s.length ≤ 1000000000)) = true) : f97b s = some (.sc (.int .i64 (idxV largeV s)), []) := by
  simp only [Bool.and_eq_true, decide_eq_true_eq] at hp
  unfold f97b idxV
  rw [beq_self_eq_true, hp.1, dec_true hp.2]
  cases s.any largeV <;> rfl
def k97b : PrimT := fun vs gs => match vs, gs with
  | [.sl 1 s, .fn 19 [] []], [] => ((s.all shortS && decide (s.length ≤ 1000000000)), .sc (.int .i64 (idxV largeV s)), [])
  | _, _ => (false, .bad, [])
theorem k97b_ok : ∀ vs gs x, k97b vs gs = (true, x) → CallR C prim 97 vs gs x := by
  intro vs gs x h
  unfold k97b at h
  split at h
  · simp only [Prod.mk.injEq] at h
    obtain ⟨hp, rfl⟩ := h
    exact f97b_run _ _ (f97b_eq _ hp)
  · cases h

def k97 : PrimT := fun vs gs => bif isFn 68 vs then k97a vs gs else k97b vs gs
theorem k97_ok : ∀ vs gs x, k97 vs gs = (true, x) → CallR C prim 97 vs gs x := by
  intro vs gs x h
  unfold k97 at h
  cases hb0 : isFn 68 vs with
  | true => rw [hb0] at h; exact k97a_ok vs gs x h
  | false =>
  rw [hb0] at h
  exact k97b_ok vs gs x h

def K_f59a : CallK := kCons 97 k97 <| kNil
theorem K_f59a_ok : KOK C prim K_f59a := KOK.cons k97_ok <| KOK.nil
def T_f59a : Tab := tNil
theorem T_f59a_ok : TOK C prim 59 T_f59a := TOK.nil
def f59a (s : List V) : Option (V × List Rg) :=
  bif ((s.all shortS && decide (s.length ≤ 1000000000)) && true) then
    some (.sc (.bool (decide ((idxV largeV s) ≥ 0))), [])
  else none
theorem f59a_run (s : List V) (z9 : V × List Rg) (h : f59a s = some z9) : CallR C prim 59 [.sl 1 s, .fn 68 [] []] [] z9 := by
  refine call_fn (K := K_f59a) (T := T_f59a) K_f59a_ok T_f59a_ok (by kernel_rfl) ?_
  refine Eq.trans ?_ h
  kernel_rfl

theorem f59a_eq (s : List V) (hp : (s.all shortS && decide (s.length ≤ 1000000000)) = true) : f59a s = some (.sc (.bool (s.any largeV)), []) := by
  unfold f59a
  rw [hp, idxV_ge]
  rfl
def k59a : PrimT := fun vs gs => match vs, gs with
  | [.sl 1 s, .fn 68 [] []], [] => ((s.all shortS && decide (s.length ≤ 1000000000)), .sc (.bool (s.any largeV)), [])
  | _, _ => (false, .bad, [])
theorem k59a_ok : ∀ vs gs x, k59a vs gs = (true, x) → CallR C prim 59 vs gs x := by
  intro vs gs x h
  unfold k59a at h
  split at h
  · simp only [Prod.mk.injEq] at h
    obtain ⟨hp, rfl⟩ := h
    exact f59a_run _ _ (f59a_eq _ hp)
  · cases h

def K_f59b : CallK := kCons 97 k97 <| kNil
theorem K_f59b_ok : KOK C prim K_f59b := KOK.cons k97_ok <| KOK.nil
def T_f59b : Tab := tNil
theorem T_f59b_ok : TOK C prim 59 T_f59b := TOK.nil
def f59b (s : List V) : Option (V × List Rg) :=
  bif ((s.all shortS && decide (s.length ≤ 1000000000)) && true) then
    some (.sc (.bool (decide ((idxV largeV s) ≥ 0))), [])
  else none
theorem f59b_run (s : List V) (z9 : V × List Rg) (h : f59b s = some z9) : CallR C prim 59 [.sl 1 s, .fn 19 [] []] [] z9 := by
  refine call_fn (K := K_f59b) (T := T_f59b) K_f59b_ok T_f59b_ok (by kernel_rfl) ?_
  refine Eq.trans ?_ h
  kernel_rfl

theorem f59b_eq (s : List V) (hp : (s.all shortS && decide (s.length ≤ 1000000000)) = true) : f59b s = some (.sc (.bool (s.any largeV)), []) := by
  unfold f59b
  rw [hp, idxV_ge]
  rfl
def k59b : PrimT := fun vs gs => match vs, gs with
  | [.sl 1 s, .fn 19 [] []], [] => ((s.all shortS && decide (s.length ≤ 1000000000)), .sc (.bool (s.any largeV)), [])
  | _, _ => (false, .bad, [])
theorem k59b_ok : ∀ vs gs x, k59b vs gs = (true, x) → CallR C prim 59 vs gs x := by
  intro vs gs x h
  unfold k59b at h
  split at h
  · simp only [Prod.mk.injEq] at h
    obtain ⟨hp, rfl⟩ := h
    exact f59b_run _ _ (f59b_eq _ hp)
  · cases h

def k59 : PrimT := fun vs gs => bif isFn 68 vs then k59a vs gs else k59b vs gs
theorem k59_ok : ∀ vs gs x, k59 vs gs = (true, x) → CallR C prim 59 vs gs x := by
  intro vs gs x h
  unfold k59 at h
  cases hb0 : isFn 68 vs with
  | true => rw [hb0] at h; exact k59a_ok vs gs x h
  | false =>
  rw [hb0] at h
  exact k59b_ok vs gs x h

def K_f24 : CallK := kCons 59 k59 <| kNil
theorem K_f24_ok : KOK C prim K_f24 := KOK.cons k59_ok <| KOK.nil
def T_f24 : Tab := tNil
theorem T_f24_ok : TOK C prim 24 T_f24 := TOK.nil
def f24 (texts : List V) : Option (V × List Rg) :=
  bif ((texts.all shortS && decide (texts.length ≤ 1000000000)) && true) then
    bif (texts.any largeV) then
      some (.sc (.int .i64 2), [])
    else
      some (.sc (.int .i64 0), [])
  else none
theorem f24_run (texts : List V) (z9 : V × List Rg) (h : f24 texts = some z9) : CallR C prim 24 [.sl 1 texts] [] z9 := by
  refine call_fn (K := K_f24) (T := T_f24) K_f24_ok T_f24_ok (by kernel_rfl) ?_
  refine Eq.trans ?_ h
  kernel_rfl

theorem f24_eq (texts : List V) (hp : (texts.all shortS && decide (texts.length ≤ 1000000000)) = true) : f24 texts = some (.sc (.int .i64 (bif texts.any largeV then (2 : Int) else 0)), []) := by
  unfold f24
  rw [hp]
  cases texts.any largeV <;> rfl
def k24 : PrimT := fun vs gs => match vs, gs with
  | [.sl 1 texts], [] => ((texts.all shortS && decide (texts.length ≤ 1000000000)), .sc (.int .i64 (bif texts.any largeV then (2 : Int) else 0)), [])
  | _, _ => (false, .bad, [])
theorem k24_ok : ∀ vs gs x, k24 vs gs = (true, x) → CallR C prim 24 vs gs x := by
  intro vs gs x h
  unfold k24 at h
  split at h
  · simp only [Prod.mk.injEq] at h
    obtain ⟨hp, rfl⟩ := h
    exact f24_run _ _ (f24_eq _ hp)
  · cases h

def K_f55 : CallK := kNil
theorem K_f55_ok : KOK C prim K_f55 := KOK.nil
def T_f55 : Tab := tNil
theorem T_f55_ok : TOK C prim 55 T_f55 := TOK.nil
def f55 (n' : Int) (low : Int) (high : Int) : Option (V × List Rg) :=
  bif (decide (n' ≥ low)) then
    some (.sc (.bool (decide (n' ≤ high))), [])
  else
    some (.sc (.bool false), [])
theorem f55_run (n' : Int) (low : Int) (high : Int) (z9 : V × List Rg) (h : f55 n' low high = some z9) : CallR C prim 55 [.sc (.int .i64 n'), .sc (.int .i64 low), .sc (.int .i64 high)] [] z9 := by
  refine call_fn (K := K_f55) (T := T_f55) K_f55_ok T_f55_ok (by kernel_rfl) ?_
  refine Eq.trans ?_ h
  kernel_rfl

theorem f55_eq (n' : Int) (low : Int) (high : Int) : f55 n' low high = some (.sc (.bool (decide (n' ≥ low) && decide (n' ≤ high))), []) := by
  unfold f55
  cases decide (n' ≥ low) <;> rfl
def k55 : PrimT := fun vs gs => match vs, gs with
  | [.sc (.int .i64 n'), .sc (.int .i64 low), .sc (.int .i64 high)], [] => (true, .sc (.bool (decide (n' ≥ low) && decide (n' ≤ high))), [])
  | _, _ => (false, .bad, [])
theorem k55_ok : ∀ vs gs x, k55 vs gs = (true, x) → CallR C prim 55 vs gs x := by
  intro vs gs x h
  unfold k55 at h
  split at h
  · simp only [Prod.mk.injEq, true_and] at h
    subst h
    exact f55_run _ _ _ _ (f55_eq _ _ _)
  · cases h

def K_f23 : CallK := kNil
theorem K_f23_ok : KOK C prim K_f23 := KOK.nil
def T_f23 : Tab := tNil
theorem T_f23_ok : TOK C prim 23 T_f23 := TOK.nil
def f23 (n' : Int) (low : Int) (high : Int) : Option (V × List Rg) :=
  bif (decide (n' ≥ low)) then
    some (.sc (.bool (decide (n' ≤ high))), [])
  else
    some (.sc (.bool false), [])
theorem f23_run (n' : Int) (low : Int) (high : Int) (z9 : V × List Rg) (h : f23 n' low high = some z9) : CallR C prim 23 [.sc (.int .i64 n'), .sc (.int .i64 low), .sc (.int .i64 high)] [] z9 := by
  refine call_fn (K := K_f23) (T := T_f23) K_f23_ok T_f23_ok (by kernel_rfl) ?_
  refine Eq.trans ?_ h
  kernel_rfl

theorem f23_eq (n' : Int) (low : Int) (high : Int) : f23 n' low high = some (.sc (.bool (decide (n' ≥ low) && decide (n' ≤ high))), []) := by
  unfold f23
  cases decide (n' ≥ low) <;> rfl
def k23 : PrimT := fun vs gs => match vs, gs with
  | [.sc (.int .i64 n'), .sc (.int .i64 low), .sc (.int .i64 high)], [] => (true, .sc (.bool (decide (n' ≥ low) && decide (n' ≤ high))), [])
  | _, _ => (false, .bad, [])
theorem k23_ok : ∀ vs gs x, k23 vs gs = (true, x) → CallR C prim 23 vs gs x := by
  intro vs gs x h
  unfold k23 at h
  split at h
  · simp only [Prod.mk.injEq, true_and] at h
    subst h
    exact f23_run _ _ _ _ (f23_eq _ _ _)
  · cases h

def K_f14 : CallK := kNil
theorem K_f14_ok : KOK C prim K_f14 := KOK.nil
def T_f14 : Tab := tNil
theorem T_f14_ok : TOK C prim 14 T_f14 := TOK.nil
def f14 (is : Bool) (e : Int) : Option (V × List Rg) :=
  bif is then
    some (.sc (.int .i64 e), [])
  else
    some (.sc (.int .i64 0), [])
theorem f14_run (is : Bool) (e : Int) (z9 : V × List Rg) (h : f14 is e = some z9) : CallR C prim 14 [.sc (.bool is), .sc (.int .i64 e)] [] z9 := by
  refine call_fn (K := K_f14) (T := T_f14) K_f14_ok T_f14_ok (by kernel_rfl) ?_
  refine Eq.trans ?_ h
  kernel_rfl

theorem f14_eq (is : Bool) (e : Int) : f14 is e = some (.sc (.int .i64 (bif is then e else 0)), []) := by cases is <;> rfl
def k14 : PrimT := fun vs gs => match vs, gs with
  | [.sc (.bool is), .sc (.int .i64 e)], [] => (true, .sc (.int .i64 (bif is then e else 0)), [])
  | _, _ => (false, .bad, [])
theorem k14_ok : ∀ vs gs x, k14 vs gs = (true, x) → CallR C prim 14 vs gs x := by
  intro vs gs x h
  unfold k14 at h
  split at h
  · simp only [Prod.mk.injEq, true_and] at h
    subst h
    exact f14_run _ _ _ (f14_eq _ _)
  · cases h

def K_f25 : CallK := kNil
theorem K_f25_ok : KOK C prim K_f25 := KOK.nil
def T_f25 : Tab := tNil
theorem T_f25_ok : TOK C prim 25 T_f25 := TOK.nil
def f25 (s : ByteArray) (e : Int) (want : ByteArray) (f : Int) : Option (V × List Rg) :=
  bif (f != 0) then
    bif (strEq s (⟨#[]⟩ : ByteArray)) then
      some (.sc (.bool (e == f)), [])
    else
      some (.sc (.bool false), [])
  else
    bif (strEq s want) then
      some (.sc (.bool (e == 0)), [])
    else
      some (.sc (.bool false), [])
theorem f25_run (s : ByteArray) (e : Int) (want : ByteArray) (f : Int) (z9 : V × List Rg) (h : f25 s e want f = some z9) : CallR C prim 25 [.sc (.string s), .sc (.int .i64 e), .sc (.string want), .sc (.int .i64 f)] [] z9 := by
  refine call_fn (K := K_f25) (T := T_f25) K_f25_ok T_f25_ok (by kernel_rfl) ?_
  refine Eq.trans ?_ h
  kernel_rfl

theorem f25_eq (s : ByteArray) (e : Int) (want : ByteArray) (f : Int) : f25 s e want f = some (.sc (.bool (outc s e want f)), []) := by
  unfold f25 outc
  cases f != 0
  · cases strEq s want <;> rfl
  · cases strEq s ⟨#[]⟩ <;> rfl
def k25 : PrimT := fun vs gs => match vs, gs with
  | [.sc (.string s), .sc (.int .i64 e), .sc (.string want), .sc (.int .i64 f)], [] => (true, .sc (.bool (outc s e want f)), [])
  | _, _ => (false, .bad, [])
theorem k25_ok : ∀ vs gs x, k25 vs gs = (true, x) → CallR C prim 25 vs gs x := by
  intro vs gs x h
  unfold k25 at h
  split at h
  · simp only [Prod.mk.injEq, true_and] at h
    subst h
    exact f25_run _ _ _ _ _ (f25_eq _ _ _ _)
  · cases h

def K_f12_l0 : CallK := kNil
theorem K_f12_l0_ok : KOK C prim K_f12_l0 := KOK.nil
def T_f12_l0 : Tab := tNil
theorem T_f12_l0_ok : TOK C prim 12 T_f12_l0 := TOK.nil
def f12_l0 : Nat → List V → Int → Int → (R : Type) → (Ex → St → Option R) → Option R
  | 0, _, _, _, _, _ => none
  | n + 1, v5, v6, v7, R, κ =>
    bif (decide (v7 < v6)) then
      bif (((decide ((0 : Int) ≤ v7)) && (decide (v7 < ((v5.length : Nat) : Int)))) && true) then
        bif (((V.isInt .i64 (nthV v5 (((v7).toNat * 1) + 0))) && true) && true) then
          bif ((V.intOf (nthV v5 (((v7).toNat * 1) + 0))) != 0) then
            κ .rt (mkS [(2, .sc (.int .i64 (V.intOf (nthV v5 (((v7).toNat * 1) + 0)))))] [])
          else
            f12_l0 n v5 v6 (IntKind.wrap .i64 (v7 + 1)) R κ
        else none
      else none
    else
      κ (.ex 0) (mkS [(2, .bad)] [])
def f12_l0_ls : List (Nat × Pat) := [(5, .sl 1), (6, .i .i64), (7, .i .i64)]
def f12_l0_rs : List RPat := []
theorem f12_l0_ok (n : Nat) : ∀ (v5 : List V) (v6 : Int) (v7 : Int) (R : Type) (κ : Ex → St → Option R) (r : R), f12_l0 n v5 v6 v7 R κ = some r → ∃ ee ss, κ ee ss = some r ∧ RunP C prim 12 [0, 1, 0, 1] (mkS [(5, .sl 1 v5), (6, .sc (.int .i64 v6)), (7, .sc (.int .i64 v7))] []) ee ss := by
  induction n with
  | zero => intro v5 v6 v7 R κ r h; cases h
  | succ n ih =>
    intro v5 v6 v7 R κ r h
    refine loop_round (K := K_f12_l0) (T := T_f12_l0) K_f12_l0_ok T_f12_l0_ok (p := [0, 1, 0, 1]) (by kernel_rfl) (fun st => bif ckS f12_l0_ls f12_l0_rs st then f12_l0 n ((st.env 5).cellsOf) ((st.env 6).intOf) ((st.env 7).intOf) R κ else none) (fun st0 h0 => ?_) ?_
    · obtain ⟨hs, h0⟩ := cond_some h0
      rw [canon (ls := f12_l0_ls) (rs := f12_l0_rs) (by kernel_rfl) st0 hs]
      exact ih _ _ _ R κ r h0
    · refine Eq.trans ?_ h
      kernel_rfl

def f12_s0 (v5 : List V) (v6 : Int) (v7 : Int) (R : Type) (κ : Ex → St → Option R) : Option R :=
  bif (firstBy V.intOf v5 != 0) then
    κ .rt (mkS [(2, .sc (.int .i64 (firstBy V.intOf v5)))] [])
  else
    κ (.ex 0) (mkS [(2, .bad)] [])
theorem f12_s0_eq (v5 : List V) (v6 : Int) (v7 : Int) (hp : ((v6 == ((v5.length : Nat) : Int)) && (v7 == 0) && v5.all (V.isInt .i64) && decide (v5.length ≤ 1000000000)) = true) : ∃ n, ∀ (R : Type) (κ : Ex → St → Option R), f12_l0 n v5 v6 v7 R κ = f12_s0 v5 v6 v7 R κ := by
  simp only [Bool.and_eq_true, decide_eq_true_eq, beq_iff_eq] at hp
  obtain ⟨⟨⟨rfl, rfl⟩, h3⟩, h4⟩ := hp
  refine ⟨v5.length + 1, fun R κ => ?_⟩
  refine errLoop (fun n k => f12_l0 n v5 ((v5.length : Nat) : Int) k R κ) v5 V.intOf (fun e => κ .rt (mkS [(2, .sc (.int .i64 e))] [])) (κ (.ex 0) (mkS [(2, .bad)] [])) ?_ ?_ v5.length 0 (by omega) _ (by omega)
  · intro n k hk
    have hs : V.isInt .i64 v5[k] = true := List.all_eq_true.1 h3 _ (List.getElem_mem hk)
    show f12_l0 (n + 1) v5 ((v5.length : Nat) : Int) (k : Int) R κ = _
    rw [f12_l0, dec_true (show (k : Int) < ((v5.length : Nat) : Int) by omega), dec_true (show (0 : Int) ≤ (k : Int) by omega), nth_at hk, hs, wrap_succ (by omega)]
    rfl
  · intro n
    show f12_l0 (n + 1) v5 ((v5.length : Nat) : Int) ((v5.length : Nat) : Int) R κ = _
    rw [f12_l0, dec_false (by omega)]
    rfl
def t_f12_l0 (st : St) (R : Type) (κ : Ex → St → Option R) : Option R := bif ckS f12_l0_ls f12_l0_rs st then (bif ((((st.env 6).intOf) == ((((st.env 5).cellsOf).length : Nat) : Int)) && (((st.env 7).intOf) == 0) && ((st.env 5).cellsOf).all (V.isInt .i64) && decide (((st.env 5).cellsOf).length ≤ 1000000000)) then f12_s0 ((st.env 5).cellsOf) ((st.env 6).intOf) ((st.env 7).intOf) R κ else none) else none
theorem t_f12_l0_ok : ∀ st0 R κ r, t_f12_l0 (forget C 12 [0, 1, 0, 1] st0) R κ = some r → ∃ ee ss, κ ee ss = some r ∧ RunP C prim 12 [0, 1, 0, 1] (forget C 12 [0, 1, 0, 1] st0) ee ss := by
  intro st0 R κ r h
  obtain ⟨hs, h⟩ := cond_some h
  obtain ⟨hp, h⟩ := cond_some h
  rw [canon (ls := f12_l0_ls) (rs := f12_l0_rs) (by kernel_rfl) st0 hs]
  obtain ⟨n, hn⟩ := f12_s0_eq _ _ _ hp
  rw [← hn] at h
  exact f12_l0_ok n _ _ _ R κ r h

def K_f12 : CallK := kNil
theorem K_f12_ok : KOK C prim K_f12 := KOK.nil
def T_f12 : Tab := tCons [0, 1, 0, 1] t_f12_l0 <| tNil
theorem T_f12_ok : TOK C prim 12 T_f12 := TOK.cons t_f12_l0_ok <| TOK.nil
def f12 (l : List V) : Option (V × List Rg) :=
  bif ((((l.length : Nat) : Int) == ((l.length : Nat) : Int)) && ((0 : Int) == 0) && l.all (V.isInt .i64) && decide (l.length ≤ 1000000000)) then
    bif (firstBy V.intOf l != 0) then
      some (.sc (.int .i64 (firstBy V.intOf l)), [])
    else
      some (.sc (.int .i64 0), [])
  else none
theorem f12_run (l : List V) (z9 : V × List Rg) (h : f12 l = some z9) : CallR C prim 12 [.sl 1 l] [] z9 := by
  refine call_fn (K := K_f12) (T := T_f12) K_f12_ok T_f12_ok (by kernel_rfl) ?_
  refine Eq.trans ?_ h
  kernel_rfl

theorem f12_eq (l : List V) (hp : (l.all (V.isInt .i64) && decide (l.length ≤ 1000000000)) = true) : f12 l = some (.sc (.int .i64 (firstBy V.intOf l)), []) := by
  simp only [Bool.and_eq_true, decide_eq_true_eq] at hp
  unfold f12
  rw [hp.1, dec_true hp.2]
  simp only [beq_self_eq_true, Bool.and_true, cond_true]
  exact zero_or (x := firstBy V.intOf l) (fun e => some (V.sc (.int .i64 e), []))
def k12 : PrimT := fun vs gs => match vs, gs with
  | [.sl 1 l], [] => ((l.all (V.isInt .i64) && decide (l.length ≤ 1000000000)), .sc (.int .i64 (firstBy V.intOf l)), [])
  | _, _ => (false, .bad, [])
theorem k12_ok : ∀ vs gs x, k12 vs gs = (true, x) → CallR C prim 12 vs gs x := by
  intro vs gs x h
  unfold k12 at h
  split at h
  · simp only [Prod.mk.injEq] at h
    obtain ⟨hp, rfl⟩ := h
    exact f12_run _ _ (f12_eq _ hp)
  · cases h

def K_f33 : CallK := kNil
theorem K_f33_ok : KOK C prim K_f33 := KOK.nil
def T_f33 : Tab := tNil
theorem T_f33_ok : TOK C prim 33 T_f33 := TOK.nil
def f33 (s : ByteArray) : Option (V × List Rg) :=
  some (.sc (.bool (decide (((s.size : Nat) : Int) ≤ 3000))), [])
theorem f33_run (s : ByteArray) (z9 : V × List Rg) (h : f33 s = some z9) : CallR C prim 33 [.sc (.string s)] [] z9 := by
  refine call_fn (K := K_f33) (T := T_f33) K_f33_ok T_f33_ok (by kernel_rfl) ?_
  refine Eq.trans ?_ h
  kernel_rfl

theorem f33_eq (s : ByteArray) : f33 s = some (.sc (.bool (decide (((s.size : Nat) : Int) ≤ 3000))), []) := by rfl
def k33 : PrimT := fun vs gs => match vs, gs with
  | [.sc (.string s)], [] => (true, .sc (.bool (decide (((s.size : Nat) : Int) ≤ 3000))), [])
  | _, _ => (false, .bad, [])
theorem k33_ok : ∀ vs gs x, k33 vs gs = (true, x) → CallR C prim 33 vs gs x := by
  intro vs gs x h
  unfold k33 at h
  split at h
  · simp only [Prod.mk.injEq, true_and] at h
    subst h
    exact f33_run _ _ (f33_eq _)
  · cases h

def K_f106 : CallK := kCons 130 k130 <| kNil
theorem K_f106_ok : KOK C prim K_f106 := KOK.cons k130_ok <| KOK.nil
def T_f106 : Tab := tNil
theorem T_f106_ok : TOK C prim 106 T_f106 := TOK.nil
def f106 (s : ByteArray) : Option (V × List Rg) :=
  bif (((((1 : Int) == 0) || ((1 : Int) == 1)) && decide (s.size ≤ 1000000000)) && true) then
    some (.own 9 false (splitW s (1 : Int)), [])
  else none
theorem f106_run (s : ByteArray) (z9 : V × List Rg) (h : f106 s = some z9) : CallR C prim 106 [.sc (.string s), .sc (.string ⟨#[10]⟩)] [] z9 := by
  refine call_fn (K := K_f106) (T := T_f106) K_f106_ok T_f106_ok (by kernel_rfl) ?_
  refine Eq.trans ?_ h
  kernel_rfl

theorem f106_eq (s : ByteArray) (hp : (decide (s.size ≤ 1000000000)) = true) : f106 s = some (.own 9 false (splitW s 1), []) := by
  unfold f106
  rw [hp]
  rfl
def k106 : PrimT := fun vs gs => match vs, gs with
  | [.sc (.string s), .sc (.string q1)], [] => ((strEq q1 (⟨#[10]⟩ : ByteArray) && (decide (s.size ≤ 1000000000))), .own 9 false (splitW s 1), [])
  | _, _ => (false, .bad, [])
theorem k106_ok : ∀ vs gs x, k106 vs gs = (true, x) → CallR C prim 106 vs gs x := by
  intro vs gs x h
  unfold k106 at h
  split at h
  · simp only [Prod.mk.injEq] at h
    obtain ⟨hp, rfl⟩ := h
    rw [Bool.and_eq_true] at hp
    obtain ⟨hq, hp⟩ := hp
    obtain rfl := (strEq_iff _ _).1 hq
    exact f106_run _ _ (f106_eq _ hp)
  · cases h

def K_f72 : CallK := kCons 106 k106 <| kNil
theorem K_f72_ok : KOK C prim K_f72 := KOK.cons k106_ok <| KOK.nil
def T_f72 : Tab := tNil
theorem T_f72_ok : TOK C prim 72 T_f72 := TOK.nil
def f72 (text : ByteArray) : Option (V × List Rg) :=
  bif ((decide (text.size ≤ 1000000000)) && true) then
    bif (((decide ((0 : Int) ≤ (IntKind.wrap .i64 (((((splitW text 1)).length : Nat) : Int) - 1)))) && (decide ((IntKind.wrap .i64 (((((splitW text 1)).length : Nat) : Int) - 1)) < ((((splitW text 1)).length : Nat) : Int)))) && true) then
      bif (((V.isStr (nthV (splitW text 1) ((((IntKind.wrap .i64 (((((splitW text 1)).length : Nat) : Int) - 1))).toNat * 1) + 0))) && true) && true) then
        bif (strEq (V.strOf (nthV (splitW text 1) ((((IntKind.wrap .i64 (((((splitW text 1)).length : Nat) : Int) - 1))).toNat * 1) + 0))) (⟨#[]⟩ : ByteArray)) then
          bif (((((decide ((0 : Int) ≤ (IntKind.wrap .i64 (((((splitW text 1)).length : Nat) : Int) - 1)))) && (decide ((IntKind.wrap .i64 (((((splitW text 1)).length : Nat) : Int) - 1)) ≤ ((((splitW text 1)).length : Nat) : Int)))) && true) && true) && true) then
            some (.own 9 false ((splitW text 1).take (((IntKind.wrap .i64 (((((splitW text 1)).length : Nat) : Int) - 1))).toNat * 1)), [])
          else none
        else
          some (.own 9 false (splitW text 1), [])
      else none
    else none
  else none
theorem f72_run (text : ByteArray) (z9 : V × List Rg) (h : f72 text = some z9) : CallR C prim 72 [.sc (.string text)] [] z9 := by
  refine call_fn (K := K_f72) (T := T_f72) K_f72_ok T_f72_ok (by kernel_rfl) ?_
  refine Eq.trans ?_ h
  kernel_rfl

theorem f72_eq (text : ByteArray) (hp : (decide (text.size ≤ 1000000000)) = true) : f72 text = some (.own 9 false (unitsV text), []) := by
  have hq := hp
  simp only [decide_eq_true_eq] at hp
  have hN := headP_le text
  have hl : (splitW text 1).length = (headP text).length + 1 := by unfold splitW; simp [headW_len]
  have hH : (headN text).length = (headP text).length := headN_len _ _
  have hw : IntKind.wrap .i64 (((((headP text).length + 1 : Nat)) : Int) - 1) = (((headP text).length : Nat) : Int) := by rw [wrap_id (by omega) (by omega)]; omega
  have hx : nthV (splitW text 1) (headP text).length = .sc (.string (lastP text)) := by
    rw [nthV_lt (by omega)]
    unfold splitW
    rw [List.getElem_append_right (by rw [headW_len]; exact Nat.le_refl _)]
    simp
  have ht : (splitW text 1).take (headP text).length = headN text := by
    unfold splitW headW
    rw [List.take_append_of_le_length (by show _ ≤ (headN text).length; omega)]
    exact List.take_of_length_le (by show (headN text).length ≤ _; omega)
  unfold f72
  simp only [hl, hw, Int.toNat_natCast, Nat.mul_one, Nat.add_zero, hx, ht, V.isStr, V.strOf]
  rw [hq, dec_true (show (0 : Int) ≤ (((headP text).length : Nat) : Int) by omega), dec_true (show (((headP text).length : Nat) : Int) < (((headP text).length + 1 : Nat) : Int) by omega), dec_true (show (((headP text).length : Nat) : Int) ≤ (((headP text).length + 1 : Nat) : Int) by omega), unitsV_eq]
  cases h : strEq (lastP text) (⟨#[]⟩ : ByteArray) with
  | true =>
    have : ((lastP text).size == 0) = true := by rw [(strEq_iff _ _).1 h]; rfl
    rw [this]; rfl
  | false =>
    have : ((lastP text).size == 0) = false := by
      rw [beq_eq_false_iff_ne]
      intro h0
      have : lastP text = ⟨#[]⟩ := ba_ext (by rw [bl_size] at h0; exact List.eq_nil_of_length_eq_zero h0)
      rw [this, strEq_self] at h
      cases h
    rw [this]; rfl
def k72 : PrimT := fun vs gs => match vs, gs with
  | [.sc (.string text)], [] => ((decide (text.size ≤ 1000000000)), .own 9 false (unitsV text), [])
  | _, _ => (false, .bad, [])
theorem k72_ok : ∀ vs gs x, k72 vs gs = (true, x) → CallR C prim 72 vs gs x := by
  intro vs gs x h
  unfold k72 at h
  split at h
  · simp only [Prod.mk.injEq] at h
    obtain ⟨hp, rfl⟩ := h
    exact f72_run _ _ (f72_eq _ hp)
  · cases h

def K_f74 : CallK := kNil
theorem K_f74_ok : KOK C prim K_f74 := KOK.nil
def T_f74 : Tab := tNil
theorem T_f74_ok : TOK C prim 74 T_f74 := TOK.nil
def f74 (c : Int) : Option (V × List Rg) :=
  bif (decide (c ≥ 9)) then
    bif (decide (c ≤ 13)) then
      some (.sc (.bool true), [])
    else
      some (.sc (.bool (c == 32)), [])
  else
    some (.sc (.bool (c == 32)), [])
theorem f74_run (c : Int) (z9 : V × List Rg) (h : f74 c = some z9) : CallR C prim 74 [.sc (.int .u8 c)] [] z9 := by
  refine call_fn (K := K_f74) (T := T_f74) K_f74_ok T_f74_ok (by kernel_rfl) ?_
  refine Eq.trans ?_ h
  kernel_rfl

theorem f74_eq (c : Int) : f74 c = some (.sc (.bool (spaceI c)), []) := by
  unfold f74 spaceI
  cases decide (c ≥ 9) <;> cases decide (c ≤ 13) <;> rfl
def k74 : PrimT := fun vs gs => match vs, gs with
  | [.sc (.int .u8 c)], [] => (true, .sc (.bool (spaceI c)), [])
  | _, _ => (false, .bad, [])
theorem k74_ok : ∀ vs gs x, k74 vs gs = (true, x) → CallR C prim 74 vs gs x := by
  intro vs gs x h
  unfold k74 at h
  split at h
  · simp only [Prod.mk.injEq, true_and] at h
    subst h
    exact f74_run _ _ (f74_eq _)
  · cases h

def K_f71 : CallK := kNil
theorem K_f71_ok : KOK C prim K_f71 := KOK.nil
def T_f71 : Tab := tNil
theorem T_f71_ok : TOK C prim 71 T_f71 := TOK.nil
def f71 (o0 : Int) (o1 : Bool) (o2 : Int) (size : Int) : Option (V × List Rg) :=
  bif (o0 == 1) then
    some (.tp [.sc (.int .i64 0), .sc (.int .i64 (bif (decide (size < o2)) then size else o2))], [])
  else
    bif (o0 == 2) then
      some (.tp [.sc (.int .i64 0), .sc (.int .i64 (bif (decide ((0 : Int) > (IntKind.wrap .i64 (size - o2)))) then 0 else (IntKind.wrap .i64 (size - o2))))], [])
    else
      bif (o0 == 3) then
        some (.tp [.sc (.int .i64 (bif (decide ((0 : Int) > (IntKind.wrap .i64 (size - o2)))) then 0 else (IntKind.wrap .i64 (size - o2)))), .sc (.int .i64 size)], [])
      else
        some (.tp [.sc (.int .i64 (bif (decide (size < (bif (decide ((0 : Int) > (IntKind.wrap .i64 (o2 - 1)))) then 0 else (IntKind.wrap .i64 (o2 - 1))))) then size else (bif (decide ((0 : Int) > (IntKind.wrap .i64 (o2 - 1)))) then 0 else (IntKind.wrap .i64 (o2 - 1))))), .sc (.int .i64 size)], [])
theorem f71_run (o0 : Int) (o1 : Bool) (o2 : Int) (size : Int) (z9 : V × List Rg) (h : f71 o0 o1 o2 size = some z9) : CallR C prim 71 [.ag [.sc (.int .i64 o0), .sc (.bool o1), .sc (.int .i64 o2)], .sc (.int .i64 size)] [] z9 := by
  refine call_fn (K := K_f71) (T := T_f71) K_f71_ok T_f71_ok (by kernel_rfl) ?_
  refine Eq.trans ?_ h
  kernel_rfl

theorem f71_eq (o0 : Int) (o1 : Bool) (o2 : Int) (size : Int) : f71 o0 o1 o2 size = some (.tp [.sc (.int .i64 (partF o0 o2 size)), .sc (.int .i64 (partT o0 o2 size))], []) := by
  unfold f71 partF partT max0 minI
  cases o0 == 1 <;> cases o0 == 2 <;> cases o0 == 3 <;> rfl
def k71 : PrimT := fun vs gs => match vs, gs with
  | [.ag [.sc (.int .i64 o0), .sc (.bool o1), .sc (.int .i64 o2)], .sc (.int .i64 size)], [] => (true, .tp [.sc (.int .i64 (partF o0 o2 size)), .sc (.int .i64 (partT o0 o2 size))], [])
  | _, _ => (false, .bad, [])
theorem k71_ok : ∀ vs gs x, k71 vs gs = (true, x) → CallR C prim 71 vs gs x := by
  intro vs gs x h
  unfold k71 at h
  split at h
  · simp only [Prod.mk.injEq, true_and] at h
    subst h
    exact f71_run _ _ _ _ _ (f71_eq _ _ _ _)
  · cases h

def K_f75 : CallK := kNil
theorem K_f75_ok : KOK C prim K_f75 := KOK.nil
def T_f75 : Tab := tNil
theorem T_f75_ok : TOK C prim 75 T_f75 := TOK.nil
def f75 (k : Int) (v1 : Int) (v2 : ByteArray) (v3 : List V) : Option (V × List Rg) :=
  bif (decide (k < 0)) then
    bif (decide ((0 : Int) ≥ v1)) then
      some (.sc (.int .i64 ((v2.size : Nat) : Int)), [])
    else
      bif ((decide ((0 : Int) < ((v3.length : Nat) : Int))) && true) then
        bif (((V.isInt .i64 (nthV v3 0)) && true) && true) then
          some (.sc (.int .i64 (V.intOf (nthV v3 0))), [])
        else none
      else none
  else
    bif (decide (k ≥ v1)) then
      some (.sc (.int .i64 ((v2.size : Nat) : Int)), [])
    else
      bif (((decide ((0 : Int) ≤ k)) && (decide (k < ((v3.length : Nat) : Int)))) && true) then
        bif (((V.isInt .i64 (nthV v3 (((k).toNat * 1) + 0))) && true) && true) then
          some (.sc (.int .i64 (V.intOf (nthV v3 (((k).toNat * 1) + 0)))), [])
        else none
      else none
theorem f75_run (k : Int) (v1 : Int) (v2 : ByteArray) (v3 : List V) (z9 : V × List Rg) (h : f75 k v1 v2 v3 = some z9) : CallR C prim 75 [.sc (.int .i64 k), .pim 1 [.sc (.int .i64 v1)] 0, .pim 1 [.sc (.string v2)] 0, .pim 1 [.sl 1 v3] 0] [] z9 := by
  refine call_fn (K := K_f75) (T := T_f75) K_f75_ok T_f75_ok (by kernel_rfl) ?_
  refine Eq.trans ?_ h
  kernel_rfl

theorem f75_eq (k : Int) (v1 : Int) (v2 : ByteArray) (v3 : List V) (hp : ((v1 == ((v3.length : Nat) : Int)) && v3.all (V.isInt .i64)) = true) : f75 k v1 v2 v3 = some (.sc (.int .i64 (placeI v3 v2 k)), []) := by
  simp only [Bool.and_eq_true, beq_iff_eq] at hp
  obtain ⟨rfl, hi⟩ := hp
  have at_ : ∀ j : Nat, j < v3.length → V.isInt .i64 (nthV v3 j) = true := by
    intro j hj
    rw [nthV_lt hj]
    exact List.all_eq_true.1 hi _ (List.getElem_mem hj)
  unfold f75 placeI
  by_cases hk : k < 0
  · have h0 : max0 k = 0 := by rw [max0_eq]; omega
    rw [dec_true hk, h0]
    by_cases hz : (0 : Int) ≥ ((v3.length : Nat) : Int)
    · rw [dec_true hz]; rfl
    · rw [dec_false hz, dec_true (show (0 : Int) < ((v3.length : Nat) : Int) by omega), at_ 0 (by omega)]; rfl
  · have h0 : max0 k = k := by rw [max0_eq]; omega
    rw [dec_false hk, h0]
    by_cases hz : k ≥ ((v3.length : Nat) : Int)
    · rw [dec_true hz]; rfl
    · rw [dec_false hz, dec_true (show (0 : Int) ≤ k by omega), dec_true (show k < ((v3.length : Nat) : Int) by omega), Nat.mul_one, Nat.add_zero, at_ k.toNat (by omega)]; rfl
def k75 : PrimT := fun vs gs => match vs, gs with
  | [.sc (.int .i64 k), .pim 1 [.sc (.int .i64 v1)] 0, .pim 1 [.sc (.string v2)] 0, .pim 1 [.sl 1 v3] 0], [] => (((v1 == ((v3.length : Nat) : Int)) && v3.all (V.isInt .i64)), .sc (.int .i64 (placeI v3 v2 k)), [])
  | _, _ => (false, .bad, [])
theorem k75_ok : ∀ vs gs x, k75 vs gs = (true, x) → CallR C prim 75 vs gs x := by
  intro vs gs x h
  unfold k75 at h
  split at h
  · simp only [Prod.mk.injEq] at h
    obtain ⟨hp, rfl⟩ := h
    exact f75_run _ _ _ _ _ (f75_eq _ _ _ _ hp)
  · cases h

def K_f36_l0 : CallK := kCons 74 k74 <| kNil
theorem K_f36_l0_ok : KOK C prim K_f36_l0 := KOK.cons k74_ok <| KOK.nil
def T_f36_l0 : Tab := tNil
theorem T_f36_l0_ok : TOK C prim 36 T_f36_l0 := TOK.nil
def f36_l0 : Nat → ByteArray → Int → Int → Int → Int → Int → Int → Int → Int → Int → Int → (R : Type) → (Ex → St → Option R) → Option R
  | 0, _, _, _, _, _, _, _, _, _, _, _, _, _ => none
  | n + 1, text, v18, v19, r20, r21, r22, r23, out0, out1, out2, out3, R, κ =>
    bif (decide (v19 < v18)) then
      bif (((decide ((0 : Int) ≤ v19)) && (decide (v19 < ((text.size : Nat) : Int)))) && true) then
        bif (!(spaceI ((text.data.getD (v19).toNat 0).toNat : Int))) then
          bif (v19 == 0) then
            f36_l0 n text v18 (IntKind.wrap .i64 (v19 + 1)) r20 r21 r22 r23 out0 (IntKind.wrap .i64 (out1 + 1)) out2 out3 R κ
          else
            bif (((decide ((0 : Int) ≤ (IntKind.wrap .i64 (v19 - 1)))) && (decide ((IntKind.wrap .i64 (v19 - 1)) < ((text.size : Nat) : Int)))) && true) then
              bif (spaceI ((text.data.getD ((IntKind.wrap .i64 (v19 - 1))).toNat 0).toNat : Int)) then
                f36_l0 n text v18 (IntKind.wrap .i64 (v19 + 1)) r20 r21 r22 r23 out0 (IntKind.wrap .i64 (out1 + 1)) out2 out3 R κ
              else
                f36_l0 n text v18 (IntKind.wrap .i64 (v19 + 1)) r20 r21 r22 r23 out0 out1 out2 out3 R κ
            else none
        else
          f36_l0 n text v18 (IntKind.wrap .i64 (v19 + 1)) r20 r21 r22 r23 out0 out1 out2 out3 R κ
      else none
    else
      κ (.ex 0) (mkS [(0, .sc (.string text)), (2, .ptrB (.loc 2) 0), (3, .bad), (4, .ptrB (.loc 4) 0)] [(.loc 2, some ⟨true, [.sc (.int .i64 r20), .sc (.int .i64 r21), .sc (.int .i64 r22), .sc (.int .i64 r23)]⟩), (.loc 4, some ⟨true, [.sc (.int .i64 out0), .sc (.int .i64 out1), .sc (.int .i64 out2), .sc (.int .i64 out3)]⟩)])
def f36_l0_ls : List (Nat × Pat) := [(0, .s), (2, .is (.ptrB (.loc 2) 0)), (4, .is (.ptrB (.loc 4) 0)), (18, .i .i64), (19, .i .i64)]
def f36_l0_rs : List RPat := [⟨.loc 2, true, [.i .i64, .i .i64, .i .i64, .i .i64]⟩, ⟨.loc 4, true, [.i .i64, .i .i64, .i .i64, .i .i64]⟩]
theorem f36_l0_ok (n : Nat) : ∀ (text : ByteArray) (v18 : Int) (v19 : Int) (r20 : Int) (r21 : Int) (r22 : Int) (r23 : Int) (out0 : Int) (out1 : Int) (out2 : Int) (out3 : Int) (R : Type) (κ : Ex → St → Option R) (r : R), f36_l0 n text v18 v19 r20 r21 r22 r23 out0 out1 out2 out3 R κ = some r → ∃ ee ss, κ ee ss = some r ∧ RunP C prim 36 [0, 1, 0, 1, 1, 1] (mkS [(0, .sc (.string text)), (2, .ptrB (.loc 2) 0), (4, .ptrB (.loc 4) 0), (18, .sc (.int .i64 v18)), (19, .sc (.int .i64 v19))] [(.loc 2, some ⟨true, [.sc (.int .i64 r20), .sc (.int .i64 r21), .sc (.int .i64 r22), .sc (.int .i64 r23)]⟩), (.loc 4, some ⟨true, [.sc (.int .i64 out0), .sc (.int .i64 out1), .sc (.int .i64 out2), .sc (.int .i64 out3)]⟩)]) ee ss := by
  induction n with
  | zero => intro text v18 v19 r20 r21 r22 r23 out0 out1 out2 out3 R κ r h; cases h
  | succ n ih =>
    intro text v18 v19 r20 r21 r22 r23 out0 out1 out2 out3 R κ r h
    refine loop_round (K := K_f36_l0) (T := T_f36_l0) K_f36_l0_ok T_f36_l0_ok (p := [0, 1, 0, 1, 1, 1]) (by kernel_rfl) (fun st => bif ckS f36_l0_ls f36_l0_rs st then f36_l0 n ((st.env 0).strOf) ((st.env 18).intOf) ((st.env 19).intOf) ((nthV (rowOf (st.regs (.loc 2))) 0).intOf) ((nthV (rowOf (st.regs (.loc 2))) 1).intOf) ((nthV (rowOf (st.regs (.loc 2))) 2).intOf) ((nthV (rowOf (st.regs (.loc 2))) 3).intOf) ((nthV (rowOf (st.regs (.loc 4))) 0).intOf) ((nthV (rowOf (st.regs (.loc 4))) 1).intOf) ((nthV (rowOf (st.regs (.loc 4))) 2).intOf) ((nthV (rowOf (st.regs (.loc 4))) 3).intOf) R κ else none) (fun st0 h0 => ?_) ?_
    · obtain ⟨hs, h0⟩ := cond_some h0
      rw [canon (ls := f36_l0_ls) (rs := f36_l0_rs) (by kernel_rfl) st0 hs]
      exact ih _ _ _ _ _ _ _ _ _ _ _ R κ r h0
    · refine Eq.trans ?_ h
      kernel_rfl

def f36_s0 (text : ByteArray) (v18 : Int) (v19 : Int) (r20 : Int) (r21 : Int) (r22 : Int) (r23 : Int) (out0 : Int) (out1 : Int) (out2 : Int) (out3 : Int) (R : Type) (κ : Ex → St → Option R) : Option R :=
  κ (.ex 0) (mkS [(0, .sc (.string text)), (2, .ptrB (.loc 2) 0), (3, .bad), (4, .ptrB (.loc 4) 0)] [(.loc 2, some ⟨true, [.sc (.int .i64 r20), .sc (.int .i64 r21), .sc (.int .i64 r22), .sc (.int .i64 r23)]⟩), (.loc 4, some ⟨true, [.sc (.int .i64 out0), .sc (.int .i64 ((wordsL true text.data.toList : Nat) : Int)), .sc (.int .i64 out2), .sc (.int .i64 out3)]⟩)])
def spAt (s : ByteArray) : Nat → Bool
  | 0 => true
  | j + 1 => spaceU (s.data.getD j 0)
theorem f36_loop0 (text : ByteArray) (hs : text.size ≤ 1000000000) (r20 r21 r22 r23 out0 out2 out3 : Int) (R : Type) (κ : Ex → St → Option R) : ∀ (k i c : Nat), i + k = text.size → c ≤ i →
    f36_l0 (k + 1) text ((text.size : Nat) : Int) ((i : Nat) : Int) r20 r21 r22 r23 out0 ((c : Nat) : Int) out2 out3 R κ = κ (.ex 0) (mkS [(0, .sc (.string text)), (2, .ptrB (.loc 2) 0), (3, .bad), (4, .ptrB (.loc 4) 0)] [(.loc 2, some ⟨true, [.sc (.int .i64 r20), .sc (.int .i64 r21), .sc (.int .i64 r22), .sc (.int .i64 r23)]⟩), (.loc 4, some ⟨true, [.sc (.int .i64 out0), .sc (.int .i64 ((c + wordsL (spAt text i) (text.data.toList.drop i) : Nat) : Int)), .sc (.int .i64 out2), .sc (.int .i64 out3)]⟩)])
  | 0, i, c, h, hc => by
    have hl := bl_size text
    rw [f36_l0, dec_false (by omega), List.drop_of_length_le (by omega), wordsL]
    rfl
  | k + 1, i, c, h, hc => by
    have hl := bl_size text
    have hlt : i < text.data.toList.length := by omega
    have IH1 := f36_loop0 text hs r20 r21 r22 r23 out0 out2 out3 R κ k (i + 1) (c + 1) (by omega) (by omega)
    have IH0 := f36_loop0 text hs r20 r21 r22 r23 out0 out2 out3 R κ k (i + 1) c (by omega) (by omega)
    have e : spAt text (i + 1) = spaceU text.data.toList[i] := by show spaceU (text.data.getD i 0) = _; rw [getD_list' text i hlt]
    have e2 : spaceI (((text.data.getD i 0).toNat : Nat) : Int) = spaceU text.data.toList[i] := by rw [getD_list' text i hlt]; rfl
    rw [e] at IH1 IH0
    rw [List.drop_eq_getElem_cons hlt, wordsL, f36_l0, dec_true (show ((i : Nat) : Int) < ((text.size : Nat) : Int) by omega), dec_true (show (0 : Int) ≤ ((i : Nat) : Int) by omega), Int.toNat_natCast, e2, wrap_succ (k := i) (by omega), wrap_succ (k := c) (by omega)]
    cases hx : spaceU text.data.toList[i] with
    | true =>
      rw [hx] at IH0
      simp only [Bool.and_self, Bool.not_true, Bool.and_false, cond_true, cond_false, Nat.zero_add]
      exact IH0
    | false =>
      rw [hx] at IH0 IH1
      cases i with
      | zero =>
        simp only [spAt, Bool.and_self, Bool.not_false, cond_true, cond_false]
        rw [← Nat.add_assoc]
        exact IH1
      | succ j =>
        have hw : IntKind.wrap .i64 (((j + 1 : Nat) : Int) - 1) = ((j : Nat) : Int) := by rw [wrap_id (by omega) (by omega)]; omega
        have hz : ((((j + 1 : Nat) : Int)) == 0) = false := beq_eq_false_iff_ne.2 (by omega)
        have ef : spaceI (((text.data.getD j 0).toNat : Nat) : Int) = spAt text (j + 1) := rfl
        rw [hw, hz, dec_true (show (0 : Int) ≤ ((j : Nat) : Int) by omega), dec_true (show ((j : Nat) : Int) < ((text.size : Nat) : Int) by omega), Int.toNat_natCast, ef]
        cases spAt text (j + 1) with
        | true =>
          simp only [Bool.and_self, Bool.not_false, cond_true, cond_false]
          rw [← Nat.add_assoc]
          exact IH1
        | false =>
          simp only [Bool.and_self, Bool.not_false, Bool.false_and, cond_true, cond_false, Nat.zero_add]
          exact IH0
theorem f36_s0_eq (text : ByteArray) (v18 : Int) (v19 : Int) (r20 : Int) (r21 : Int) (r22 : Int) (r23 : Int) (out0 : Int) (out1 : Int) (out2 : Int) (out3 : Int) (hp : ((v18 == ((text.size : Nat) : Int)) && (v19 == 0) && (out1 == 0) && decide (text.size ≤ 1000000000)) = true) : ∃ n, ∀ (R : Type) (κ : Ex → St → Option R), f36_l0 n text v18 v19 r20 r21 r22 r23 out0 out1 out2 out3 R κ = f36_s0 text v18 v19 r20 r21 r22 r23 out0 out1 out2 out3 R κ := by
  simp only [Bool.and_eq_true, decide_eq_true_eq, beq_iff_eq] at hp
  obtain ⟨⟨⟨rfl, rfl⟩, rfl⟩, h4⟩ := hp
  refine ⟨text.size + 1, fun R κ => ?_⟩
  have := f36_loop0 text h4 r20 r21 r22 r23 out0 out2 out3 R κ text.size 0 0 (by omega) (Nat.le_refl _)
  rw [Nat.zero_add] at this
  exact this
def t_f36_l0 (st : St) (R : Type) (κ : Ex → St → Option R) : Option R := bif ckS f36_l0_ls f36_l0_rs st then (bif ((((st.env 18).intOf) == ((((st.env 0).strOf).size : Nat) : Int)) && (((st.env 19).intOf) == 0) && (((nthV (rowOf (st.regs (.loc 4))) 1).intOf) == 0) && decide (((st.env 0).strOf).size ≤ 1000000000)) then f36_s0 ((st.env 0).strOf) ((st.env 18).intOf) ((st.env 19).intOf) ((nthV (rowOf (st.regs (.loc 2))) 0).intOf) ((nthV (rowOf (st.regs (.loc 2))) 1).intOf) ((nthV (rowOf (st.regs (.loc 2))) 2).intOf) ((nthV (rowOf (st.regs (.loc 2))) 3).intOf) ((nthV (rowOf (st.regs (.loc 4))) 0).intOf) ((nthV (rowOf (st.regs (.loc 4))) 1).intOf) ((nthV (rowOf (st.regs (.loc 4))) 2).intOf) ((nthV (rowOf (st.regs (.loc 4))) 3).intOf) R κ else none) else none
theorem t_f36_l0_ok : ∀ st0 R κ r, t_f36_l0 (forget C 36 [0, 1, 0, 1, 1, 1] st0) R κ = some r → ∃ ee ss, κ ee ss = some r ∧ RunP C prim 36 [0, 1, 0, 1, 1, 1] (forget C 36 [0, 1, 0, 1, 1, 1] st0) ee ss := by
  intro st0 R κ r h
  obtain ⟨hs, h⟩ := cond_some h
  obtain ⟨hp, h⟩ := cond_some h
  rw [canon (ls := f36_l0_ls) (rs := f36_l0_rs) (by kernel_rfl) st0 hs]
  obtain ⟨n, hn⟩ := f36_s0_eq _ _ _ _ _ _ _ _ _ _ _ hp
  rw [← hn] at h
  exact f36_l0_ok n _ _ _ _ _ _ _ _ _ _ _ R κ r h

def K_f36_l1 : CallK := kNil
theorem K_f36_l1_ok : KOK C prim K_f36_l1 := KOK.nil
def T_f36_l1 : Tab := tNil
theorem T_f36_l1_ok : TOK C prim 36 T_f36_l1 := TOK.nil
def f36_l1 : Nat → List V → Int → Int → Int → Int → Int → Int → Int → Int → Int → Int → (R : Type) → (Ex → St → Option R) → Option R
  | 0, _, _, _, _, _, _, _, _, _, _, _, _, _ => none
  | n + 1, v44, v45, v46, r20, r21, r22, r23, out0, out1, out2, out3, R, κ =>
    bif (decide (v46 < v45)) then
      bif (((decide ((0 : Int) ≤ v46)) && (decide (v46 < ((v44.length : Nat) : Int)))) && true) then
        bif (((V.isStr (nthV v44 (((v46).toNat * 1) + 0))) && true) && true) then
          f36_l1 n v44 v45 (IntKind.wrap .i64 (v46 + 1)) r20 r21 r22 r23 out0 out1 out2 (bif (decide ((((V.strOf (nthV v44 (((v46).toNat * 1) + 0))).size : Nat) : Int) > out3)) then (((V.strOf (nthV v44 (((v46).toNat * 1) + 0))).size : Nat) : Int) else out3) R κ
        else none
      else none
    else
      κ (.ex 2) (mkS [(2, .ptrB (.loc 2) 0), (3, .bad), (4, .ptrB (.loc 4) 0)] [(.loc 2, some ⟨true, [.sc (.int .i64 r20), .sc (.int .i64 r21), .sc (.int .i64 r22), .sc (.int .i64 r23)]⟩), (.loc 4, some ⟨true, [.sc (.int .i64 out0), .sc (.int .i64 out1), .sc (.int .i64 out2), .sc (.int .i64 out3)]⟩)])
def f36_l1_ls : List (Nat × Pat) := [(2, .is (.ptrB (.loc 2) 0)), (4, .is (.ptrB (.loc 4) 0)), (44, .sl 1), (45, .i .i64), (46, .i .i64)]
def f36_l1_rs : List RPat := [⟨.loc 2, true, [.i .i64, .i .i64, .i .i64, .i .i64]⟩, ⟨.loc 4, true, [.i .i64, .i .i64, .i .i64, .i .i64]⟩]
theorem f36_l1_ok (n : Nat) : ∀ (v44 : List V) (v45 : Int) (v46 : Int) (r20 : Int) (r21 : Int) (r22 : Int) (r23 : Int) (out0 : Int) (out1 : Int) (out2 : Int) (out3 : Int) (R : Type) (κ : Ex → St → Option R) (r : R), f36_l1 n v44 v45 v46 r20 r21 r22 r23 out0 out1 out2 out3 R κ = some r → ∃ ee ss, κ ee ss = some r ∧ RunP C prim 36 [0, 1, 0, 1, 1, 1, 1] (mkS [(2, .ptrB (.loc 2) 0), (4, .ptrB (.loc 4) 0), (44, .sl 1 v44), (45, .sc (.int .i64 v45)), (46, .sc (.int .i64 v46))] [(.loc 2, some ⟨true, [.sc (.int .i64 r20), .sc (.int .i64 r21), .sc (.int .i64 r22), .sc (.int .i64 r23)]⟩), (.loc 4, some ⟨true, [.sc (.int .i64 out0), .sc (.int .i64 out1), .sc (.int .i64 out2), .sc (.int .i64 out3)]⟩)]) ee ss := by
  induction n with
  | zero => intro v44 v45 v46 r20 r21 r22 r23 out0 out1 out2 out3 R κ r h; cases h
  | succ n ih =>
    intro v44 v45 v46 r20 r21 r22 r23 out0 out1 out2 out3 R κ r h
    refine loop_round (K := K_f36_l1) (T := T_f36_l1) K_f36_l1_ok T_f36_l1_ok (p := [0, 1, 0, 1, 1, 1, 1]) (by kernel_rfl) (fun st => bif ckS f36_l1_ls f36_l1_rs st then f36_l1 n ((st.env 44).cellsOf) ((st.env 45).intOf) ((st.env 46).intOf) ((nthV (rowOf (st.regs (.loc 2))) 0).intOf) ((nthV (rowOf (st.regs (.loc 2))) 1).intOf) ((nthV (rowOf (st.regs (.loc 2))) 2).intOf) ((nthV (rowOf (st.regs (.loc 2))) 3).intOf) ((nthV (rowOf (st.regs (.loc 4))) 0).intOf) ((nthV (rowOf (st.regs (.loc 4))) 1).intOf) ((nthV (rowOf (st.regs (.loc 4))) 2).intOf) ((nthV (rowOf (st.regs (.loc 4))) 3).intOf) R κ else none) (fun st0 h0 => ?_) ?_
    · obtain ⟨hs, h0⟩ := cond_some h0
      rw [canon (ls := f36_l1_ls) (rs := f36_l1_rs) (by kernel_rfl) st0 hs]
      exact ih _ _ _ _ _ _ _ _ _ _ _ R κ r h0
    · refine Eq.trans ?_ h
      kernel_rfl

def f36_s1 (v44 : List V) (v45 : Int) (v46 : Int) (r20 : Int) (r21 : Int) (r22 : Int) (r23 : Int) (out0 : Int) (out1 : Int) (out2 : Int) (out3 : Int) (R : Type) (κ : Ex → St → Option R) : Option R :=
  κ (.ex 2) (mkS [(2, .ptrB (.loc 2) 0), (3, .bad), (4, .ptrB (.loc 4) 0)] [(.loc 2, some ⟨true, [.sc (.int .i64 r20), .sc (.int .i64 r21), .sc (.int .i64 r22), .sc (.int .i64 r23)]⟩), (.loc 4, some ⟨true, [.sc (.int .i64 out0), .sc (.int .i64 out1), .sc (.int .i64 out2), .sc (.int .i64 ((maxS v44 : Nat) : Int))]⟩)])
theorem f36_loop1 (l : List V) (hl : l.all V.isStr = true) (hn : l.length ≤ 1000000000) (r20 r21 r22 r23 out0 out1 out2 : Int) (R : Type) (κ : Ex → St → Option R) : ∀ (k i m : Nat), i + k = l.length →
    f36_l1 (k + 1) l ((l.length : Nat) : Int) ((i : Nat) : Int) r20 r21 r22 r23 out0 out1 out2 ((m : Nat) : Int) R κ = κ (.ex 2) (mkS [(2, .ptrB (.loc 2) 0), (3, .bad), (4, .ptrB (.loc 4) 0)] [(.loc 2, some ⟨true, [.sc (.int .i64 r20), .sc (.int .i64 r21), .sc (.int .i64 r22), .sc (.int .i64 r23)]⟩), (.loc 4, some ⟨true, [.sc (.int .i64 out0), .sc (.int .i64 out1), .sc (.int .i64 out2), .sc (.int .i64 ((max m (maxS (l.drop i)) : Nat) : Int))]⟩)])
  | 0, i, m, h => by
    rw [f36_l1, dec_false (by omega), List.drop_of_length_le (by omega), maxS, Nat.max_zero]
    rfl
  | k + 1, i, m, h => by
    have hi : i < l.length := by omega
    have i1 : V.isStr l[i] = true := List.all_eq_true.1 hl _ (List.getElem_mem hi)
    have hm : (bif (decide (((l[i].strOf.size : Nat) : Int) > ((m : Nat) : Int))) then ((l[i].strOf.size : Nat) : Int) else ((m : Nat) : Int)) = ((max m l[i].strOf.size : Nat) : Int) := by
      by_cases hg : ((l[i].strOf.size : Nat) : Int) > ((m : Nat) : Int)
      · rw [dec_true hg, cond_true]; omega
      · rw [dec_false hg, cond_false]; omega
    rw [List.drop_eq_getElem_cons hi, maxS, f36_l1, dec_true (show ((i : Nat) : Int) < ((l.length : Nat) : Int) by omega), dec_true (show (0 : Int) ≤ ((i : Nat) : Int) by omega), nth_at hi, i1, wrap_succ (by omega), hm, f36_loop1 l hl hn r20 r21 r22 r23 out0 out1 out2 R κ k (i + 1) _ (by omega), Nat.max_assoc]
    rfl
theorem f36_s1_eq (v44 : List V) (v45 : Int) (v46 : Int) (r20 : Int) (r21 : Int) (r22 : Int) (r23 : Int) (out0 : Int) (out1 : Int) (out2 : Int) (out3 : Int) (hp : ((v45 == ((v44.length : Nat) : Int)) && (v46 == 0) && (out3 == 0) && v44.all V.isStr && decide (v44.length ≤ 1000000000)) = true) : ∃ n, ∀ (R : Type) (κ : Ex → St → Option R), f36_l1 n v44 v45 v46 r20 r21 r22 r23 out0 out1 out2 out3 R κ = f36_s1 v44 v45 v46 r20 r21 r22 r23 out0 out1 out2 out3 R κ := by
  simp only [Bool.and_eq_true, decide_eq_true_eq, beq_iff_eq] at hp
  obtain ⟨⟨⟨⟨rfl, rfl⟩, rfl⟩, h4⟩, h5⟩ := hp
  refine ⟨v44.length + 1, fun R κ => ?_⟩
  have := f36_loop1 v44 h4 h5 r20 r21 r22 r23 out0 out1 out2 R κ v44.length 0 0 (by omega)
  rw [Nat.zero_max] at this
  exact this
def t_f36_l1 (st : St) (R : Type) (κ : Ex → St → Option R) : Option R := bif ckS f36_l1_ls f36_l1_rs st then (bif ((((st.env 45).intOf) == ((((st.env 44).cellsOf).length : Nat) : Int)) && (((st.env 46).intOf) == 0) && (((nthV (rowOf (st.regs (.loc 4))) 3).intOf) == 0) && ((st.env 44).cellsOf).all V.isStr && decide (((st.env 44).cellsOf).length ≤ 1000000000)) then f36_s1 ((st.env 44).cellsOf) ((st.env 45).intOf) ((st.env 46).intOf) ((nthV (rowOf (st.regs (.loc 2))) 0).intOf) ((nthV (rowOf (st.regs (.loc 2))) 1).intOf) ((nthV (rowOf (st.regs (.loc 2))) 2).intOf) ((nthV (rowOf (st.regs (.loc 2))) 3).intOf) ((nthV (rowOf (st.regs (.loc 4))) 0).intOf) ((nthV (rowOf (st.regs (.loc 4))) 1).intOf) ((nthV (rowOf (st.regs (.loc 4))) 2).intOf) ((nthV (rowOf (st.regs (.loc 4))) 3).intOf) R κ else none) else none
theorem t_f36_l1_ok : ∀ st0 R κ r, t_f36_l1 (forget C 36 [0, 1, 0, 1, 1, 1, 1] st0) R κ = some r → ∃ ee ss, κ ee ss = some r ∧ RunP C prim 36 [0, 1, 0, 1, 1, 1, 1] (forget C 36 [0, 1, 0, 1, 1, 1, 1] st0) ee ss := by
  intro st0 R κ r h
  obtain ⟨hs, h⟩ := cond_some h
  obtain ⟨hp, h⟩ := cond_some h
  rw [canon (ls := f36_l1_ls) (rs := f36_l1_rs) (by kernel_rfl) st0 hs]
  obtain ⟨n, hn⟩ := f36_s1_eq _ _ _ _ _ _ _ _ _ _ _ hp
  rw [← hn] at h
  exact f36_l1_ok n _ _ _ _ _ _ _ _ _ _ _ R κ r h

def K_f36 : CallK := kCons 54 k54 <| kCons 73 k73 <| kNil
theorem K_f36_ok : KOK C prim K_f36 := KOK.cons k54_ok <| KOK.cons k73_ok <| KOK.nil
def T_f36 : Tab := tCons [0, 1, 0, 1, 1, 1] t_f36_l0 <| tCons [0, 1, 0, 1, 1, 1, 1] t_f36_l1 <| tNil
theorem T_f36_ok : TOK C prim 36 T_f36 := TOK.cons t_f36_l0_ok <| TOK.cons t_f36_l1_ok <| TOK.nil
def f36 (text : ByteArray) : Option (V × List Rg) :=
  bif (decide (((text.size : Nat) : Int) > 65536)) then
    some (.tp [.ag [.sc (.int .i64 0), .sc (.int .i64 0), .sc (.int .i64 0), .sc (.int .i64 0)], .sc (.int .i64 2)], [])
  else
    bif ((((text.size : Nat) : Int) == ((text.size : Nat) : Int)) && ((0 : Int) == 0) && ((0 : Int) == 0) && decide (text.size ≤ 1000000000)) then
      bif ((decide (text.size ≤ 1000000000)) && true) then
        bif ((((((linesV text)).length : Nat) : Int) == (((linesV text).length : Nat) : Int)) && ((0 : Int) == 0) && ((0 : Int) == 0) && (linesV text).all V.isStr && decide ((linesV text).length ≤ 1000000000)) then
          some (.tp [.ag [.sc (.int .i64 (cntB text (⟨#[10]⟩ : ByteArray))), .sc (.int .i64 ((wordsL true text.data.toList : Nat) : Int)), .sc (.int .i64 ((text.size : Nat) : Int)), .sc (.int .i64 ((maxS (linesV text) : Nat) : Int))], .sc (.int .i64 0)], [])
        else none
      else none
    else none
theorem f36_run (text : ByteArray) (z9 : V × List Rg) (h : f36 text = some z9) : CallR C prim 36 [.sc (.string text)] [] z9 := by
  refine call_fn (K := K_f36) (T := T_f36) K_f36_ok T_f36_ok (by kernel_rfl) ?_
  refine Eq.trans ?_ h
  kernel_rfl

theorem f36_eq (text : ByteArray) : f36 text = some (.tp [.ag [.sc (.int .i64 (bif decide (((text.size : Nat) : Int) > 65536) then 0 else cntN text)), .sc (.int .i64 (bif decide (((text.size : Nat) : Int) > 65536) then 0 else ((wordsL true text.data.toList : Nat) : Int))), .sc (.int .i64 (bif decide (((text.size : Nat) : Int) > 65536) then 0 else ((text.size : Nat) : Int))), .sc (.int .i64 (bif decide (((text.size : Nat) : Int) > 65536) then 0 else ((maxS (linesV text) : Nat) : Int)))], .sc (.int .i64 (bif decide (((text.size : Nat) : Int) > 65536) then (2 : Int) else 0))], []) := by
  unfold f36
  cases h : decide (((text.size : Nat) : Int) > 65536) with
  | true => rfl
  | false =>
    have hs : text.size ≤ 65536 := by rw [decide_eq_false_iff_not] at h; omega
    have hl := linesV_len text
    rw [dec_true (show text.size ≤ 1000000000 by omega), linesV_str, dec_true (show (linesV text).length ≤ 1000000000 by omega), cntB_nl]
    simp only [beq_self_eq_true, Bool.and_self, cond_true, cond_false]
    rfl
def k36 : PrimT := fun vs gs => match vs, gs with
  | [.sc (.string text)], [] => (true, .tp [.ag [.sc (.int .i64 (bif decide (((text.size : Nat) : Int) > 65536) then 0 else cntN text)), .sc (.int .i64 (bif decide (((text.size : Nat) : Int) > 65536) then 0 else ((wordsL true text.data.toList : Nat) : Int))), .sc (.int .i64 (bif decide (((text.size : Nat) : Int) > 65536) then 0 else ((text.size : Nat) : Int))), .sc (.int .i64 (bif decide (((text.size : Nat) : Int) > 65536) then 0 else ((maxS (linesV text) : Nat) : Int)))], .sc (.int .i64 (bif decide (((text.size : Nat) : Int) > 65536) then (2 : Int) else 0))], [])
  | _, _ => (false, .bad, [])
theorem k36_ok : ∀ vs gs x, k36 vs gs = (true, x) → CallR C prim 36 vs gs x := by
  intro vs gs x h
  unfold k36 at h
  split at h
  · simp only [Prod.mk.injEq, true_and] at h
    subst h
    exact f36_run _ _ (f36_eq _)
  · cases h

def K_f37_l0 : CallK := kNil
theorem K_f37_l0_ok : KOK C prim K_f37_l0 := KOK.nil
def T_f37_l0 : Tab := tNil
theorem T_f37_l0_ok : TOK C prim 37 T_f37_l0 := TOK.nil
def f37_l0 : Nat → ByteArray → Bool → Int → Int → Int → Int → Int → Int → Int → Int → Int → Int → Int → (R : Type) → (Ex → St → Option R) → Option R
  | 0, _, _, _, _, _, _, _, _, _, _, _, _, _, _, _ => none
  | n + 1, text, space, long, v13, v14, r20, r21, r22, r23, c0, c1, c2, c3, R, κ =>
    bif (decide (v14 < v13)) then
      bif (((decide ((0 : Int) ≤ v14)) && (decide (v14 < ((text.size : Nat) : Int)))) && true) then
        bif (decide (((text.data.getD (v14).toNat 0).toNat : Int) ≥ 9)) then
          bif (decide (((text.data.getD (v14).toNat 0).toNat : Int) ≤ 13)) then
            bif space then
              bif (((text.data.getD (v14).toNat 0).toNat : Int) == 10) then
                bif (decide ((0 : Int) > c3)) then
                  f37_l0 n text true (0 : Int) v13 (IntKind.wrap .i64 (v14 + 1)) r20 r21 r22 r23 (IntKind.wrap .i64 (c0 + 1)) c1 c2 (0 : Int) R κ
                else
                  f37_l0 n text true (0 : Int) v13 (IntKind.wrap .i64 (v14 + 1)) r20 r21 r22 r23 (IntKind.wrap .i64 (c0 + 1)) c1 c2 c3 R κ
              else
                bif (decide ((IntKind.wrap .i64 (long + 1)) > c3)) then
                  f37_l0 n text true (IntKind.wrap .i64 (long + 1)) v13 (IntKind.wrap .i64 (v14 + 1)) r20 r21 r22 r23 c0 c1 c2 (IntKind.wrap .i64 (long + 1)) R κ
                else
                  f37_l0 n text true (IntKind.wrap .i64 (long + 1)) v13 (IntKind.wrap .i64 (v14 + 1)) r20 r21 r22 r23 c0 c1 c2 c3 R κ
            else
              bif (((text.data.getD (v14).toNat 0).toNat : Int) == 10) then
                bif (decide ((0 : Int) > c3)) then
                  f37_l0 n text true (0 : Int) v13 (IntKind.wrap .i64 (v14 + 1)) r20 r21 r22 r23 (IntKind.wrap .i64 (c0 + 1)) c1 c2 (0 : Int) R κ
                else
                  f37_l0 n text true (0 : Int) v13 (IntKind.wrap .i64 (v14 + 1)) r20 r21 r22 r23 (IntKind.wrap .i64 (c0 + 1)) c1 c2 c3 R κ
              else
                bif (decide ((IntKind.wrap .i64 (long + 1)) > c3)) then
                  f37_l0 n text true (IntKind.wrap .i64 (long + 1)) v13 (IntKind.wrap .i64 (v14 + 1)) r20 r21 r22 r23 c0 c1 c2 (IntKind.wrap .i64 (long + 1)) R κ
                else
                  f37_l0 n text true (IntKind.wrap .i64 (long + 1)) v13 (IntKind.wrap .i64 (v14 + 1)) r20 r21 r22 r23 c0 c1 c2 c3 R κ
          else
            bif space then
              bif (!(((text.data.getD (v14).toNat 0).toNat : Int) == 32)) then
                bif (((text.data.getD (v14).toNat 0).toNat : Int) == 10) then
                  bif (decide ((0 : Int) > c3)) then
                    f37_l0 n text (((text.data.getD (v14).toNat 0).toNat : Int) == 32) (0 : Int) v13 (IntKind.wrap .i64 (v14 + 1)) r20 r21 r22 r23 (IntKind.wrap .i64 (c0 + 1)) (IntKind.wrap .i64 (c1 + 1)) c2 (0 : Int) R κ
                  else
                    f37_l0 n text (((text.data.getD (v14).toNat 0).toNat : Int) == 32) (0 : Int) v13 (IntKind.wrap .i64 (v14 + 1)) r20 r21 r22 r23 (IntKind.wrap .i64 (c0 + 1)) (IntKind.wrap .i64 (c1 + 1)) c2 c3 R κ
                else
                  bif (decide ((IntKind.wrap .i64 (long + 1)) > c3)) then
                    f37_l0 n text (((text.data.getD (v14).toNat 0).toNat : Int) == 32) (IntKind.wrap .i64 (long + 1)) v13 (IntKind.wrap .i64 (v14 + 1)) r20 r21 r22 r23 c0 (IntKind.wrap .i64 (c1 + 1)) c2 (IntKind.wrap .i64 (long + 1)) R κ
                  else
                    f37_l0 n text (((text.data.getD (v14).toNat 0).toNat : Int) == 32) (IntKind.wrap .i64 (long + 1)) v13 (IntKind.wrap .i64 (v14 + 1)) r20 r21 r22 r23 c0 (IntKind.wrap .i64 (c1 + 1)) c2 c3 R κ
              else
                bif (((text.data.getD (v14).toNat 0).toNat : Int) == 10) then
                  bif (decide ((0 : Int) > c3)) then
                    f37_l0 n text (((text.data.getD (v14).toNat 0).toNat : Int) == 32) (0 : Int) v13 (IntKind.wrap .i64 (v14 + 1)) r20 r21 r22 r23 (IntKind.wrap .i64 (c0 + 1)) c1 c2 (0 : Int) R κ
                  else
                    f37_l0 n text (((text.data.getD (v14).toNat 0).toNat : Int) == 32) (0 : Int) v13 (IntKind.wrap .i64 (v14 + 1)) r20 r21 r22 r23 (IntKind.wrap .i64 (c0 + 1)) c1 c2 c3 R κ
                else
                  bif (decide ((IntKind.wrap .i64 (long + 1)) > c3)) then
                    f37_l0 n text (((text.data.getD (v14).toNat 0).toNat : Int) == 32) (IntKind.wrap .i64 (long + 1)) v13 (IntKind.wrap .i64 (v14 + 1)) r20 r21 r22 r23 c0 c1 c2 (IntKind.wrap .i64 (long + 1)) R κ
                  else
                    f37_l0 n text (((text.data.getD (v14).toNat 0).toNat : Int) == 32) (IntKind.wrap .i64 (long + 1)) v13 (IntKind.wrap .i64 (v14 + 1)) r20 r21 r22 r23 c0 c1 c2 c3 R κ
            else
              bif (((text.data.getD (v14).toNat 0).toNat : Int) == 10) then
                bif (decide ((0 : Int) > c3)) then
                  f37_l0 n text (((text.data.getD (v14).toNat 0).toNat : Int) == 32) (0 : Int) v13 (IntKind.wrap .i64 (v14 + 1)) r20 r21 r22 r23 (IntKind.wrap .i64 (c0 + 1)) c1 c2 (0 : Int) R κ
                else
                  f37_l0 n text (((text.data.getD (v14).toNat 0).toNat : Int) == 32) (0 : Int) v13 (IntKind.wrap .i64 (v14 + 1)) r20 r21 r22 r23 (IntKind.wrap .i64 (c0 + 1)) c1 c2 c3 R κ
              else
                bif (decide ((IntKind.wrap .i64 (long + 1)) > c3)) then
                  f37_l0 n text (((text.data.getD (v14).toNat 0).toNat : Int) == 32) (IntKind.wrap .i64 (long + 1)) v13 (IntKind.wrap .i64 (v14 + 1)) r20 r21 r22 r23 c0 c1 c2 (IntKind.wrap .i64 (long + 1)) R κ
                else
                  f37_l0 n text (((text.data.getD (v14).toNat 0).toNat : Int) == 32) (IntKind.wrap .i64 (long + 1)) v13 (IntKind.wrap .i64 (v14 + 1)) r20 r21 r22 r23 c0 c1 c2 c3 R κ
        else
          bif space then
            bif (!(((text.data.getD (v14).toNat 0).toNat : Int) == 32)) then
              bif (((text.data.getD (v14).toNat 0).toNat : Int) == 10) then
                bif (decide ((0 : Int) > c3)) then
                  f37_l0 n text (((text.data.getD (v14).toNat 0).toNat : Int) == 32) (0 : Int) v13 (IntKind.wrap .i64 (v14 + 1)) r20 r21 r22 r23 (IntKind.wrap .i64 (c0 + 1)) (IntKind.wrap .i64 (c1 + 1)) c2 (0 : Int) R κ
                else
                  f37_l0 n text (((text.data.getD (v14).toNat 0).toNat : Int) == 32) (0 : Int) v13 (IntKind.wrap .i64 (v14 + 1)) r20 r21 r22 r23 (IntKind.wrap .i64 (c0 + 1)) (IntKind.wrap .i64 (c1 + 1)) c2 c3 R κ
              else
                bif (decide ((IntKind.wrap .i64 (long + 1)) > c3)) then
                  f37_l0 n text (((text.data.getD (v14).toNat 0).toNat : Int) == 32) (IntKind.wrap .i64 (long + 1)) v13 (IntKind.wrap .i64 (v14 + 1)) r20 r21 r22 r23 c0 (IntKind.wrap .i64 (c1 + 1)) c2 (IntKind.wrap .i64 (long + 1)) R κ
                else
                  f37_l0 n text (((text.data.getD (v14).toNat 0).toNat : Int) == 32) (IntKind.wrap .i64 (long + 1)) v13 (IntKind.wrap .i64 (v14 + 1)) r20 r21 r22 r23 c0 (IntKind.wrap .i64 (c1 + 1)) c2 c3 R κ
            else
              bif (((text.data.getD (v14).toNat 0).toNat : Int) == 10) then
                bif (decide ((0 : Int) > c3)) then
                  f37_l0 n text (((text.data.getD (v14).toNat 0).toNat : Int) == 32) (0 : Int) v13 (IntKind.wrap .i64 (v14 + 1)) r20 r21 r22 r23 (IntKind.wrap .i64 (c0 + 1)) c1 c2 (0 : Int) R κ
                else
                  f37_l0 n text (((text.data.getD (v14).toNat 0).toNat : Int) == 32) (0 : Int) v13 (IntKind.wrap .i64 (v14 + 1)) r20 r21 r22 r23 (IntKind.wrap .i64 (c0 + 1)) c1 c2 c3 R κ
              else
                bif (decide ((IntKind.wrap .i64 (long + 1)) > c3)) then
                  f37_l0 n text (((text.data.getD (v14).toNat 0).toNat : Int) == 32) (IntKind.wrap .i64 (long + 1)) v13 (IntKind.wrap .i64 (v14 + 1)) r20 r21 r22 r23 c0 c1 c2 (IntKind.wrap .i64 (long + 1)) R κ
                else
                  f37_l0 n text (((text.data.getD (v14).toNat 0).toNat : Int) == 32) (IntKind.wrap .i64 (long + 1)) v13 (IntKind.wrap .i64 (v14 + 1)) r20 r21 r22 r23 c0 c1 c2 c3 R κ
          else
            bif (((text.data.getD (v14).toNat 0).toNat : Int) == 10) then
              bif (decide ((0 : Int) > c3)) then
                f37_l0 n text (((text.data.getD (v14).toNat 0).toNat : Int) == 32) (0 : Int) v13 (IntKind.wrap .i64 (v14 + 1)) r20 r21 r22 r23 (IntKind.wrap .i64 (c0 + 1)) c1 c2 (0 : Int) R κ
              else
                f37_l0 n text (((text.data.getD (v14).toNat 0).toNat : Int) == 32) (0 : Int) v13 (IntKind.wrap .i64 (v14 + 1)) r20 r21 r22 r23 (IntKind.wrap .i64 (c0 + 1)) c1 c2 c3 R κ
            else
              bif (decide ((IntKind.wrap .i64 (long + 1)) > c3)) then
                f37_l0 n text (((text.data.getD (v14).toNat 0).toNat : Int) == 32) (IntKind.wrap .i64 (long + 1)) v13 (IntKind.wrap .i64 (v14 + 1)) r20 r21 r22 r23 c0 c1 c2 (IntKind.wrap .i64 (long + 1)) R κ
              else
                f37_l0 n text (((text.data.getD (v14).toNat 0).toNat : Int) == 32) (IntKind.wrap .i64 (long + 1)) v13 (IntKind.wrap .i64 (v14 + 1)) r20 r21 r22 r23 c0 c1 c2 c3 R κ
      else none
    else
      κ (.ex 0) (mkS [(2, .ptrB (.loc 2) 0), (3, .ptrB (.loc 3) 0)] [(.loc 2, some ⟨true, [.sc (.int .i64 r20), .sc (.int .i64 r21), .sc (.int .i64 r22), .sc (.int .i64 r23)]⟩), (.loc 3, some ⟨true, [.sc (.int .i64 c0), .sc (.int .i64 c1), .sc (.int .i64 c2), .sc (.int .i64 c3)]⟩)])
def f37_l0_ls : List (Nat × Pat) := [(0, .s), (2, .is (.ptrB (.loc 2) 0)), (3, .is (.ptrB (.loc 3) 0)), (4, .b), (5, .i .i64), (13, .i .i64), (14, .i .i64)]
def f37_l0_rs : List RPat := [⟨.loc 2, true, [.i .i64, .i .i64, .i .i64, .i .i64]⟩, ⟨.loc 3, true, [.i .i64, .i .i64, .i .i64, .i .i64]⟩]
theorem f37_l0_ok (n : Nat) : ∀ (text : ByteArray) (space : Bool) (long : Int) (v13 : Int) (v14 : Int) (r20 : Int) (r21 : Int) (r22 : Int) (r23 : Int) (c0 : Int) (c1 : Int) (c2 : Int) (c3 : Int) (R : Type) (κ : Ex → St → Option R) (r : R), f37_l0 n text space long v13 v14 r20 r21 r22 r23 c0 c1 c2 c3 R κ = some r → ∃ ee ss, κ ee ss = some r ∧ RunP C prim 37 [0, 1, 0, 1, 1, 1, 1] (mkS [(0, .sc (.string text)), (2, .ptrB (.loc 2) 0), (3, .ptrB (.loc 3) 0), (4, .sc (.bool space)), (5, .sc (.int .i64 long)), (13, .sc (.int .i64 v13)), (14, .sc (.int .i64 v14))] [(.loc 2, some ⟨true, [.sc (.int .i64 r20), .sc (.int .i64 r21), .sc (.int .i64 r22), .sc (.int .i64 r23)]⟩), (.loc 3, some ⟨true, [.sc (.int .i64 c0), .sc (.int .i64 c1), .sc (.int .i64 c2), .sc (.int .i64 c3)]⟩)]) ee ss := by
  induction n with
  | zero => intro text space long v13 v14 r20 r21 r22 r23 c0 c1 c2 c3 R κ r h; cases h
  | succ n ih =>
    intro text space long v13 v14 r20 r21 r22 r23 c0 c1 c2 c3 R κ r h
    refine loop_round (K := K_f37_l0) (T := T_f37_l0) K_f37_l0_ok T_f37_l0_ok (p := [0, 1, 0, 1, 1, 1, 1]) (by kernel_rfl) (fun st => bif ckS f37_l0_ls f37_l0_rs st then f37_l0 n ((st.env 0).strOf) ((st.env 4).boolOf) ((st.env 5).intOf) ((st.env 13).intOf) ((st.env 14).intOf) ((nthV (rowOf (st.regs (.loc 2))) 0).intOf) ((nthV (rowOf (st.regs (.loc 2))) 1).intOf) ((nthV (rowOf (st.regs (.loc 2))) 2).intOf) ((nthV (rowOf (st.regs (.loc 2))) 3).intOf) ((nthV (rowOf (st.regs (.loc 3))) 0).intOf) ((nthV (rowOf (st.regs (.loc 3))) 1).intOf) ((nthV (rowOf (st.regs (.loc 3))) 2).intOf) ((nthV (rowOf (st.regs (.loc 3))) 3).intOf) R κ else none) (fun st0 h0 => ?_) ?_
    · obtain ⟨hs, h0⟩ := cond_some h0
      rw [canon (ls := f37_l0_ls) (rs := f37_l0_rs) (by kernel_rfl) st0 hs]
      exact ih _ _ _ _ _ _ _ _ _ _ _ _ _ R κ r h0
    · refine Eq.trans ?_ h
      kernel_rfl

def f37_s0 (text : ByteArray) (space : Bool) (long : Int) (v13 : Int) (v14 : Int) (r20 : Int) (r21 : Int) (r22 : Int) (r23 : Int) (c0 : Int) (c1 : Int) (c2 : Int) (c3 : Int) (R : Type) (κ : Ex → St → Option R) : Option R :=
  κ (.ex 0) (mkS [(2, .ptrB (.loc 2) 0), (3, .ptrB (.loc 3) 0)] [(.loc 2, some ⟨true, [.sc (.int .i64 r20), .sc (.int .i64 r21), .sc (.int .i64 r22), .sc (.int .i64 r23)]⟩), (.loc 3, some ⟨true, [.sc (.int .i64 (cntN text)), .sc (.int .i64 ((wordsL true text.data.toList : Nat) : Int)), .sc (.int .i64 c2), .sc (.int .i64 ((longL 0 text.data.toList : Nat) : Int))]⟩)])
theorem f37_step (n : Nat) (text : ByteArray) (space : Bool) (long v13 v14 r20 r21 r22 r23 c0 c1 c2 c3 x : Int) (hx : (((text.data.getD (v14).toNat 0).toNat : Nat) : Int) = x) (R : Type) (κ : Ex → St → Option R) :
    f37_l0 (n + 1) text space long v13 v14 r20 r21 r22 r23 c0 c1 c2 c3 R κ = bif (decide (v14 < v13)) then
      bif (((decide ((0 : Int) ≤ v14)) && (decide (v14 < ((text.size : Nat) : Int)))) && true) then
        f37_l0 n text (spaceI x) (bif x == 10 then 0 else IntKind.wrap .i64 (long + 1)) v13 (IntKind.wrap .i64 (v14 + 1)) r20 r21 r22 r23 (bif x == 10 then IntKind.wrap .i64 (c0 + 1) else c0) (bif space && !spaceI x then IntKind.wrap .i64 (c1 + 1) else c1) c2
          (bif decide ((bif x == 10 then 0 else IntKind.wrap .i64 (long + 1)) > c3) then (bif x == 10 then 0 else IntKind.wrap .i64 (long + 1)) else c3) R κ
      else none
    else κ (.ex 0) (mkS [(2, .ptrB (.loc 2) 0), (3, .ptrB (.loc 3) 0)] [(.loc 2, some ⟨true, [.sc (.int .i64 r20), .sc (.int .i64 r21), .sc (.int .i64 r22), .sc (.int .i64 r23)]⟩), (.loc 3, some ⟨true, [.sc (.int .i64 c0), .sc (.int .i64 c1), .sc (.int .i64 c2), .sc (.int .i64 c3)]⟩)]) := by
  rw [f37_l0, hx]
  unfold spaceI
  cases decide (x ≥ 9) <;> cases decide (x ≤ 13) <;> cases x == 32 <;> cases x == 10 <;> cases space <;>
    simp only [Bool.and_self, Bool.and_true, Bool.and_false, Bool.true_and, Bool.false_and, Bool.or_true, Bool.or_false, Bool.true_or, Bool.or_self, Bool.not_true, Bool.not_false, cond_true, cond_false] <;>
    first | (cases decide ((0 : Int) > c3) <;> rfl) | (cases decide (IntKind.wrap .i64 (long + 1) > c3) <;> rfl)
theorem f37_loop (text : ByteArray) (hs : text.size ≤ 1000000000) (r20 r21 r22 r23 c2 : Int) (R : Type) (κ : Ex → St → Option R) : ∀ (k i : Nat) (sp : Bool) (lg a b m : Nat), i + k = text.size → lg ≤ i → a ≤ i → b ≤ i →
    f37_l0 (k + 1) text sp ((lg : Nat) : Int) ((text.size : Nat) : Int) ((i : Nat) : Int) r20 r21 r22 r23 ((a : Nat) : Int) ((b : Nat) : Int) c2 ((m : Nat) : Int) R κ = κ (.ex 0) (mkS [(2, .ptrB (.loc 2) 0), (3, .ptrB (.loc 3) 0)] [(.loc 2, some ⟨true, [.sc (.int .i64 r20), .sc (.int .i64 r21), .sc (.int .i64 r22), .sc (.int .i64 r23)]⟩), (.loc 3, some ⟨true, [.sc (.int .i64 ((a + Lib.countByte (text.data.toList.drop i) 10 : Nat) : Int)), .sc (.int .i64 ((b + wordsL sp (text.data.toList.drop i) : Nat) : Int)), .sc (.int .i64 c2), .sc (.int .i64 ((max m (longL lg (text.data.toList.drop i)) : Nat) : Int))]⟩)])
  | 0, i, sp, lg, a, b, m, h, h1, h2, h3 => by
    have hl := bl_size text
    rw [f37_l0, dec_false (by omega), List.drop_of_length_le (by omega), wordsL, longL, Nat.max_zero]
    rfl
  | k + 1, i, sp, lg, a, b, m, h, h1, h2, h3 => by
    have hl := bl_size text
    have hlt : i < text.data.toList.length := by omega
    have hx : (((text.data.getD (((i : Nat) : Int)).toNat 0).toNat : Nat) : Int) = (((text.data.toList[i]).toNat : Nat) : Int) := by rw [Int.toNat_natCast, getD_list' text i hlt]
    rw [f37_step _ _ _ _ _ _ _ _ _ _ _ _ _ _ _ hx, dec_true (show ((i : Nat) : Int) < ((text.size : Nat) : Int) by omega), dec_true (show (0 : Int) ≤ ((i : Nat) : Int) by omega), wrap_succ (k := i) (by omega), wrap_succ (k := lg) (by omega), wrap_succ (k := a) (by omega), wrap_succ (k := b) (by omega), ten_eq, List.drop_eq_getElem_cons hlt, wordsL, longL]
    have hc : Lib.countByte (text.data.toList[i] :: text.data.toList.drop (i + 1)) 10 = (bif text.data.toList[i] == 10 then 1 else 0) + Lib.countByte (text.data.toList.drop (i + 1)) 10 := by
      unfold Lib.countByte
      rw [List.count_cons]
      cases text.data.toList[i] == 10 <;> simp <;> omega
    rw [hc]
    have hb : (bif sp && !spaceI (((text.data.toList[i]).toNat : Nat) : Int) then ((b + 1 : Nat) : Int) else ((b : Nat) : Int)) = ((b + (bif sp && !spaceU text.data.toList[i] then 1 else 0) : Nat) : Int) := by
      show (bif sp && !spaceU text.data.toList[i] then ((b + 1 : Nat) : Int) else ((b : Nat) : Int)) = _
      cases sp && !spaceU text.data.toList[i] <;> rfl
    have hbl : b + (bif sp && !spaceU text.data.toList[i] then 1 else 0) ≤ i + 1 := by cases sp && !spaceU text.data.toList[i] <;> simp <;> omega
    rw [hb]
    simp only [Bool.and_self, cond_true]
    have IH := fun lg a m h1 h2 => f37_loop text hs r20 r21 r22 r23 c2 R κ k (i + 1) (spaceU text.data.toList[i]) lg a _ m (by omega) h1 h2 hbl
    cases text.data.toList[i] == 10 with
    | true =>
      have hm : (bif decide ((0 : Int) > ((m : Nat) : Int)) then (0 : Int) else ((m : Nat) : Int)) = ((m : Nat) : Int) := by rw [dec_false (by omega)]; rfl
      simp only [cond_true]
      rw [hm]
      refine (IH 0 (a + 1) m (by omega) (by omega)).trans ?_
      rw [Nat.add_assoc, Nat.add_assoc]
    | false =>
      have hm : (bif decide (((lg + 1 : Nat) : Int) > ((m : Nat) : Int)) then ((lg + 1 : Nat) : Int) else ((m : Nat) : Int)) = ((max m (lg + 1) : Nat) : Int) := by
        by_cases hg : ((lg + 1 : Nat) : Int) > ((m : Nat) : Int)
        · rw [dec_true hg, cond_true]; omega
        · rw [dec_false hg, cond_false]; omega
      simp only [cond_false]
      rw [hm]
      refine (IH (lg + 1) a (max m (lg + 1)) (by omega) (by omega)).trans ?_
      rw [Nat.add_assoc, Nat.zero_add, Nat.max_assoc]
theorem f37_s0_eq (text : ByteArray) (space : Bool) (long : Int) (v13 : Int) (v14 : Int) (r20 : Int) (r21 : Int) (r22 : Int) (r23 : Int) (c0 : Int) (c1 : Int) (c2 : Int) (c3 : Int) (hp : ((v13 == ((text.size : Nat) : Int)) && (v14 == 0) && (space == true) && (long == 0) && (c0 == 0) && (c1 == 0) && (c3 == 0) && decide (text.size ≤ 1000000000)) = true) : ∃ n, ∀ (R : Type) (κ : Ex → St → Option R), f37_l0 n text space long v13 v14 r20 r21 r22 r23 c0 c1 c2 c3 R κ = f37_s0 text space long v13 v14 r20 r21 r22 r23 c0 c1 c2 c3 R κ := by
  simp only [Bool.and_eq_true, decide_eq_true_eq, beq_iff_eq] at hp
  obtain ⟨⟨⟨⟨⟨⟨⟨rfl, rfl⟩, rfl⟩, rfl⟩, rfl⟩, rfl⟩, rfl⟩, h8⟩ := hp
  refine ⟨text.size + 1, fun R κ => ?_⟩
  have := f37_loop text h8 r20 r21 r22 r23 c2 R κ text.size 0 true 0 0 0 0 (by omega) (Nat.le_refl _) (Nat.le_refl _) (Nat.le_refl _)
  rw [Nat.zero_add, Nat.zero_add, Nat.zero_max, List.drop_zero] at this
  have e : cntN text = ((Lib.countByte text.data.toList 10 : Nat) : Int) := by unfold cntN headP; rw [head_len]
  rw [f37_s0, e]
  exact this
def t_f37_l0 (st : St) (R : Type) (κ : Ex → St → Option R) : Option R := bif ckS f37_l0_ls f37_l0_rs st then (bif ((((st.env 13).intOf) == ((((st.env 0).strOf).size : Nat) : Int)) && (((st.env 14).intOf) == 0) && (((st.env 4).boolOf) == true) && (((st.env 5).intOf) == 0) && (((nthV (rowOf (st.regs (.loc 3))) 0).intOf) == 0) && (((nthV (rowOf (st.regs (.loc 3))) 1).intOf) == 0) && (((nthV (rowOf (st.regs (.loc 3))) 3).intOf) == 0) && decide (((st.env 0).strOf).size ≤ 1000000000)) then f37_s0 ((st.env 0).strOf) ((st.env 4).boolOf) ((st.env 5).intOf) ((st.env 13).intOf) ((st.env 14).intOf) ((nthV (rowOf (st.regs (.loc 2))) 0).intOf) ((nthV (rowOf (st.regs (.loc 2))) 1).intOf) ((nthV (rowOf (st.regs (.loc 2))) 2).intOf) ((nthV (rowOf (st.regs (.loc 2))) 3).intOf) ((nthV (rowOf (st.regs (.loc 3))) 0).intOf) ((nthV (rowOf (st.regs (.loc 3))) 1).intOf) ((nthV (rowOf (st.regs (.loc 3))) 2).intOf) ((nthV (rowOf (st.regs (.loc 3))) 3).intOf) R κ else none) else none
theorem t_f37_l0_ok : ∀ st0 R κ r, t_f37_l0 (forget C 37 [0, 1, 0, 1, 1, 1, 1] st0) R κ = some r → ∃ ee ss, κ ee ss = some r ∧ RunP C prim 37 [0, 1, 0, 1, 1, 1, 1] (forget C 37 [0, 1, 0, 1, 1, 1, 1] st0) ee ss := by
  intro st0 R κ r h
  obtain ⟨hs, h⟩ := cond_some h
  obtain ⟨hp, h⟩ := cond_some h
  rw [canon (ls := f37_l0_ls) (rs := f37_l0_rs) (by kernel_rfl) st0 hs]
  obtain ⟨n, hn⟩ := f37_s0_eq _ _ _ _ _ _ _ _ _ _ _ _ _ hp
  rw [← hn] at h
  exact f37_l0_ok n _ _ _ _ _ _ _ _ _ _ _ _ _ R κ r h

def K_f37 : CallK := kNil
theorem K_f37_ok : KOK C prim K_f37 := KOK.nil
def T_f37 : Tab := tCons [0, 1, 0, 1, 1, 1, 1] t_f37_l0 <| tNil
theorem T_f37_ok : TOK C prim 37 T_f37 := TOK.cons t_f37_l0_ok <| TOK.nil
def f37 (text : ByteArray) : Option (V × List Rg) :=
  bif ((((text.size : Nat) : Int) == ((text.size : Nat) : Int)) && ((0 : Int) == 0) && (true == true) && ((0 : Int) == 0) && ((0 : Int) == 0) && ((0 : Int) == 0) && ((0 : Int) == 0) && decide (text.size ≤ 1000000000)) then
    some (.ag [.sc (.int .i64 (cntN text)), .sc (.int .i64 ((wordsL true text.data.toList : Nat) : Int)), .sc (.int .i64 ((text.size : Nat) : Int)), .sc (.int .i64 ((longL 0 text.data.toList : Nat) : Int))], [])
  else none
theorem f37_run (text : ByteArray) (z9 : V × List Rg) (h : f37 text = some z9) : CallR C prim 37 [.sc (.string text)] [] z9 := by
  refine call_fn (K := K_f37) (T := T_f37) K_f37_ok T_f37_ok (by kernel_rfl) ?_
  refine Eq.trans ?_ h
  kernel_rfl

theorem f37_eq (text : ByteArray) (hp : (decide (text.size ≤ 1000000000)) = true) : f37 text = some (.ag [.sc (.int .i64 (cntN text)), .sc (.int .i64 ((wordsL true text.data.toList : Nat) : Int)), .sc (.int .i64 ((text.size : Nat) : Int)), .sc (.int .i64 ((longL 0 text.data.toList : Nat) : Int))], []) := by
  unfold f37
  rw [hp, beq_self_eq_true]
  rfl
def k37 : PrimT := fun vs gs => match vs, gs with
  | [.sc (.string text)], [] => ((decide (text.size ≤ 1000000000)), .ag [.sc (.int .i64 (cntN text)), .sc (.int .i64 ((wordsL true text.data.toList : Nat) : Int)), .sc (.int .i64 ((text.size : Nat) : Int)), .sc (.int .i64 ((longL 0 text.data.toList : Nat) : Int))], [])
  | _, _ => (false, .bad, [])
theorem k37_ok : ∀ vs gs x, k37 vs gs = (true, x) → CallR C prim 37 vs gs x := by
  intro vs gs x h
  unfold k37 at h
  split at h
  · simp only [Prod.mk.injEq] at h
    obtain ⟨hp, rfl⟩ := h
    exact f37_run _ _ (f37_eq _ hp)
  · cases h

def K_f38_l0 : CallK := kNil
theorem K_f38_l0_ok : KOK C prim K_f38_l0 := KOK.nil
def T_f38_l0 : Tab := tNil
theorem T_f38_l0_ok : TOK C prim 38 T_f38_l0 := TOK.nil
def f38_l0 : Nat → Int → Int → Int → Bool → Int → ByteArray → List V → (R : Type) → (Ex → St → Option R) → Option R
  | 0, _, _, _, _, _, _, _, _, _ => none
  | n + 1, v10, v11, o0, o1, o2, text, begins, R, κ =>
    bif (decide (v11 < v10)) then
      bif o1 then
        bif (((roomy ((begins.length + 1) * 8)) && (roomy (begins.length + 1))) && true) then
          f38_l0 n v10 (IntKind.wrap .i64 (v11 + 1)) o0 o1 o2 text (begins ++ [.sc (.int .i64 v11)]) R κ
        else none
      else
        bif (v11 == 0) then
          bif (((roomy ((begins.length + 1) * 8)) && (roomy (begins.length + 1))) && true) then
            f38_l0 n v10 (IntKind.wrap .i64 (v11 + 1)) o0 o1 o2 text (begins ++ [.sc (.int .i64 v11)]) R κ
          else none
        else
          bif (((decide ((0 : Int) ≤ (IntKind.wrap .i64 (v11 - 1)))) && (decide ((IntKind.wrap .i64 (v11 - 1)) < ((text.size : Nat) : Int)))) && true) then
            bif (((text.data.getD ((IntKind.wrap .i64 (v11 - 1))).toNat 0).toNat : Int) == 10) then
              bif (((roomy ((begins.length + 1) * 8)) && (roomy (begins.length + 1))) && true) then
                f38_l0 n v10 (IntKind.wrap .i64 (v11 + 1)) o0 o1 o2 text (begins ++ [.sc (.int .i64 v11)]) R κ
              else none
            else
              f38_l0 n v10 (IntKind.wrap .i64 (v11 + 1)) o0 o1 o2 text begins R κ
          else none
    else
      κ (.ex 0) (mkS [(2, .ptrB (.loc 2) 0), (3, .ptrB (.loc 3) 0), (4, .bad), (5, .ptrB (.loc 5) 0)] [(.loc 2, some ⟨true, [.sc (.int .i64 o0), .sc (.bool o1), .sc (.int .i64 o2)]⟩), (.loc 3, some ⟨true, [.sc (.string text)]⟩), (.loc 5, some ⟨true, [.own 3 false begins]⟩)])
def f38_l0_ls : List (Nat × Pat) := [(2, .is (.ptrB (.loc 2) 0)), (3, .is (.ptrB (.loc 3) 0)), (5, .is (.ptrB (.loc 5) 0)), (10, .i .i64), (11, .i .i64)]
def f38_l0_rs : List RPat := [⟨.loc 2, true, [.i .i64, .b, .i .i64]⟩, ⟨.loc 3, true, [.s]⟩, ⟨.loc 5, true, [.own 3 false]⟩]
theorem f38_l0_ok (n : Nat) : ∀ (v10 : Int) (v11 : Int) (o0 : Int) (o1 : Bool) (o2 : Int) (text : ByteArray) (begins : List V) (R : Type) (κ : Ex → St → Option R) (r : R), f38_l0 n v10 v11 o0 o1 o2 text begins R κ = some r → ∃ ee ss, κ ee ss = some r ∧ RunP C prim 38 [0, 1, 0, 1, 1] (mkS [(2, .ptrB (.loc 2) 0), (3, .ptrB (.loc 3) 0), (5, .ptrB (.loc 5) 0), (10, .sc (.int .i64 v10)), (11, .sc (.int .i64 v11))] [(.loc 2, some ⟨true, [.sc (.int .i64 o0), .sc (.bool o1), .sc (.int .i64 o2)]⟩), (.loc 3, some ⟨true, [.sc (.string text)]⟩), (.loc 5, some ⟨true, [.own 3 false begins]⟩)]) ee ss := by
  induction n with
  | zero => intro v10 v11 o0 o1 o2 text begins R κ r h; cases h
  | succ n ih =>
    intro v10 v11 o0 o1 o2 text begins R κ r h
    refine loop_round (K := K_f38_l0) (T := T_f38_l0) K_f38_l0_ok T_f38_l0_ok (p := [0, 1, 0, 1, 1]) (by kernel_rfl) (fun st => bif ckS f38_l0_ls f38_l0_rs st then f38_l0 n ((st.env 10).intOf) ((st.env 11).intOf) ((nthV (rowOf (st.regs (.loc 2))) 0).intOf) ((nthV (rowOf (st.regs (.loc 2))) 1).boolOf) ((nthV (rowOf (st.regs (.loc 2))) 2).intOf) ((nthV (rowOf (st.regs (.loc 3))) 0).strOf) ((nthV (rowOf (st.regs (.loc 5))) 0).cellsOf) R κ else none) (fun st0 h0 => ?_) ?_
    · obtain ⟨hs, h0⟩ := cond_some h0
      rw [canon (ls := f38_l0_ls) (rs := f38_l0_rs) (by kernel_rfl) st0 hs]
      exact ih _ _ _ _ _ _ _ R κ r h0
    · refine Eq.trans ?_ h
      kernel_rfl

def f38_s0 (v10 : Int) (v11 : Int) (o0 : Int) (o1 : Bool) (o2 : Int) (text : ByteArray) (begins : List V) (R : Type) (κ : Ex → St → Option R) : Option R :=
  κ (.ex 0) (mkS [(2, .ptrB (.loc 2) 0), (3, .ptrB (.loc 3) 0), (4, .bad), (5, .ptrB (.loc 5) 0)] [(.loc 2, some ⟨true, [.sc (.int .i64 o0), .sc (.bool o1), .sc (.int .i64 o2)]⟩), (.loc 3, some ⟨true, [.sc (.string text)]⟩), (.loc 5, some ⟨true, [.own 3 false (begV text o1)]⟩)])
def firstAt (s : ByteArray) : Nat → Bool
  | 0 => true
  | j + 1 => s.data.getD j 0 == 10
theorem f38_loop (text : ByteArray) (al : Bool) (o0 o2 : Int) (hs : text.size ≤ 1000000000) (R : Type) (κ : Ex → St → Option R) : ∀ (k i : Nat) (bg : List V), i + k = text.size → bg.length ≤ i →
    f38_l0 (k + 1) ((text.size : Nat) : Int) ((i : Nat) : Int) o0 al o2 text bg R κ = κ (.ex 0) (mkS [(2, .ptrB (.loc 2) 0), (3, .ptrB (.loc 3) 0), (4, .bad), (5, .ptrB (.loc 5) 0)] [(.loc 2, some ⟨true, [.sc (.int .i64 o0), .sc (.bool al), .sc (.int .i64 o2)]⟩), (.loc 3, some ⟨true, [.sc (.string text)]⟩), (.loc 5, some ⟨true, [.own 3 false (bg ++ begL al (firstAt text i) i (text.data.toList.drop i))]⟩)])
  | 0, i, bg, h, hb => by
    have hl := bl_size text
    rw [f38_l0, dec_false (by omega), List.drop_of_length_le (by omega), begL, List.append_nil]
    rfl
  | k + 1, i, bg, h, hb => by
    have hl := bl_size text
    have hlt : i < text.data.toList.length := by omega
    have r1 : roomy ((bg.length + 1) * 8) = true := dec_true (by omega)
    have r2 : roomy (bg.length + 1) = true := dec_true (by omega)
    have IH1 := f38_loop text al o0 o2 hs R κ k (i + 1) (bg ++ [.sc (.int .i64 ((i : Nat) : Int))]) (by omega) (by simp; omega)
    have IH0 := f38_loop text al o0 o2 hs R κ k (i + 1) bg (by omega) (by omega)
    have e : firstAt text (i + 1) = (text.data.toList[i] == 10) := by show (text.data.getD i 0 == 10) = _; rw [getD_list' text i hlt]
    rw [e] at IH1 IH0
    rw [List.drop_eq_getElem_cons hlt, begL, f38_l0, dec_true (show ((i : Nat) : Int) < ((text.size : Nat) : Int) by omega), r1, r2, wrap_succ (by omega)]
    cases al with
    | true => simpa using IH1
    | false =>
      cases i with
      | zero => simpa [firstAt] using IH1
      | succ j =>
        have hw : IntKind.wrap .i64 (((j + 1 : Nat) : Int) - 1) = ((j : Nat) : Int) := by rw [wrap_id (by omega) (by omega)]; omega
        have hz : ((((j + 1 : Nat) : Int)) == 0) = false := beq_eq_false_iff_ne.2 (by omega)
        have ef : firstAt text (j + 1) = (text.data.getD j 0 == 10) := rfl
        rw [hw, hz, dec_true (show (0 : Int) ≤ ((j : Nat) : Int) by omega), dec_true (show ((j : Nat) : Int) < ((text.size : Nat) : Int) by omega), Int.toNat_natCast, ten_eq, ef]
        cases text.data.getD j 0 == 10 with
        | true => simpa using IH1
        | false => simpa using IH0
theorem f38_s0_eq (v10 : Int) (v11 : Int) (o0 : Int) (o1 : Bool) (o2 : Int) (text : ByteArray) (begins : List V) (hp : ((v10 == ((text.size : Nat) : Int)) && (v11 == 0) && (begins.length == 0) && decide (text.size ≤ 1000000000)) = true) : ∃ n, ∀ (R : Type) (κ : Ex → St → Option R), f38_l0 n v10 v11 o0 o1 o2 text begins R κ = f38_s0 v10 v11 o0 o1 o2 text begins R κ := by
  simp only [Bool.and_eq_true, decide_eq_true_eq, beq_iff_eq] at hp
  obtain ⟨⟨⟨rfl, rfl⟩, h3⟩, h4⟩ := hp
  obtain rfl : begins = [] := List.eq_nil_of_length_eq_zero h3
  refine ⟨text.size + 1, fun R κ => ?_⟩
  exact f38_loop text o1 o0 o2 h4 R κ text.size 0 [] (by omega) (Nat.le_refl _)
def t_f38_l0 (st : St) (R : Type) (κ : Ex → St → Option R) : Option R := bif ckS f38_l0_ls f38_l0_rs st then (bif ((((st.env 10).intOf) == ((((nthV (rowOf (st.regs (.loc 3))) 0).strOf).size : Nat) : Int)) && (((st.env 11).intOf) == 0) && (((nthV (rowOf (st.regs (.loc 5))) 0).cellsOf).length == 0) && decide (((nthV (rowOf (st.regs (.loc 3))) 0).strOf).size ≤ 1000000000)) then f38_s0 ((st.env 10).intOf) ((st.env 11).intOf) ((nthV (rowOf (st.regs (.loc 2))) 0).intOf) ((nthV (rowOf (st.regs (.loc 2))) 1).boolOf) ((nthV (rowOf (st.regs (.loc 2))) 2).intOf) ((nthV (rowOf (st.regs (.loc 3))) 0).strOf) ((nthV (rowOf (st.regs (.loc 5))) 0).cellsOf) R κ else none) else none
theorem t_f38_l0_ok : ∀ st0 R κ r, t_f38_l0 (forget C 38 [0, 1, 0, 1, 1] st0) R κ = some r → ∃ ee ss, κ ee ss = some r ∧ RunP C prim 38 [0, 1, 0, 1, 1] (forget C 38 [0, 1, 0, 1, 1] st0) ee ss := by
  intro st0 R κ r h
  obtain ⟨hs, h⟩ := cond_some h
  obtain ⟨hp, h⟩ := cond_some h
  rw [canon (ls := f38_l0_ls) (rs := f38_l0_rs) (by kernel_rfl) st0 hs]
  obtain ⟨n, hn⟩ := f38_s0_eq _ _ _ _ _ _ _ hp
  rw [← hn] at h
  exact f38_l0_ok n _ _ _ _ _ _ _ R κ r h

def K_f38 : CallK := kCons 75 k75 <| kNil
theorem K_f38_ok : KOK C prim K_f38 := KOK.cons k75_ok <| KOK.nil
def T_f38 : Tab := tCons [0, 1, 0, 1, 1] t_f38_l0 <| tNil
theorem T_f38_ok : TOK C prim 38 T_f38 := TOK.cons t_f38_l0_ok <| TOK.nil
def f38 (o0 : Int) (o1 : Bool) (o2 : Int) (text : ByteArray) : Option (V × List Rg) :=
  bif ((((text.size : Nat) : Int) == ((text.size : Nat) : Int)) && ((0 : Int) == 0) && (([] : List V).length == 0) && decide (text.size ≤ 1000000000)) then
    bif (o0 == 1) then
      bif (((((((begV text o1)).length : Nat) : Int) == (((begV text o1).length : Nat) : Int)) && (begV text o1).all (V.isInt .i64)) && true) then
        bif ((((decide ((0 : Int) ≤ (placeI (begV text o1) text o2))) && (decide ((placeI (begV text o1) text o2) ≤ ((text.size : Nat) : Int)))) && true) && true) then
          some (.sc (.string (text.extract 0 ((placeI (begV text o1) text o2)).toNat)), [])
        else none
      else none
    else
      bif (o0 == 2) then
        bif (((((((begV text o1)).length : Nat) : Int) == (((begV text o1).length : Nat) : Int)) && (begV text o1).all (V.isInt .i64)) && true) then
          bif ((((decide ((0 : Int) ≤ (placeI (begV text o1) text (IntKind.wrap .i64 (((((begV text o1)).length : Nat) : Int) - o2))))) && (decide ((placeI (begV text o1) text (IntKind.wrap .i64 (((((begV text o1)).length : Nat) : Int) - o2))) ≤ ((text.size : Nat) : Int)))) && true) && true) then
            some (.sc (.string (text.extract 0 ((placeI (begV text o1) text (IntKind.wrap .i64 (((((begV text o1)).length : Nat) : Int) - o2)))).toNat)), [])
          else none
        else none
      else
        bif (o0 == 3) then
          bif (((((((begV text o1)).length : Nat) : Int) == (((begV text o1).length : Nat) : Int)) && (begV text o1).all (V.isInt .i64)) && true) then
            bif ((((decide ((0 : Int) ≤ (placeI (begV text o1) text (IntKind.wrap .i64 (((((begV text o1)).length : Nat) : Int) - o2))))) && (decide ((placeI (begV text o1) text (IntKind.wrap .i64 (((((begV text o1)).length : Nat) : Int) - o2))) ≤ ((text.size : Nat) : Int)))) && true) && true) then
              some (.sc (.string (text.extract ((placeI (begV text o1) text (IntKind.wrap .i64 (((((begV text o1)).length : Nat) : Int) - o2)))).toNat (((text.size : Nat) : Int)).toNat)), [])
            else none
          else none
        else
          bif (((((((begV text o1)).length : Nat) : Int) == (((begV text o1).length : Nat) : Int)) && (begV text o1).all (V.isInt .i64)) && true) then
            bif ((((decide ((0 : Int) ≤ (placeI (begV text o1) text (IntKind.wrap .i64 (o2 - 1))))) && (decide ((placeI (begV text o1) text (IntKind.wrap .i64 (o2 - 1))) ≤ ((text.size : Nat) : Int)))) && true) && true) then
              some (.sc (.string (text.extract ((placeI (begV text o1) text (IntKind.wrap .i64 (o2 - 1)))).toNat (((text.size : Nat) : Int)).toNat)), [])
            else none
          else none
  else none
theorem f38_run (o0 : Int) (o1 : Bool) (o2 : Int) (text : ByteArray) (z9 : V × List Rg) (h : f38 o0 o1 o2 text = some z9) : CallR C prim 38 [.ag [.sc (.int .i64 o0), .sc (.bool o1), .sc (.int .i64 o2)], .sc (.string text)] [] z9 := by
  refine call_fn (K := K_f38) (T := T_f38) K_f38_ok T_f38_ok (by kernel_rfl) ?_
  refine Eq.trans ?_ h
  kernel_rfl

theorem ahead_clip (s : ByteArray) (al : Bool) (k : Nat) : ahead s al (min (many s al) k) = ahead s al k := by
  rcases Nat.le_total (many s al) k with h | h
  · rw [Nat.min_eq_left h, ahead_all (Nat.le_refl _), ahead_all h]
  · rw [Nat.min_eq_right h]
theorem ahead_zero (s : ByteArray) (al : Bool) : ahead s al 0 = 0 := by
  unfold ahead
  cases al
  · rfl
  · exact Nat.zero_min _
theorem f38_eq (o0 : Int) (o1 : Bool) (o2 : Int) (text : ByteArray) (hp : (decide (o0 ≥ 1) && decide (o0 ≤ 4) && decide (o2 ≥ 0) && decide (o2 ≤ 65536) && decide (text.size ≤ 65536) && decide ((unitsV text).length ≤ 1000000)) = true) : f38 o0 o1 o2 text = some (.sc (.string (partsB text o0 o1 o2)), []) := by
  simp only [Bool.and_eq_true, decide_eq_true_eq] at hp
  obtain ⟨⟨⟨⟨⟨k1, k2⟩, n1⟩, n2⟩, s1⟩, s2⟩ := hp
  have hm : ((many text o1 : Nat) : Int) ≤ 1000000 := by
    unfold many
    cases o1
    · simp only [cond_false]; omega
    · simp only [cond_true]; omega
  have hb := part_bounds (k := o0) (n := o2) (size := ((many text o1 : Nat) : Int)) k1 k2 n1 n2 (by omega) hm
  rw [partsB_eq text o1 k1 k2 n1 n2 hm]
  have am : ahead text o1 (many text o1) = text.size := ahead_all (Nat.le_refl _)
  have ale : ∀ j, ahead text o1 j ≤ text.size := fun j => (ahead_mono text o1 (Nat.le_refl j)).2
  unfold f38
  simp only [begV_len, place_eq]
  simp only [beq_self_eq_true]
  rw [begV_int, dec_true (show text.size ≤ 1000000000 by omega), wrap_id (n := ((many text o1 : Nat) : Int) - o2) (by omega) (by omega), wrap_id (n := o2 - 1) (by omega) (by omega)]
  have d0 : ∀ j, decide ((0 : Int) ≤ ((ahead text o1 j : Nat) : Int)) = true := fun j => dec_true (by omega)
  have d1 : ∀ j, decide (((ahead text o1 j : Nat) : Int) ≤ ((text.size : Nat) : Int)) = true := fun j => dec_true (by have := ale j; omega)
  simp only [d0, d1]
  unfold partF partT
  rw [wrap_id (n := ((many text o1 : Nat) : Int) - o2) (by omega) (by omega), wrap_id (n := o2 - 1) (by omega) (by omega)]
  have z : ahead text o1 (0 : Int).toNat = 0 := ahead_zero text o1
  have t1 : ahead text o1 (((many text o1 : Nat) : Int)).toNat = text.size := by rw [Int.toNat_natCast, am]
  have t2 : ahead text o1 (minI ((many text o1 : Nat) : Int) o2).toNat = ahead text o1 (max0 o2).toNat := by
    rw [minI_eq, max0_eq, ← ahead_clip text o1 (max 0 o2).toNat]
    congr 1
    omega
  have t3 : ahead text o1 (minI ((many text o1 : Nat) : Int) (max0 (o2 - 1))).toNat = ahead text o1 (max0 (o2 - 1)).toNat := by
    rw [minI_eq, max0_eq, ← ahead_clip text o1 (max 0 (o2 - 1)).toNat]
    congr 1
    omega
  obtain rfl | rfl | rfl | rfl : o0 = 1 ∨ o0 = 2 ∨ o0 = 3 ∨ o0 = 4 := by omega
  · simp only [show ((1 : Int) == 1) = true from rfl, cond_true, z, t2, Int.toNat_natCast]; rfl
  · simp only [show ((2 : Int) == 1) = false from rfl, show ((2 : Int) == 2) = true from rfl, cond_true, cond_false, z, Int.toNat_natCast]; rfl
  · simp only [show ((3 : Int) == 1) = false from rfl, show ((3 : Int) == 2) = false from rfl, show ((3 : Int) == 3) = true from rfl, cond_true, cond_false, am, Int.toNat_natCast]; rfl
  · simp only [show ((4 : Int) == 1) = false from rfl, show ((4 : Int) == 2) = false from rfl, show ((4 : Int) == 3) = false from rfl, cond_true, cond_false, am, t3, Int.toNat_natCast]; rfl
def k38 : PrimT := fun vs gs => match vs, gs with
  | [.ag [.sc (.int .i64 o0), .sc (.bool o1), .sc (.int .i64 o2)], .sc (.string text)], [] => ((decide (o0 ≥ 1) && decide (o0 ≤ 4) && decide (o2 ≥ 0) && decide (o2 ≤ 65536) && decide (text.size ≤ 65536) && decide ((unitsV text).length ≤ 1000000)), .sc (.string (partsB text o0 o1 o2)), [])
  | _, _ => (false, .bad, [])
theorem k38_ok : ∀ vs gs x, k38 vs gs = (true, x) → CallR C prim 38 vs gs x := by
  intro vs gs x h
  unfold k38 at h
  split at h
  · simp only [Prod.mk.injEq] at h
    obtain ⟨hp, rfl⟩ := h
    exact f38_run _ _ _ _ _ (f38_eq _ _ _ _ hp)
  · cases h

def K_f35 : CallK := kCons 40 k40 <| kCons 55 k55 <| kCons 68 k68 <| kCons 71 k71 <| kCons 72 k72 <| kNil
theorem K_f35_ok : KOK C prim K_f35 := KOK.cons k40_ok <| KOK.cons k55_ok <| KOK.cons k68_ok <| KOK.cons k71_ok <| KOK.cons k72_ok <| KOK.nil
def T_f35 : Tab := tNil
theorem T_f35_ok : TOK C prim 35 T_f35 := TOK.nil
def f35 (o0 : Int) (o1 : Bool) (o2 : Int) (text : ByteArray) : Option (V × List Rg) :=
  bif (!(decide (o0 ≥ (1 : Int)) && decide (o0 ≤ (4 : Int)))) then
    some (.tp [.sc (.string ⟨#[]⟩), .sc (.int .i64 4)], [])
  else
    bif (!(decide (o2 ≥ (0 : Int)) && decide (o2 ≤ (65536 : Int)))) then
      some (.tp [.sc (.string ⟨#[]⟩), .sc (.int .i64 3)], [])
    else
      bif ((decide (text.size ≤ 1000000000)) && true) then
        bif (largeB text) then
          some (.tp [.sc (.string ⟨#[]⟩), .sc (.int .i64 2)], [])
        else
          bif o1 then
            bif (((((decide ((0 : Int) ≤ (partF o0 o2 ((text.size : Nat) : Int)))) && (decide ((partF o0 o2 ((text.size : Nat) : Int)) ≤ (partT o0 o2 ((text.size : Nat) : Int))))) && (decide ((partT o0 o2 ((text.size : Nat) : Int)) ≤ ((text.size : Nat) : Int)))) && true) && true) then
              some (.tp [.sc (.string (text.extract ((partF o0 o2 ((text.size : Nat) : Int))).toNat ((partT o0 o2 ((text.size : Nat) : Int))).toNat)), .sc (.int .i64 0)], [])
            else none
          else
            bif ((decide (text.size ≤ 1000000000)) && true) then
              bif ((((((decide ((0 : Int) ≤ (partF o0 o2 ((((unitsV text)).length : Nat) : Int)))) && (decide ((partF o0 o2 ((((unitsV text)).length : Nat) : Int)) ≤ (partT o0 o2 ((((unitsV text)).length : Nat) : Int))))) && (decide ((partT o0 o2 ((((unitsV text)).length : Nat) : Int)) ≤ ((((unitsV text)).length : Nat) : Int)))) && true) && true) && true) then
                bif ((decide (((((unitsV text).drop (((partF o0 o2 ((((unitsV text)).length : Nat) : Int))).toNat * 1)).take ((((partT o0 o2 ((((unitsV text)).length : Nat) : Int))).toNat - ((partF o0 o2 ((((unitsV text)).length : Nat) : Int))).toNat) * 1))).length ≤ 140737488355328) && decide ((joinB (((unitsV text).drop (((partF o0 o2 ((((unitsV text)).length : Nat) : Int))).toNat * 1)).take ((((partT o0 o2 ((((unitsV text)).length : Nat) : Int))).toNat - ((partF o0 o2 ((((unitsV text)).length : Nat) : Int))).toNat) * 1)) (⟨#[]⟩ : ByteArray)).size ≤ 140737488355328) && (((unitsV text).drop (((partF o0 o2 ((((unitsV text)).length : Nat) : Int))).toNat * 1)).take ((((partT o0 o2 ((((unitsV text)).length : Nat) : Int))).toNat - ((partF o0 o2 ((((unitsV text)).length : Nat) : Int))).toNat) * 1)).all V.isStr) && true) then
                  some (.tp [.sc (.string (joinB (((unitsV text).drop (((partF o0 o2 ((((unitsV text)).length : Nat) : Int))).toNat * 1)).take ((((partT o0 o2 ((((unitsV text)).length : Nat) : Int))).toNat - ((partF o0 o2 ((((unitsV text)).length : Nat) : Int))).toNat) * 1)) (⟨#[]⟩ : ByteArray))), .sc (.int .i64 0)], [])
                else none
              else none
            else none
      else none
theorem f35_run (o0 : Int) (o1 : Bool) (o2 : Int) (text : ByteArray) (z9 : V × List Rg) (h : f35 o0 o1 o2 text = some z9) : CallR C prim 35 [.ag [.sc (.int .i64 o0), .sc (.bool o1), .sc (.int .i64 o2)], .sc (.string text)] [] z9 := by
  refine call_fn (K := K_f35) (T := T_f35) K_f35_ok T_f35_ok (by kernel_rfl) ?_
  refine Eq.trans ?_ h
  kernel_rfl

theorem units_str (s : ByteArray) : (unitsV s).all V.isStr = true := by
  unfold unitsV
  rw [List.all_map, List.all_eq_true]
  intro _ _
  rfl
theorem units_len (s : ByteArray) : (unitsV s).length ≤ s.size + 1 := by
  have h1 := headN_len s.data.toList []
  have h2 := headP_le s
  rw [unitsV_eq]
  unfold headP at h2
  cases (lastP s).size == 0
  · simp only [cond_false, List.length_append, List.length_cons, List.length_nil]; unfold headN; omega
  · simp only [cond_true]; unfold headN; omega
theorem ext_le (s : ByteArray) (a b : Nat) : (s.extract a b).size ≤ s.size := by
  rw [bl_size, bl_extract, List.length_drop, List.length_take, bl_size s]; omega
theorem f35_eq (o0 : Int) (o1 : Bool) (o2 : Int) (text : ByteArray) (hp : (decide (text.size ≤ 10000000)) = true) : f35 o0 o1 o2 text = some (.tp [.sc (.string (partS text o0 o1 o2)), .sc (.int .i64 (partE text o0 o2))], []) := by
  simp only [decide_eq_true_eq] at hp
  unfold f35 partS partE
  by_cases k0 : ¬ (o0 ≥ 1 ∧ o0 ≤ 4)
  · have : (decide (o0 ≥ (1 : Int)) && decide (o0 ≤ (4 : Int))) = false := by
      rw [Bool.and_eq_false_iff, decide_eq_false_iff_not, decide_eq_false_iff_not]; omega
    rw [this]; rfl
  have k0 := Decidable.not_not.1 k0
  by_cases n0 : ¬ (o2 ≥ 0 ∧ o2 ≤ 65536)
  · have : (decide (o2 ≥ (0 : Int)) && decide (o2 ≤ (65536 : Int))) = false := by
      rw [Bool.and_eq_false_iff, decide_eq_false_iff_not, decide_eq_false_iff_not]; omega
    rw [this, dec_true k0.1, dec_true k0.2]; rfl
  have n0 := Decidable.not_not.1 n0
  rw [dec_true k0.1, dec_true k0.2, dec_true n0.1, dec_true n0.2, dec_true (show text.size ≤ 1000000000 by omega)]
  cases hl : largeB text with
  | true => rfl
  | false =>
  obtain ⟨l1, l2⟩ := large_no hl
  have hu := units_len text
  have hm : ((many text o1 : Nat) : Int) ≤ 1000000 := by
    unfold many
    cases o1
    · simp only [cond_false]; omega
    · simp only [cond_true]; omega
  have hb := part_bounds (k := o0) (n := o2) (size := ((many text o1 : Nat) : Int)) k0.1 k0.2 n0.1 n0.2 (by omega) hm
  have hj := partsB_eq text o1 k0.1 k0.2 n0.1 n0.2 hm
  cases o1 with
  | true =>
    have e : many text true = text.size := rfl
    rw [e] at hb
    rw [dec_true hb.1, dec_true hb.2.1, dec_true hb.2.2]
    rfl
  | false =>
    have e : many text false = (unitsV text).length := rfl
    rw [e] at hb
    unfold partsB at hj
    simp only [cond_false] at hj
    rw [dec_true hb.1, dec_true hb.2.1, dec_true hb.2.2, Nat.mul_one, Nat.mul_one, hj, dec_true (show (((unitsV text).drop (partF o0 o2 (((unitsV text).length : Nat) : Int)).toNat).take ((partT o0 o2 (((unitsV text).length : Nat) : Int)).toNat - (partF o0 o2 (((unitsV text).length : Nat) : Int)).toNat)).length ≤ 140737488355328 by rw [List.length_take, List.length_drop]; omega), dec_true (show (text.extract (ahead text false (partF o0 o2 ((many text false : Nat) : Int)).toNat) (ahead text false (partT o0 o2 ((many text false : Nat) : Int)).toNat)).size ≤ 140737488355328 by have := ext_le text (ahead text false (partF o0 o2 ((many text false : Nat) : Int)).toNat) (ahead text false (partT o0 o2 ((many text false : Nat) : Int)).toNat); omega)]
    have ha : (((unitsV text).drop (partF o0 o2 (((unitsV text).length : Nat) : Int)).toNat).take ((partT o0 o2 (((unitsV text).length : Nat) : Int)).toNat - (partF o0 o2 (((unitsV text).length : Nat) : Int)).toNat)).all V.isStr = true := by
      rw [List.all_eq_true]
      intro x hx
      exact List.all_eq_true.1 (units_str text) x (List.mem_of_mem_drop (List.mem_of_mem_take hx))
    rw [ha]
    unfold partsB
    simp only [cond_false, hj]
    rfl
def k35 : PrimT := fun vs gs => match vs, gs with
  | [.ag [.sc (.int .i64 o0), .sc (.bool o1), .sc (.int .i64 o2)], .sc (.string text)], [] => ((decide (text.size ≤ 10000000)), .tp [.sc (.string (partS text o0 o1 o2)), .sc (.int .i64 (partE text o0 o2))], [])
  | _, _ => (false, .bad, [])
theorem k35_ok : ∀ vs gs x, k35 vs gs = (true, x) → CallR C prim 35 vs gs x := by
  intro vs gs x h
  unfold k35 at h
  split at h
  · simp only [Prod.mk.injEq] at h
    obtain ⟨hp, rfl⟩ := h
    exact f35_run _ _ _ _ _ (f35_eq _ _ _ _ hp)
  · cases h

def K_f8 : CallK := kCons 12 k12 <| kCons 14 k14 <| kCons 16 k16 <| kCons 23 k23 <| kCons 24 k24 <| kCons 25 k25 <| kCons 35 k35 <| kCons 36 k36 <| kCons 37 k37 <| kCons 38 k38 <| kNil
theorem K_f8_ok : KOK C prim K_f8 := KOK.cons k12_ok <| KOK.cons k14_ok <| KOK.cons k16_ok <| KOK.cons k23_ok <| KOK.cons k24_ok <| KOK.cons k25_ok <| KOK.cons k35_ok <| KOK.cons k36_ok <| KOK.cons k37_ok <| KOK.cons k38_ok <| KOK.nil
def T_f8 : Tab := tNil
theorem T_f8_ok : TOK C prim 8 T_f8 := TOK.nil
def f8 (o0 : Int) (o1 : Bool) (o2 : Int) (s : ByteArray) : Option (V × List Rg) :=
  bif ((decide (s.size ≤ 10000000)) && true) then
    bif ((([.sc (.string s)] : List V).all shortS && decide (([.sc (.string s)] : List V).length ≤ 1000000000)) && true) then
      bif ((([.sc (.int .i64 (bif (!(decide (o0 ≥ (1 : Int)) && decide (o0 ≤ (4 : Int)))) then (4 : Int) else 0)), .sc (.int .i64 (bif (!(decide (o2 ≥ (0 : Int)) && decide (o2 ≤ (65536 : Int)))) then (3 : Int) else 0)), .sc (.int .i64 (bif ([.sc (.string s)] : List V).any largeV then (2 : Int) else 0))] : List V).all (V.isInt .i64) && decide (([.sc (.int .i64 (bif (!(decide (o0 ≥ (1 : Int)) && decide (o0 ≤ (4 : Int)))) then (4 : Int) else 0)), .sc (.int .i64 (bif (!(decide (o2 ≥ (0 : Int)) && decide (o2 ≤ (65536 : Int)))) then (3 : Int) else 0)), .sc (.int .i64 (bif ([.sc (.string s)] : List V).any largeV then (2 : Int) else 0))] : List V).length ≤ 1000000000)) && true) then
        bif (decide (((s.size : Nat) : Int) > 65536)) then
          bif ((bif decide (((s.size : Nat) : Int) > 65536) then (2 : Int) else 0) != 2) then
            some (.sc (.bool false), [])
          else
            bif (!(((bif decide (((s.size : Nat) : Int) > 65536) then 0 else cntN s) == 0) && (((bif decide (((s.size : Nat) : Int) > 65536) then 0 else ((wordsL true s.data.toList : Nat) : Int)) == 0) && (((bif decide (((s.size : Nat) : Int) > 65536) then 0 else ((s.size : Nat) : Int)) == 0) && (((bif decide (((s.size : Nat) : Int) > 65536) then 0 else ((maxS (linesV s) : Nat) : Int)) == 0) && true))))) then
              some (.sc (.bool false), [])
            else
              bif ((firstBy V.intOf ([.sc (.int .i64 (bif (!(decide (o0 ≥ (1 : Int)) && decide (o0 ≤ (4 : Int)))) then (4 : Int) else 0)), .sc (.int .i64 (bif (!(decide (o2 ≥ (0 : Int)) && decide (o2 ≤ (65536 : Int)))) then (3 : Int) else 0)), .sc (.int .i64 (bif ([.sc (.string s)] : List V).any largeV then (2 : Int) else 0))] : List V)) != 0) then
                some (.sc (.bool (outc (partS s o0 o1 o2) (partE s o0 o2) (⟨#[]⟩ : ByteArray) (firstBy V.intOf ([.sc (.int .i64 (bif (!(decide (o0 ≥ (1 : Int)) && decide (o0 ≤ (4 : Int)))) then (4 : Int) else 0)), .sc (.int .i64 (bif (!(decide (o2 ≥ (0 : Int)) && decide (o2 ≤ (65536 : Int)))) then (3 : Int) else 0)), .sc (.int .i64 (bif ([.sc (.string s)] : List V).any largeV then (2 : Int) else 0))] : List V)))), [])
              else
                bif ((decide (o0 ≥ 1) && decide (o0 ≤ 4) && decide (o2 ≥ 0) && decide (o2 ≤ 65536) && decide (s.size ≤ 65536) && decide ((unitsV s).length ≤ 1000000)) && true) then
                  some (.sc (.bool (outc (partS s o0 o1 o2) (partE s o0 o2) (partsB s o0 o1 o2) (0 : Int))), [])
                else none
        else
          bif ((bif decide (((s.size : Nat) : Int) > 65536) then (2 : Int) else 0) != 0) then
            some (.sc (.bool false), [])
          else
            bif ((decide (s.size ≤ 1000000000)) && true) then
              bif (!(((bif decide (((s.size : Nat) : Int) > 65536) then 0 else cntN s) == (cntN s)) && (((bif decide (((s.size : Nat) : Int) > 65536) then 0 else ((wordsL true s.data.toList : Nat) : Int)) == ((wordsL true s.data.toList : Nat) : Int)) && (((bif decide (((s.size : Nat) : Int) > 65536) then 0 else ((s.size : Nat) : Int)) == ((s.size : Nat) : Int)) && (((bif decide (((s.size : Nat) : Int) > 65536) then 0 else ((maxS (linesV s) : Nat) : Int)) == ((longL 0 s.data.toList : Nat) : Int)) && true))))) then
                some (.sc (.bool false), [])
              else
                bif ((firstBy V.intOf ([.sc (.int .i64 (bif (!(decide (o0 ≥ (1 : Int)) && decide (o0 ≤ (4 : Int)))) then (4 : Int) else 0)), .sc (.int .i64 (bif (!(decide (o2 ≥ (0 : Int)) && decide (o2 ≤ (65536 : Int)))) then (3 : Int) else 0)), .sc (.int .i64 (bif ([.sc (.string s)] : List V).any largeV then (2 : Int) else 0))] : List V)) != 0) then
                  some (.sc (.bool (outc (partS s o0 o1 o2) (partE s o0 o2) (⟨#[]⟩ : ByteArray) (firstBy V.intOf ([.sc (.int .i64 (bif (!(decide (o0 ≥ (1 : Int)) && decide (o0 ≤ (4 : Int)))) then (4 : Int) else 0)), .sc (.int .i64 (bif (!(decide (o2 ≥ (0 : Int)) && decide (o2 ≤ (65536 : Int)))) then (3 : Int) else 0)), .sc (.int .i64 (bif ([.sc (.string s)] : List V).any largeV then (2 : Int) else 0))] : List V)))), [])
                else
                  bif ((decide (o0 ≥ 1) && decide (o0 ≤ 4) && decide (o2 ≥ 0) && decide (o2 ≤ 65536) && decide (s.size ≤ 65536) && decide ((unitsV s).length ≤ 1000000)) && true) then
                    some (.sc (.bool (outc (partS s o0 o1 o2) (partE s o0 o2) (partsB s o0 o1 o2) (0 : Int))), [])
                  else none
            else none
      else none
    else none
  else none
theorem f8_run (o0 : Int) (o1 : Bool) (o2 : Int) (s : ByteArray) (z9 : V × List Rg) (h : f8 o0 o1 o2 s = some z9) : CallR C prim 8 [.ag [.sc (.int .i64 o0), .sc (.bool o1), .sc (.int .i64 o2)], .sc (.string s)] [] z9 := by
  refine call_fn (K := K_f8) (T := T_f8) K_f8_ok T_f8_ok (by kernel_rfl) ?_
  refine Eq.trans ?_ h
  kernel_rfl

theorem part_want (s : ByteArray) (o0 o2 : Int) : firstBy V.intOf ([.sc (.int .i64 (bif (!(decide (o0 ≥ (1 : Int)) && decide (o0 ≤ (4 : Int)))) then (4 : Int) else 0)), .sc (.int .i64 (bif (!(decide (o2 ≥ (0 : Int)) && decide (o2 ≤ (65536 : Int)))) then (3 : Int) else 0)), .sc (.int .i64 (bif ([.sc (.string s)] : List V).any largeV then (2 : Int) else 0))] : List V) = partE s o0 o2 := by
  have e : ([.sc (.string s)] : List V).any largeV = largeB s := by show (largeB s || false) = _; rw [Bool.or_false]
  rw [e]
  unfold partE
  cases (decide (o0 ≥ (1 : Int)) && decide (o0 ≤ (4 : Int))) <;> cases (decide (o2 ≥ (0 : Int)) && decide (o2 ≤ (65536 : Int))) <;> cases largeB s <;> rfl
theorem outc_no {s : ByteArray} {e f : Int} (hf : (f != 0) = true) (hs : s = ⟨#[]⟩) (he : e = f) : outc s e ⟨#[]⟩ f = true := by
  unfold outc
  rw [hf, hs, he, strEq_self, beq_self_eq_true]; rfl
theorem outc_yes (s : ByteArray) : outc s 0 s 0 = true := by
  unfold outc
  rw [strEq_self]; rfl
theorem part_zero {s : ByteArray} {o0 o2 : Int} (h : partE s o0 o2 = 0) : (o0 ≥ 1 ∧ o0 ≤ 4) ∧ (o2 ≥ 0 ∧ o2 ≤ 65536) ∧ largeB s = false := by
  unfold partE at h
  cases h1 : (decide (o0 ≥ (1 : Int)) && decide (o0 ≤ (4 : Int))) with
  | false => rw [h1] at h; cases h
  | true =>
  rw [h1] at h
  cases h2 : (decide (o2 ≥ (0 : Int)) && decide (o2 ≤ (65536 : Int))) with
  | false => rw [h2] at h; cases h
  | true =>
  rw [h2] at h
  cases h3 : largeB s with
  | true => rw [h3] at h; cases h
  | false =>
    simp only [Bool.and_eq_true, decide_eq_true_eq] at h1 h2
    exact ⟨h1, h2, rfl⟩
theorem part_tail (s : ByteArray) (o0 : Int) (o1 : Bool) (o2 : Int) : (bif (partE s o0 o2 != 0) then
      some (V.sc (.bool (outc (partS s o0 o1 o2) (partE s o0 o2) (⟨#[]⟩ : ByteArray) (partE s o0 o2))), ([] : List Rg))
    else
      bif ((decide (o0 ≥ 1) && decide (o0 ≤ 4) && decide (o2 ≥ 0) && decide (o2 ≤ 65536) && decide (s.size ≤ 65536) && decide ((unitsV s).length ≤ 1000000)) && true) then
        some (.sc (.bool (outc (partS s o0 o1 o2) (partE s o0 o2) (partsB s o0 o1 o2) (0 : Int))), [])
      else none) = some (.sc (.bool true), []) := by
  have hu := units_len s
  cases h : partE s o0 o2 != 0 with
  | true =>
    have hs : partS s o0 o1 o2 = ⟨#[]⟩ := by
      unfold partS
      have : (partE s o0 o2 == 0) = false := by rw [bne_iff_ne] at h; exact beq_eq_false_iff_ne.2 h
      rw [this]; rfl
    rw [cond_true, outc_no h hs rfl]
  | false =>
    have h0 : partE s o0 o2 = 0 := by simpa using h
    obtain ⟨k0, n0, l0⟩ := part_zero h0
    obtain ⟨l1, l2⟩ := large_no l0
    have hs : partS s o0 o1 o2 = partsB s o0 o1 o2 := by unfold partS; rw [h0]; rfl
    rw [hs, h0, outc_yes, dec_true k0.1, dec_true k0.2, dec_true n0.1, dec_true n0.2, dec_true l1, dec_true (show (unitsV s).length ≤ 1000000 by omega)]
    rfl
theorem f8_eq (o0 : Int) (o1 : Bool) (o2 : Int) (s : ByteArray) (hp : (decide (s.size ≤ 10000000)) = true) : f8 o0 o1 o2 s = some (.sc (.bool true), []) := by
  have hq := hp
  simp only [decide_eq_true_eq] at hp
  have hw := part_want s o0 o2
  have h1 : ([.sc (.string s)] : List V).all shortS = true := by
    show ((true && decide (s.size ≤ 1000000000)) && true) = true
    rw [dec_true (show s.size ≤ 1000000000 by omega)]; rfl
  have ht := part_tail s o0 o1 o2
  unfold f8
  rw [hq, h1, hw]
  by_cases hb : ((s.size : Nat) : Int) > 65536
  · rw [dec_true hb]
    have hl : largeB s = true := by unfold largeB; rw [dec_true hb]; rfl
    exact ht
  · rw [dec_false hb, dec_true (show s.size ≤ 1000000000 by omega), long_eq]
    simp only [cond_false, beq_self_eq_true]
    exact ht
def k8 : PrimT := fun vs gs => match vs, gs with
  | [.ag [.sc (.int .i64 o0), .sc (.bool o1), .sc (.int .i64 o2)], .sc (.string s)], [] => ((decide (s.size ≤ 10000000)), .sc (.bool true), [])
  | _, _ => (false, .bad, [])
theorem k8_ok : ∀ vs gs x, k8 vs gs = (true, x) → CallR C prim 8 vs gs x := by
  intro vs gs x h
  unfold k8 at h
  split at h
  · simp only [Prod.mk.injEq] at h
    obtain ⟨hp, rfl⟩ := h
    exact f8_run _ _ _ _ _ (f8_eq _ _ _ _ hp)
  · cases h
end Go.Ab
