/- Functions of texts to the base 64, as the machine runs them. -/
import Derived.Test.YtnjgofgogeileaaD0
namespace Go.Ab
open Go Go.Proofs Go.RowKit
set_option linter.unusedSimpArgs false
set_option linter.unusedVariables false

def K_f54 : CallK := kCons 90 k90 <| kNil
theorem K_f54_ok : KOK C prim K_f54 := KOK.cons k90_ok <| KOK.nil
def T_f54 : Tab := tNil
theorem T_f54_ok : TOK C prim 54 T_f54 := TOK.nil
def f54 (s : ByteArray) (c : Int) : Option (V × List Rg) :=
  some (.sc (.int .i64 (idxB s c)), [])
theorem f54_run (s : ByteArray) (c : Int) (x : V × List Rg) (h : f54 s c = some x) : CallR C prim 54 [.sc (.string s), .sc (.int .u8 c)] [] x := by
  refine call_fn (K := K_f54) (T := T_f54) K_f54_ok T_f54_ok (by kernel_rfl) ?_
  refine Eq.trans ?_ h
  kernel_rfl

theorem f54_eq (s : ByteArray) (c : Int) : f54 s c = some (.sc (.int .i64 (idxB s c)), []) := by rfl
def k54 : PrimT := fun vs gs => match vs, gs with
  | [.sc (.string s), .sc (.int .u8 c)], [] => (true, .sc (.int .i64 (idxB s c)), [])
  | _, _ => (false, .bad, [])
theorem k54_ok : ∀ vs gs x, k54 vs gs = (true, x) → CallR C prim 54 vs gs x := by
  intro vs gs x h
  unfold k54 at h
  split at h
  · simp only [Prod.mk.injEq, true_and] at h
    subst h
    exact f54_run _ _ _ (f54_eq _ _)
  · cases h

def K_f55_l0 : CallK := kNil
theorem K_f55_l0_ok : KOK C prim K_f55_l0 := KOK.nil
def T_f55_l0 : Tab := tNil
theorem T_f55_l0_ok : TOK C prim 55 T_f55_l0 := TOK.nil
def f55_l0 : Nat → Int → ByteArray → Int → Int → (R : Type) → (Ex → St → Option R) → Option R
  | 0, _, _, _, _, _, _ => none
  | n + 1, v, s, v6, v7, R, κ =>
    bif (decide (v7 < v6)) then
      bif ((decide (((strOfCells [.sc (.int .u8 (IntKind.wrap .u8 (IntKind.wrap .i64 ((48 : Int) + (Int.tmod v 2)))))]).size + s.size) ≤ 9223372036854775807)) && true) then
        f55_l0 n (IntKind.wrap .i64 (Int.tdiv v 2)) ((strOfCells [.sc (.int .u8 (IntKind.wrap .u8 (IntKind.wrap .i64 ((48 : Int) + (Int.tmod v 2)))))]) ++ s) v6 (IntKind.wrap .i64 (v7 + 1)) R κ
      else none
    else
      κ (.ex 0) (mkS [(4, .bad), (5, .sc (.string s))] [])
def f55_l0_ls : List (Nat × Pat) := [(0, .i .i64), (5, .s), (6, .i .i64), (7, .i .i64)]
def f55_l0_rs : List RPat := []
theorem f55_l0_ok (n : Nat) : ∀ (v : Int) (s : ByteArray) (v6 : Int) (v7 : Int) (R : Type) (κ : Ex → St → Option R) (r : R), f55_l0 n v s v6 v7 R κ = some r → ∃ ee ss, κ ee ss = some r ∧ RunP C prim 55 [0, 1, 0, 1, 1] (mkS [(0, .sc (.int .i64 v)), (5, .sc (.string s)), (6, .sc (.int .i64 v6)), (7, .sc (.int .i64 v7))] []) ee ss := by
  induction n with
  | zero => intro v s v6 v7 R κ r h; cases h
  | succ n ih =>
    intro v s v6 v7 R κ r h
    refine loop_round (K := K_f55_l0) (T := T_f55_l0) K_f55_l0_ok T_f55_l0_ok (p := [0, 1, 0, 1, 1]) (by kernel_rfl) (fun st => bif ckS f55_l0_ls f55_l0_rs st then f55_l0 n ((st.env 0).intOf) ((st.env 5).strOf) ((st.env 6).intOf) ((st.env 7).intOf) R κ else none) (fun st0 h0 => ?_) ?_
    · obtain ⟨hs, h0⟩ := cond_some h0
      rw [canon (ls := f55_l0_ls) (rs := f55_l0_rs) (by kernel_rfl) st0 hs]
      exact ih _ _ _ _ R κ r h0
    · refine Eq.trans ?_ h
      kernel_rfl

def f55_s0 (v : Int) (s : ByteArray) (v6 : Int) (v7 : Int) (R : Type) (κ : Ex → St → Option R) : Option R :=
  κ (.ex 0) (mkS [(4, .bad), (5, .sc (.string (bits6 v)))] [])
theorem f55_l0_c : ∀ c : Nat, c < 64 → ∀ (R : Type) (κ : Ex → St → Option R), f55_l0 7 (c : Int) ⟨#[]⟩ 6 0 R κ = κ (.ex 0) (mkS [(4, .bad), (5, .sc (.string (bits6 (c : Int))))] [])
  | 0, _, R, κ => by kernel_rfl
  | 1, _, R, κ => by kernel_rfl
  | 2, _, R, κ => by kernel_rfl
  | 3, _, R, κ => by kernel_rfl
  | 4, _, R, κ => by kernel_rfl
  | 5, _, R, κ => by kernel_rfl
  | 6, _, R, κ => by kernel_rfl
  | 7, _, R, κ => by kernel_rfl
  | 8, _, R, κ => by kernel_rfl
  | 9, _, R, κ => by kernel_rfl
  | 10, _, R, κ => by kernel_rfl
  | 11, _, R, κ => by kernel_rfl
  | 12, _, R, κ => by kernel_rfl
  | 13, _, R, κ => by kernel_rfl
  | 14, _, R, κ => by kernel_rfl
  | 15, _, R, κ => by kernel_rfl
  | 16, _, R, κ => by kernel_rfl
  | 17, _, R, κ => by kernel_rfl
  | 18, _, R, κ => by kernel_rfl
  | 19, _, R, κ => by kernel_rfl
  | 20, _, R, κ => by kernel_rfl
  | 21, _, R, κ => by kernel_rfl
  | 22, _, R, κ => by kernel_rfl
  | 23, _, R, κ => by kernel_rfl
  | 24, _, R, κ => by kernel_rfl
  | 25, _, R, κ => by kernel_rfl
  | 26, _, R, κ => by kernel_rfl
  | 27, _, R, κ => by kernel_rfl
  | 28, _, R, κ => by kernel_rfl
  | 29, _, R, κ => by kernel_rfl
  | 30, _, R, κ => by kernel_rfl
  | 31, _, R, κ => by kernel_rfl
  | 32, _, R, κ => by kernel_rfl
  | 33, _, R, κ => by kernel_rfl
  | 34, _, R, κ => by kernel_rfl
  | 35, _, R, κ => by kernel_rfl
  | 36, _, R, κ => by kernel_rfl
  | 37, _, R, κ => by kernel_rfl
  | 38, _, R, κ => by kernel_rfl
  | 39, _, R, κ => by kernel_rfl
  | 40, _, R, κ => by kernel_rfl
  | 41, _, R, κ => by kernel_rfl
  | 42, _, R, κ => by kernel_rfl
  | 43, _, R, κ => by kernel_rfl
  | 44, _, R, κ => by kernel_rfl
  | 45, _, R, κ => by kernel_rfl
  | 46, _, R, κ => by kernel_rfl
  | 47, _, R, κ => by kernel_rfl
  | 48, _, R, κ => by kernel_rfl
  | 49, _, R, κ => by kernel_rfl
  | 50, _, R, κ => by kernel_rfl
  | 51, _, R, κ => by kernel_rfl
  | 52, _, R, κ => by kernel_rfl
  | 53, _, R, κ => by kernel_rfl
  | 54, _, R, κ => by kernel_rfl
  | 55, _, R, κ => by kernel_rfl
  | 56, _, R, κ => by kernel_rfl
  | 57, _, R, κ => by kernel_rfl
  | 58, _, R, κ => by kernel_rfl
  | 59, _, R, κ => by kernel_rfl
  | 60, _, R, κ => by kernel_rfl
  | 61, _, R, κ => by kernel_rfl
  | 62, _, R, κ => by kernel_rfl
  | 63, _, R, κ => by kernel_rfl
  | n + 64, h, _, _ => absurd h (by omega)
theorem f55_s0_eq (v : Int) (s : ByteArray) (v6 : Int) (v7 : Int) (hp : (decide (0 ≤ v) && decide (v < 64) && (s.size == 0) && (v6 == 6) && (v7 == 0)) = true) : ∃ n, ∀ (R : Type) (κ : Ex → St → Option R), f55_l0 n v s v6 v7 R κ = f55_s0 v s v6 v7 R κ := by
  simp only [Bool.and_eq_true, decide_eq_true_eq, beq_iff_eq] at hp
  obtain ⟨⟨⟨⟨h1, h2⟩, h3⟩, rfl⟩, rfl⟩ := hp
  obtain rfl : s = ⟨#[]⟩ := ba_ext (by rw [← ba_size] at h3; exact List.eq_nil_of_length_eq_zero h3)
  obtain ⟨c, rfl⟩ : ∃ c : Nat, v = (c : Int) := ⟨v.toNat, by omega⟩
  refine ⟨7, fun R κ => ?_⟩
  rw [f55_l0_c c (by omega) R κ]
  rfl
def t_f55_l0 (st : St) (R : Type) (κ : Ex → St → Option R) : Option R := bif ckS f55_l0_ls f55_l0_rs st then (bif (decide (0 ≤ ((st.env 0).intOf)) && decide (((st.env 0).intOf) < 64) && (((st.env 5).strOf).size == 0) && (((st.env 6).intOf) == 6) && (((st.env 7).intOf) == 0)) then f55_s0 ((st.env 0).intOf) ((st.env 5).strOf) ((st.env 6).intOf) ((st.env 7).intOf) R κ else none) else none
theorem t_f55_l0_ok : ∀ st0 R κ r, t_f55_l0 (forget C 55 [0, 1, 0, 1, 1] st0) R κ = some r → ∃ ee ss, κ ee ss = some r ∧ RunP C prim 55 [0, 1, 0, 1, 1] (forget C 55 [0, 1, 0, 1, 1] st0) ee ss := by
  intro st0 R κ r h
  obtain ⟨hs, h⟩ := cond_some h
  obtain ⟨hp, h⟩ := cond_some h
  rw [canon (ls := f55_l0_ls) (rs := f55_l0_rs) (by kernel_rfl) st0 hs]
  obtain ⟨n, hn⟩ := f55_s0_eq _ _ _ _ hp
  rw [← hn] at h
  exact f55_l0_ok n _ _ _ _ R κ r h

def K_f55 : CallK := kNil
theorem K_f55_ok : KOK C prim K_f55 := KOK.nil
def T_f55 : Tab := tCons [0, 1, 0, 1, 1] t_f55_l0 <| tNil
theorem T_f55_ok : TOK C prim 55 T_f55 := TOK.cons t_f55_l0_ok <| TOK.nil
def f55 (v : Int) (many : Int) : Option (V × List Rg) :=
  bif (decide (0 ≤ v) && decide (v < 64) && ((⟨#[]⟩ : ByteArray).size == 0) && (many == 6) && ((0 : Int) == 0)) then
    some (.sc (.string (bits6 v)), [])
  else none
theorem f55_run (v : Int) (many : Int) (x : V × List Rg) (h : f55 v many = some x) : CallR C prim 55 [.sc (.int .i64 v), .sc (.int .i64 many)] [] x := by
  refine call_fn (K := K_f55) (T := T_f55) K_f55_ok T_f55_ok (by kernel_rfl) ?_
  refine Eq.trans ?_ h
  kernel_rfl

theorem f55_eq (v : Int) (many : Int) (hp : (decide (0 ≤ v) && decide (v < 64) && (many == 6)) = true) : f55 v many = some (.sc (.string (bits6 v)), []) := by
  simp only [Bool.and_eq_true, decide_eq_true_eq, beq_iff_eq] at hp
  obtain ⟨⟨h1, h2⟩, rfl⟩ := hp
  unfold f55
  rw [dec_true h1, dec_true h2]
  rfl
def k55 : PrimT := fun vs gs => match vs, gs with
  | [.sc (.int .i64 v), .sc (.int .i64 many)], [] => ((decide (0 ≤ v) && decide (v < 64) && (many == 6)), .sc (.string (bits6 v)), [])
  | _, _ => (false, .bad, [])
theorem k55_ok : ∀ vs gs x, k55 vs gs = (true, x) → CallR C prim 55 vs gs x := by
  intro vs gs x h
  unfold k55 at h
  split at h
  · simp only [Prod.mk.injEq] at h
    obtain ⟨hp, rfl⟩ := h
    exact f55_run _ _ _ (f55_eq _ _ hp)
  · cases h

def K_f56_l0 : CallK := kNil
theorem K_f56_l0_ok : KOK C prim K_f56_l0 := KOK.nil
def T_f56_l0 : Tab := tNil
theorem T_f56_l0_ok : TOK C prim 56 T_f56_l0 := TOK.nil
def f56_l0 : Nat → ByteArray → Int → (R : Type) → (Ex → St → Option R) → Option R
  | 0, _, _, _, _ => none
  | n + 1, all, i, R, κ =>
    bif (decide (i < ((all.size : Nat) : Int))) then
      bif (((decide ((0 : Int) ≤ i)) && (decide (i < ((all.size : Nat) : Int)))) && true) then
        bif (((all.data.getD (i).toNat 0).toNat : Int) == 49) then
          κ .rt (mkS [(4, .sc (.bool false))] [])
        else
          f56_l0 n all (IntKind.wrap .i64 (i + 1)) R κ
      else none
    else
      κ (.ex 0) (mkS [(4, .bad)] [])
def f56_l0_ls : List (Nat × Pat) := [(0, .s), (6, .i .i64)]
def f56_l0_rs : List RPat := []
theorem f56_l0_ok (n : Nat) : ∀ (all : ByteArray) (i : Int) (R : Type) (κ : Ex → St → Option R) (r : R), f56_l0 n all i R κ = some r → ∃ ee ss, κ ee ss = some r ∧ RunP C prim 56 [0, 1, 0, 1, 1, 1] (mkS [(0, .sc (.string all)), (6, .sc (.int .i64 i))] []) ee ss := by
  induction n with
  | zero => intro all i R κ r h; cases h
  | succ n ih =>
    intro all i R κ r h
    refine loop_round (K := K_f56_l0) (T := T_f56_l0) K_f56_l0_ok T_f56_l0_ok (p := [0, 1, 0, 1, 1, 1]) (by kernel_rfl) (fun st => bif ckS f56_l0_ls f56_l0_rs st then f56_l0 n ((st.env 0).strOf) ((st.env 6).intOf) R κ else none) (fun st0 h0 => ?_) ?_
    · obtain ⟨hs, h0⟩ := cond_some h0
      rw [canon (ls := f56_l0_ls) (rs := f56_l0_rs) (by kernel_rfl) st0 hs]
      exact ih _ _ R κ r h0
    · refine Eq.trans ?_ h
      kernel_rfl

def f56_s0 (all : ByteArray) (i : Int) (R : Type) (κ : Ex → St → Option R) : Option R :=
  bif (has1 all i) then
    κ .rt (mkS [(4, .sc (.bool false))] [])
  else
    κ (.ex 0) (mkS [(4, .bad)] [])
theorem f56_l0_c (all : ByteArray) (h : all.size ≤ 1000000000) : ∀ (m k : Nat), k + m = all.size → ∀ n, m < n → ∀ (R : Type) (κ : Ex → St → Option R), f56_l0 n all (k : Int) R κ = f56_s0 all (k : Int) R κ := by
  intro m
  induction m with
  | zero =>
    intro k hk n hn R κ
    obtain ⟨n, rfl⟩ : ∃ j, n = j + 1 := ⟨n - 1, by omega⟩
    have hh : has1 all (k : Int) = false := by
      unfold has1
      rw [Int.toNat_natCast, List.drop_of_length_le (by rw [ba_size]; omega)]
      rfl
    unfold f56_s0
    rw [f56_l0, dec_false (by omega), hh]
    rfl
  | succ m ih =>
    intro k hk n hn R κ
    obtain ⟨n, rfl⟩ : ∃ j, n = j + 1 := ⟨n - 1, by omega⟩
    have hlt : k < all.data.toList.length := by rw [ba_size]; omega
    have hg : all.data.getD k 0 = all.data.toList[k] := by
      rw [Array.getElem_toList]
      simp only [Array.getD]
      rw [dif_pos (by rw [← Array.length_toList]; exact hlt)]
      rfl
    have hh : has1 all (k : Int) = (all.data.toList[k].toNat == 49 || has1 all ((k + 1 : Nat) : Int)) := by
      unfold has1
      rw [Int.toNat_natCast, Int.toNat_natCast, List.drop_eq_getElem_cons hlt, List.any_cons]
    have hc : ((all.data.toList[k].toNat : Int) == 49) = (all.data.toList[k].toNat == 49) := by
      rw [Bool.eq_iff_iff, beq_iff_eq, beq_iff_eq]; omega
    rw [f56_l0, dec_true (show (k : Int) < ((all.size : Nat) : Int) by omega), dec_true (show (0 : Int) ≤ (k : Int) by omega), Int.toNat_natCast, hg, hc, wrap_succ (by omega), ih (k + 1) (by omega) n (by omega) R κ]
    unfold f56_s0
    rw [hh]
    cases all.data.toList[k].toNat == 49 <;> rfl
theorem f56_s0_eq (all : ByteArray) (i : Int) (hp : (decide (0 ≤ i) && decide (i ≤ ((all.size : Nat) : Int)) && decide (all.size ≤ 1000000000)) = true) : ∃ n, ∀ (R : Type) (κ : Ex → St → Option R), f56_l0 n all i R κ = f56_s0 all i R κ := by
  simp only [Bool.and_eq_true, decide_eq_true_eq] at hp
  obtain ⟨⟨h1, h2⟩, h3⟩ := hp
  obtain ⟨k, rfl⟩ : ∃ k : Nat, i = (k : Int) := ⟨i.toNat, by omega⟩
  exact ⟨all.size + 1, fun R κ => f56_l0_c all h3 (all.size - k) k (by omega) _ (by omega) R κ⟩
def t_f56_l0 (st : St) (R : Type) (κ : Ex → St → Option R) : Option R := bif ckS f56_l0_ls f56_l0_rs st then (bif (decide (0 ≤ ((st.env 6).intOf)) && decide (((st.env 6).intOf) ≤ ((((st.env 0).strOf).size : Nat) : Int)) && decide (((st.env 0).strOf).size ≤ 1000000000)) then f56_s0 ((st.env 0).strOf) ((st.env 6).intOf) R κ else none) else none
theorem t_f56_l0_ok : ∀ st0 R κ r, t_f56_l0 (forget C 56 [0, 1, 0, 1, 1, 1] st0) R κ = some r → ∃ ee ss, κ ee ss = some r ∧ RunP C prim 56 [0, 1, 0, 1, 1, 1] (forget C 56 [0, 1, 0, 1, 1, 1] st0) ee ss := by
  intro st0 R κ r h
  obtain ⟨hs, h⟩ := cond_some h
  obtain ⟨hp, h⟩ := cond_some h
  rw [canon (ls := f56_l0_ls) (rs := f56_l0_rs) (by kernel_rfl) st0 hs]
  obtain ⟨n, hn⟩ := f56_s0_eq _ _ hp
  rw [← hn] at h
  exact f56_l0_ok n _ _ R κ r h

def K_f56 : CallK := kNil
theorem K_f56_ok : KOK C prim K_f56 := KOK.nil
def T_f56 : Tab := tCons [0, 1, 0, 1, 1, 1] t_f56_l0 <| tNil
theorem T_f56_ok : TOK C prim 56 T_f56 := TOK.cons t_f56_l0_ok <| TOK.nil
def f56 (all : ByteArray) (letters : Int) : Option (V × List Rg) :=
  bif (letters == 3) then
    bif (decide (0 ≤ (IntKind.wrap .i64 (((all.size : Nat) : Int) - 2))) && decide ((IntKind.wrap .i64 (((all.size : Nat) : Int) - 2)) ≤ ((all.size : Nat) : Int)) && decide (all.size ≤ 1000000000)) then
      bif (has1 all (IntKind.wrap .i64 (((all.size : Nat) : Int) - 2))) then
        some (.sc (.bool false), [])
      else
        some (.sc (.bool true), [])
    else none
  else
    bif (decide (0 ≤ (IntKind.wrap .i64 (((all.size : Nat) : Int) - 4))) && decide ((IntKind.wrap .i64 (((all.size : Nat) : Int) - 4)) ≤ ((all.size : Nat) : Int)) && decide (all.size ≤ 1000000000)) then
      bif (has1 all (IntKind.wrap .i64 (((all.size : Nat) : Int) - 4))) then
        some (.sc (.bool false), [])
      else
        some (.sc (.bool true), [])
    else none
theorem f56_run (all : ByteArray) (letters : Int) (x : V × List Rg) (h : f56 all letters = some x) : CallR C prim 56 [.sc (.string all), .sc (.int .i64 letters)] [] x := by
  refine call_fn (K := K_f56) (T := T_f56) K_f56_ok T_f56_ok (by kernel_rfl) ?_
  refine Eq.trans ?_ h
  kernel_rfl

theorem f56_eq (all : ByteArray) (letters : Int) (hp : (decide (4 ≤ all.size) && decide (all.size ≤ 1000000000)) = true) : f56 all letters = some (.sc (.bool (zt all letters)), []) := by
  simp only [Bool.and_eq_true, decide_eq_true_eq] at hp
  obtain ⟨h1, h2⟩ := hp
  unfold f56 zt
  rw [wrap_id (by omega) (by omega), wrap_id (by omega) (by omega)]
  cases hl : letters == 3 with
  | true =>
    simp only [cond_true]
    rw [dec_true (by omega), dec_true (by omega), dec_true h2]
    cases has1 all (((all.size : Nat) : Int) - 2) <;> rfl
  | false =>
    simp only [cond_false]
    rw [dec_true (by omega), dec_true (by omega), dec_true h2]
    cases has1 all (((all.size : Nat) : Int) - 4) <;> rfl
def k56 : PrimT := fun vs gs => match vs, gs with
  | [.sc (.string all), .sc (.int .i64 letters)], [] => ((decide (4 ≤ all.size) && decide (all.size ≤ 1000000000)), .sc (.bool (zt all letters)), [])
  | _, _ => (false, .bad, [])
theorem k56_ok : ∀ vs gs x, k56 vs gs = (true, x) → CallR C prim 56 vs gs x := by
  intro vs gs x h
  unfold k56 at h
  split at h
  · simp only [Prod.mk.injEq] at h
    obtain ⟨hp, rfl⟩ := h
    exact f56_run _ _ _ (f56_eq _ _ hp)
  · cases h

def K_f17_l0 : CallK := kCons 54 k54 <| kNil
theorem K_f17_l0_ok : KOK C prim K_f17_l0 := KOK.cons k54_ok <| KOK.nil
def T_f17_l0 : Tab := tNil
theorem T_f17_l0_ok : TOK C prim 17 T_f17_l0 := TOK.nil
def f17_l0 : Nat → ByteArray → Int → Int → Int → Int → Int → List V → List V → (R : Type) → (Ex → St → Option R) → Option R
  | 0, _, _, _, _, _, _, _, _, _, _ => none
  | n + 1, text, n', count, filled, v17, v18, out, r16, R, κ =>
    bif (decide (v18 < v17)) then
      bif (((decide ((0 : Int) ≤ v18)) && (decide (v18 < ((r16.length : Nat) : Int)))) && true) then
        bif (((V.isInt .u8 (nthV r16 (((v18).toNat * 1) + 0))) && true) && true) then
          bif ((V.intOf (nthV r16 (((v18).toNat * 1) + 0))) == 10) then
            f17_l0 n text n' count filled v17 (IntKind.wrap .i64 (v18 + 1)) out r16 R κ
          else
            bif (decide ((idxB (⟨#[65, 66, 67, 68, 69, 70, 71, 72, 73, 74, 75, 76, 77, 78, 79, 80, 81, 82, 83, 84, 85, 86, 87, 88, 89, 90, 97, 98, 99, 100, 101, 102, 103, 104, 105, 106, 107, 108, 109, 110, 111, 112, 113, 114, 115, 116, 117, 118, 119, 120, 121, 122, 48, 49, 50, 51, 52, 53, 54, 55, 56, 57, 43, 47]⟩ : ByteArray) (V.intOf (nthV r16 (((v18).toNat * 1) + 0)))) ≥ 0)) then
              bif (filled == 0) then
                bif ((IntKind.wrap .i64 (count + 1)) == 4) then
                  bif (((roomy ((out.length + 3) * 1)) && (roomy (out.length + 3))) && true) then
                    f17_l0 n text (0 : Int) (0 : Int) filled v17 (IntKind.wrap .i64 (v18 + 1)) (out ++ [.sc (.int .u8 (IntKind.wrap .u8 (Int.fdiv (bitsI .or .i64 (IntKind.wrap .i64 (n' * (2 ^ (min 6 64)))) (idxB (⟨#[65, 66, 67, 68, 69, 70, 71, 72, 73, 74, 75, 76, 77, 78, 79, 80, 81, 82, 83, 84, 85, 86, 87, 88, 89, 90, 97, 98, 99, 100, 101, 102, 103, 104, 105, 106, 107, 108, 109, 110, 111, 112, 113, 114, 115, 116, 117, 118, 119, 120, 121, 122, 48, 49, 50, 51, 52, 53, 54, 55, 56, 57, 43, 47]⟩ : ByteArray) (V.intOf (nthV r16 (((v18).toNat * 1) + 0))))) (2 ^ (min 16 64))))), .sc (.int .u8 (IntKind.wrap .u8 (Int.fdiv (bitsI .or .i64 (IntKind.wrap .i64 (n' * (2 ^ (min 6 64)))) (idxB (⟨#[65, 66, 67, 68, 69, 70, 71, 72, 73, 74, 75, 76, 77, 78, 79, 80, 81, 82, 83, 84, 85, 86, 87, 88, 89, 90, 97, 98, 99, 100, 101, 102, 103, 104, 105, 106, 107, 108, 109, 110, 111, 112, 113, 114, 115, 116, 117, 118, 119, 120, 121, 122, 48, 49, 50, 51, 52, 53, 54, 55, 56, 57, 43, 47]⟩ : ByteArray) (V.intOf (nthV r16 (((v18).toNat * 1) + 0))))) (2 ^ (min 8 64))))), .sc (.int .u8 (IntKind.wrap .u8 (bitsI .or .i64 (IntKind.wrap .i64 (n' * (2 ^ (min 6 64)))) (idxB (⟨#[65, 66, 67, 68, 69, 70, 71, 72, 73, 74, 75, 76, 77, 78, 79, 80, 81, 82, 83, 84, 85, 86, 87, 88, 89, 90, 97, 98, 99, 100, 101, 102, 103, 104, 105, 106, 107, 108, 109, 110, 111, 112, 113, 114, 115, 116, 117, 118, 119, 120, 121, 122, 48, 49, 50, 51, 52, 53, 54, 55, 56, 57, 43, 47]⟩ : ByteArray) (V.intOf (nthV r16 (((v18).toNat * 1) + 0)))))))]) r16 R κ
                  else none
                else
                  f17_l0 n text (bitsI .or .i64 (IntKind.wrap .i64 (n' * (2 ^ (min 6 64)))) (idxB (⟨#[65, 66, 67, 68, 69, 70, 71, 72, 73, 74, 75, 76, 77, 78, 79, 80, 81, 82, 83, 84, 85, 86, 87, 88, 89, 90, 97, 98, 99, 100, 101, 102, 103, 104, 105, 106, 107, 108, 109, 110, 111, 112, 113, 114, 115, 116, 117, 118, 119, 120, 121, 122, 48, 49, 50, 51, 52, 53, 54, 55, 56, 57, 43, 47]⟩ : ByteArray) (V.intOf (nthV r16 (((v18).toNat * 1) + 0))))) (IntKind.wrap .i64 (count + 1)) filled v17 (IntKind.wrap .i64 (v18 + 1)) out r16 R κ
              else
                bif ((V.intOf (nthV r16 (((v18).toNat * 1) + 0))) == 61) then
                  bif (decide (count ≥ 2)) then
                    bif (decide ((IntKind.wrap .i64 (count + filled)) < 4)) then
                      bif ((decide ((0 : Int) ≤ (IntKind.wrap .i64 ((2 : Int) * (IntKind.wrap .i64 ((4 : Int) - count)))))) && true) then
                        bif ((bitsI .and .i64 n' (IntKind.wrap .i64 ((IntKind.wrap .i64 (1 * (2 ^ (min ((IntKind.wrap .i64 ((2 : Int) * (IntKind.wrap .i64 ((4 : Int) - count))))).toNat 64)))) - 1))) == 0) then
                          bif (count == 4) then
                            bif (((roomy ((out.length + 3) * 1)) && (roomy (out.length + 3))) && true) then
                              f17_l0 n text (0 : Int) (0 : Int) (IntKind.wrap .i64 (filled + 1)) v17 (IntKind.wrap .i64 (v18 + 1)) (out ++ [.sc (.int .u8 (IntKind.wrap .u8 (Int.fdiv n' (2 ^ (min 16 64))))), .sc (.int .u8 (IntKind.wrap .u8 (Int.fdiv n' (2 ^ (min 8 64))))), .sc (.int .u8 (IntKind.wrap .u8 n'))]) r16 R κ
                            else none
                          else
                            f17_l0 n text n' count (IntKind.wrap .i64 (filled + 1)) v17 (IntKind.wrap .i64 (v18 + 1)) out r16 R κ
                        else
                          κ .rt (mkS [(0, .sc (.string text)), (2, .sc (.string ⟨#[]⟩)), (3, .sc (.int .i64 v18)), (4, .sc (.int .i64 1)), (5, .ref ⟨.loc 5, 0, [], 5, false⟩), (6, .sc (.int .i64 n')), (7, .sc (.int .i64 count)), (8, .sc (.int .i64 filled))] [(.loc 5, some ⟨false, [.own 5 false out]⟩)])
                      else none
                    else
                      κ .rt (mkS [(0, .sc (.string text)), (2, .sc (.string ⟨#[]⟩)), (3, .sc (.int .i64 v18)), (4, .sc (.int .i64 1)), (5, .ref ⟨.loc 5, 0, [], 5, false⟩), (6, .sc (.int .i64 n')), (7, .sc (.int .i64 count)), (8, .sc (.int .i64 filled))] [(.loc 5, some ⟨false, [.own 5 false out]⟩)])
                  else
                    κ .rt (mkS [(0, .sc (.string text)), (2, .sc (.string ⟨#[]⟩)), (3, .sc (.int .i64 v18)), (4, .sc (.int .i64 1)), (5, .ref ⟨.loc 5, 0, [], 5, false⟩), (6, .sc (.int .i64 n')), (7, .sc (.int .i64 count)), (8, .sc (.int .i64 filled))] [(.loc 5, some ⟨false, [.own 5 false out]⟩)])
                else
                  κ .rt (mkS [(0, .sc (.string text)), (2, .sc (.string ⟨#[]⟩)), (3, .sc (.int .i64 v18)), (4, .sc (.int .i64 1)), (5, .ref ⟨.loc 5, 0, [], 5, false⟩), (6, .sc (.int .i64 n')), (7, .sc (.int .i64 count)), (8, .sc (.int .i64 filled))] [(.loc 5, some ⟨false, [.own 5 false out]⟩)])
            else
              bif ((V.intOf (nthV r16 (((v18).toNat * 1) + 0))) == 61) then
                bif (decide (count ≥ 2)) then
                  bif (decide ((IntKind.wrap .i64 (count + filled)) < 4)) then
                    bif ((decide ((0 : Int) ≤ (IntKind.wrap .i64 ((2 : Int) * (IntKind.wrap .i64 ((4 : Int) - count)))))) && true) then
                      bif ((bitsI .and .i64 n' (IntKind.wrap .i64 ((IntKind.wrap .i64 (1 * (2 ^ (min ((IntKind.wrap .i64 ((2 : Int) * (IntKind.wrap .i64 ((4 : Int) - count))))).toNat 64)))) - 1))) == 0) then
                        bif (count == 4) then
                          bif (((roomy ((out.length + 3) * 1)) && (roomy (out.length + 3))) && true) then
                            f17_l0 n text (0 : Int) (0 : Int) (IntKind.wrap .i64 (filled + 1)) v17 (IntKind.wrap .i64 (v18 + 1)) (out ++ [.sc (.int .u8 (IntKind.wrap .u8 (Int.fdiv n' (2 ^ (min 16 64))))), .sc (.int .u8 (IntKind.wrap .u8 (Int.fdiv n' (2 ^ (min 8 64))))), .sc (.int .u8 (IntKind.wrap .u8 n'))]) r16 R κ
                          else none
                        else
                          f17_l0 n text n' count (IntKind.wrap .i64 (filled + 1)) v17 (IntKind.wrap .i64 (v18 + 1)) out r16 R κ
                      else
                        κ .rt (mkS [(0, .sc (.string text)), (2, .sc (.string ⟨#[]⟩)), (3, .sc (.int .i64 v18)), (4, .sc (.int .i64 1)), (5, .ref ⟨.loc 5, 0, [], 5, false⟩), (6, .sc (.int .i64 n')), (7, .sc (.int .i64 count)), (8, .sc (.int .i64 filled))] [(.loc 5, some ⟨false, [.own 5 false out]⟩)])
                    else none
                  else
                    κ .rt (mkS [(0, .sc (.string text)), (2, .sc (.string ⟨#[]⟩)), (3, .sc (.int .i64 v18)), (4, .sc (.int .i64 1)), (5, .ref ⟨.loc 5, 0, [], 5, false⟩), (6, .sc (.int .i64 n')), (7, .sc (.int .i64 count)), (8, .sc (.int .i64 filled))] [(.loc 5, some ⟨false, [.own 5 false out]⟩)])
                else
                  κ .rt (mkS [(0, .sc (.string text)), (2, .sc (.string ⟨#[]⟩)), (3, .sc (.int .i64 v18)), (4, .sc (.int .i64 1)), (5, .ref ⟨.loc 5, 0, [], 5, false⟩), (6, .sc (.int .i64 n')), (7, .sc (.int .i64 count)), (8, .sc (.int .i64 filled))] [(.loc 5, some ⟨false, [.own 5 false out]⟩)])
              else
                κ .rt (mkS [(0, .sc (.string text)), (2, .sc (.string ⟨#[]⟩)), (3, .sc (.int .i64 v18)), (4, .sc (.int .i64 1)), (5, .ref ⟨.loc 5, 0, [], 5, false⟩), (6, .sc (.int .i64 n')), (7, .sc (.int .i64 count)), (8, .sc (.int .i64 filled))] [(.loc 5, some ⟨false, [.own 5 false out]⟩)])
        else none
      else none
    else
      κ (.ex 0) (mkS [(0, .sc (.string text)), (2, .bad), (3, .bad), (4, .bad), (5, .ref ⟨.loc 5, 0, [], 5, false⟩), (6, .sc (.int .i64 n')), (7, .sc (.int .i64 count)), (8, .sc (.int .i64 filled))] [(.loc 5, some ⟨false, [.own 5 false out]⟩)])
def f17_l0_ls : List (Nat × Pat) := [(0, .s), (5, .is (.ref ⟨.loc 5, 0, [], 5, false⟩)), (6, .i .i64), (7, .i .i64), (8, .i .i64), (16, .is (.ref ⟨.loc 16, 0, [], 5, false⟩)), (17, .i .i64), (18, .i .i64)]
def f17_l0_rs : List RPat := [⟨.loc 5, false, [.own 5 false]⟩, ⟨.loc 16, false, [.own 5 false]⟩]
theorem f17_l0_ok (n : Nat) : ∀ (text : ByteArray) (n' : Int) (count : Int) (filled : Int) (v17 : Int) (v18 : Int) (out : List V) (r16 : List V) (R : Type) (κ : Ex → St → Option R) (r : R), f17_l0 n text n' count filled v17 v18 out r16 R κ = some r → ∃ ee ss, κ ee ss = some r ∧ RunP C prim 17 [0, 1, 0, 1, 1, 1, 1] (mkS [(0, .sc (.string text)), (5, .ref ⟨.loc 5, 0, [], 5, false⟩), (6, .sc (.int .i64 n')), (7, .sc (.int .i64 count)), (8, .sc (.int .i64 filled)), (16, .ref ⟨.loc 16, 0, [], 5, false⟩), (17, .sc (.int .i64 v17)), (18, .sc (.int .i64 v18))] [(.loc 5, some ⟨false, [.own 5 false out]⟩), (.loc 16, some ⟨false, [.own 5 false r16]⟩)]) ee ss := by
  induction n with
  | zero => intro text n' count filled v17 v18 out r16 R κ r h; cases h
  | succ n ih =>
    intro text n' count filled v17 v18 out r16 R κ r h
    refine loop_round (K := K_f17_l0) (T := T_f17_l0) K_f17_l0_ok T_f17_l0_ok (p := [0, 1, 0, 1, 1, 1, 1]) (by kernel_rfl) (fun st => bif ckS f17_l0_ls f17_l0_rs st then f17_l0 n ((st.env 0).strOf) ((st.env 6).intOf) ((st.env 7).intOf) ((st.env 8).intOf) ((st.env 17).intOf) ((st.env 18).intOf) ((nthV (rowOf (st.regs (.loc 5))) 0).cellsOf) ((nthV (rowOf (st.regs (.loc 16))) 0).cellsOf) R κ else none) (fun st0 h0 => ?_) ?_
    · obtain ⟨hs, h0⟩ := cond_some h0
      rw [canon (ls := f17_l0_ls) (rs := f17_l0_rs) (by kernel_rfl) st0 hs]
      exact ih _ _ _ _ _ _ _ _ R κ r h0
    · refine Eq.trans ?_ h
      kernel_rfl

def f17_s0 (text : ByteArray) (n' : Int) (count : Int) (filled : Int) (v17 : Int) (v18 : Int) (out : List V) (r16 : List V) (R : Type) (κ : Ex → St → Option R) : Option R :=
  bif (zr r16).bad then
    κ .rt (mkS [(0, .sc (.string text)), (2, .sc (.string ⟨#[]⟩)), (3, .sc (.int .i64 ((zr r16).p : Int))), (4, .sc (.int .i64 1)), (5, .ref ⟨.loc 5, 0, [], 5, false⟩), (6, .sc (.int .i64 ((zr r16).z.n : Int))), (7, .sc (.int .i64 ((zr r16).z.c : Int))), (8, .sc (.int .i64 ((zr r16).z.f : Int)))] [(.loc 5, some ⟨false, [.own 5 false (u8V (zr r16).z.out)]⟩)])
  else
    κ (.ex 0) (mkS [(0, .sc (.string text)), (2, .bad), (3, .bad), (4, .bad), (5, .ref ⟨.loc 5, 0, [], 5, false⟩), (6, .sc (.int .i64 ((zr r16).z.n : Int))), (7, .sc (.int .i64 ((zr r16).z.c : Int))), (8, .sc (.int .i64 ((zr r16).z.f : Int)))] [(.loc 5, some ⟨false, [.own 5 false (u8V (zr r16).z.out)]⟩)])
def fin17 (text : ByteArray) (r : ZR) (R : Type) (κ : Ex → St → Option R) : Option R :=
  bif r.bad then
    κ .rt (mkS [(0, .sc (.string text)), (2, .sc (.string ⟨#[]⟩)), (3, .sc (.int .i64 (r.p : Int))), (4, .sc (.int .i64 1)), (5, .ref ⟨.loc 5, 0, [], 5, false⟩), (6, .sc (.int .i64 (r.z.n : Int))), (7, .sc (.int .i64 (r.z.c : Int))), (8, .sc (.int .i64 (r.z.f : Int)))] [(.loc 5, some ⟨false, [.own 5 false (u8V r.z.out)]⟩)])
  else
    κ (.ex 0) (mkS [(0, .sc (.string text)), (2, .bad), (3, .bad), (4, .bad), (5, .ref ⟨.loc 5, 0, [], 5, false⟩), (6, .sc (.int .i64 (r.z.n : Int))), (7, .sc (.int .i64 (r.z.c : Int))), (8, .sc (.int .i64 (r.z.f : Int)))] [(.loc 5, some ⟨false, [.own 5 false (u8V r.z.out)]⟩)])
theorem f17_l0_c (text : ByteArray) (r16 : List V) (hu : allB r16 = true) (hl : r16.length ≤ 1000000000) : ∀ (m k : Nat) (z : Z), k + m = r16.length → ZOk z → z.out.length ≤ 3 * k → ∀ n, m < n → ∀ (R : Type) (κ : Ex → St → Option R),
    f17_l0 n text (z.n : Int) (z.c : Int) (z.f : Int) ((r16.length : Nat) : Int) (k : Int) (u8V z.out) r16 R κ = fin17 text (zrun ((r16.map byteOfV).drop k) k z) R κ := by
  intro m
  induction m with
  | zero =>
    intro k z hk hz ho n hn R κ
    obtain ⟨n, rfl⟩ : ∃ j, n = j + 1 := ⟨n - 1, by omega⟩
    rw [List.drop_of_length_le (by rw [List.length_map]; omega), f17_l0, dec_false (by omega)]
    rfl
  | succ m ih =>
    intro k z hk hz ho n hn R κ
    obtain ⟨n, rfl⟩ : ∃ j, n = j + 1 := ⟨n - 1, by omega⟩
    have hlt : k < r16.length := by omega
    have hok : okB r16[k] = true := List.all_eq_true.1 hu _ (List.getElem_mem hlt)
    have hx := okB_eq hok
    have hdrop : (r16.map byteOfV).drop k = byteOfV r16[k] :: (r16.map byteOfV).drop (k + 1) := by
      rw [List.drop_eq_getElem_cons (by rw [List.length_map]; exact hlt), List.getElem_map]
    have hnth : nthV r16 ((k : Int).toNat * 1 + 0) = .sc (.int .u8 ((byteOfV r16[k]).toNat : Int)) := by
      rw [Int.toNat_natCast, Nat.mul_one, Nat.add_zero, nthV_lt hlt]; exact hx
    rw [hdrop]
    generalize byteOfV r16[k] = b at hnth
    have hb : b.toNat < 256 := b.toNat_lt
    obtain ⟨g1, g2, g3⟩ := lt64_facts b.toNat hb
    have hzn := zok_n hz
    have hc3 := hz.c3
    have hcf := hz.cf
    have IH : ∀ z', zstep b z = some z' → f17_l0 n text (z'.n : Int) (z'.c : Int) (z'.f : Int) ((r16.length : Nat) : Int) ((k + 1 : Nat) : Int) (u8V z'.out) r16 R κ = fin17 text (zrun (b :: (r16.map byteOfV).drop (k + 1)) k z) R κ := by
      intro z' hs
      obtain ⟨q1, q2, _⟩ := zstep_ok hz hs
      rw [zrun_some hs]
      exact ih (k + 1) z' (by omega) q1 (by omega) n (by omega) R κ
    have BAD : zstep b z = none → fin17 text (zrun (b :: (r16.map byteOfV).drop (k + 1)) k z) R κ = κ .rt (mkS [(0, .sc (.string text)), (2, .sc (.string ⟨#[]⟩)), (3, .sc (.int .i64 (k : Int))), (4, .sc (.int .i64 1)), (5, .ref ⟨.loc 5, 0, [], 5, false⟩), (6, .sc (.int .i64 (z.n : Int))), (7, .sc (.int .i64 (z.c : Int))), (8, .sc (.int .i64 (z.f : Int)))] [(.loc 5, some ⟨false, [.own 5 false (u8V z.out)]⟩)]) := by
      intro hs
      rw [zrun_none hs]
      rfl
    rw [f17_l0, dec_true (show (k : Int) < ((r16.length : Nat) : Int) by omega), dec_true (show (0 : Int) ≤ (k : Int) by omega), hnth, wrap_succ (by omega)]
    simp only [V.isInt, V.intOf, decide_true, Bool.and_true, cond_true, idxB_lt]
    by_cases h10 : b.toNat = 10
    · have e : ((b.toNat : Int) == 10) = true := by rw [h10]; rfl
      rw [e]
      exact IH z (by unfold zstep; rw [if_pos h10])
    have e10 : ((b.toNat : Int) == 10) = false := by rw [beq_eq_false_iff_ne]; omega
    rw [e10, cond_false]
    by_cases hl0 : 0 ≤ lt64 (b.toNat : Int)
    · have h61 : b.toNat ≠ 61 := fun h => by rw [g3 (.inr h)] at hl0; omega
      have e61 : ((b.toNat : Int) == 61) = false := by rw [beq_eq_false_iff_ne]; omega
      obtain ⟨l, hl⟩ : ∃ l : Nat, lt64 (b.toNat : Int) = (l : Int) := ⟨(lt64 (b.toNat : Int)).toNat, by omega⟩
      have hl64 : l < 64 := by omega
      rw [dec_true (show lt64 (b.toNat : Int) ≥ 0 from hl0), cond_true]
      by_cases hf : z.f = 0
      · have ef : ((z.f : Int) == 0) = true := by rw [hf]; rfl
        have hs := hz
        rw [ef, cond_true, wrap_succ (by omega), hl, orLetter _ _ (by omega) hl64]
        by_cases hc : z.c = 3
        · have ec : (((z.c + 1 : Nat) : Int) == 4) = true := by rw [hc]; rfl
          have hr : (roomy (((u8V z.out).length + 3) * 1) && roomy ((u8V z.out).length + 3)) = true := by
            unfold roomy
            rw [u8V_len, dec_true (by omega), dec_true (by omega)]
            rfl
          rw [ec, cond_true, hr, cond_true, shr _ 16 (by omega), shr _ 8 (by omega), wrapU8, wrapU8, wrapU8]
          have hst : zstep b z = some ⟨0, 0, z.f, z.m + 1, z.out ++ [UInt8.ofNat ((z.n * 64 + l) / 65536), UInt8.ofNat ((z.n * 64 + l) / 256), UInt8.ofNat (z.n * 64 + l)]⟩ := by
            unfold zstep
            rw [if_neg h10, if_pos ⟨hl0, hf⟩, if_pos hc, hl, Int.toNat_natCast]
          have := IH _ hst
          rw [u8V_app] at this
          exact this
        · have ec : (((z.c + 1 : Nat) : Int) == 4) = false := by rw [beq_eq_false_iff_ne]; omega
          rw [ec, cond_false]
          have hst : zstep b z = some ⟨z.n * 64 + l, z.c + 1, z.f, z.m + 1, z.out⟩ := by
            unfold zstep
            rw [if_neg h10, if_pos ⟨hl0, hf⟩, if_neg hc, hl, Int.toNat_natCast]
          exact IH _ hst
      · have ef : ((z.f : Int) == 0) = false := by rw [beq_eq_false_iff_ne]; omega
        rw [ef, cond_false, e61, cond_false]
        refine (BAD ?_).symm
        unfold zstep
        rw [if_neg h10, if_neg (fun h => hf h.2), if_neg (fun h => h61 h.1)]
    · rw [dec_false (show ¬ lt64 (b.toNat : Int) ≥ 0 by omega), cond_false]
      by_cases h61 : b.toNat = 61
      · have e61 : ((b.toNat : Int) == 61) = true := by rw [h61]; rfl
        rw [e61, cond_true]
        by_cases hc2 : 2 ≤ z.c
        · rw [dec_true (show (z.c : Int) ≥ 2 by omega), cond_true, wrap_id (n := (z.c : Int) + (z.f : Int)) (by omega) (by omega)]
          by_cases hcf4 : z.c + z.f < 4
          · obtain ⟨m1, m2⟩ := maskZero hz hc2
            have e4 : ((z.c : Int) == 4) = false := by rw [beq_eq_false_iff_ne]; omega
            rw [dec_true (show (z.c : Int) + (z.f : Int) < 4 by omega), cond_true, m1, cond_true, m2, e4, cond_false, wrap_succ (by omega)]
            by_cases hz0 : z.n % 2 ^ (2 * (4 - z.c)) = 0
            · rw [dec_true hz0, cond_true]
              have hst : zstep b z = some ⟨z.n, z.c, z.f + 1, z.m + 1, z.out⟩ := by
                unfold zstep
                rw [if_neg h10, if_neg (fun h => hl0 h.1), if_pos ⟨h61, hc2, hcf4, hz0⟩]
              exact IH _ hst
            · rw [dec_false hz0, cond_false]
              refine (BAD ?_).symm
              unfold zstep
              rw [if_neg h10, if_neg (fun h => hl0 h.1), if_neg (fun h => hz0 h.2.2.2)]
          · rw [dec_false (show ¬ (z.c : Int) + (z.f : Int) < 4 by omega), cond_false]
            refine (BAD ?_).symm
            unfold zstep
            rw [if_neg h10, if_neg (fun h => hl0 h.1), if_neg (fun h => hcf4 h.2.2.1)]
        · rw [dec_false (show ¬ (z.c : Int) ≥ 2 by omega), cond_false]
          refine (BAD ?_).symm
          unfold zstep
          rw [if_neg h10, if_neg (fun h => hl0 h.1), if_neg (fun h => hc2 h.2.1)]
      · have e61 : ((b.toNat : Int) == 61) = false := by rw [beq_eq_false_iff_ne]; omega
        rw [e61, cond_false]
        refine (BAD ?_).symm
        unfold zstep
        rw [if_neg h10, if_neg (fun h => hl0 h.1), if_neg (fun h => h61 h.1)]
theorem f17_s0_eq (text : ByteArray) (n' : Int) (count : Int) (filled : Int) (v17 : Int) (v18 : Int) (out : List V) (r16 : List V) (hp : ((n' == 0) && (count == 0) && (filled == 0) && (v18 == 0) && (v17 == ((r16.length : Nat) : Int)) && (out.length == 0) && allB r16 && decide (r16.length ≤ 1000000000)) = true) : ∃ n, ∀ (R : Type) (κ : Ex → St → Option R), f17_l0 n text n' count filled v17 v18 out r16 R κ = f17_s0 text n' count filled v17 v18 out r16 R κ := by
  simp only [Bool.and_eq_true, decide_eq_true_eq, beq_iff_eq] at hp
  obtain ⟨⟨⟨⟨⟨⟨⟨rfl, rfl⟩, rfl⟩, rfl⟩, rfl⟩, h6⟩, h7⟩, h8⟩ := hp
  obtain rfl : out = [] := List.eq_nil_of_length_eq_zero h6
  exact ⟨r16.length + 1, fun R κ => f17_l0_c text r16 h7 h8 r16.length 0 ⟨0, 0, 0, 0, []⟩ (by omega) zok0 (by simp) _ (by omega) R κ⟩
def t_f17_l0 (st : St) (R : Type) (κ : Ex → St → Option R) : Option R := bif ckS f17_l0_ls f17_l0_rs st then (bif ((((st.env 6).intOf) == 0) && (((st.env 7).intOf) == 0) && (((st.env 8).intOf) == 0) && (((st.env 18).intOf) == 0) && (((st.env 17).intOf) == ((((nthV (rowOf (st.regs (.loc 16))) 0).cellsOf).length : Nat) : Int)) && (((nthV (rowOf (st.regs (.loc 5))) 0).cellsOf).length == 0) && allB ((nthV (rowOf (st.regs (.loc 16))) 0).cellsOf) && decide (((nthV (rowOf (st.regs (.loc 16))) 0).cellsOf).length ≤ 1000000000)) then f17_s0 ((st.env 0).strOf) ((st.env 6).intOf) ((st.env 7).intOf) ((st.env 8).intOf) ((st.env 17).intOf) ((st.env 18).intOf) ((nthV (rowOf (st.regs (.loc 5))) 0).cellsOf) ((nthV (rowOf (st.regs (.loc 16))) 0).cellsOf) R κ else none) else none
theorem t_f17_l0_ok : ∀ st0 R κ r, t_f17_l0 (forget C 17 [0, 1, 0, 1, 1, 1, 1] st0) R κ = some r → ∃ ee ss, κ ee ss = some r ∧ RunP C prim 17 [0, 1, 0, 1, 1, 1, 1] (forget C 17 [0, 1, 0, 1, 1, 1, 1] st0) ee ss := by
  intro st0 R κ r h
  obtain ⟨hs, h⟩ := cond_some h
  obtain ⟨hp, h⟩ := cond_some h
  rw [canon (ls := f17_l0_ls) (rs := f17_l0_rs) (by kernel_rfl) st0 hs]
  obtain ⟨n, hn⟩ := f17_s0_eq _ _ _ _ _ _ _ _ hp
  rw [← hn] at h
  exact f17_l0_ok n _ _ _ _ _ _ _ _ R κ r h

def K_f17 : CallK := kNil
theorem K_f17_ok : KOK C prim K_f17 := KOK.nil
def T_f17 : Tab := tCons [0, 1, 0, 1, 1, 1, 1] t_f17_l0 <| tNil
theorem T_f17_ok : TOK C prim 17 T_f17 := TOK.cons t_f17_l0_ok <| TOK.nil
def f17 (text : ByteArray) : Option (V × List Rg) :=
  bif (decide (((text.size : Nat) : Int) > 262144)) then
    some (.tp [.sc (.string ⟨#[]⟩), .sc (.int .i64 0), .sc (.int .i64 2)], [])
  else
    bif (((roomy text.size) && true) && true) then
      bif (((0 : Int) == 0) && ((0 : Int) == 0) && ((0 : Int) == 0) && ((0 : Int) == 0) && (((((bytesV text)).length : Nat) : Int) == (((bytesV text).length : Nat) : Int)) && (([] : List V).length == 0) && allB (bytesV text) && decide ((bytesV text).length ≤ 1000000000)) then
        bif (zr (bytesV text)).bad then
          some (.tp [.sc (.string ⟨#[]⟩), .sc (.int .i64 ((zr (bytesV text)).p : Int)), .sc (.int .i64 1)], [])
        else
          bif ((IntKind.wrap .i64 (((zr (bytesV text)).z.c : Int) + ((zr (bytesV text)).z.f : Int))) == 0) then
            bif ((allU8 (u8V (zr (bytesV text)).z.out)) && true) then
              some (.tp [.sc (.string (strOfCells (u8V (zr (bytesV text)).z.out))), .sc (.int .i64 0), .sc (.int .i64 0)], [])
            else none
          else
            bif (decide ((IntKind.wrap .i64 (((zr (bytesV text)).z.c : Int) + ((zr (bytesV text)).z.f : Int))) < 4)) then
              some (.tp [.sc (.string ⟨#[]⟩), .sc (.int .i64 ((text.size : Nat) : Int)), .sc (.int .i64 1)], [])
            else
              bif (((zr (bytesV text)).z.c : Int) == 2) then
                bif (((roomy ((((u8V (zr (bytesV text)).z.out)).length + 1) * 1)) && (roomy (((u8V (zr (bytesV text)).z.out)).length + 1))) && true) then
                  bif ((allU8 ((u8V (zr (bytesV text)).z.out) ++ [.sc (.int .u8 (IntKind.wrap .u8 (Int.fdiv ((zr (bytesV text)).z.n : Int) (2 ^ (min 4 64)))))])) && true) then
                    some (.tp [.sc (.string (strOfCells ((u8V (zr (bytesV text)).z.out) ++ [.sc (.int .u8 (IntKind.wrap .u8 (Int.fdiv ((zr (bytesV text)).z.n : Int) (2 ^ (min 4 64)))))]))), .sc (.int .i64 0), .sc (.int .i64 0)], [])
                  else none
                else none
              else
                bif (((roomy ((((u8V (zr (bytesV text)).z.out)).length + 2) * 1)) && (roomy (((u8V (zr (bytesV text)).z.out)).length + 2))) && true) then
                  bif ((allU8 ((u8V (zr (bytesV text)).z.out) ++ [.sc (.int .u8 (IntKind.wrap .u8 (Int.fdiv ((zr (bytesV text)).z.n : Int) (2 ^ (min 10 64))))), .sc (.int .u8 (IntKind.wrap .u8 (Int.fdiv ((zr (bytesV text)).z.n : Int) (2 ^ (min 2 64)))))])) && true) then
                    some (.tp [.sc (.string (strOfCells ((u8V (zr (bytesV text)).z.out) ++ [.sc (.int .u8 (IntKind.wrap .u8 (Int.fdiv ((zr (bytesV text)).z.n : Int) (2 ^ (min 10 64))))), .sc (.int .u8 (IntKind.wrap .u8 (Int.fdiv ((zr (bytesV text)).z.n : Int) (2 ^ (min 2 64)))))]))), .sc (.int .i64 0), .sc (.int .i64 0)], [])
                  else none
                else none
      else none
    else none
theorem f17_run (text : ByteArray) (x : V × List Rg) (h : f17 text = some x) : CallR C prim 17 [.sc (.string text)] [] x := by
  refine call_fn (K := K_f17) (T := T_f17) K_f17_ok T_f17_ok (by kernel_rfl) ?_
  refine Eq.trans ?_ h
  kernel_rfl

theorem f17_eq (text : ByteArray) (hp : decide (text.size ≤ 10000000) = true) : f17 text = some (.tp [.sc (.string (b64s text)), .sc (.int .i64 (b64p text)), .sc (.int .i64 (b64e text))], []) := by
  simp only [decide_eq_true_eq] at hp
  unfold f17 b64s b64p b64e
  by_cases h : 262144 < text.size
  · rw [dec_true (show ((text.size : Nat) : Int) > 262144 by omega), if_pos h, if_pos h, if_pos h]
    rfl
  · rw [dec_false (show ¬ ((text.size : Nat) : Int) > 262144 by omega), if_neg h, if_neg h, if_neg h]
    have hr : roomy text.size = true := by unfold roomy; exact dec_true (by omega)
    obtain ⟨k1, k2, k3⟩ := zrun_ok ((bytesV text).map byteOfV) 0 ⟨0, 0, 0, 0, []⟩ zok0
    have hlen : ((bytesV text).map byteOfV).length = text.size := by rw [List.length_map, bytesV_len]
    rw [hlen] at k2 k3
    have e1 : zrun ((bytesV text).map byteOfV) 0 ⟨0, 0, 0, 0, []⟩ = zr (bytesV text) := rfl
    rw [e1] at k1 k2 k3
    rw [hr, allB_bytesV, dec_true (show (bytesV text).length ≤ 1000000000 by rw [bytesV_len]; omega)]
    unfold o64
    generalize zr (bytesV text) = r at k1 k2 k3
    obtain ⟨bad, p, z⟩ := r
    simp only at k1 k2 k3
    have hz0 : z.out.length ≤ 786432 := by simp at k2; omega
    have hc3 := k1.c3
    have hcf := k1.cf
    have hfc := k1.fc
    have hzn := zok_n k1
    cases bad with
    | true => simp; rfl
    | false =>
      simp only [beq_self_eq_true, Bool.and_true, Bool.true_and, cond_true, cond_false, List.length_nil, Bool.false_eq_true, if_false]
      rw [wrap_id (n := (z.c : Int) + (z.f : Int)) (by omega) (by omega)]
      by_cases h0 : z.c + z.f = 0
      · have e0 : ((z.c : Int) + (z.f : Int) == 0) = true := by rw [beq_iff_eq]; omega
        have hz : ztail z = [] := by unfold ztail; rw [if_neg (by omega), if_neg (by omega)]
        rw [e0, cond_true, allU8_u8V, cond_true, strOf_u8V, if_neg (by omega), hz, List.append_nil]
        rfl
      · have e0 : ((z.c : Int) + (z.f : Int) == 0) = false := by rw [beq_eq_false_iff_ne]; omega
        rw [e0, cond_false]
        by_cases h4 : z.c + z.f < 4
        · rw [dec_true (show (z.c : Int) + (z.f : Int) < 4 by omega), cond_true, if_pos (by omega)]
          rfl
        · rw [dec_false (show ¬ (z.c : Int) + (z.f : Int) < 4 by omega), cond_false, if_neg (by omega)]
          by_cases h2 : z.c = 2
          · have e2 : ((z.c : Int) == 2) = true := by rw [h2]; rfl
            have hr2 : (roomy (((u8V z.out).length + 1) * 1) && roomy ((u8V z.out).length + 1)) = true := by
              unfold roomy; rw [u8V_len, dec_true (by omega), dec_true (by omega)]; rfl
            have e3 : u8V z.out ++ [V.sc (.int .u8 (IntKind.wrap .u8 (Int.fdiv (z.n : Int) (2 ^ (min 4 64)))))] = u8V (z.out ++ ztail z) := by
              rw [shr _ 4 (by omega), wrapU8, u8V_app]
              unfold ztail
              rw [if_pos h2]
              rfl
            rw [e2, cond_true, hr2, cond_true, e3, allU8_u8V, cond_true, strOf_u8V]
            rfl
          · have h3 : z.c = 3 := by omega
            have e2 : ((z.c : Int) == 2) = false := by rw [h3]; rfl
            have hr2 : (roomy (((u8V z.out).length + 2) * 1) && roomy ((u8V z.out).length + 2)) = true := by
              unfold roomy; rw [u8V_len, dec_true (by omega), dec_true (by omega)]; rfl
            have e3 : u8V z.out ++ [V.sc (.int .u8 (IntKind.wrap .u8 (Int.fdiv (z.n : Int) (2 ^ (min 10 64))))), V.sc (.int .u8 (IntKind.wrap .u8 (Int.fdiv (z.n : Int) (2 ^ (min 2 64)))))] = u8V (z.out ++ ztail z) := by
              rw [shr _ 10 (by omega), shr _ 2 (by omega), wrapU8, wrapU8, u8V_app]
              unfold ztail
              rw [if_neg h2, if_pos h3]
              rfl
            rw [e2, cond_false, hr2, cond_true, e3, allU8_u8V, cond_true, strOf_u8V]
            rfl
def k17 : PrimT := fun vs gs => match vs, gs with
  | [.sc (.string text)], [] => (decide (text.size ≤ 10000000), .tp [.sc (.string (b64s text)), .sc (.int .i64 (b64p text)), .sc (.int .i64 (b64e text))], [])
  | _, _ => (false, .bad, [])
theorem k17_ok : ∀ vs gs x, k17 vs gs = (true, x) → CallR C prim 17 vs gs x := by
  intro vs gs x h
  unfold k17 at h
  split at h
  · simp only [Prod.mk.injEq] at h
    obtain ⟨hp, rfl⟩ := h
    exact f17_run _ _ (f17_eq _ hp)
  · cases h

def K_f18_l1 : CallK := kNil
theorem K_f18_l1_ok : KOK C prim K_f18_l1 := KOK.nil
def T_f18_l1 : Tab := tNil
theorem T_f18_l1_ok : TOK C prim 18 T_f18_l1 := TOK.nil
def f18_l1 : Nat → ByteArray → ByteArray → Int → Int → Int → Int → Int → Int → Int → Int → (R : Type) → (Ex → St → Option R) → Option R
  | 0, _, _, _, _, _, _, _, _, _, _, _, _ => none
  | n + 1, s, all, marks, many, i, c, v, v18, v19, v27, R, κ =>
    bif (decide (v27 < 64)) then
      bif (((decide ((0 : Int) ≤ v27)) && (decide (v27 < 64))) && true) then
        bif ((((⟨#[65, 66, 67, 68, 69, 70, 71, 72, 73, 74, 75, 76, 77, 78, 79, 80, 81, 82, 83, 84, 85, 86, 87, 88, 89, 90, 97, 98, 99, 100, 101, 102, 103, 104, 105, 106, 107, 108, 109, 110, 111, 112, 113, 114, 115, 116, 117, 118, 119, 120, 121, 122, 48, 49, 50, 51, 52, 53, 54, 55, 56, 57, 43, 47]⟩ : ByteArray).data.getD (v27).toNat 0).toNat : Int) == c) then
          f18_l1 n s all marks many i c v27 v18 v19 (IntKind.wrap .i64 (v27 + 1)) R κ
        else
          f18_l1 n s all marks many i c v v18 v19 (IntKind.wrap .i64 (v27 + 1)) R κ
      else none
    else
      κ (.ex 2) (mkS [(0, .sc (.string s)), (2, .bad), (3, .bad), (4, .bad), (5, .sc (.string all)), (6, .sc (.int .i64 marks)), (7, .sc (.int .i64 many)), (8, .sc (.int .i64 i)), (9, .sc (.int .u8 c)), (10, .sc (.int .i64 v)), (18, .sc (.int .i64 v18)), (19, .sc (.int .i64 v19))] [])
def f18_l1_ls : List (Nat × Pat) := [(0, .s), (5, .s), (6, .i .i64), (7, .i .i64), (8, .i .i64), (9, .i .u8), (10, .i .i64), (18, .i .i64), (19, .i .i64), (27, .i .i64)]
def f18_l1_rs : List RPat := []
theorem f18_l1_ok (n : Nat) : ∀ (s : ByteArray) (all : ByteArray) (marks : Int) (many : Int) (i : Int) (c : Int) (v : Int) (v18 : Int) (v19 : Int) (v27 : Int) (R : Type) (κ : Ex → St → Option R) (r : R), f18_l1 n s all marks many i c v v18 v19 v27 R κ = some r → ∃ ee ss, κ ee ss = some r ∧ RunP C prim 18 [0, 1, 0, 1, 1, 1, 1, 0, 0, 1, 1, 0, 0, 1, 0, 1, 1] (mkS [(0, .sc (.string s)), (5, .sc (.string all)), (6, .sc (.int .i64 marks)), (7, .sc (.int .i64 many)), (8, .sc (.int .i64 i)), (9, .sc (.int .u8 c)), (10, .sc (.int .i64 v)), (18, .sc (.int .i64 v18)), (19, .sc (.int .i64 v19)), (27, .sc (.int .i64 v27))] []) ee ss := by
  induction n with
  | zero => intro s all marks many i c v v18 v19 v27 R κ r h; cases h
  | succ n ih =>
    intro s all marks many i c v v18 v19 v27 R κ r h
    refine loop_round (K := K_f18_l1) (T := T_f18_l1) K_f18_l1_ok T_f18_l1_ok (p := [0, 1, 0, 1, 1, 1, 1, 0, 0, 1, 1, 0, 0, 1, 0, 1, 1]) (by kernel_rfl) (fun st => bif ckS f18_l1_ls f18_l1_rs st then f18_l1 n ((st.env 0).strOf) ((st.env 5).strOf) ((st.env 6).intOf) ((st.env 7).intOf) ((st.env 8).intOf) ((st.env 9).intOf) ((st.env 10).intOf) ((st.env 18).intOf) ((st.env 19).intOf) ((st.env 27).intOf) R κ else none) (fun st0 h0 => ?_) ?_
    · obtain ⟨hs, h0⟩ := cond_some h0
      rw [canon (ls := f18_l1_ls) (rs := f18_l1_rs) (by kernel_rfl) st0 hs]
      exact ih _ _ _ _ _ _ _ _ _ _ R κ r h0
    · refine Eq.trans ?_ h
      kernel_rfl

def f18_s1 (s : ByteArray) (all : ByteArray) (marks : Int) (many : Int) (i : Int) (c : Int) (v : Int) (v18 : Int) (v19 : Int) (v27 : Int) (R : Type) (κ : Ex → St → Option R) : Option R :=
  κ (.ex 2) (mkS [(0, .sc (.string s)), (2, .bad), (3, .bad), (4, .bad), (5, .sc (.string all)), (6, .sc (.int .i64 marks)), (7, .sc (.int .i64 many)), (8, .sc (.int .i64 i)), (9, .sc (.int .u8 c)), (10, .sc (.int .i64 (lt64 c))), (18, .sc (.int .i64 v18)), (19, .sc (.int .i64 v19))] [])
theorem f18_l1_c : ∀ c : Nat, c < 256 → ∀ (s all : ByteArray) (marks many i v18 v19 : Int) (R : Type) (κ : Ex → St → Option R), f18_l1 65 s all marks many i (c : Int) (-1) v18 v19 0 R κ = f18_s1 s all marks many i (c : Int) (-1) v18 v19 0 R κ
  | 0, _, _, _, _, _, _, _, _, _, _ => by kernel_rfl
  | 1, _, _, _, _, _, _, _, _, _, _ => by kernel_rfl
  | 2, _, _, _, _, _, _, _, _, _, _ => by kernel_rfl
  | 3, _, _, _, _, _, _, _, _, _, _ => by kernel_rfl
  | 4, _, _, _, _, _, _, _, _, _, _ => by kernel_rfl
  | 5, _, _, _, _, _, _, _, _, _, _ => by kernel_rfl
  | 6, _, _, _, _, _, _, _, _, _, _ => by kernel_rfl
  | 7, _, _, _, _, _, _, _, _, _, _ => by kernel_rfl
  | 8, _, _, _, _, _, _, _, _, _, _ => by kernel_rfl
  | 9, _, _, _, _, _, _, _, _, _, _ => by kernel_rfl
  | 10, _, _, _, _, _, _, _, _, _, _ => by kernel_rfl
  | 11, _, _, _, _, _, _, _, _, _, _ => by kernel_rfl
  | 12, _, _, _, _, _, _, _, _, _, _ => by kernel_rfl
  | 13, _, _, _, _, _, _, _, _, _, _ => by kernel_rfl
  | 14, _, _, _, _, _, _, _, _, _, _ => by kernel_rfl
  | 15, _, _, _, _, _, _, _, _, _, _ => by kernel_rfl
  | 16, _, _, _, _, _, _, _, _, _, _ => by kernel_rfl
  | 17, _, _, _, _, _, _, _, _, _, _ => by kernel_rfl
  | 18, _, _, _, _, _, _, _, _, _, _ => by kernel_rfl
  | 19, _, _, _, _, _, _, _, _, _, _ => by kernel_rfl
  | 20, _, _, _, _, _, _, _, _, _, _ => by kernel_rfl
  | 21, _, _, _, _, _, _, _, _, _, _ => by kernel_rfl
  | 22, _, _, _, _, _, _, _, _, _, _ => by kernel_rfl
  | 23, _, _, _, _, _, _, _, _, _, _ => by kernel_rfl
  | 24, _, _, _, _, _, _, _, _, _, _ => by kernel_rfl
  | 25, _, _, _, _, _, _, _, _, _, _ => by kernel_rfl
  | 26, _, _, _, _, _, _, _, _, _, _ => by kernel_rfl
  | 27, _, _, _, _, _, _, _, _, _, _ => by kernel_rfl
  | 28, _, _, _, _, _, _, _, _, _, _ => by kernel_rfl
  | 29, _, _, _, _, _, _, _, _, _, _ => by kernel_rfl
  | 30, _, _, _, _, _, _, _, _, _, _ => by kernel_rfl
  | 31, _, _, _, _, _, _, _, _, _, _ => by kernel_rfl
  | 32, _, _, _, _, _, _, _, _, _, _ => by kernel_rfl
  | 33, _, _, _, _, _, _, _, _, _, _ => by kernel_rfl
  | 34, _, _, _, _, _, _, _, _, _, _ => by kernel_rfl
  | 35, _, _, _, _, _, _, _, _, _, _ => by kernel_rfl
  | 36, _, _, _, _, _, _, _, _, _, _ => by kernel_rfl
  | 37, _, _, _, _, _, _, _, _, _, _ => by kernel_rfl
  | 38, _, _, _, _, _, _, _, _, _, _ => by kernel_rfl
  | 39, _, _, _, _, _, _, _, _, _, _ => by kernel_rfl
  | 40, _, _, _, _, _, _, _, _, _, _ => by kernel_rfl
  | 41, _, _, _, _, _, _, _, _, _, _ => by kernel_rfl
  | 42, _, _, _, _, _, _, _, _, _, _ => by kernel_rfl
  | 43, _, _, _, _, _, _, _, _, _, _ => by kernel_rfl
  | 44, _, _, _, _, _, _, _, _, _, _ => by kernel_rfl
  | 45, _, _, _, _, _, _, _, _, _, _ => by kernel_rfl
  | 46, _, _, _, _, _, _, _, _, _, _ => by kernel_rfl
  | 47, _, _, _, _, _, _, _, _, _, _ => by kernel_rfl
  | 48, _, _, _, _, _, _, _, _, _, _ => by kernel_rfl
  | 49, _, _, _, _, _, _, _, _, _, _ => by kernel_rfl
  | 50, _, _, _, _, _, _, _, _, _, _ => by kernel_rfl
  | 51, _, _, _, _, _, _, _, _, _, _ => by kernel_rfl
  | 52, _, _, _, _, _, _, _, _, _, _ => by kernel_rfl
  | 53, _, _, _, _, _, _, _, _, _, _ => by kernel_rfl
  | 54, _, _, _, _, _, _, _, _, _, _ => by kernel_rfl
  | 55, _, _, _, _, _, _, _, _, _, _ => by kernel_rfl
  | 56, _, _, _, _, _, _, _, _, _, _ => by kernel_rfl
  | 57, _, _, _, _, _, _, _, _, _, _ => by kernel_rfl
  | 58, _, _, _, _, _, _, _, _, _, _ => by kernel_rfl
  | 59, _, _, _, _, _, _, _, _, _, _ => by kernel_rfl
  | 60, _, _, _, _, _, _, _, _, _, _ => by kernel_rfl
  | 61, _, _, _, _, _, _, _, _, _, _ => by kernel_rfl
  | 62, _, _, _, _, _, _, _, _, _, _ => by kernel_rfl
  | 63, _, _, _, _, _, _, _, _, _, _ => by kernel_rfl
  | 64, _, _, _, _, _, _, _, _, _, _ => by kernel_rfl
  | 65, _, _, _, _, _, _, _, _, _, _ => by kernel_rfl
  | 66, _, _, _, _, _, _, _, _, _, _ => by kernel_rfl
  | 67, _, _, _, _, _, _, _, _, _, _ => by kernel_rfl
  | 68, _, _, _, _, _, _, _, _, _, _ => by kernel_rfl
  | 69, _, _, _, _, _, _, _, _, _, _ => by kernel_rfl
  | 70, _, _, _, _, _, _, _, _, _, _ => by kernel_rfl
  | 71, _, _, _, _, _, _, _, _, _, _ => by kernel_rfl
  | 72, _, _, _, _, _, _, _, _, _, _ => by kernel_rfl
  | 73, _, _, _, _, _, _, _, _, _, _ => by kernel_rfl
  | 74, _, _, _, _, _, _, _, _, _, _ => by kernel_rfl
  | 75, _, _, _, _, _, _, _, _, _, _ => by kernel_rfl
  | 76, _, _, _, _, _, _, _, _, _, _ => by kernel_rfl
  | 77, _, _, _, _, _, _, _, _, _, _ => by kernel_rfl
  | 78, _, _, _, _, _, _, _, _, _, _ => by kernel_rfl
  | 79, _, _, _, _, _, _, _, _, _, _ => by kernel_rfl
  | 80, _, _, _, _, _, _, _, _, _, _ => by kernel_rfl
  | 81, _, _, _, _, _, _, _, _, _, _ => by kernel_rfl
  | 82, _, _, _, _, _, _, _, _, _, _ => by kernel_rfl
  | 83, _, _, _, _, _, _, _, _, _, _ => by kernel_rfl
  | 84, _, _, _, _, _, _, _, _, _, _ => by kernel_rfl
  | 85, _, _, _, _, _, _, _, _, _, _ => by kernel_rfl
  | 86, _, _, _, _, _, _, _, _, _, _ => by kernel_rfl
  | 87, _, _, _, _, _, _, _, _, _, _ => by kernel_rfl
  | 88, _, _, _, _, _, _, _, _, _, _ => by kernel_rfl
  | 89, _, _, _, _, _, _, _, _, _, _ => by kernel_rfl
  | 90, _, _, _, _, _, _, _, _, _, _ => by kernel_rfl
  | 91, _, _, _, _, _, _, _, _, _, _ => by kernel_rfl
  | 92, _, _, _, _, _, _, _, _, _, _ => by kernel_rfl
  | 93, _, _, _, _, _, _, _, _, _, _ => by kernel_rfl
  | 94, _, _, _, _, _, _, _, _, _, _ => by kernel_rfl
  | 95, _, _, _, _, _, _, _, _, _, _ => by kernel_rfl
  | 96, _, _, _, _, _, _, _, _, _, _ => by kernel_rfl
  | 97, _, _, _, _, _, _, _, _, _, _ => by kernel_rfl
  | 98, _, _, _, _, _, _, _, _, _, _ => by kernel_rfl
  | 99, _, _, _, _, _, _, _, _, _, _ => by kernel_rfl
  | 100, _, _, _, _, _, _, _, _, _, _ => by kernel_rfl
  | 101, _, _, _, _, _, _, _, _, _, _ => by kernel_rfl
  | 102, _, _, _, _, _, _, _, _, _, _ => by kernel_rfl
  | 103, _, _, _, _, _, _, _, _, _, _ => by kernel_rfl
  | 104, _, _, _, _, _, _, _, _, _, _ => by kernel_rfl
  | 105, _, _, _, _, _, _, _, _, _, _ => by kernel_rfl
  | 106, _, _, _, _, _, _, _, _, _, _ => by kernel_rfl
  | 107, _, _, _, _, _, _, _, _, _, _ => by kernel_rfl
  | 108, _, _, _, _, _, _, _, _, _, _ => by kernel_rfl
  | 109, _, _, _, _, _, _, _, _, _, _ => by kernel_rfl
  | 110, _, _, _, _, _, _, _, _, _, _ => by kernel_rfl
  | 111, _, _, _, _, _, _, _, _, _, _ => by kernel_rfl
  | 112, _, _, _, _, _, _, _, _, _, _ => by kernel_rfl
  | 113, _, _, _, _, _, _, _, _, _, _ => by kernel_rfl
  | 114, _, _, _, _, _, _, _, _, _, _ => by kernel_rfl
  | 115, _, _, _, _, _, _, _, _, _, _ => by kernel_rfl
  | 116, _, _, _, _, _, _, _, _, _, _ => by kernel_rfl
  | 117, _, _, _, _, _, _, _, _, _, _ => by kernel_rfl
  | 118, _, _, _, _, _, _, _, _, _, _ => by kernel_rfl
  | 119, _, _, _, _, _, _, _, _, _, _ => by kernel_rfl
  | 120, _, _, _, _, _, _, _, _, _, _ => by kernel_rfl
  | 121, _, _, _, _, _, _, _, _, _, _ => by kernel_rfl
  | 122, _, _, _, _, _, _, _, _, _, _ => by kernel_rfl
  | 123, _, _, _, _, _, _, _, _, _, _ => by kernel_rfl
  | 124, _, _, _, _, _, _, _, _, _, _ => by kernel_rfl
  | 125, _, _, _, _, _, _, _, _, _, _ => by kernel_rfl
  | 126, _, _, _, _, _, _, _, _, _, _ => by kernel_rfl
  | 127, _, _, _, _, _, _, _, _, _, _ => by kernel_rfl
  | 128, _, _, _, _, _, _, _, _, _, _ => by kernel_rfl
  | 129, _, _, _, _, _, _, _, _, _, _ => by kernel_rfl
  | 130, _, _, _, _, _, _, _, _, _, _ => by kernel_rfl
  | 131, _, _, _, _, _, _, _, _, _, _ => by kernel_rfl
  | 132, _, _, _, _, _, _, _, _, _, _ => by kernel_rfl
  | 133, _, _, _, _, _, _, _, _, _, _ => by kernel_rfl
  | 134, _, _, _, _, _, _, _, _, _, _ => by kernel_rfl
  | 135, _, _, _, _, _, _, _, _, _, _ => by kernel_rfl
  | 136, _, _, _, _, _, _, _, _, _, _ => by kernel_rfl
  | 137, _, _, _, _, _, _, _, _, _, _ => by kernel_rfl
  | 138, _, _, _, _, _, _, _, _, _, _ => by kernel_rfl
  | 139, _, _, _, _, _, _, _, _, _, _ => by kernel_rfl
  | 140, _, _, _, _, _, _, _, _, _, _ => by kernel_rfl
  | 141, _, _, _, _, _, _, _, _, _, _ => by kernel_rfl
  | 142, _, _, _, _, _, _, _, _, _, _ => by kernel_rfl
  | 143, _, _, _, _, _, _, _, _, _, _ => by kernel_rfl
  | 144, _, _, _, _, _, _, _, _, _, _ => by kernel_rfl
  | 145, _, _, _, _, _, _, _, _, _, _ => by kernel_rfl
  | 146, _, _, _, _, _, _, _, _, _, _ => by kernel_rfl
  | 147, _, _, _, _, _, _, _, _, _, _ => by kernel_rfl
  | 148, _, _, _, _, _, _, _, _, _, _ => by kernel_rfl
  | 149, _, _, _, _, _, _, _, _, _, _ => by kernel_rfl
  | 150, _, _, _, _, _, _, _, _, _, _ => by kernel_rfl
  | 151, _, _, _, _, _, _, _, _, _, _ => by kernel_rfl
  | 152, _, _, _, _, _, _, _, _, _, _ => by kernel_rfl
  | 153, _, _, _, _, _, _, _, _, _, _ => by kernel_rfl
  | 154, _, _, _, _, _, _, _, _, _, _ => by kernel_rfl
  | 155, _, _, _, _, _, _, _, _, _, _ => by kernel_rfl
  | 156, _, _, _, _, _, _, _, _, _, _ => by kernel_rfl
  | 157, _, _, _, _, _, _, _, _, _, _ => by kernel_rfl
  | 158, _, _, _, _, _, _, _, _, _, _ => by kernel_rfl
  | 159, _, _, _, _, _, _, _, _, _, _ => by kernel_rfl
  | 160, _, _, _, _, _, _, _, _, _, _ => by kernel_rfl
  | 161, _, _, _, _, _, _, _, _, _, _ => by kernel_rfl
  | 162, _, _, _, _, _, _, _, _, _, _ => by kernel_rfl
  | 163, _, _, _, _, _, _, _, _, _, _ => by kernel_rfl
  | 164, _, _, _, _, _, _, _, _, _, _ => by kernel_rfl
  | 165, _, _, _, _, _, _, _, _, _, _ => by kernel_rfl
  | 166, _, _, _, _, _, _, _, _, _, _ => by kernel_rfl
  | 167, _, _, _, _, _, _, _, _, _, _ => by kernel_rfl
  | 168, _, _, _, _, _, _, _, _, _, _ => by kernel_rfl
  | 169, _, _, _, _, _, _, _, _, _, _ => by kernel_rfl
  | 170, _, _, _, _, _, _, _, _, _, _ => by kernel_rfl
  | 171, _, _, _, _, _, _, _, _, _, _ => by kernel_rfl
  | 172, _, _, _, _, _, _, _, _, _, _ => by kernel_rfl
  | 173, _, _, _, _, _, _, _, _, _, _ => by kernel_rfl
  | 174, _, _, _, _, _, _, _, _, _, _ => by kernel_rfl
  | 175, _, _, _, _, _, _, _, _, _, _ => by kernel_rfl
  | 176, _, _, _, _, _, _, _, _, _, _ => by kernel_rfl
  | 177, _, _, _, _, _, _, _, _, _, _ => by kernel_rfl
  | 178, _, _, _, _, _, _, _, _, _, _ => by kernel_rfl
  | 179, _, _, _, _, _, _, _, _, _, _ => by kernel_rfl
  | 180, _, _, _, _, _, _, _, _, _, _ => by kernel_rfl
  | 181, _, _, _, _, _, _, _, _, _, _ => by kernel_rfl
  | 182, _, _, _, _, _, _, _, _, _, _ => by kernel_rfl
  | 183, _, _, _, _, _, _, _, _, _, _ => by kernel_rfl
  | 184, _, _, _, _, _, _, _, _, _, _ => by kernel_rfl
  | 185, _, _, _, _, _, _, _, _, _, _ => by kernel_rfl
  | 186, _, _, _, _, _, _, _, _, _, _ => by kernel_rfl
  | 187, _, _, _, _, _, _, _, _, _, _ => by kernel_rfl
  | 188, _, _, _, _, _, _, _, _, _, _ => by kernel_rfl
  | 189, _, _, _, _, _, _, _, _, _, _ => by kernel_rfl
  | 190, _, _, _, _, _, _, _, _, _, _ => by kernel_rfl
  | 191, _, _, _, _, _, _, _, _, _, _ => by kernel_rfl
  | 192, _, _, _, _, _, _, _, _, _, _ => by kernel_rfl
  | 193, _, _, _, _, _, _, _, _, _, _ => by kernel_rfl
  | 194, _, _, _, _, _, _, _, _, _, _ => by kernel_rfl
  | 195, _, _, _, _, _, _, _, _, _, _ => by kernel_rfl
  | 196, _, _, _, _, _, _, _, _, _, _ => by kernel_rfl
  | 197, _, _, _, _, _, _, _, _, _, _ => by kernel_rfl
  | 198, _, _, _, _, _, _, _, _, _, _ => by kernel_rfl
  | 199, _, _, _, _, _, _, _, _, _, _ => by kernel_rfl
  | 200, _, _, _, _, _, _, _, _, _, _ => by kernel_rfl
  | 201, _, _, _, _, _, _, _, _, _, _ => by kernel_rfl
  | 202, _, _, _, _, _, _, _, _, _, _ => by kernel_rfl
  | 203, _, _, _, _, _, _, _, _, _, _ => by kernel_rfl
  | 204, _, _, _, _, _, _, _, _, _, _ => by kernel_rfl
  | 205, _, _, _, _, _, _, _, _, _, _ => by kernel_rfl
  | 206, _, _, _, _, _, _, _, _, _, _ => by kernel_rfl
  | 207, _, _, _, _, _, _, _, _, _, _ => by kernel_rfl
  | 208, _, _, _, _, _, _, _, _, _, _ => by kernel_rfl
  | 209, _, _, _, _, _, _, _, _, _, _ => by kernel_rfl
  | 210, _, _, _, _, _, _, _, _, _, _ => by kernel_rfl
  | 211, _, _, _, _, _, _, _, _, _, _ => by kernel_rfl
  | 212, _, _, _, _, _, _, _, _, _, _ => by kernel_rfl
  | 213, _, _, _, _, _, _, _, _, _, _ => by kernel_rfl
  | 214, _, _, _, _, _, _, _, _, _, _ => by kernel_rfl
  | 215, _, _, _, _, _, _, _, _, _, _ => by kernel_rfl
  | 216, _, _, _, _, _, _, _, _, _, _ => by kernel_rfl
  | 217, _, _, _, _, _, _, _, _, _, _ => by kernel_rfl
  | 218, _, _, _, _, _, _, _, _, _, _ => by kernel_rfl
  | 219, _, _, _, _, _, _, _, _, _, _ => by kernel_rfl
  | 220, _, _, _, _, _, _, _, _, _, _ => by kernel_rfl
  | 221, _, _, _, _, _, _, _, _, _, _ => by kernel_rfl
  | 222, _, _, _, _, _, _, _, _, _, _ => by kernel_rfl
  | 223, _, _, _, _, _, _, _, _, _, _ => by kernel_rfl
  | 224, _, _, _, _, _, _, _, _, _, _ => by kernel_rfl
  | 225, _, _, _, _, _, _, _, _, _, _ => by kernel_rfl
  | 226, _, _, _, _, _, _, _, _, _, _ => by kernel_rfl
  | 227, _, _, _, _, _, _, _, _, _, _ => by kernel_rfl
  | 228, _, _, _, _, _, _, _, _, _, _ => by kernel_rfl
  | 229, _, _, _, _, _, _, _, _, _, _ => by kernel_rfl
  | 230, _, _, _, _, _, _, _, _, _, _ => by kernel_rfl
  | 231, _, _, _, _, _, _, _, _, _, _ => by kernel_rfl
  | 232, _, _, _, _, _, _, _, _, _, _ => by kernel_rfl
  | 233, _, _, _, _, _, _, _, _, _, _ => by kernel_rfl
  | 234, _, _, _, _, _, _, _, _, _, _ => by kernel_rfl
  | 235, _, _, _, _, _, _, _, _, _, _ => by kernel_rfl
  | 236, _, _, _, _, _, _, _, _, _, _ => by kernel_rfl
  | 237, _, _, _, _, _, _, _, _, _, _ => by kernel_rfl
  | 238, _, _, _, _, _, _, _, _, _, _ => by kernel_rfl
  | 239, _, _, _, _, _, _, _, _, _, _ => by kernel_rfl
  | 240, _, _, _, _, _, _, _, _, _, _ => by kernel_rfl
  | 241, _, _, _, _, _, _, _, _, _, _ => by kernel_rfl
  | 242, _, _, _, _, _, _, _, _, _, _ => by kernel_rfl
  | 243, _, _, _, _, _, _, _, _, _, _ => by kernel_rfl
  | 244, _, _, _, _, _, _, _, _, _, _ => by kernel_rfl
  | 245, _, _, _, _, _, _, _, _, _, _ => by kernel_rfl
  | 246, _, _, _, _, _, _, _, _, _, _ => by kernel_rfl
  | 247, _, _, _, _, _, _, _, _, _, _ => by kernel_rfl
  | 248, _, _, _, _, _, _, _, _, _, _ => by kernel_rfl
  | 249, _, _, _, _, _, _, _, _, _, _ => by kernel_rfl
  | 250, _, _, _, _, _, _, _, _, _, _ => by kernel_rfl
  | 251, _, _, _, _, _, _, _, _, _, _ => by kernel_rfl
  | 252, _, _, _, _, _, _, _, _, _, _ => by kernel_rfl
  | 253, _, _, _, _, _, _, _, _, _, _ => by kernel_rfl
  | 254, _, _, _, _, _, _, _, _, _, _ => by kernel_rfl
  | 255, _, _, _, _, _, _, _, _, _, _ => by kernel_rfl
  | n + 256, h, _, _, _, _, _, _, _, _, _ => absurd h (by omega)
theorem f18_s1_eq (s : ByteArray) (all : ByteArray) (marks : Int) (many : Int) (i : Int) (c : Int) (v : Int) (v18 : Int) (v19 : Int) (v27 : Int) (hp : ((v == -1) && (v27 == 0) && decide (0 ≤ c) && decide (c < 256)) = true) : ∃ n, ∀ (R : Type) (κ : Ex → St → Option R), f18_l1 n s all marks many i c v v18 v19 v27 R κ = f18_s1 s all marks many i c v v18 v19 v27 R κ := by
  simp only [Bool.and_eq_true, decide_eq_true_eq, beq_iff_eq] at hp
  obtain ⟨⟨⟨rfl, rfl⟩, h3⟩, h4⟩ := hp
  obtain ⟨b, rfl⟩ : ∃ b : Nat, c = (b : Int) := ⟨c.toNat, by omega⟩
  exact ⟨65, fun R κ => f18_l1_c b (by omega) _ _ _ _ _ _ _ R κ⟩
def t_f18_l1 (st : St) (R : Type) (κ : Ex → St → Option R) : Option R := bif ckS f18_l1_ls f18_l1_rs st then (bif ((((st.env 10).intOf) == -1) && (((st.env 27).intOf) == 0) && decide (0 ≤ ((st.env 9).intOf)) && decide (((st.env 9).intOf) < 256)) then f18_s1 ((st.env 0).strOf) ((st.env 5).strOf) ((st.env 6).intOf) ((st.env 7).intOf) ((st.env 8).intOf) ((st.env 9).intOf) ((st.env 10).intOf) ((st.env 18).intOf) ((st.env 19).intOf) ((st.env 27).intOf) R κ else none) else none
theorem t_f18_l1_ok : ∀ st0 R κ r, t_f18_l1 (forget C 18 [0, 1, 0, 1, 1, 1, 1, 0, 0, 1, 1, 0, 0, 1, 0, 1, 1] st0) R κ = some r → ∃ ee ss, κ ee ss = some r ∧ RunP C prim 18 [0, 1, 0, 1, 1, 1, 1, 0, 0, 1, 1, 0, 0, 1, 0, 1, 1] (forget C 18 [0, 1, 0, 1, 1, 1, 1, 0, 0, 1, 1, 0, 0, 1, 0, 1, 1] st0) ee ss := by
  intro st0 R κ r h
  obtain ⟨hs, h⟩ := cond_some h
  obtain ⟨hp, h⟩ := cond_some h
  rw [canon (ls := f18_l1_ls) (rs := f18_l1_rs) (by kernel_rfl) st0 hs]
  obtain ⟨n, hn⟩ := f18_s1_eq _ _ _ _ _ _ _ _ _ _ hp
  rw [← hn] at h
  exact f18_l1_ok n _ _ _ _ _ _ _ _ _ _ R κ r h

def K_f18_l0 : CallK := kCons 55 k55 <| kCons 56 k56 <| kNil
theorem K_f18_l0_ok : KOK C prim K_f18_l0 := KOK.cons k55_ok <| KOK.cons k56_ok <| KOK.nil
def T_f18_l0 : Tab := tCons [0, 1, 0, 1, 1, 1, 1, 0, 0, 1, 1, 0, 0, 1, 0, 1, 1] t_f18_l1 <| tNil
theorem T_f18_l0_ok : TOK C prim 18 T_f18_l0 := TOK.cons t_f18_l1_ok <| TOK.nil
def f18_l0 : Nat → ByteArray → ByteArray → Int → Int → Int → Int → (R : Type) → (Ex → St → Option R) → Option R
  | 0, _, _, _, _, _, _, _, _ => none
  | n + 1, s, all, marks, many, v18, v19, R, κ =>
    bif (decide (v19 < v18)) then
      bif (((decide ((0 : Int) ≤ v19)) && (decide (v19 < ((s.size : Nat) : Int)))) && true) then
        bif (((s.data.getD (v19).toNat 0).toNat : Int) == 10) then
          f18_l0 n s all marks many v18 (IntKind.wrap .i64 (v19 + 1)) R κ
        else
          bif ((((-1) : Int) == -1) && ((0 : Int) == 0) && decide (0 ≤ ((s.data.getD (v19).toNat 0).toNat : Int)) && decide (((s.data.getD (v19).toNat 0).toNat : Int) < 256)) then
            bif (decide ((lt64 ((s.data.getD (v19).toNat 0).toNat : Int)) ≥ 0)) then
              bif (marks == 0) then
                bif ((decide (0 ≤ (lt64 ((s.data.getD (v19).toNat 0).toNat : Int))) && decide ((lt64 ((s.data.getD (v19).toNat 0).toNat : Int)) < 64) && ((6 : Int) == 6)) && true) then
                  bif ((decide ((all.size + (bits6 (lt64 ((s.data.getD (v19).toNat 0).toNat : Int))).size) ≤ 9223372036854775807)) && true) then
                    bif (decide (marks > 0)) then
                      bif ((Int.tmod many 4) == 3) then
                        bif (decide ((lt64 ((s.data.getD (v19).toNat 0).toNat : Int)) < 0)) then
                          bif (decide (marks > 2)) then
                            κ .rt (mkS [(0, .sc (.string s)), (2, .sc (.string ⟨#[]⟩)), (3, .sc (.int .i64 v19)), (4, .sc (.bool false)), (5, .sc (.string (all ++ (bits6 (lt64 ((s.data.getD (v19).toNat 0).toNat : Int)))))), (6, .sc (.int .i64 marks)), (7, .sc (.int .i64 many))] [])
                          else
                            f18_l0 n s (all ++ (bits6 (lt64 ((s.data.getD (v19).toNat 0).toNat : Int)))) marks (IntKind.wrap .i64 (many + 1)) v18 (IntKind.wrap .i64 (v19 + 1)) R κ
                        else
                          f18_l0 n s (all ++ (bits6 (lt64 ((s.data.getD (v19).toNat 0).toNat : Int)))) marks (IntKind.wrap .i64 (many + 1)) v18 (IntKind.wrap .i64 (v19 + 1)) R κ
                      else
                        f18_l0 n s (all ++ (bits6 (lt64 ((s.data.getD (v19).toNat 0).toNat : Int)))) marks (IntKind.wrap .i64 (many + 1)) v18 (IntKind.wrap .i64 (v19 + 1)) R κ
                    else
                      f18_l0 n s (all ++ (bits6 (lt64 ((s.data.getD (v19).toNat 0).toNat : Int)))) marks (IntKind.wrap .i64 (many + 1)) v18 (IntKind.wrap .i64 (v19 + 1)) R κ
                  else none
                else none
              else
                bif (((s.data.getD (v19).toNat 0).toNat : Int) == 61) then
                  bif (decide ((Int.tmod many 4) ≥ 2)) then
                    bif (decide (marks > 0)) then
                      bif (decide ((IntKind.wrap .i64 (marks + 1)) > 0)) then
                        bif ((Int.tmod many 4) == 3) then
                          bif (decide ((lt64 ((s.data.getD (v19).toNat 0).toNat : Int)) < 0)) then
                            bif (decide ((IntKind.wrap .i64 (marks + 1)) > 2)) then
                              κ .rt (mkS [(0, .sc (.string s)), (2, .sc (.string ⟨#[]⟩)), (3, .sc (.int .i64 v19)), (4, .sc (.bool false)), (5, .sc (.string all)), (6, .sc (.int .i64 (IntKind.wrap .i64 (marks + 1)))), (7, .sc (.int .i64 many))] [])
                            else
                              f18_l0 n s all (IntKind.wrap .i64 (marks + 1)) (IntKind.wrap .i64 (many + 1)) v18 (IntKind.wrap .i64 (v19 + 1)) R κ
                          else
                            f18_l0 n s all (IntKind.wrap .i64 (marks + 1)) (IntKind.wrap .i64 (many + 1)) v18 (IntKind.wrap .i64 (v19 + 1)) R κ
                        else
                          f18_l0 n s all (IntKind.wrap .i64 (marks + 1)) (IntKind.wrap .i64 (many + 1)) v18 (IntKind.wrap .i64 (v19 + 1)) R κ
                      else
                        f18_l0 n s all (IntKind.wrap .i64 (marks + 1)) (IntKind.wrap .i64 (many + 1)) v18 (IntKind.wrap .i64 (v19 + 1)) R κ
                    else
                      bif ((decide (4 ≤ all.size) && decide (all.size ≤ 1000000000)) && true) then
                        bif (zt all (Int.tmod many 4)) then
                          bif (decide ((IntKind.wrap .i64 (marks + 1)) > 0)) then
                            bif ((Int.tmod many 4) == 3) then
                              bif (decide ((lt64 ((s.data.getD (v19).toNat 0).toNat : Int)) < 0)) then
                                bif (decide ((IntKind.wrap .i64 (marks + 1)) > 2)) then
                                  κ .rt (mkS [(0, .sc (.string s)), (2, .sc (.string ⟨#[]⟩)), (3, .sc (.int .i64 v19)), (4, .sc (.bool false)), (5, .sc (.string all)), (6, .sc (.int .i64 (IntKind.wrap .i64 (marks + 1)))), (7, .sc (.int .i64 many))] [])
                                else
                                  f18_l0 n s all (IntKind.wrap .i64 (marks + 1)) (IntKind.wrap .i64 (many + 1)) v18 (IntKind.wrap .i64 (v19 + 1)) R κ
                              else
                                f18_l0 n s all (IntKind.wrap .i64 (marks + 1)) (IntKind.wrap .i64 (many + 1)) v18 (IntKind.wrap .i64 (v19 + 1)) R κ
                            else
                              f18_l0 n s all (IntKind.wrap .i64 (marks + 1)) (IntKind.wrap .i64 (many + 1)) v18 (IntKind.wrap .i64 (v19 + 1)) R κ
                          else
                            f18_l0 n s all (IntKind.wrap .i64 (marks + 1)) (IntKind.wrap .i64 (many + 1)) v18 (IntKind.wrap .i64 (v19 + 1)) R κ
                        else
                          κ .rt (mkS [(0, .sc (.string s)), (2, .sc (.string ⟨#[]⟩)), (3, .sc (.int .i64 v19)), (4, .sc (.bool false)), (5, .sc (.string all)), (6, .sc (.int .i64 marks)), (7, .sc (.int .i64 many))] [])
                      else none
                  else
                    κ .rt (mkS [(0, .sc (.string s)), (2, .sc (.string ⟨#[]⟩)), (3, .sc (.int .i64 v19)), (4, .sc (.bool false)), (5, .sc (.string all)), (6, .sc (.int .i64 marks)), (7, .sc (.int .i64 many))] [])
                else
                  κ .rt (mkS [(0, .sc (.string s)), (2, .sc (.string ⟨#[]⟩)), (3, .sc (.int .i64 v19)), (4, .sc (.bool false)), (5, .sc (.string all)), (6, .sc (.int .i64 marks)), (7, .sc (.int .i64 many))] [])
            else
              bif (((s.data.getD (v19).toNat 0).toNat : Int) == 61) then
                bif (decide ((Int.tmod many 4) ≥ 2)) then
                  bif (decide (marks > 0)) then
                    bif (decide ((IntKind.wrap .i64 (marks + 1)) > 0)) then
                      bif ((Int.tmod many 4) == 3) then
                        bif (decide ((lt64 ((s.data.getD (v19).toNat 0).toNat : Int)) < 0)) then
                          bif (decide ((IntKind.wrap .i64 (marks + 1)) > 2)) then
                            κ .rt (mkS [(0, .sc (.string s)), (2, .sc (.string ⟨#[]⟩)), (3, .sc (.int .i64 v19)), (4, .sc (.bool false)), (5, .sc (.string all)), (6, .sc (.int .i64 (IntKind.wrap .i64 (marks + 1)))), (7, .sc (.int .i64 many))] [])
                          else
                            f18_l0 n s all (IntKind.wrap .i64 (marks + 1)) (IntKind.wrap .i64 (many + 1)) v18 (IntKind.wrap .i64 (v19 + 1)) R κ
                        else
                          f18_l0 n s all (IntKind.wrap .i64 (marks + 1)) (IntKind.wrap .i64 (many + 1)) v18 (IntKind.wrap .i64 (v19 + 1)) R κ
                      else
                        f18_l0 n s all (IntKind.wrap .i64 (marks + 1)) (IntKind.wrap .i64 (many + 1)) v18 (IntKind.wrap .i64 (v19 + 1)) R κ
                    else
                      f18_l0 n s all (IntKind.wrap .i64 (marks + 1)) (IntKind.wrap .i64 (many + 1)) v18 (IntKind.wrap .i64 (v19 + 1)) R κ
                  else
                    bif ((decide (4 ≤ all.size) && decide (all.size ≤ 1000000000)) && true) then
                      bif (zt all (Int.tmod many 4)) then
                        bif (decide ((IntKind.wrap .i64 (marks + 1)) > 0)) then
                          bif ((Int.tmod many 4) == 3) then
                            bif (decide ((lt64 ((s.data.getD (v19).toNat 0).toNat : Int)) < 0)) then
                              bif (decide ((IntKind.wrap .i64 (marks + 1)) > 2)) then
                                κ .rt (mkS [(0, .sc (.string s)), (2, .sc (.string ⟨#[]⟩)), (3, .sc (.int .i64 v19)), (4, .sc (.bool false)), (5, .sc (.string all)), (6, .sc (.int .i64 (IntKind.wrap .i64 (marks + 1)))), (7, .sc (.int .i64 many))] [])
                              else
                                f18_l0 n s all (IntKind.wrap .i64 (marks + 1)) (IntKind.wrap .i64 (many + 1)) v18 (IntKind.wrap .i64 (v19 + 1)) R κ
                            else
                              f18_l0 n s all (IntKind.wrap .i64 (marks + 1)) (IntKind.wrap .i64 (many + 1)) v18 (IntKind.wrap .i64 (v19 + 1)) R κ
                          else
                            f18_l0 n s all (IntKind.wrap .i64 (marks + 1)) (IntKind.wrap .i64 (many + 1)) v18 (IntKind.wrap .i64 (v19 + 1)) R κ
                        else
                          f18_l0 n s all (IntKind.wrap .i64 (marks + 1)) (IntKind.wrap .i64 (many + 1)) v18 (IntKind.wrap .i64 (v19 + 1)) R κ
                      else
                        κ .rt (mkS [(0, .sc (.string s)), (2, .sc (.string ⟨#[]⟩)), (3, .sc (.int .i64 v19)), (4, .sc (.bool false)), (5, .sc (.string all)), (6, .sc (.int .i64 marks)), (7, .sc (.int .i64 many))] [])
                    else none
                else
                  κ .rt (mkS [(0, .sc (.string s)), (2, .sc (.string ⟨#[]⟩)), (3, .sc (.int .i64 v19)), (4, .sc (.bool false)), (5, .sc (.string all)), (6, .sc (.int .i64 marks)), (7, .sc (.int .i64 many))] [])
              else
                κ .rt (mkS [(0, .sc (.string s)), (2, .sc (.string ⟨#[]⟩)), (3, .sc (.int .i64 v19)), (4, .sc (.bool false)), (5, .sc (.string all)), (6, .sc (.int .i64 marks)), (7, .sc (.int .i64 many))] [])
          else none
      else none
    else
      κ (.ex 0) (mkS [(0, .sc (.string s)), (2, .bad), (3, .bad), (4, .bad), (5, .sc (.string all)), (6, .sc (.int .i64 marks)), (7, .sc (.int .i64 many))] [])
def f18_l0_ls : List (Nat × Pat) := [(0, .s), (5, .s), (6, .i .i64), (7, .i .i64), (18, .i .i64), (19, .i .i64)]
def f18_l0_rs : List RPat := []
theorem f18_l0_ok (n : Nat) : ∀ (s : ByteArray) (all : ByteArray) (marks : Int) (many : Int) (v18 : Int) (v19 : Int) (R : Type) (κ : Ex → St → Option R) (r : R), f18_l0 n s all marks many v18 v19 R κ = some r → ∃ ee ss, κ ee ss = some r ∧ RunP C prim 18 [0, 1, 0, 1, 1] (mkS [(0, .sc (.string s)), (5, .sc (.string all)), (6, .sc (.int .i64 marks)), (7, .sc (.int .i64 many)), (18, .sc (.int .i64 v18)), (19, .sc (.int .i64 v19))] []) ee ss := by
  induction n with
  | zero => intro s all marks many v18 v19 R κ r h; cases h
  | succ n ih =>
    intro s all marks many v18 v19 R κ r h
    refine loop_round (K := K_f18_l0) (T := T_f18_l0) K_f18_l0_ok T_f18_l0_ok (p := [0, 1, 0, 1, 1]) (by kernel_rfl) (fun st => bif ckS f18_l0_ls f18_l0_rs st then f18_l0 n ((st.env 0).strOf) ((st.env 5).strOf) ((st.env 6).intOf) ((st.env 7).intOf) ((st.env 18).intOf) ((st.env 19).intOf) R κ else none) (fun st0 h0 => ?_) ?_
    · obtain ⟨hs, h0⟩ := cond_some h0
      rw [canon (ls := f18_l0_ls) (rs := f18_l0_rs) (by kernel_rfl) st0 hs]
      exact ih _ _ _ _ _ _ R κ r h0
    · refine Eq.trans ?_ h
      kernel_rfl

def f18_s0 (s : ByteArray) (all : ByteArray) (marks : Int) (many : Int) (v18 : Int) (v19 : Int) (R : Type) (κ : Ex → St → Option R) : Option R :=
  bif (zr (bytesV s)).bad then
    κ .rt (mkS [(0, .sc (.string s)), (2, .sc (.string ⟨#[]⟩)), (3, .sc (.int .i64 ((zr (bytesV s)).p : Int))), (4, .sc (.bool false)), (5, .sc (.string (zall (zr (bytesV s)).z))), (6, .sc (.int .i64 ((zr (bytesV s)).z.f : Int))), (7, .sc (.int .i64 ((zr (bytesV s)).z.m : Int)))] [])
  else
    κ (.ex 0) (mkS [(0, .sc (.string s)), (2, .bad), (3, .bad), (4, .bad), (5, .sc (.string (zall (zr (bytesV s)).z))), (6, .sc (.int .i64 ((zr (bytesV s)).z.f : Int))), (7, .sc (.int .i64 ((zr (bytesV s)).z.m : Int)))] [])
def fin18 (s : ByteArray) (r : ZR) (R : Type) (κ : Ex → St → Option R) : Option R :=
  bif r.bad then
    κ .rt (mkS [(0, .sc (.string s)), (2, .sc (.string ⟨#[]⟩)), (3, .sc (.int .i64 (r.p : Int))), (4, .sc (.bool false)), (5, .sc (.string (zall r.z))), (6, .sc (.int .i64 (r.z.f : Int))), (7, .sc (.int .i64 (r.z.m : Int)))] [])
  else
    κ (.ex 0) (mkS [(0, .sc (.string s)), (2, .bad), (3, .bad), (4, .bad), (5, .sc (.string (zall r.z))), (6, .sc (.int .i64 (r.z.f : Int))), (7, .sc (.int .i64 (r.z.m : Int)))] [])
theorem f18_l0_c (s : ByteArray) (hl : s.size ≤ 10000000) : ∀ (m k : Nat) (z : Z), k + m = s.size → ZOk z → z.out.length ≤ 3 * k → z.m ≤ k → ∀ n, m < n → ∀ (R : Type) (κ : Ex → St → Option R),
    f18_l0 n s (zall z) (z.f : Int) (z.m : Int) ((s.size : Nat) : Int) (k : Int) R κ = fin18 s (zrun (s.data.toList.drop k) k z) R κ := by
  intro m
  induction m with
  | zero =>
    intro k z hk hz ho hm n hn R κ
    obtain ⟨n, rfl⟩ : ∃ j, n = j + 1 := ⟨n - 1, by omega⟩
    rw [List.drop_of_length_le (by rw [ba_size]; omega), f18_l0, dec_false (by omega)]
    rfl
  | succ m ih =>
    intro k z hk hz ho hm n hn R κ
    obtain ⟨n, rfl⟩ : ∃ j, n = j + 1 := ⟨n - 1, by omega⟩
    have hlt : k < s.data.toList.length := by rw [ba_size]; omega
    have hdrop := List.drop_eq_getElem_cons hlt
    have hget : s.data.getD (k : Int).toNat 0 = s.data.toList[k] := by rw [Int.toNat_natCast]; exact getD_list s k hlt
    rw [hdrop]
    generalize s.data.toList[k] = b at hget
    have hb : b.toNat < 256 := b.toNat_lt
    obtain ⟨g1, g2, g3⟩ := lt64_facts b.toNat hb
    have hzn := zok_n hz
    have hc3 := hz.c3
    have hcf := hz.cf
    have hfc := hz.fc
    have hzm := hz.m
    have hsz := zall_size z
    have IH : ∀ z', zstep b z = some z' → f18_l0 n s (zall z') (z'.f : Int) (z'.m : Int) ((s.size : Nat) : Int) ((k + 1 : Nat) : Int) R κ = fin18 s (zrun (b :: s.data.toList.drop (k + 1)) k z) R κ := by
      intro z' hs
      obtain ⟨q1, q2, q3⟩ := zstep_ok hz hs
      rw [zrun_some hs]
      exact ih (k + 1) z' (by omega) q1 (by omega) (by omega) n (by omega) R κ
    have BAD : zstep b z = none → fin18 s (zrun (b :: s.data.toList.drop (k + 1)) k z) R κ = κ .rt (mkS [(0, .sc (.string s)), (2, .sc (.string ⟨#[]⟩)), (3, .sc (.int .i64 (k : Int))), (4, .sc (.bool false)), (5, .sc (.string (zall z))), (6, .sc (.int .i64 (z.f : Int))), (7, .sc (.int .i64 (z.m : Int)))] []) := by
      intro hs
      rw [zrun_none hs]
      rfl
    rw [f18_l0, dec_true (show (k : Int) < ((s.size : Nat) : Int) by omega), dec_true (show (0 : Int) ≤ (k : Int) by omega), hget, wrap_succ (by omega), wrap_succ (k := z.m) (by omega), wrap_succ (k := z.f) (by omega), tmod4]
    simp only [Bool.and_true, cond_true, beq_self_eq_true, Bool.true_and]
    by_cases h10 : b.toNat = 10
    · have e : ((b.toNat : Int) == 10) = true := by rw [h10]; rfl
      rw [e]
      exact IH z (by unfold zstep; rw [if_pos h10])
    have e10 : ((b.toNat : Int) == 10) = false := by rw [beq_eq_false_iff_ne]; omega
    rw [e10, cond_false, dec_true (show (0 : Int) ≤ (b.toNat : Int) by omega), dec_true (show (b.toNat : Int) < 256 by omega), Bool.and_true, cond_true]
    by_cases hl0 : 0 ≤ lt64 (b.toNat : Int)
    · have h61 : b.toNat ≠ 61 := fun h => by rw [g3 (.inr h)] at hl0; omega
      have e61 : ((b.toNat : Int) == 61) = false := by rw [beq_eq_false_iff_ne]; omega
      obtain ⟨l, hl⟩ : ∃ l : Nat, lt64 (b.toNat : Int) = (l : Int) := ⟨(lt64 (b.toNat : Int)).toNat, by omega⟩
      have hl64 : l < 64 := by omega
      rw [dec_true (show lt64 (b.toNat : Int) ≥ 0 from hl0), cond_true]
      by_cases hf : z.f = 0
      · have ef : ((z.f : Int) == 0) = true := by rw [hf]; rfl
        rw [ef, cond_true, hl, Bool.true_and, dec_true (show (l : Int) < 64 by omega), bits6_size, dec_true (show (zall z).size + 6 ≤ 9223372036854775807 by omega), dec_false (show ¬ (z.f : Int) > 0 by omega)]
        simp only [Bool.and_true, cond_true, cond_false]
        obtain ⟨y1, y2⟩ := zall_letter hz l hl64
        by_cases hc : z.c = 3
        · have hst : zstep b z = some ⟨0, 0, z.f, z.m + 1, z.out ++ [UInt8.ofNat ((z.n * 64 + l) / 65536), UInt8.ofNat ((z.n * 64 + l) / 256), UInt8.ofNat (z.n * 64 + l)]⟩ := by
            unfold zstep
            rw [if_neg h10, if_pos ⟨hl0, hf⟩, if_pos hc, hl, Int.toNat_natCast]
          have := IH _ hst
          rw [← zall_app z _ l (show zallL ⟨0, 0, z.f, z.m + 1, z.out ++ [UInt8.ofNat ((z.n * 64 + l) / 65536), UInt8.ofNat ((z.n * 64 + l) / 256), UInt8.ofNat (z.n * 64 + l)]⟩ = _ from (List.append_nil _).trans (y1 hc))] at this
          exact this
        · have hst : zstep b z = some ⟨z.n * 64 + l, z.c + 1, z.f, z.m + 1, z.out⟩ := by
            unfold zstep
            rw [if_neg h10, if_pos ⟨hl0, hf⟩, if_neg hc, hl, Int.toNat_natCast]
          have := IH _ hst
          rw [← zall_app z _ l (show zallL ⟨z.n * 64 + l, z.c + 1, z.f, z.m + 1, z.out⟩ = _ from y2)] at this
          exact this
      · have ef : ((z.f : Int) == 0) = false := by rw [beq_eq_false_iff_ne]; omega
        rw [ef, cond_false, e61, cond_false]
        refine (BAD ?_).symm
        unfold zstep
        rw [if_neg h10, if_neg (fun h => hf h.2), if_neg (fun h => h61 h.1)]
    · rw [dec_false (show ¬ lt64 (b.toNat : Int) ≥ 0 by omega), cond_false]
      by_cases h61 : b.toNat = 61
      · have e61 : ((b.toNat : Int) == 61) = true := by rw [h61]; rfl
        rw [e61, cond_true]
        by_cases ht : z.m % 4 ≥ 2
        · have hc2 : 2 ≤ z.c := by
            by_cases hf : 0 < z.f
            · exact hfc hf
            · omega
          have hcf4 : z.c + z.f < 4 := by omega
          rw [dec_true (show ((z.m % 4 : Nat) : Int) ≥ 2 by omega), cond_true, dec_true (show ((z.f + 1 : Nat) : Int) > 0 by omega), dec_false (show ¬ ((z.f + 1 : Nat) : Int) > 2 by omega), dec_true (show lt64 (b.toNat : Int) < 0 by omega)]
          simp only [cond_true, cond_false]
          have REC : z.n % 2 ^ (2 * (4 - z.c)) = 0 → ∀ t : Bool, (bif t then f18_l0 n s (zall z) ((z.f + 1 : Nat) : Int) ((z.m + 1 : Nat) : Int) ((s.size : Nat) : Int) ((k + 1 : Nat) : Int) R κ else f18_l0 n s (zall z) ((z.f + 1 : Nat) : Int) ((z.m + 1 : Nat) : Int) ((s.size : Nat) : Int) ((k + 1 : Nat) : Int) R κ) = fin18 s (zrun (b :: s.data.toList.drop (k + 1)) k z) R κ := by
            intro hz0 t
            have hst : zstep b z = some ⟨z.n, z.c, z.f + 1, z.m + 1, z.out⟩ := by
              unfold zstep
              rw [if_neg h10, if_neg (fun h => hl0 h.1), if_pos ⟨h61, hc2, hcf4, hz0⟩]
            have := IH _ hst
            cases t <;> exact this
          by_cases hf : 0 < z.f
          · rw [dec_true (show (z.f : Int) > 0 by omega), cond_true]
            exact REC (hz.z0 hf) _
          · have hf0 : z.f = 0 := by omega
            obtain ⟨w1, w2⟩ := zt_zall hz hf0 hc2 ((z.m % 4 : Nat) : Int) (by omega)
            rw [dec_false (show ¬ (z.f : Int) > 0 by omega), cond_false, dec_true w1, dec_true (show (zall z).size ≤ 1000000000 by omega), Bool.and_true, cond_true, w2]
            by_cases hz0 : z.n % 2 ^ (2 * (4 - z.c)) = 0
            · rw [dec_true hz0, cond_true]
              exact REC hz0 _
            · rw [dec_false hz0, cond_false]
              refine (BAD ?_).symm
              unfold zstep
              rw [if_neg h10, if_neg (fun h => hl0 h.1), if_neg (fun h => hz0 h.2.2.2)]
        · rw [dec_false (show ¬ ((z.m % 4 : Nat) : Int) ≥ 2 by omega), cond_false]
          refine (BAD ?_).symm
          unfold zstep
          rw [if_neg h10, if_neg (fun h => hl0 h.1), if_neg (fun h => by omega)]
      · have e61 : ((b.toNat : Int) == 61) = false := by rw [beq_eq_false_iff_ne]; omega
        rw [e61, cond_false]
        refine (BAD ?_).symm
        unfold zstep
        rw [if_neg h10, if_neg (fun h => hl0 h.1), if_neg (fun h => h61 h.1)]
theorem f18_s0_eq (s : ByteArray) (all : ByteArray) (marks : Int) (many : Int) (v18 : Int) (v19 : Int) (hp : ((all.size == 0) && (marks == 0) && (many == 0) && (v19 == 0) && (v18 == ((s.size : Nat) : Int)) && decide (s.size ≤ 10000000)) = true) : ∃ n, ∀ (R : Type) (κ : Ex → St → Option R), f18_l0 n s all marks many v18 v19 R κ = f18_s0 s all marks many v18 v19 R κ := by
  simp only [Bool.and_eq_true, decide_eq_true_eq, beq_iff_eq] at hp
  obtain ⟨⟨⟨⟨⟨h1, rfl⟩, rfl⟩, rfl⟩, rfl⟩, h6⟩ := hp
  obtain rfl : all = ⟨#[]⟩ := ba_ext (by rw [← ba_size] at h1; exact List.eq_nil_of_length_eq_zero h1)
  refine ⟨s.size + 1, fun R κ => ?_⟩
  have := f18_l0_c s h6 s.size 0 ⟨0, 0, 0, 0, []⟩ (by omega) zok0 (by simp) (by simp) (s.size + 1) (by omega) R κ
  rw [List.drop_zero, ← map_bytesV] at this
  exact this
def t_f18_l0 (st : St) (R : Type) (κ : Ex → St → Option R) : Option R := bif ckS f18_l0_ls f18_l0_rs st then (bif ((((st.env 5).strOf).size == 0) && (((st.env 6).intOf) == 0) && (((st.env 7).intOf) == 0) && (((st.env 19).intOf) == 0) && (((st.env 18).intOf) == ((((st.env 0).strOf).size : Nat) : Int)) && decide (((st.env 0).strOf).size ≤ 10000000)) then f18_s0 ((st.env 0).strOf) ((st.env 5).strOf) ((st.env 6).intOf) ((st.env 7).intOf) ((st.env 18).intOf) ((st.env 19).intOf) R κ else none) else none
theorem t_f18_l0_ok : ∀ st0 R κ r, t_f18_l0 (forget C 18 [0, 1, 0, 1, 1] st0) R κ = some r → ∃ ee ss, κ ee ss = some r ∧ RunP C prim 18 [0, 1, 0, 1, 1] (forget C 18 [0, 1, 0, 1, 1] st0) ee ss := by
  intro st0 R κ r h
  obtain ⟨hs, h⟩ := cond_some h
  obtain ⟨hp, h⟩ := cond_some h
  rw [canon (ls := f18_l0_ls) (rs := f18_l0_rs) (by kernel_rfl) st0 hs]
  obtain ⟨n, hn⟩ := f18_s0_eq _ _ _ _ _ _ hp
  rw [← hn] at h
  exact f18_l0_ok n _ _ _ _ _ _ R κ r h

def K_f18_l3 : CallK := kNil
theorem K_f18_l3_ok : KOK C prim K_f18_l3 := KOK.nil
def T_f18_l3 : Tab := tNil
theorem T_f18_l3_ok : TOK C prim 18 T_f18_l3 := TOK.nil
def f18_l3 : Nat → ByteArray → Int → Int → Int → List V → (R : Type) → (Ex → St → Option R) → Option R
  | 0, _, _, _, _, _, _, _ => none
  | n + 1, all, i, v, v108, out, R, κ =>
    bif (decide (v108 < 8)) then
      bif (((decide ((0 : Int) ≤ (IntKind.wrap .i64 (i + v108)))) && (decide ((IntKind.wrap .i64 (i + v108)) < ((all.size : Nat) : Int)))) && true) then
        f18_l3 n all i (IntKind.wrap .i64 ((IntKind.wrap .i64 ((2 : Int) * v)) + (IntKind.wrap .i64 (IntKind.wrap .u8 (((all.data.getD ((IntKind.wrap .i64 (i + v108))).toNat 0).toNat : Int) - 48))))) (IntKind.wrap .i64 (v108 + 1)) out R κ
      else none
    else
      κ (.ex 7) (mkS [(2, .bad), (3, .bad), (4, .bad), (5, .sc (.string all)), (13, .ref ⟨.loc 13, 0, [], 5, false⟩), (14, .sc (.int .i64 i)), (15, .sc (.int .i64 v))] [(.loc 13, some ⟨false, [.own 5 false out]⟩)])
def f18_l3_ls : List (Nat × Pat) := [(5, .s), (13, .is (.ref ⟨.loc 13, 0, [], 5, false⟩)), (14, .i .i64), (15, .i .i64), (108, .i .i64)]
def f18_l3_rs : List RPat := [⟨.loc 13, false, [.own 5 false]⟩]
theorem f18_l3_ok (n : Nat) : ∀ (all : ByteArray) (i : Int) (v : Int) (v108 : Int) (out : List V) (R : Type) (κ : Ex → St → Option R) (r : R), f18_l3 n all i v v108 out R κ = some r → ∃ ee ss, κ ee ss = some r ∧ RunP C prim 18 [0, 1, 0, 1, 0, 0, 1, 0, 0, 1, 0, 1, 1, 1, 1, 1, 1] (mkS [(5, .sc (.string all)), (13, .ref ⟨.loc 13, 0, [], 5, false⟩), (14, .sc (.int .i64 i)), (15, .sc (.int .i64 v)), (108, .sc (.int .i64 v108))] [(.loc 13, some ⟨false, [.own 5 false out]⟩)]) ee ss := by
  induction n with
  | zero => intro all i v v108 out R κ r h; cases h
  | succ n ih =>
    intro all i v v108 out R κ r h
    refine loop_round (K := K_f18_l3) (T := T_f18_l3) K_f18_l3_ok T_f18_l3_ok (p := [0, 1, 0, 1, 0, 0, 1, 0, 0, 1, 0, 1, 1, 1, 1, 1, 1]) (by kernel_rfl) (fun st => bif ckS f18_l3_ls f18_l3_rs st then f18_l3 n ((st.env 5).strOf) ((st.env 14).intOf) ((st.env 15).intOf) ((st.env 108).intOf) ((nthV (rowOf (st.regs (.loc 13))) 0).cellsOf) R κ else none) (fun st0 h0 => ?_) ?_
    · obtain ⟨hs, h0⟩ := cond_some h0
      rw [canon (ls := f18_l3_ls) (rs := f18_l3_rs) (by kernel_rfl) st0 hs]
      exact ih _ _ _ _ _ R κ r h0
    · refine Eq.trans ?_ h
      kernel_rfl

def f18_s3 (all : ByteArray) (i : Int) (v : Int) (v108 : Int) (out : List V) (R : Type) (κ : Ex → St → Option R) : Option R :=
  κ (.ex 7) (mkS [(2, .bad), (3, .bad), (4, .bad), (5, .sc (.string all)), (13, .ref ⟨.loc 13, 0, [], 5, false⟩), (14, .sc (.int .i64 i)), (15, .sc (.int .i64 (byte8 (all.data.toList.drop i.toNat))))] [(.loc 13, some ⟨false, [.own 5 false out]⟩)])
theorem f18_s3_eq (all : ByteArray) (i : Int) (v : Int) (v108 : Int) (out : List V) (hp : ((v == 0) && (v108 == 0) && decide (0 ≤ i) && decide (i + 8 ≤ ((all.size : Nat) : Int)) && decide (all.size ≤ 1000000000)) = true) : ∃ n, ∀ (R : Type) (κ : Ex → St → Option R), f18_l3 n all i v v108 out R κ = f18_s3 all i v v108 out R κ := by
  simp only [Bool.and_eq_true, decide_eq_true_eq, beq_iff_eq] at hp
  obtain ⟨⟨⟨⟨rfl, rfl⟩, h3⟩, h4⟩, h5⟩ := hp
  obtain ⟨k, rfl⟩ : ∃ k : Nat, i = (k : Int) := ⟨i.toNat, by omega⟩
  have hall : ∀ j, j < 8 → ∃ h : k + j < all.data.toList.length, all.data.getD (k + j) 0 = all.data.toList[k + j] := by
    intro j hj
    have h : k + j < all.data.toList.length := by rw [ba_size]; omega
    refine ⟨h, ?_⟩
    rw [Array.getElem_toList]
    simp only [Array.getD]
    rw [dif_pos (by rw [← Array.length_toList]; exact h)]
    rfl
  have hd : ∃ b0 b1 b2 b3 b4 b5 b6 b7, (∀ j (hj : j < 8), all.data.getD (k + j) 0 = [b0, b1, b2, b3, b4, b5, b6, b7][j]) ∧ (all.data.toList.drop k).take 8 = [b0, b1, b2, b3, b4, b5, b6, b7] := by
    obtain ⟨g0, e0⟩ := hall 0 (by omega)
    obtain ⟨g1, e1⟩ := hall 1 (by omega)
    obtain ⟨g2, e2⟩ := hall 2 (by omega)
    obtain ⟨g3, e3⟩ := hall 3 (by omega)
    obtain ⟨g4, e4⟩ := hall 4 (by omega)
    obtain ⟨g5, e5⟩ := hall 5 (by omega)
    obtain ⟨g6, e6⟩ := hall 6 (by omega)
    obtain ⟨g7, e7⟩ := hall 7 (by omega)
    refine ⟨all.data.toList[k + 0], all.data.toList[k + 1], all.data.toList[k + 2], all.data.toList[k + 3], all.data.toList[k + 4], all.data.toList[k + 5], all.data.toList[k + 6], all.data.toList[k + 7], fun j hj => ?_, ?_⟩
    rotate_left
    · show (all.data.toList.drop (k + 0)).take 8 = _
      rw [List.drop_eq_getElem_cons g0, List.drop_eq_getElem_cons g1, List.drop_eq_getElem_cons g2, List.drop_eq_getElem_cons g3, List.drop_eq_getElem_cons g4, List.drop_eq_getElem_cons g5, List.drop_eq_getElem_cons g6, List.drop_eq_getElem_cons g7]
      rfl
    · match j, hj with
      | 0, _ => exact e0
      | 1, _ => exact e1
      | 2, _ => exact e2
      | 3, _ => exact e3
      | 4, _ => exact e4
      | 5, _ => exact e5
      | 6, _ => exact e6
      | 7, _ => exact e7
  obtain ⟨b0, b1, b2, b3, b4, b5, b6, b7, hg, ht⟩ := hd
  refine ⟨0 + 1 + 1 + 1 + 1 + 1 + 1 + 1 + 1 + 1, fun R κ => ?_⟩
  have rnd : ∀ n (j j' : Nat) (v : Int) (b : UInt8) (hj : j < 8), j' = j + 1 → all.data.getD (k + j) 0 = b → f18_l3 (n + 1) all (k : Int) v (j : Int) out R κ = f18_l3 n all (k : Int) (bstep v b) (j' : Int) out R κ := by
    intro n j j' v b hj hj' hb
    subst hj'
    rw [f18_l3, dec_true (show (j : Int) < 8 by omega), wrap_id (n := (k : Int) + (j : Int)) (by omega) (by omega), dec_true (show (0 : Int) ≤ (k : Int) + (j : Int) by omega), dec_true (show (k : Int) + (j : Int) < ((all.size : Nat) : Int) by omega), wrap_succ (by omega)]
    have : ((k : Int) + (j : Int)).toNat = k + j := by omega
    rw [this, hb]
    rfl
  have fin : ∀ n (v : Int), f18_l3 (n + 1) all (k : Int) v ((8 : Nat) : Int) out R κ = κ (.ex 7) (mkS [(2, .bad), (3, .bad), (4, .bad), (5, .sc (.string all)), (13, .ref ⟨.loc 13, 0, [], 5, false⟩), (14, .sc (.int .i64 (k : Int))), (15, .sc (.int .i64 v))] [(.loc 13, some ⟨false, [.own 5 false out]⟩)]) := by
    intro n v
    rw [f18_l3, dec_false (by omega)]
    rfl
  have e : byte8 (all.data.toList.drop (k : Int).toNat) = [b0, b1, b2, b3, b4, b5, b6, b7].foldl bstep 0 := by
    unfold byte8
    rw [Int.toNat_natCast, ht]
  simp only [List.foldl_cons, List.foldl_nil] at e
  unfold f18_s3
  rw [e]
  have z0 : ((0 : Nat) : Int) = 0 := rfl
  have r0 := rnd (0 + 1 + 1 + 1 + 1 + 1 + 1 + 1 + 1) 0 1 0 b0 (by omega) rfl (hg 0 (by omega))
  rw [z0] at r0
  rw [r0, rnd _ 1 2 _ b1 (by omega) rfl (hg 1 (by omega)), rnd _ 2 3 _ b2 (by omega) rfl (hg 2 (by omega)), rnd _ 3 4 _ b3 (by omega) rfl (hg 3 (by omega)), rnd _ 4 5 _ b4 (by omega) rfl (hg 4 (by omega)), rnd _ 5 6 _ b5 (by omega) rfl (hg 5 (by omega)), rnd _ 6 7 _ b6 (by omega) rfl (hg 6 (by omega)), rnd _ 7 8 _ b7 (by omega) rfl (hg 7 (by omega)), fin 0]
def t_f18_l3 (st : St) (R : Type) (κ : Ex → St → Option R) : Option R := bif ckS f18_l3_ls f18_l3_rs st then (bif ((((st.env 15).intOf) == 0) && (((st.env 108).intOf) == 0) && decide (0 ≤ ((st.env 14).intOf)) && decide (((st.env 14).intOf) + 8 ≤ ((((st.env 5).strOf).size : Nat) : Int)) && decide (((st.env 5).strOf).size ≤ 1000000000)) then f18_s3 ((st.env 5).strOf) ((st.env 14).intOf) ((st.env 15).intOf) ((st.env 108).intOf) ((nthV (rowOf (st.regs (.loc 13))) 0).cellsOf) R κ else none) else none
theorem t_f18_l3_ok : ∀ st0 R κ r, t_f18_l3 (forget C 18 [0, 1, 0, 1, 0, 0, 1, 0, 0, 1, 0, 1, 1, 1, 1, 1, 1] st0) R κ = some r → ∃ ee ss, κ ee ss = some r ∧ RunP C prim 18 [0, 1, 0, 1, 0, 0, 1, 0, 0, 1, 0, 1, 1, 1, 1, 1, 1] (forget C 18 [0, 1, 0, 1, 0, 0, 1, 0, 0, 1, 0, 1, 1, 1, 1, 1, 1] st0) ee ss := by
  intro st0 R κ r h
  obtain ⟨hs, h⟩ := cond_some h
  obtain ⟨hp, h⟩ := cond_some h
  rw [canon (ls := f18_l3_ls) (rs := f18_l3_rs) (by kernel_rfl) st0 hs]
  obtain ⟨n, hn⟩ := f18_s3_eq _ _ _ _ _ hp
  rw [← hn] at h
  exact f18_l3_ok n _ _ _ _ _ R κ r h

def K_f18_l2 : CallK := kNil
theorem K_f18_l2_ok : KOK C prim K_f18_l2 := KOK.nil
def T_f18_l2 : Tab := tCons [0, 1, 0, 1, 0, 0, 1, 0, 0, 1, 0, 1, 1, 1, 1, 1, 1] t_f18_l3 <| tNil
theorem T_f18_l2_ok : TOK C prim 18 T_f18_l2 := TOK.cons t_f18_l3_ok <| TOK.nil
def f18_l2 : Nat → ByteArray → Int → List V → (R : Type) → (Ex → St → Option R) → Option R
  | 0, _, _, _, _, _ => none
  | n + 1, all, i, out, R, κ =>
    bif (decide ((IntKind.wrap .i64 (i + 8)) ≤ ((all.size : Nat) : Int))) then
      bif (((0 : Int) == 0) && ((0 : Int) == 0) && decide (0 ≤ i) && decide (i + 8 ≤ ((all.size : Nat) : Int)) && decide (all.size ≤ 1000000000)) then
        bif (((roomy ((out.length + 1) * 1)) && (roomy (out.length + 1))) && true) then
          f18_l2 n all (IntKind.wrap .i64 (i + 8)) (out ++ [.sc (.int .u8 (IntKind.wrap .u8 (byte8 (all.data.toList.drop i.toNat))))]) R κ
        else none
      else none
    else
      κ (.ex 5) (mkS [(2, .bad), (3, .bad), (4, .bad), (13, .ref ⟨.loc 13, 0, [], 5, false⟩)] [(.loc 13, some ⟨false, [.own 5 false out]⟩)])
def f18_l2_ls : List (Nat × Pat) := [(5, .s), (13, .is (.ref ⟨.loc 13, 0, [], 5, false⟩)), (14, .i .i64)]
def f18_l2_rs : List RPat := [⟨.loc 13, false, [.own 5 false]⟩]
theorem f18_l2_ok (n : Nat) : ∀ (all : ByteArray) (i : Int) (out : List V) (R : Type) (κ : Ex → St → Option R) (r : R), f18_l2 n all i out R κ = some r → ∃ ee ss, κ ee ss = some r ∧ RunP C prim 18 [0, 1, 0, 1, 1, 1, 1, 1, 1] (mkS [(5, .sc (.string all)), (13, .ref ⟨.loc 13, 0, [], 5, false⟩), (14, .sc (.int .i64 i))] [(.loc 13, some ⟨false, [.own 5 false out]⟩)]) ee ss := by
  induction n with
  | zero => intro all i out R κ r h; cases h
  | succ n ih =>
    intro all i out R κ r h
    refine loop_round (K := K_f18_l2) (T := T_f18_l2) K_f18_l2_ok T_f18_l2_ok (p := [0, 1, 0, 1, 1, 1, 1, 1, 1]) (by kernel_rfl) (fun st => bif ckS f18_l2_ls f18_l2_rs st then f18_l2 n ((st.env 5).strOf) ((st.env 14).intOf) ((nthV (rowOf (st.regs (.loc 13))) 0).cellsOf) R κ else none) (fun st0 h0 => ?_) ?_
    · obtain ⟨hs, h0⟩ := cond_some h0
      rw [canon (ls := f18_l2_ls) (rs := f18_l2_rs) (by kernel_rfl) st0 hs]
      exact ih _ _ _ R κ r h0
    · refine Eq.trans ?_ h
      kernel_rfl

def f18_s2 (all : ByteArray) (i : Int) (out : List V) (R : Type) (κ : Ex → St → Option R) : Option R :=
  κ (.ex 5) (mkS [(2, .bad), (3, .bad), (4, .bad), (13, .ref ⟨.loc 13, 0, [], 5, false⟩)] [(.loc 13, some ⟨false, [.own 5 false (ch8 all.data.toList)]⟩)])
theorem f18_l2_c (all : ByteArray) (h : all.size ≤ 1000000000) : ∀ (m k : Nat) (o : List V), all.size - k ≤ m → k ≤ all.size → o.length ≤ k → ∀ n, m < n → ∀ q, (all.data.toList.drop k).length ≤ q → ∀ (R : Type) (κ : Ex → St → Option R), f18_l2 n all (k : Int) o R κ = κ (.ex 5) (mkS [(2, .bad), (3, .bad), (4, .bad), (13, .ref ⟨.loc 13, 0, [], 5, false⟩)] [(.loc 13, some ⟨false, [.own 5 false (o ++ ch8N q (all.data.toList.drop k))]⟩)]) := by
  intro m
  induction m with
  | zero =>
    intro k o hk hk2 ho n hn q hq R κ
    obtain ⟨n, rfl⟩ : ∃ j, n = j + 1 := ⟨n - 1, by omega⟩
    have e : ch8N q (all.data.toList.drop k) = [] := by
      cases q with
      | zero => rfl
      | succ q => rw [ch8N_succ, if_neg (by rw [List.length_drop, ba_size]; omega)]
    rw [f18_l2, wrap_id (by omega) (by omega), dec_false (by omega), e, List.append_nil]
    rfl
  | succ m ih =>
    intro k o hk hk2 ho n hn q hq R κ
    obtain ⟨n, rfl⟩ : ∃ j, n = j + 1 := ⟨n - 1, by omega⟩
    rw [f18_l2, wrap_id (n := (k : Int) + 8) (by omega) (by omega)]
    by_cases h8 : k + 8 ≤ all.size
    · obtain ⟨q, rfl⟩ : ∃ j, q = j + 1 := ⟨q - 1, by rw [List.length_drop, ba_size] at hq; omega⟩
      rw [dec_true (show (k : Int) + 8 ≤ ((all.size : Nat) : Int) by omega), dec_true (show (0 : Int) ≤ (k : Int) by omega), dec_true h]
      have hr : (roomy ((o.length + 1) * 1) && roomy (o.length + 1) && true) = true := by
        unfold roomy
        rw [dec_true (by omega), dec_true (by omega)]
        rfl
      rw [hr]
      have := ih (k + 8) (o ++ [.sc (.int .u8 (IntKind.wrap .u8 (byte8 (all.data.toList.drop (k : Int).toNat))))]) (by omega) (by omega) (by simp; omega) n (by omega) q (by rw [List.length_drop, ba_size] at hq ⊢; omega) R κ
      rw [ch8N_succ, if_pos (by rw [List.length_drop, ba_size]; omega), List.drop_drop]
      rw [List.append_assoc, Int.toNat_natCast] at this
      exact this
    · rw [dec_false (by omega)]
      have e : ch8N q (all.data.toList.drop k) = [] := by
        cases q with
        | zero => rfl
        | succ q => rw [ch8N_succ, if_neg (by rw [List.length_drop, ba_size]; omega)]
      rw [e, List.append_nil]
      rfl
theorem f18_s2_eq (all : ByteArray) (i : Int) (out : List V) (hp : ((i == 0) && (out.length == 0) && decide (all.size ≤ 1000000000)) = true) : ∃ n, ∀ (R : Type) (κ : Ex → St → Option R), f18_l2 n all i out R κ = f18_s2 all i out R κ := by
  simp only [Bool.and_eq_true, decide_eq_true_eq, beq_iff_eq] at hp
  obtain ⟨⟨rfl, h2⟩, h3⟩ := hp
  obtain rfl : out = [] := List.eq_nil_of_length_eq_zero h2
  refine ⟨all.size + 1, fun R κ => ?_⟩
  have := f18_l2_c all h3 all.size 0 [] (by omega) (by omega) (by simp) (all.size + 1) (by omega) all.data.toList.length (by simp) R κ
  exact this
def t_f18_l2 (st : St) (R : Type) (κ : Ex → St → Option R) : Option R := bif ckS f18_l2_ls f18_l2_rs st then (bif ((((st.env 14).intOf) == 0) && (((nthV (rowOf (st.regs (.loc 13))) 0).cellsOf).length == 0) && decide (((st.env 5).strOf).size ≤ 1000000000)) then f18_s2 ((st.env 5).strOf) ((st.env 14).intOf) ((nthV (rowOf (st.regs (.loc 13))) 0).cellsOf) R κ else none) else none
theorem t_f18_l2_ok : ∀ st0 R κ r, t_f18_l2 (forget C 18 [0, 1, 0, 1, 1, 1, 1, 1, 1] st0) R κ = some r → ∃ ee ss, κ ee ss = some r ∧ RunP C prim 18 [0, 1, 0, 1, 1, 1, 1, 1, 1] (forget C 18 [0, 1, 0, 1, 1, 1, 1, 1, 1] st0) ee ss := by
  intro st0 R κ r h
  obtain ⟨hs, h⟩ := cond_some h
  obtain ⟨hp, h⟩ := cond_some h
  rw [canon (ls := f18_l2_ls) (rs := f18_l2_rs) (by kernel_rfl) st0 hs]
  obtain ⟨n, hn⟩ := f18_s2_eq _ _ _ hp
  rw [← hn] at h
  exact f18_l2_ok n _ _ _ R κ r h

def K_f18 : CallK := kNil
theorem K_f18_ok : KOK C prim K_f18 := KOK.nil
def T_f18 : Tab := tCons [0, 1, 0, 1, 1] t_f18_l0 <| tCons [0, 1, 0, 1, 1, 1, 1, 1, 1] t_f18_l2 <| tNil
theorem T_f18_ok : TOK C prim 18 T_f18 := TOK.cons t_f18_l0_ok <| TOK.cons t_f18_l2_ok <| TOK.nil
def f18 (s : ByteArray) : Option (V × List Rg) :=
  bif (((⟨#[]⟩ : ByteArray).size == 0) && ((0 : Int) == 0) && ((0 : Int) == 0) && ((0 : Int) == 0) && (((s.size : Nat) : Int) == ((s.size : Nat) : Int)) && decide (s.size ≤ 10000000)) then
    bif (zr (bytesV s)).bad then
      some (.tp [.sc (.string ⟨#[]⟩), .sc (.int .i64 ((zr (bytesV s)).p : Int)), .sc (.bool false)], [])
    else
      bif ((Int.tmod ((zr (bytesV s)).z.m : Int) 4) != 0) then
        some (.tp [.sc (.string ⟨#[]⟩), .sc (.int .i64 ((s.size : Nat) : Int)), .sc (.bool false)], [])
      else
        bif (decide (((zr (bytesV s)).z.f : Int) > 0)) then
          bif ((((decide ((0 : Int) ≤ (IntKind.wrap .i64 ((((zall (zr (bytesV s)).z).size : Nat) : Int) - (Int.tmod (((zall (zr (bytesV s)).z).size : Nat) : Int) 8))))) && (decide ((IntKind.wrap .i64 ((((zall (zr (bytesV s)).z).size : Nat) : Int) - (Int.tmod (((zall (zr (bytesV s)).z).size : Nat) : Int) 8))) ≤ (((zall (zr (bytesV s)).z).size : Nat) : Int)))) && true) && true) then
            bif (((0 : Int) == 0) && (([] : List V).length == 0) && decide (((zall (zr (bytesV s)).z).extract 0 ((IntKind.wrap .i64 ((((zall (zr (bytesV s)).z).size : Nat) : Int) - (Int.tmod (((zall (zr (bytesV s)).z).size : Nat) : Int) 8)))).toNat).size ≤ 1000000000)) then
              bif ((allU8 (ch8 ((zall (zr (bytesV s)).z).extract 0 ((IntKind.wrap .i64 ((((zall (zr (bytesV s)).z).size : Nat) : Int) - (Int.tmod (((zall (zr (bytesV s)).z).size : Nat) : Int) 8)))).toNat).data.toList)) && true) then
                some (.tp [.sc (.string (strOfCells (ch8 ((zall (zr (bytesV s)).z).extract 0 ((IntKind.wrap .i64 ((((zall (zr (bytesV s)).z).size : Nat) : Int) - (Int.tmod (((zall (zr (bytesV s)).z).size : Nat) : Int) 8)))).toNat).data.toList))), .sc (.int .i64 0), .sc (.bool true)], [])
              else none
            else none
          else none
        else
          bif (((0 : Int) == 0) && (([] : List V).length == 0) && decide ((zall (zr (bytesV s)).z).size ≤ 1000000000)) then
            bif ((allU8 (ch8 (zall (zr (bytesV s)).z).data.toList)) && true) then
              some (.tp [.sc (.string (strOfCells (ch8 (zall (zr (bytesV s)).z).data.toList))), .sc (.int .i64 0), .sc (.bool true)], [])
            else none
          else none
  else none
theorem f18_run (s : ByteArray) (x : V × List Rg) (h : f18 s = some x) : CallR C prim 18 [.sc (.string s)] [] x := by
  refine call_fn (K := K_f18) (T := T_f18) K_f18_ok T_f18_ok (by kernel_rfl) ?_
  refine Eq.trans ?_ h
  kernel_rfl

theorem f18_eq (s : ByteArray) (hp : decide (s.size ≤ 10000000) = true) : f18 s = some (.tp [.sc (.string (u8S (o64 s).bs)), .sc (.int .i64 ((o64 s).at_ : Int)), .sc (.bool (o64 s).ok)], []) := by
  simp only [decide_eq_true_eq] at hp
  unfold f18
  obtain ⟨k1, k2, k3⟩ := zrun_ok ((bytesV s).map byteOfV) 0 ⟨0, 0, 0, 0, []⟩ zok0
  have hlen : ((bytesV s).map byteOfV).length = s.size := by rw [List.length_map, bytesV_len]
  rw [hlen] at k2 k3
  have e1 : zrun ((bytesV s).map byteOfV) 0 ⟨0, 0, 0, 0, []⟩ = zr (bytesV s) := rfl
  rw [e1] at k1 k2 k3
  rw [dec_true hp]
  unfold o64
  generalize zr (bytesV s) = r at k1 k2 k3
  obtain ⟨bad, p, z⟩ := r
  simp only at k1 k2 k3
  have hsz := zall_size z
  have hz0 : z.out.length ≤ 30000000 := by simp at k2; omega
  have hc3 := k1.c3
  have hfc := k1.fc
  have hzm := k1.m
  have e0 : ((⟨#[]⟩ : ByteArray).size == 0) = true := rfl
  simp only [e0, beq_self_eq_true, Bool.and_true, Bool.true_and, cond_true]
  cases bad with
  | true => rfl
  | false =>
    rw [tmod4, tmod8]
    simp only [cond_false, Bool.false_eq_true, if_false]
    by_cases hm : z.m % 4 = 0
    · have e4 : (((z.m % 4 : Nat) : Int) != 0) = false := by rw [hm]; rfl
      have hcf : (z.c + z.f) % 4 = 0 := by omega
      obtain ⟨t1, t2⟩ := zall_tail k1 hcf
      rw [e4, cond_false, if_neg (by omega)]
      have hlist : (zallL z).length = (zall z).size := by rw [← ba_size]; rfl
      by_cases hf : 0 < z.f
      · have hw : IntKind.wrap .i64 (((zall z).size : Int) - (((zall z).size % 8 : Nat) : Int)) = (((zall z).size - (zall z).size % 8 : Nat) : Int) := by
          rw [wrap_id (by omega) (by omega)]; omega
        have hx : ((zall z).extract 0 ((zall z).size - (zall z).size % 8)).data.toList = bitsL (z.out ++ ztail z) := by
          rw [← t2 hf, hlist]
          simp [ByteArray.data_extract]
          rfl
        have hxs : ((zall z).extract 0 ((zall z).size - (zall z).size % 8)).size ≤ 1000000000 := by
          rw [← ba_size, hx, ← t2 hf, List.length_take, hlist]; omega
        rw [dec_true (show (z.f : Int) > 0 by omega), cond_true, hw, Int.toNat_natCast, hx, ch8_bits, allU8_u8V, strOf_u8V, dec_true hxs, dec_true (show (0 : Int) ≤ (((zall z).size - (zall z).size % 8 : Nat) : Int) by omega), dec_true (show (((zall z).size - (zall z).size % 8 : Nat) : Int) ≤ ((zall z).size : Int) by omega)]
        rfl
      · have hx : (zall z).data.toList = bitsL (z.out ++ ztail z) := t1 (by omega)
        rw [dec_false (show ¬ (z.f : Int) > 0 by omega), cond_false, hx, ch8_bits, allU8_u8V, strOf_u8V, dec_true (show (zall z).size ≤ 1000000000 by omega)]
        rfl
    · have e4 : (((z.m % 4 : Nat) : Int) != 0) = true := by
        rw [bne_iff_ne]; omega
      rw [e4, cond_true, if_pos (by omega)]
      rfl
def k18 : PrimT := fun vs gs => match vs, gs with
  | [.sc (.string s)], [] => (decide (s.size ≤ 10000000), .tp [.sc (.string (u8S (o64 s).bs)), .sc (.int .i64 ((o64 s).at_ : Int)), .sc (.bool (o64 s).ok)], [])
  | _, _ => (false, .bad, [])
theorem k18_ok : ∀ vs gs x, k18 vs gs = (true, x) → CallR C prim 18 vs gs x := by
  intro vs gs x h
  unfold k18 at h
  split at h
  · simp only [Prod.mk.injEq] at h
    obtain ⟨hp, rfl⟩ := h
    exact f18_run _ _ (f18_eq _ hp)
  · cases h

def K_f4 : CallK := kCons 13 k13 <| kCons 17 k17 <| kCons 18 k18 <| kNil
theorem K_f4_ok : KOK C prim K_f4 := KOK.cons k13_ok <| KOK.cons k17_ok <| KOK.cons k18_ok <| KOK.nil
def T_f4 : Tab := tNil
theorem T_f4_ok : TOK C prim 4 T_f4 := TOK.nil
def f4 (s : ByteArray) : Option (V × List Rg) :=
  bif (decide (s.size ≤ 10000000) && true) then
    bif (decide (s.size ≤ 10000000) && true) then
      bif (decide (((s.size : Nat) : Int) > 3000)) then
        some (.sc (.bool true), [])
      else
        bif (!(o64 s).ok) then
          bif (strEq (b64s s) (⟨#[]⟩ : ByteArray)) then
            bif ((b64p s) == ((o64 s).at_ : Int)) then
              some (.sc (.bool ((b64e s) == 1)), [])
            else
              some (.sc (.bool false), [])
          else
            some (.sc (.bool false), [])
        else
          bif (strEq (b64s s) (u8S (o64 s).bs)) then
            bif ((b64p s) == 0) then
              some (.sc (.bool ((b64e s) == 0)), [])
            else
              some (.sc (.bool false), [])
          else
            some (.sc (.bool false), [])
    else none
  else none
theorem f4_run (s : ByteArray) (x : V × List Rg) (h : f4 s = some x) : CallR C prim 4 [.sc (.string s)] [] x := by
  refine call_fn (K := K_f4) (T := T_f4) K_f4_ok T_f4_ok (by kernel_rfl) ?_
  refine Eq.trans ?_ h
  kernel_rfl

theorem f4_eq (s : ByteArray) (hp : decide (s.size ≤ 10000000) = true) : f4 s = some (.sc (.bool true), []) := by
  simp only [decide_eq_true_eq] at hp
  unfold f4
  rw [dec_true hp]
  by_cases h : s.size ≤ 3000
  · rw [dec_false (show ¬ ((s.size : Nat) : Int) > 3000 by omega)]
    have h2 : ¬ 262144 < s.size := by omega
    unfold b64s b64p b64e
    rw [if_neg h2, if_neg h2, if_neg h2]
    cases ho : (o64 s).ok with
    | false =>
      have : strEq (u8S []) (⟨#[]⟩ : ByteArray) = true := strEq_self _
      rw [o64_bs ho, this]
      simp
    | true =>
      rw [o64_at ho, strEq_self]
      rfl
  · rw [dec_true (show ((s.size : Nat) : Int) > 3000 by omega)]
    rfl
def k4 : PrimT := fun vs gs => match vs, gs with
  | [.sc (.string s)], [] => (decide (s.size ≤ 10000000), .sc (.bool true), [])
  | _, _ => (false, .bad, [])
theorem k4_ok : ∀ vs gs x, k4 vs gs = (true, x) → CallR C prim 4 vs gs x := by
  intro vs gs x h
  unfold k4 at h
  split at h
  · simp only [Prod.mk.injEq] at h
    obtain ⟨hp, rfl⟩ := h
    exact f4_run _ _ (f4_eq _ hp)
  · cases h
end Go.Ab
