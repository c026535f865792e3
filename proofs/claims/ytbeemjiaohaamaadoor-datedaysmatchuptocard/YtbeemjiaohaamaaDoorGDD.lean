/- Functions of a law, as the machine runs them. -/
import Derived.Test.YtbeemjiaohaamaaDoorDDD
import Derived.Test.YtbeemjiaohaamaaDoorZDD
namespace Go.Ab
open Go Go.Proofs Go.RowKit
set_option linter.unusedSimpArgs false
set_option linter.unusedVariables false

def K_f132 : CallK := kNil
theorem K_f132_ok : KOK C prim K_f132 := KOK.nil
def T_f132 : Tab := tNil
theorem T_f132_ok : TOK C prim 132 T_f132 := TOK.nil
def f132 (year : Int) : Option (V × List Rg) :=
  bif ((Int.tmod year 4) == 0) then
    bif ((Int.tmod year 100) != 0) then
      some (.sc (.bool true), [])
    else
      some (.sc (.bool ((Int.tmod year 400) == 0)), [])
  else
    some (.sc (.bool false), [])
theorem f132_run (year : Int) (z9 : V × List Rg) (h : f132 year = some z9) : CallR C prim 132 [.sc (.int .i64 year)] [] z9 := by
  refine call_fn (K := K_f132) (T := T_f132) K_f132_ok T_f132_ok (by kernel_rfl) ?_
  refine Eq.trans ?_ h
  kernel_rfl

theorem f132_eq (year : Int) : f132 year = some (.sc (.bool (leapB year)), []) := by
  unfold f132 leapB
  cases Int.tmod year 4 == 0 <;> cases Int.tmod year 100 != 0 <;> rfl
def k132 : PrimT := fun vs gs => match vs, gs with
  | [.sc (.int .i64 year)], [] => (true, .sc (.bool (leapB year)), [])
  | _, _ => (false, .bad, [])
theorem k132_ok : ∀ vs gs x, k132 vs gs = (true, x) → CallR C prim 132 vs gs x := by
  intro vs gs x h
  unfold k132 at h
  split at h
  · simp only [Prod.mk.injEq, true_and] at h
    subst h
    exact f132_run _ _ (f132_eq _)
  · cases h

def K_f98m1 : CallK := kNil
theorem K_f98m1_ok : KOK C prim K_f98m1 := KOK.nil
def T_f98m1 : Tab := tNil
theorem T_f98m1_ok : TOK C prim 98 T_f98m1 := TOK.nil
def f98m1 (year : Int) : Option (V × List Rg) :=
  some (.sc (.int .i64 31), [])
theorem f98m1_run (year : Int) (z9 : V × List Rg) (h : f98m1 year = some z9) : CallR C prim 98 [.sc (.int .i64 year), .sc (.int .i64 1)] [] z9 := by
  refine call_fn (K := K_f98m1) (T := T_f98m1) K_f98m1_ok T_f98m1_ok (by kernel_rfl) ?_
  refine Eq.trans ?_ h
  kernel_rfl

def K_f98m2 : CallK := kCons 132 k132 <| kNil
theorem K_f98m2_ok : KOK C prim K_f98m2 := KOK.cons k132_ok <| KOK.nil
def T_f98m2 : Tab := tNil
theorem T_f98m2_ok : TOK C prim 98 T_f98m2 := TOK.nil
def f98m2 (year : Int) : Option (V × List Rg) :=
  bif (leapB year) then
    some (.sc (.int .i64 29), [])
  else
    some (.sc (.int .i64 28), [])
theorem f98m2_run (year : Int) (z9 : V × List Rg) (h : f98m2 year = some z9) : CallR C prim 98 [.sc (.int .i64 year), .sc (.int .i64 2)] [] z9 := by
  refine call_fn (K := K_f98m2) (T := T_f98m2) K_f98m2_ok T_f98m2_ok (by kernel_rfl) ?_
  refine Eq.trans ?_ h
  kernel_rfl

def K_f98m3 : CallK := kNil
theorem K_f98m3_ok : KOK C prim K_f98m3 := KOK.nil
def T_f98m3 : Tab := tNil
theorem T_f98m3_ok : TOK C prim 98 T_f98m3 := TOK.nil
def f98m3 (year : Int) : Option (V × List Rg) :=
  some (.sc (.int .i64 31), [])
theorem f98m3_run (year : Int) (z9 : V × List Rg) (h : f98m3 year = some z9) : CallR C prim 98 [.sc (.int .i64 year), .sc (.int .i64 3)] [] z9 := by
  refine call_fn (K := K_f98m3) (T := T_f98m3) K_f98m3_ok T_f98m3_ok (by kernel_rfl) ?_
  refine Eq.trans ?_ h
  kernel_rfl

def K_f98m4 : CallK := kNil
theorem K_f98m4_ok : KOK C prim K_f98m4 := KOK.nil
def T_f98m4 : Tab := tNil
theorem T_f98m4_ok : TOK C prim 98 T_f98m4 := TOK.nil
def f98m4 (year : Int) : Option (V × List Rg) :=
  some (.sc (.int .i64 30), [])
theorem f98m4_run (year : Int) (z9 : V × List Rg) (h : f98m4 year = some z9) : CallR C prim 98 [.sc (.int .i64 year), .sc (.int .i64 4)] [] z9 := by
  refine call_fn (K := K_f98m4) (T := T_f98m4) K_f98m4_ok T_f98m4_ok (by kernel_rfl) ?_
  refine Eq.trans ?_ h
  kernel_rfl

def K_f98m5 : CallK := kNil
theorem K_f98m5_ok : KOK C prim K_f98m5 := KOK.nil
def T_f98m5 : Tab := tNil
theorem T_f98m5_ok : TOK C prim 98 T_f98m5 := TOK.nil
def f98m5 (year : Int) : Option (V × List Rg) :=
  some (.sc (.int .i64 31), [])
theorem f98m5_run (year : Int) (z9 : V × List Rg) (h : f98m5 year = some z9) : CallR C prim 98 [.sc (.int .i64 year), .sc (.int .i64 5)] [] z9 := by
  refine call_fn (K := K_f98m5) (T := T_f98m5) K_f98m5_ok T_f98m5_ok (by kernel_rfl) ?_
  refine Eq.trans ?_ h
  kernel_rfl

def K_f98m6 : CallK := kNil
theorem K_f98m6_ok : KOK C prim K_f98m6 := KOK.nil
def T_f98m6 : Tab := tNil
theorem T_f98m6_ok : TOK C prim 98 T_f98m6 := TOK.nil
def f98m6 (year : Int) : Option (V × List Rg) :=
  some (.sc (.int .i64 30), [])
theorem f98m6_run (year : Int) (z9 : V × List Rg) (h : f98m6 year = some z9) : CallR C prim 98 [.sc (.int .i64 year), .sc (.int .i64 6)] [] z9 := by
  refine call_fn (K := K_f98m6) (T := T_f98m6) K_f98m6_ok T_f98m6_ok (by kernel_rfl) ?_
  refine Eq.trans ?_ h
  kernel_rfl

def K_f98m7 : CallK := kNil
theorem K_f98m7_ok : KOK C prim K_f98m7 := KOK.nil
def T_f98m7 : Tab := tNil
theorem T_f98m7_ok : TOK C prim 98 T_f98m7 := TOK.nil
def f98m7 (year : Int) : Option (V × List Rg) :=
  some (.sc (.int .i64 31), [])
theorem f98m7_run (year : Int) (z9 : V × List Rg) (h : f98m7 year = some z9) : CallR C prim 98 [.sc (.int .i64 year), .sc (.int .i64 7)] [] z9 := by
  refine call_fn (K := K_f98m7) (T := T_f98m7) K_f98m7_ok T_f98m7_ok (by kernel_rfl) ?_
  refine Eq.trans ?_ h
  kernel_rfl

def K_f98m8 : CallK := kNil
theorem K_f98m8_ok : KOK C prim K_f98m8 := KOK.nil
def T_f98m8 : Tab := tNil
theorem T_f98m8_ok : TOK C prim 98 T_f98m8 := TOK.nil
def f98m8 (year : Int) : Option (V × List Rg) :=
  some (.sc (.int .i64 31), [])
theorem f98m8_run (year : Int) (z9 : V × List Rg) (h : f98m8 year = some z9) : CallR C prim 98 [.sc (.int .i64 year), .sc (.int .i64 8)] [] z9 := by
  refine call_fn (K := K_f98m8) (T := T_f98m8) K_f98m8_ok T_f98m8_ok (by kernel_rfl) ?_
  refine Eq.trans ?_ h
  kernel_rfl

def K_f98m9 : CallK := kNil
theorem K_f98m9_ok : KOK C prim K_f98m9 := KOK.nil
def T_f98m9 : Tab := tNil
theorem T_f98m9_ok : TOK C prim 98 T_f98m9 := TOK.nil
def f98m9 (year : Int) : Option (V × List Rg) :=
  some (.sc (.int .i64 30), [])
theorem f98m9_run (year : Int) (z9 : V × List Rg) (h : f98m9 year = some z9) : CallR C prim 98 [.sc (.int .i64 year), .sc (.int .i64 9)] [] z9 := by
  refine call_fn (K := K_f98m9) (T := T_f98m9) K_f98m9_ok T_f98m9_ok (by kernel_rfl) ?_
  refine Eq.trans ?_ h
  kernel_rfl

def K_f98m10 : CallK := kNil
theorem K_f98m10_ok : KOK C prim K_f98m10 := KOK.nil
def T_f98m10 : Tab := tNil
theorem T_f98m10_ok : TOK C prim 98 T_f98m10 := TOK.nil
def f98m10 (year : Int) : Option (V × List Rg) :=
  some (.sc (.int .i64 31), [])
theorem f98m10_run (year : Int) (z9 : V × List Rg) (h : f98m10 year = some z9) : CallR C prim 98 [.sc (.int .i64 year), .sc (.int .i64 10)] [] z9 := by
  refine call_fn (K := K_f98m10) (T := T_f98m10) K_f98m10_ok T_f98m10_ok (by kernel_rfl) ?_
  refine Eq.trans ?_ h
  kernel_rfl

def K_f98m11 : CallK := kNil
theorem K_f98m11_ok : KOK C prim K_f98m11 := KOK.nil
def T_f98m11 : Tab := tNil
theorem T_f98m11_ok : TOK C prim 98 T_f98m11 := TOK.nil
def f98m11 (year : Int) : Option (V × List Rg) :=
  some (.sc (.int .i64 30), [])
theorem f98m11_run (year : Int) (z9 : V × List Rg) (h : f98m11 year = some z9) : CallR C prim 98 [.sc (.int .i64 year), .sc (.int .i64 11)] [] z9 := by
  refine call_fn (K := K_f98m11) (T := T_f98m11) K_f98m11_ok T_f98m11_ok (by kernel_rfl) ?_
  refine Eq.trans ?_ h
  kernel_rfl

def K_f98m12 : CallK := kNil
theorem K_f98m12_ok : KOK C prim K_f98m12 := KOK.nil
def T_f98m12 : Tab := tNil
theorem T_f98m12_ok : TOK C prim 98 T_f98m12 := TOK.nil
def f98m12 (year : Int) : Option (V × List Rg) :=
  some (.sc (.int .i64 31), [])
theorem f98m12_run (year : Int) (z9 : V × List Rg) (h : f98m12 year = some z9) : CallR C prim 98 [.sc (.int .i64 year), .sc (.int .i64 12)] [] z9 := by
  refine call_fn (K := K_f98m12) (T := T_f98m12) K_f98m12_ok T_f98m12_ok (by kernel_rfl) ?_
  refine Eq.trans ?_ h
  kernel_rfl

def k98 : PrimT := fun vs gs => match vs, gs with
  | [.sc (.int .i64 y), .sc (.int .i64 m)], [] => (decide (1 ≤ m) && decide (m ≤ 12), .sc (.int .i64 (monthD y m)), [])
  | _, _ => (false, .bad, [])
theorem f98_all (y : Int) : ∀ m : Nat, 1 ≤ m → m ≤ 12 → CallR C prim 98 [.sc (.int .i64 y), .sc (.int .i64 (m : Int))] [] (.sc (.int .i64 (monthD y (m : Int))), [])
  | 0, h, _ => absurd h (by omega)
  | 1, _, _ => f98m1_run y _ (by rfl)
  | 2, _, _ => f98m2_run y _ (by unfold f98m2 monthD; cases leapB y <;> rfl)
  | 3, _, _ => f98m3_run y _ (by rfl)
  | 4, _, _ => f98m4_run y _ (by rfl)
  | 5, _, _ => f98m5_run y _ (by rfl)
  | 6, _, _ => f98m6_run y _ (by rfl)
  | 7, _, _ => f98m7_run y _ (by rfl)
  | 8, _, _ => f98m8_run y _ (by rfl)
  | 9, _, _ => f98m9_run y _ (by rfl)
  | 10, _, _ => f98m10_run y _ (by rfl)
  | 11, _, _ => f98m11_run y _ (by rfl)
  | 12, _, _ => f98m12_run y _ (by rfl)
  | n + 13, _, h => absurd h (by omega)
theorem k98_ok : ∀ vs gs x, k98 vs gs = (true, x) → CallR C prim 98 vs gs x := by
  intro vs gs x h
  unfold k98 at h
  split at h
  · next y m =>
    simp only [Prod.mk.injEq, Bool.and_eq_true, decide_eq_true_eq] at h
    obtain ⟨⟨h1, h2⟩, rfl⟩ := h
    obtain ⟨k, rfl⟩ : ∃ k : Nat, m = (k : Int) := ⟨m.toNat, by omega⟩
    exact f98_all y k (by omega) (by omega)
  · cases h

def K_f99 : CallK := kNil
theorem K_f99_ok : KOK C prim K_f99 := KOK.nil
def T_f99 : Tab := tNil
theorem T_f99_ok : TOK C prim 99 T_f99 := TOK.nil
def f99 (year : Int) : Option (V × List Rg) :=
  some (.sc (.int .i64 (IntKind.wrap .i64 ((IntKind.wrap .i64 ((IntKind.wrap .i64 ((IntKind.wrap .i64 ((365 : Int) * (IntKind.wrap .i64 (year - 1)))) + (IntKind.wrap .i64 (Int.tdiv (IntKind.wrap .i64 (year - 1)) 4)))) - (IntKind.wrap .i64 (Int.tdiv (IntKind.wrap .i64 (year - 1)) 100)))) + (IntKind.wrap .i64 (Int.tdiv (IntKind.wrap .i64 (year - 1)) 400))))), [])
theorem f99_run (year : Int) (z9 : V × List Rg) (h : f99 year = some z9) : CallR C prim 99 [.sc (.int .i64 year)] [] z9 := by
  refine call_fn (K := K_f99) (T := T_f99) K_f99_ok T_f99_ok (by kernel_rfl) ?_
  refine Eq.trans ?_ h
  kernel_rfl

theorem f99_eq (year : Int) : f99 year = some (.sc (.int .i64 (yearsW year)), []) := by rfl
def k99 : PrimT := fun vs gs => match vs, gs with
  | [.sc (.int .i64 year)], [] => (true, .sc (.int .i64 (yearsW year)), [])
  | _, _ => (false, .bad, [])
theorem k99_ok : ∀ vs gs x, k99 vs gs = (true, x) → CallR C prim 99 vs gs x := by
  intro vs gs x h
  unfold k99 at h
  split at h
  · simp only [Prod.mk.injEq, true_and] at h
    subst h
    exact f99_run _ _ (f99_eq _)
  · cases h

def K_f62_l0 : CallK := kCons 98 k98 <| kNil
theorem K_f62_l0_ok : KOK C prim K_f62_l0 := KOK.cons k98_ok <| KOK.nil
def T_f62_l0 : Tab := tNil
theorem T_f62_l0_ok : TOK C prim 62 T_f62_l0 := TOK.nil
def f62_l0 : Nat → Int → Int → Int → Int → (R : Type) → (Ex → St → Option R) → Option R
  | 0, _, _, _, _, _, _ => none
  | n + 1, year, month, n', m, R, κ =>
    bif (decide (m < month)) then
      bif ((decide (1 ≤ m) && decide (m ≤ 12)) && true) then
        f62_l0 n year month (IntKind.wrap .i64 (n' + (monthD year m))) (IntKind.wrap .i64 (m + 1)) R κ
      else none
    else
      κ (.ex 0) (mkS [(6, .bad), (7, .sc (.int .i64 n'))] [])
def f62_l0_ls : List (Nat × Pat) := [(0, .i .i64), (1, .i .i64), (7, .i .i64), (8, .i .i64)]
def f62_l0_rs : List RPat := []
theorem f62_l0_ok (n : Nat) : ∀ (year : Int) (month : Int) (n' : Int) (m : Int) (R : Type) (κ : Ex → St → Option R) (r : R), f62_l0 n year month n' m R κ = some r → ∃ ee ss, κ ee ss = some r ∧ RunP C prim 62 [0, 1, 0, 1, 1] (mkS [(0, .sc (.int .i64 year)), (1, .sc (.int .i64 month)), (7, .sc (.int .i64 n')), (8, .sc (.int .i64 m))] []) ee ss := by
  induction n with
  | zero => intro year month n' m R κ r h; cases h
  | succ n ih =>
    intro year month n' m R κ r h
    refine loop_round (K := K_f62_l0) (T := T_f62_l0) K_f62_l0_ok T_f62_l0_ok (p := [0, 1, 0, 1, 1]) (by kernel_rfl) (fun st => bif ckS f62_l0_ls f62_l0_rs st then f62_l0 n ((st.env 0).intOf) ((st.env 1).intOf) ((st.env 7).intOf) ((st.env 8).intOf) R κ else none) (fun st0 h0 => ?_) ?_
    · obtain ⟨hs, h0⟩ := cond_some h0
      rw [canon (ls := f62_l0_ls) (rs := f62_l0_rs) (by kernel_rfl) st0 hs]
      exact ih _ _ _ _ R κ r h0
    · refine Eq.trans ?_ h
      kernel_rfl

def f62_s0 (year : Int) (month : Int) (n' : Int) (m : Int) (R : Type) (κ : Ex → St → Option R) : Option R :=
  κ (.ex 0) (mkS [(6, .bad), (7, .sc (.int .i64 (n' + sumM year (month.toNat - 1))))] [])
theorem f62_loop (year month : Int) (hm : month ≤ 13) (R : Type) (κ : Ex → St → Option R) : ∀ (k i : Nat) (n' : Int), i + k = month.toNat - 1 → -1000000000000 ≤ n' → n' ≤ 1000000000000 + 31 * (i : Int) →
    f62_l0 (k + 1) year month n' ((i : Int) + 1) R κ = κ (.ex 0) (mkS [(6, .bad), (7, .sc (.int .i64 (n' + (sumM year (month.toNat - 1) - sumM year i))))] [])
  | 0, i, n', h, h1, h2 => by
    obtain rfl : i = month.toNat - 1 := by omega
    rw [f62_l0, dec_false (by omega), cond_false, Int.sub_self, Int.add_zero]
  | k + 1, i, n', h, h1, h2 => by
    have hb := monthD_bd year ((i : Int) + 1)
    rw [f62_l0, dec_true (show ((i : Int) + 1) < month by omega), cond_true, dec_true (show (1 : Int) ≤ (i : Int) + 1 by omega), dec_true (show (i : Int) + 1 ≤ 12 by omega), wrap_id (n := n' + monthD year ((i : Int) + 1)) (by omega) (by omega), wrap_id (n := (i : Int) + 1 + 1) (by omega) (by omega)]
    have IH := f62_loop year month hm R κ k (i + 1) (n' + monthD year ((i : Int) + 1)) (by omega) (by omega) (by omega)
    rw [show ((i + 1 : Nat) : Int) = (i : Int) + 1 by omega] at IH
    simp only [Bool.and_self, cond_true, IH]
    have : n' + monthD year ((i : Int) + 1) + (sumM year (month.toNat - 1) - sumM year (i + 1)) = n' + (sumM year (month.toNat - 1) - sumM year i) := by rw [sumM_succ]; omega
    rw [this]
theorem f62_s0_eq (year : Int) (month : Int) (n' : Int) (m : Int) (hp : ((m == 1) && decide (month ≤ 13) && decide (-1000000000000 ≤ n') && decide (n' ≤ 1000000000000)) = true) : ∃ n, ∀ (R : Type) (κ : Ex → St → Option R), f62_l0 n year month n' m R κ = f62_s0 year month n' m R κ := by
  simp only [Bool.and_eq_true, decide_eq_true_eq, beq_iff_eq] at hp
  obtain ⟨⟨⟨rfl, g2⟩, g3⟩, g4⟩ := hp
  refine ⟨month.toNat - 1 + 1, fun R κ => ?_⟩
  have := f62_loop year month g2 R κ (month.toNat - 1) 0 n' (by omega) g3 (by omega)
  rw [sumM_zero, Int.sub_zero] at this
  exact this
def t_f62_l0 (st : St) (R : Type) (κ : Ex → St → Option R) : Option R := bif ckS f62_l0_ls f62_l0_rs st then (bif ((((st.env 8).intOf) == 1) && decide (((st.env 1).intOf) ≤ 13) && decide (-1000000000000 ≤ ((st.env 7).intOf)) && decide (((st.env 7).intOf) ≤ 1000000000000)) then f62_s0 ((st.env 0).intOf) ((st.env 1).intOf) ((st.env 7).intOf) ((st.env 8).intOf) R κ else none) else none
theorem t_f62_l0_ok : ∀ st0 R κ r, t_f62_l0 (forget C 62 [0, 1, 0, 1, 1] st0) R κ = some r → ∃ ee ss, κ ee ss = some r ∧ RunP C prim 62 [0, 1, 0, 1, 1] (forget C 62 [0, 1, 0, 1, 1] st0) ee ss := by
  intro st0 R κ r h
  obtain ⟨hs, h⟩ := cond_some h
  obtain ⟨hp, h⟩ := cond_some h
  rw [canon (ls := f62_l0_ls) (rs := f62_l0_rs) (by kernel_rfl) st0 hs]
  obtain ⟨n, hn⟩ := f62_s0_eq _ _ _ _ hp
  rw [← hn] at h
  exact f62_l0_ok n _ _ _ _ R κ r h

def K_f62 : CallK := kCons 99 k99 <| kNil
theorem K_f62_ok : KOK C prim K_f62 := KOK.cons k99_ok <| KOK.nil
def T_f62 : Tab := tCons [0, 1, 0, 1, 1] t_f62_l0 <| tNil
theorem T_f62_ok : TOK C prim 62 T_f62 := TOK.cons t_f62_l0_ok <| TOK.nil
def f62 (year : Int) (month : Int) (day : Int) : Option (V × List Rg) :=
  bif (((1 : Int) == 1) && decide (month ≤ 13) && decide (-1000000000000 ≤ (IntKind.wrap .i64 ((IntKind.wrap .i64 ((IntKind.wrap .i64 ((yearsW year) - (yearsW (1970 : Int)))) + day)) - 1))) && decide ((IntKind.wrap .i64 ((IntKind.wrap .i64 ((IntKind.wrap .i64 ((yearsW year) - (yearsW (1970 : Int)))) + day)) - 1)) ≤ 1000000000000)) then
    some (.sc (.int .i64 ((IntKind.wrap .i64 ((IntKind.wrap .i64 ((IntKind.wrap .i64 ((yearsW year) - (yearsW (1970 : Int)))) + day)) - 1)) + sumM year (month.toNat - 1))), [])
  else none
theorem f62_run (year : Int) (month : Int) (day : Int) (z9 : V × List Rg) (h : f62 year month day = some z9) : CallR C prim 62 [.sc (.int .i64 year), .sc (.int .i64 month), .sc (.int .i64 day)] [] z9 := by
  refine call_fn (K := K_f62) (T := T_f62) K_f62_ok T_f62_ok (by kernel_rfl) ?_
  refine Eq.trans ?_ h
  kernel_rfl

theorem f62_eq (year : Int) (month : Int) (day : Int) (hp : (decide (1 ≤ year) && decide (year ≤ 100000) && decide (month ≤ 13) && decide (-1000000 ≤ day) && decide (day ≤ 1000000)) = true) : f62 year month day = some (.sc (.int .i64 (dayN year month day)), []) := by
  simp only [Bool.and_eq_true, decide_eq_true_eq, beq_iff_eq] at hp
  obtain ⟨⟨⟨⟨g1, g2⟩, g3⟩, g4⟩, g5⟩ := hp
  have hb := yB_bd year g1 g2
  have hs := sumM_bd year (month.toNat - 1)
  have h70 : yearsW 1970 = 719162 := by decide
  unfold f62 dayN
  rw [yearsW_eq year g1 g2, h70, wrap_id (n := yB year + 719162 - 719162) (by omega) (by omega), wrap_id (n := yB year + 719162 - 719162 + day) (by omega) (by omega), wrap_id (n := yB year + 719162 - 719162 + day - 1) (by omega) (by omega), dec_true g3, dec_true (show (-1000000000000 : Int) ≤ yB year + 719162 - 719162 + day - 1 by omega), dec_true (show yB year + 719162 - 719162 + day - 1 ≤ 1000000000000 by omega)]
  have : yB year + 719162 - 719162 + day - 1 + sumM year (month.toNat - 1) = yB year + sumM year (month.toNat - 1) + day - 1 := by omega
  rw [this]
  rfl
def k62 : PrimT := fun vs gs => match vs, gs with
  | [.sc (.int .i64 year), .sc (.int .i64 month), .sc (.int .i64 day)], [] => ((decide (1 ≤ year) && decide (year ≤ 100000) && decide (month ≤ 13) && decide (-1000000 ≤ day) && decide (day ≤ 1000000)), .sc (.int .i64 (dayN year month day)), [])
  | _, _ => (false, .bad, [])
theorem k62_ok : ∀ vs gs x, k62 vs gs = (true, x) → CallR C prim 62 vs gs x := by
  intro vs gs x h
  unfold k62 at h
  split at h
  · simp only [Prod.mk.injEq] at h
    obtain ⟨hp, rfl⟩ := h
    exact f62_run _ _ _ _ (f62_eq _ _ _ hp)
  · cases h

def K_f55 : CallK := kNil
theorem K_f55_ok : KOK C prim K_f55 := KOK.nil
def T_f55 : Tab := tNil
theorem T_f55_ok : TOK C prim 55 T_f55 := TOK.nil
def f55 (n' : Int) (low : Int) (high : Int) : Option (V × List Rg) :=
  bif (decide (n' ≥ low)) then
    some (.sc (.bool (decide (n' ≤ high))), [])
  else
    some (.sc (.bool false), [])
theorem f55_run (n' : Int) (low : Int) (high : Int) (z9 : V × List Rg) (h : f55 n' low high = some z9) : CallR C prim 55 [.sc (.int .i64 n'), .sc (.int .i64 low), .sc (.int .i64 high)] [] z9 := by
  refine call_fn (K := K_f55) (T := T_f55) K_f55_ok T_f55_ok (by kernel_rfl) ?_
  refine Eq.trans ?_ h
  kernel_rfl

theorem f55_eq (n' : Int) (low : Int) (high : Int) : f55 n' low high = some (.sc (.bool (decide (n' ≥ low) && decide (n' ≤ high))), []) := by
  unfold f55
  cases decide (n' ≥ low) <;> rfl
def k55 : PrimT := fun vs gs => match vs, gs with
  | [.sc (.int .i64 n'), .sc (.int .i64 low), .sc (.int .i64 high)], [] => (true, .sc (.bool (decide (n' ≥ low) && decide (n' ≤ high))), [])
  | _, _ => (false, .bad, [])
theorem k55_ok : ∀ vs gs x, k55 vs gs = (true, x) → CallR C prim 55 vs gs x := by
  intro vs gs x h
  unfold k55 at h
  split at h
  · simp only [Prod.mk.injEq, true_and] at h
    subst h
    exact f55_run _ _ _ _ (f55_eq _ _ _)
  · cases h

def K_f61 : CallK := kCons 55 k55 <| kCons 98 k98 <| kNil
theorem K_f61_ok : KOK C prim K_f61 := KOK.cons k55_ok <| KOK.cons k98_ok <| KOK.nil
def T_f61 : Tab := tNil
theorem T_f61_ok : TOK C prim 61 T_f61 := TOK.nil
def f61 (year : Int) (month : Int) (day : Int) : Option (V × List Rg) :=
  bif (decide (year ≥ (1 : Int)) && decide (year ≤ (9999 : Int))) then
    bif (decide (month ≥ (1 : Int)) && decide (month ≤ (12 : Int))) then
      bif ((decide (1 ≤ month) && decide (month ≤ 12)) && true) then
        some (.sc (.bool (decide (day ≥ (1 : Int)) && decide (day ≤ (monthD year month)))), [])
      else none
    else
      some (.sc (.bool false), [])
  else
    some (.sc (.bool false), [])
theorem f61_run (year : Int) (month : Int) (day : Int) (z9 : V × List Rg) (h : f61 year month day = some z9) : CallR C prim 61 [.sc (.int .i64 year), .sc (.int .i64 month), .sc (.int .i64 day)] [] z9 := by
  refine call_fn (K := K_f61) (T := T_f61) K_f61_ok T_f61_ok (by kernel_rfl) ?_
  refine Eq.trans ?_ h
  kernel_rfl

theorem f61_eq (year : Int) (month : Int) (day : Int) : f61 year month day = some (.sc (.bool (isD year month day)), []) := by
  unfold f61 isD
  by_cases h1 : year ≥ 1
  case neg => rw [dec_false h1]; rfl
  by_cases h2 : year ≤ 9999
  case neg => rw [dec_true h1, dec_false h2]; rfl
  by_cases h3 : month ≥ 1
  case neg => rw [dec_true h1, dec_true h2, dec_false h3]; rfl
  by_cases h4 : month ≤ 12
  case neg => rw [dec_true h1, dec_true h2, dec_true h3, dec_false h4]; rfl
  rw [dec_true h1, dec_true h2, dec_true h3, dec_true h4]
  rfl
def k61 : PrimT := fun vs gs => match vs, gs with
  | [.sc (.int .i64 year), .sc (.int .i64 month), .sc (.int .i64 day)], [] => (true, .sc (.bool (isD year month day)), [])
  | _, _ => (false, .bad, [])
theorem k61_ok : ∀ vs gs x, k61 vs gs = (true, x) → CallR C prim 61 vs gs x := by
  intro vs gs x h
  unfold k61 at h
  split at h
  · simp only [Prod.mk.injEq, true_and] at h
    subst h
    exact f61_run _ _ _ _ (f61_eq _ _ _)
  · cases h

def K_f28 : CallK := kCons 61 k61 <| kCons 62 k62 <| kNil
theorem K_f28_ok : KOK C prim K_f28 := KOK.cons k61_ok <| KOK.cons k62_ok <| KOK.nil
def T_f28 : Tab := tNil
theorem T_f28_ok : TOK C prim 28 T_f28 := TOK.nil
def f28 (year : Int) (month : Int) (day : Int) : Option (V × List Rg) :=
  bif (!(isD year month day)) then
    some (.tp [.sc (.int .i64 0), .sc (.int .i64 3)], [])
  else
    bif ((decide (1 ≤ year) && decide (year ≤ 100000) && decide (month ≤ 13) && decide (-1000000 ≤ day) && decide (day ≤ 1000000)) && true) then
      some (.tp [.sc (.int .i64 (dayN year month day)), .sc (.int .i64 0)], [])
    else none
theorem f28_run (year : Int) (month : Int) (day : Int) (z9 : V × List Rg) (h : f28 year month day = some z9) : CallR C prim 28 [.sc (.int .i64 year), .sc (.int .i64 month), .sc (.int .i64 day)] [] z9 := by
  refine call_fn (K := K_f28) (T := T_f28) K_f28_ok T_f28_ok (by kernel_rfl) ?_
  refine Eq.trans ?_ h
  kernel_rfl

theorem isD_spec {y m d : Int} (h : isD y m d = true) : 1 ≤ y ∧ y ≤ 9999 ∧ 1 ≤ m ∧ m ≤ 12 ∧ 1 ≤ d ∧ d ≤ 31 := by
  unfold isD at h
  cases h1 : decide (y ≥ 1) && decide (y ≤ 9999) with
  | false => rw [h1] at h; cases h
  | true =>
  cases h2 : decide (m ≥ 1) && decide (m ≤ 12) with
  | false => rw [h1, h2] at h; cases h
  | true =>
  rw [h1, h2] at h
  simp only [cond_true, Bool.and_eq_true, decide_eq_true_eq] at h h1 h2
  have := monthD_bd y m
  omega
theorem f28_eq (year : Int) (month : Int) (day : Int) : f28 year month day = some (.tp [.sc (.int .i64 (bif isD year month day then dayN year month day else 0)), .sc (.int .i64 (bif isD year month day then (0 : Int) else 3))], []) := by
  unfold f28
  cases h : isD year month day with
  | false => rfl
  | true =>
    obtain ⟨g1, g2, g3, g4, g5, g6⟩ := isD_spec h
    rw [dec_true (show (1 : Int) ≤ year from g1), dec_true (show year ≤ 100000 by omega), dec_true (show month ≤ 13 by omega), dec_true (show (-1000000 : Int) ≤ day by omega), dec_true (show day ≤ 1000000 by omega)]
    rfl
def k28 : PrimT := fun vs gs => match vs, gs with
  | [.sc (.int .i64 year), .sc (.int .i64 month), .sc (.int .i64 day)], [] => (true, .tp [.sc (.int .i64 (bif isD year month day then dayN year month day else 0)), .sc (.int .i64 (bif isD year month day then (0 : Int) else 3))], [])
  | _, _ => (false, .bad, [])
theorem k28_ok : ∀ vs gs x, k28 vs gs = (true, x) → CallR C prim 28 vs gs x := by
  intro vs gs x h
  unfold k28 at h
  split at h
  · simp only [Prod.mk.injEq, true_and] at h
    subst h
    exact f28_run _ _ _ _ (f28_eq _ _ _)
  · cases h

def K_f67_l0 : CallK := kCons 62 k62 <| kNil
theorem K_f67_l0_ok : KOK C prim K_f67_l0 := KOK.cons k62_ok <| KOK.nil
def T_f67_l0 : Tab := tNil
theorem T_f67_l0_ok : TOK C prim 67 T_f67_l0 := TOK.nil
def f67_l0 : Nat → Int → Int → (R : Type) → (Ex → St → Option R) → Option R
  | 0, _, _, _, _ => none
  | n + 1, day, year, R, κ =>
    bif ((decide (1 ≤ (IntKind.wrap .i64 (year + 1))) && decide ((IntKind.wrap .i64 (year + 1)) ≤ 100000) && decide ((1 : Int) ≤ 13) && decide (-1000000 ≤ (1 : Int)) && decide ((1 : Int) ≤ 1000000)) && true) then
      bif (decide ((dayN (IntKind.wrap .i64 (year + 1)) (1 : Int) (1 : Int)) ≤ day)) then
        f67_l0 n day (IntKind.wrap .i64 (year + 1)) R κ
      else
        κ (.ex 0) (mkS [(0, .sc (.int .i64 day)), (2, .sc (.int .i64 year)), (3, .bad), (4, .bad)] [])
    else none
def f67_l0_ls : List (Nat × Pat) := [(0, .i .i64), (2, .i .i64)]
def f67_l0_rs : List RPat := []
theorem f67_l0_ok (n : Nat) : ∀ (day : Int) (year : Int) (R : Type) (κ : Ex → St → Option R) (r : R), f67_l0 n day year R κ = some r → ∃ ee ss, κ ee ss = some r ∧ RunP C prim 67 [0, 0, 1, 1, 1] (mkS [(0, .sc (.int .i64 day)), (2, .sc (.int .i64 year))] []) ee ss := by
  induction n with
  | zero => intro day year R κ r h; cases h
  | succ n ih =>
    intro day year R κ r h
    refine loop_round (K := K_f67_l0) (T := T_f67_l0) K_f67_l0_ok T_f67_l0_ok (p := [0, 0, 1, 1, 1]) (by kernel_rfl) (fun st => bif ckS f67_l0_ls f67_l0_rs st then f67_l0 n ((st.env 0).intOf) ((st.env 2).intOf) R κ else none) (fun st0 h0 => ?_) ?_
    · obtain ⟨hs, h0⟩ := cond_some h0
      rw [canon (ls := f67_l0_ls) (rs := f67_l0_rs) (by kernel_rfl) st0 hs]
      exact ih _ _ R κ r h0
    · refine Eq.trans ?_ h
      kernel_rfl

def f67_s0 (day : Int) (year : Int) (R : Type) (κ : Ex → St → Option R) : Option R :=
  κ (.ex 0) (mkS [(0, .sc (.int .i64 day)), (2, .sc (.int .i64 (yearOf day))), (3, .bad), (4, .bad)] [])
theorem dayN_one (y : Int) : dayN y 1 1 = yB y := by
  unfold dayN
  have : sumM y ((1 : Int).toNat - 1) = 0 := rfl
  omega
theorem f67_loop (day : Int) (h1 : -719162 ≤ day) (h2 : day ≤ 2932896) (R : Type) (κ : Ex → St → Option R) : ∀ (k : Nat) (y : Int), 1 ≤ y → y + (k : Int) = yearOf day →
    f67_l0 (k + 1) day y R κ = κ (.ex 0) (mkS [(0, .sc (.int .i64 day)), (2, .sc (.int .i64 (yearOf day))), (3, .bad), (4, .bad)] []) := by
  obtain ⟨a, b, c, d⟩ := yearOf_spec day h1 h2
  have hp : ∀ y : Int, 1 ≤ y → y ≤ yearOf day → (decide (1 ≤ (IntKind.wrap .i64 (y + 1))) && decide ((IntKind.wrap .i64 (y + 1)) ≤ 100000) && decide ((1 : Int) ≤ 13) && decide (-1000000 ≤ (1 : Int)) && decide ((1 : Int) ≤ 1000000) && true) = true := by
    intro y hy hy'
    rw [wrap_id (by omega) (by omega), dec_true (show (1 : Int) ≤ y + 1 by omega), dec_true (show y + 1 ≤ (100000 : Int) by omega)]
    rfl
  intro k
  induction k with
  | zero =>
    intro y hy h
    obtain rfl : y = yearOf day := by omega
    rw [f67_l0, hp _ hy (Int.le_refl _), cond_true, wrap_id (by omega) (by omega), dayN_one, dec_false (by omega), cond_false]
  | succ k ih =>
    intro y hy h
    have hm := yB_mono (y + 1) (yearOf day) (by omega) (by omega)
    rw [f67_l0, hp _ hy (by omega), cond_true, wrap_id (by omega) (by omega), dayN_one, dec_true (show yB (y + 1) ≤ day by omega), cond_true, ih (y + 1) (by omega) (by omega)]
theorem f67_s0_eq (day : Int) (year : Int) (hp : (decide (-719162 ≤ day) && decide (day ≤ 2932896) && decide (1 ≤ year) && decide (year ≤ yearOf day)) = true) : ∃ n, ∀ (R : Type) (κ : Ex → St → Option R), f67_l0 n day year R κ = f67_s0 day year R κ := by
  simp only [Bool.and_eq_true, decide_eq_true_eq, beq_iff_eq] at hp
  obtain ⟨⟨⟨g1, g2⟩, g3⟩, g4⟩ := hp
  exact ⟨(yearOf day - year).toNat + 1, fun R κ => f67_loop day g1 g2 R κ _ year g3 (by omega)⟩
def t_f67_l0 (st : St) (R : Type) (κ : Ex → St → Option R) : Option R := bif ckS f67_l0_ls f67_l0_rs st then (bif (decide (-719162 ≤ ((st.env 0).intOf)) && decide (((st.env 0).intOf) ≤ 2932896) && decide (1 ≤ ((st.env 2).intOf)) && decide (((st.env 2).intOf) ≤ yearOf ((st.env 0).intOf))) then f67_s0 ((st.env 0).intOf) ((st.env 2).intOf) R κ else none) else none
theorem t_f67_l0_ok : ∀ st0 R κ r, t_f67_l0 (forget C 67 [0, 0, 1, 1, 1] st0) R κ = some r → ∃ ee ss, κ ee ss = some r ∧ RunP C prim 67 [0, 0, 1, 1, 1] (forget C 67 [0, 0, 1, 1, 1] st0) ee ss := by
  intro st0 R κ r h
  obtain ⟨hs, h⟩ := cond_some h
  obtain ⟨hp, h⟩ := cond_some h
  rw [canon (ls := f67_l0_ls) (rs := f67_l0_rs) (by kernel_rfl) st0 hs]
  obtain ⟨n, hn⟩ := f67_s0_eq _ _ hp
  rw [← hn] at h
  exact f67_l0_ok n _ _ R κ r h

def K_f67_l1 : CallK := kCons 98 k98 <| kNil
theorem K_f67_l1_ok : KOK C prim K_f67_l1 := KOK.cons k98_ok <| KOK.nil
def T_f67_l1 : Tab := tNil
theorem T_f67_l1_ok : TOK C prim 67 T_f67_l1 := TOK.nil
def f67_l1 : Nat → Int → Int → Int → (R : Type) → (Ex → St → Option R) → Option R
  | 0, _, _, _, _, _ => none
  | n + 1, year, month, rest, R, κ =>
    bif ((decide (1 ≤ month) && decide (month ≤ 12)) && true) then
      bif (decide (rest ≥ (monthD year month))) then
        bif ((decide (1 ≤ month) && decide (month ≤ 12)) && true) then
          f67_l1 n year (IntKind.wrap .i64 (month + 1)) (IntKind.wrap .i64 (rest - (monthD year month))) R κ
        else none
      else
        κ (.ex 2) (mkS [(2, .sc (.int .i64 year)), (3, .sc (.int .i64 month)), (4, .bad), (5, .sc (.int .i64 rest))] [])
    else none
def f67_l1_ls : List (Nat × Pat) := [(2, .i .i64), (3, .i .i64), (5, .i .i64)]
def f67_l1_rs : List RPat := []
theorem f67_l1_ok (n : Nat) : ∀ (year : Int) (month : Int) (rest : Int) (R : Type) (κ : Ex → St → Option R) (r : R), f67_l1 n year month rest R κ = some r → ∃ ee ss, κ ee ss = some r ∧ RunP C prim 67 [0, 1, 0, 1, 1, 1, 1, 1] (mkS [(2, .sc (.int .i64 year)), (3, .sc (.int .i64 month)), (5, .sc (.int .i64 rest))] []) ee ss := by
  induction n with
  | zero => intro year month rest R κ r h; cases h
  | succ n ih =>
    intro year month rest R κ r h
    refine loop_round (K := K_f67_l1) (T := T_f67_l1) K_f67_l1_ok T_f67_l1_ok (p := [0, 1, 0, 1, 1, 1, 1, 1]) (by kernel_rfl) (fun st => bif ckS f67_l1_ls f67_l1_rs st then f67_l1 n ((st.env 2).intOf) ((st.env 3).intOf) ((st.env 5).intOf) R κ else none) (fun st0 h0 => ?_) ?_
    · obtain ⟨hs, h0⟩ := cond_some h0
      rw [canon (ls := f67_l1_ls) (rs := f67_l1_rs) (by kernel_rfl) st0 hs]
      exact ih _ _ _ R κ r h0
    · refine Eq.trans ?_ h
      kernel_rfl

def f67_s1 (year : Int) (month : Int) (rest : Int) (R : Type) (κ : Ex → St → Option R) : Option R :=
  κ (.ex 2) (mkS [(2, .sc (.int .i64 year)), (3, .sc (.int .i64 ((monF 12 year 1 rest).1))), (4, .bad), (5, .sc (.int .i64 ((monF 12 year 1 rest).2)))] [])
theorem f67_loop1 (y : Int) (R : Type) (κ : Ex → St → Option R) : ∀ (k i : Nat) (r : Int), i + k = 12 → 0 ≤ r → r + sumM y i < sumM y 12 →
    f67_l1 (k + 1) y ((i : Int) + 1) r R κ = κ (.ex 2) (mkS [(2, .sc (.int .i64 y)), (3, .sc (.int .i64 ((monF k y ((i : Int) + 1) r).1))), (4, .bad), (5, .sc (.int .i64 ((monF k y ((i : Int) + 1) r).2)))] [])
  | 0, i, r, h, h0, h1 => by
    obtain rfl : i = 12 := by omega
    omega
  | k + 1, i, r, h, h0, h1 => by
    have hb := monthD_bd y ((i : Int) + 1)
    have hc := sumM_bd y i
    have hd := sumM_bd y 12
    rw [f67_l1, dec_true (show (1 : Int) ≤ (i : Int) + 1 by omega), dec_true (show (i : Int) + 1 ≤ 12 by omega), monF]
    by_cases hr : r ≥ monthD y ((i : Int) + 1)
    · have IH := f67_loop1 y R κ k (i + 1) (r - monthD y ((i : Int) + 1)) (by omega) (by omega) (by rw [sumM_succ]; omega)
      rw [show ((i + 1 : Nat) : Int) = (i : Int) + 1 by omega] at IH
      rw [dec_true hr, wrap_id (n := (i : Int) + 1 + 1) (by omega) (by omega), wrap_id (n := r - monthD y ((i : Int) + 1)) (by omega) (by omega)]
      simp only [Bool.and_self, cond_true, IH]
    · rw [dec_false hr]
      rfl
theorem f67_s1_eq (year : Int) (month : Int) (rest : Int) (hp : ((month == 1) && decide (1 ≤ year) && decide (0 ≤ rest) && decide (rest < sumM year 12)) = true) : ∃ n, ∀ (R : Type) (κ : Ex → St → Option R), f67_l1 n year month rest R κ = f67_s1 year month rest R κ := by
  simp only [Bool.and_eq_true, decide_eq_true_eq, beq_iff_eq] at hp
  obtain ⟨⟨⟨rfl, g2⟩, g3⟩, g4⟩ := hp
  exact ⟨12 + 1, fun R κ => f67_loop1 year R κ 12 0 rest (by omega) g3 (by rw [sumM_zero]; omega)⟩
def t_f67_l1 (st : St) (R : Type) (κ : Ex → St → Option R) : Option R := bif ckS f67_l1_ls f67_l1_rs st then (bif ((((st.env 3).intOf) == 1) && decide (1 ≤ ((st.env 2).intOf)) && decide (0 ≤ ((st.env 5).intOf)) && decide (((st.env 5).intOf) < sumM ((st.env 2).intOf) 12)) then f67_s1 ((st.env 2).intOf) ((st.env 3).intOf) ((st.env 5).intOf) R κ else none) else none
theorem t_f67_l1_ok : ∀ st0 R κ r, t_f67_l1 (forget C 67 [0, 1, 0, 1, 1, 1, 1, 1] st0) R κ = some r → ∃ ee ss, κ ee ss = some r ∧ RunP C prim 67 [0, 1, 0, 1, 1, 1, 1, 1] (forget C 67 [0, 1, 0, 1, 1, 1, 1, 1] st0) ee ss := by
  intro st0 R κ r h
  obtain ⟨hs, h⟩ := cond_some h
  obtain ⟨hp, h⟩ := cond_some h
  rw [canon (ls := f67_l1_ls) (rs := f67_l1_rs) (by kernel_rfl) st0 hs]
  obtain ⟨n, hn⟩ := f67_s1_eq _ _ _ hp
  rw [← hn] at h
  exact f67_l1_ok n _ _ _ R κ r h

def K_f67 : CallK := kCons 62 k62 <| kNil
theorem K_f67_ok : KOK C prim K_f67 := KOK.cons k62_ok <| KOK.nil
def T_f67 : Tab := tCons [0, 0, 1, 1, 1] t_f67_l0 <| tCons [0, 1, 0, 1, 1, 1, 1, 1] t_f67_l1 <| tNil
theorem T_f67_ok : TOK C prim 67 T_f67 := TOK.cons t_f67_l0_ok <| TOK.cons t_f67_l1_ok <| TOK.nil
def f67 (day : Int) : Option (V × List Rg) :=
  bif (decide (day < 0)) then
    bif (decide (-719162 ≤ day) && decide (day ≤ 2932896) && decide (1 ≤ (bif (decide ((IntKind.wrap .i64 ((IntKind.wrap .i64 ((1970 : Int) + (IntKind.wrap .i64 (Int.tdiv day 365)))) - 1)) > 1)) then (IntKind.wrap .i64 ((IntKind.wrap .i64 ((1970 : Int) + (IntKind.wrap .i64 (Int.tdiv day 365)))) - 1)) else 1)) && decide ((bif (decide ((IntKind.wrap .i64 ((IntKind.wrap .i64 ((1970 : Int) + (IntKind.wrap .i64 (Int.tdiv day 365)))) - 1)) > 1)) then (IntKind.wrap .i64 ((IntKind.wrap .i64 ((1970 : Int) + (IntKind.wrap .i64 (Int.tdiv day 365)))) - 1)) else 1) ≤ yearOf day)) then
      bif ((decide (1 ≤ (yearOf day)) && decide ((yearOf day) ≤ 100000) && decide ((1 : Int) ≤ 13) && decide (-1000000 ≤ (1 : Int)) && decide ((1 : Int) ≤ 1000000)) && true) then
        bif (((1 : Int) == 1) && decide (1 ≤ (yearOf day)) && decide (0 ≤ (IntKind.wrap .i64 (day - (dayN (yearOf day) (1 : Int) (1 : Int))))) && decide ((IntKind.wrap .i64 (day - (dayN (yearOf day) (1 : Int) (1 : Int)))) < sumM (yearOf day) 12)) then
          some (.tp [.sc (.int .i64 (yearOf day)), .sc (.int .i64 ((monF 12 (yearOf day) 1 (IntKind.wrap .i64 (day - (dayN (yearOf day) (1 : Int) (1 : Int))))).1)), .sc (.int .i64 (IntKind.wrap .i64 (((monF 12 (yearOf day) 1 (IntKind.wrap .i64 (day - (dayN (yearOf day) (1 : Int) (1 : Int))))).2) + 1)))], [])
        else none
      else none
    else none
  else
    bif (decide (-719162 ≤ day) && decide (day ≤ 2932896) && decide (1 ≤ (bif (decide ((IntKind.wrap .i64 ((IntKind.wrap .i64 ((1970 : Int) + (IntKind.wrap .i64 (Int.tdiv day 366)))) - 1)) > 1)) then (IntKind.wrap .i64 ((IntKind.wrap .i64 ((1970 : Int) + (IntKind.wrap .i64 (Int.tdiv day 366)))) - 1)) else 1)) && decide ((bif (decide ((IntKind.wrap .i64 ((IntKind.wrap .i64 ((1970 : Int) + (IntKind.wrap .i64 (Int.tdiv day 366)))) - 1)) > 1)) then (IntKind.wrap .i64 ((IntKind.wrap .i64 ((1970 : Int) + (IntKind.wrap .i64 (Int.tdiv day 366)))) - 1)) else 1) ≤ yearOf day)) then
      bif ((decide (1 ≤ (yearOf day)) && decide ((yearOf day) ≤ 100000) && decide ((1 : Int) ≤ 13) && decide (-1000000 ≤ (1 : Int)) && decide ((1 : Int) ≤ 1000000)) && true) then
        bif (((1 : Int) == 1) && decide (1 ≤ (yearOf day)) && decide (0 ≤ (IntKind.wrap .i64 (day - (dayN (yearOf day) (1 : Int) (1 : Int))))) && decide ((IntKind.wrap .i64 (day - (dayN (yearOf day) (1 : Int) (1 : Int)))) < sumM (yearOf day) 12)) then
          some (.tp [.sc (.int .i64 (yearOf day)), .sc (.int .i64 ((monF 12 (yearOf day) 1 (IntKind.wrap .i64 (day - (dayN (yearOf day) (1 : Int) (1 : Int))))).1)), .sc (.int .i64 (IntKind.wrap .i64 (((monF 12 (yearOf day) 1 (IntKind.wrap .i64 (day - (dayN (yearOf day) (1 : Int) (1 : Int))))).2) + 1)))], [])
        else none
      else none
    else none
theorem f67_run (day : Int) (z9 : V × List Rg) (h : f67 day = some z9) : CallR C prim 67 [.sc (.int .i64 day)] [] z9 := by
  refine call_fn (K := K_f67) (T := T_f67) K_f67_ok T_f67_ok (by kernel_rfl) ?_
  refine Eq.trans ?_ h
  kernel_rfl

theorem f67_eq (day : Int) (hp : (decide (-719162 ≤ day) && decide (day ≤ 2932896)) = true) : f67 day = some (.tp [.sc (.int .i64 (yearOf day)), .sc (.int .i64 ((monF 12 (yearOf day) 1 (day - yB (yearOf day))).1)), .sc (.int .i64 ((monF 12 (yearOf day) 1 (day - yB (yearOf day))).2 + 1))], []) := by
  simp only [Bool.and_eq_true, decide_eq_true_eq, beq_iff_eq] at hp
  obtain ⟨g1, g2⟩ := hp
  obtain ⟨a, b, c, d⟩ := yearOf_spec day g1 g2
  obtain ⟨e, f⟩ := yearOf_rest day g1 g2
  have hy := yB_bd (yearOf day) c (by omega)
  have hm := monF_spec (yearOf day) 12 0 (day - yB (yearOf day)) rfl e (by rw [sumM_zero]; omega)
  have key : ∀ s : Int, 1 ≤ s → s ≤ yearOf day → (bif (decide (-719162 ≤ day) && decide (day ≤ 2932896) && decide (1 ≤ s) && decide (s ≤ yearOf day)) then
      bif ((decide (1 ≤ (yearOf day)) && decide ((yearOf day) ≤ 100000) && decide ((1 : Int) ≤ 13) && decide (-1000000 ≤ (1 : Int)) && decide ((1 : Int) ≤ 1000000)) && true) then
        bif (((1 : Int) == 1) && decide (1 ≤ (yearOf day)) && decide (0 ≤ (IntKind.wrap .i64 (day - (dayN (yearOf day) (1 : Int) (1 : Int))))) && decide ((IntKind.wrap .i64 (day - (dayN (yearOf day) (1 : Int) (1 : Int)))) < sumM (yearOf day) 12)) then
          some (V.tp [.sc (.int .i64 (yearOf day)), .sc (.int .i64 ((monF 12 (yearOf day) 1 (IntKind.wrap .i64 (day - (dayN (yearOf day) (1 : Int) (1 : Int))))).1)), .sc (.int .i64 (IntKind.wrap .i64 (((monF 12 (yearOf day) 1 (IntKind.wrap .i64 (day - (dayN (yearOf day) (1 : Int) (1 : Int))))).2) + 1)))], ([] : List Rg))
        else none
      else none
    else none) = some (V.tp [.sc (.int .i64 (yearOf day)), .sc (.int .i64 ((monF 12 (yearOf day) 1 (day - yB (yearOf day))).1)), .sc (.int .i64 ((monF 12 (yearOf day) 1 (day - yB (yearOf day))).2 + 1))], []) := by
    intro s hs1 hs2
    rw [dec_true g1, dec_true g2, dec_true hs1, dec_true hs2, dec_true c, dec_true (show yearOf day ≤ 100000 by omega), dayN_one, wrap_id (n := day - yB (yearOf day)) (by omega) (by omega), dec_true e, dec_true f, wrap_id (n := (monF 12 (yearOf day) 1 (day - yB (yearOf day))).2 + 1) (by simp at hm; omega) (by simp at hm; omega)]
    rfl
  unfold f67
  by_cases hn : day < 0
  · have ht : -1972 ≤ day.tdiv 365 ∧ day.tdiv 365 ≤ 0 := by
      obtain ⟨m, rfl⟩ : ∃ m : Int, day = -m := ⟨-day, by omega⟩
      rw [Int.neg_tdiv, Int.tdiv_eq_ediv_of_nonneg (by omega)]
      omega
    rw [dec_true hn, cond_true, wrap_id (n := day.tdiv 365) (by omega) (by omega), wrap_id (n := 1970 + day.tdiv 365) (by omega) (by omega), wrap_id (n := 1970 + day.tdiv 365 - 1) (by omega) (by omega)]
    by_cases hs : 1970 + day.tdiv 365 - 1 > 1
    · rw [dec_true hs]
      simp only [cond_true]
      exact key _ (by omega) (le_yearOf day _ g1 g2 (by omega) (start_neg day g1 hn (by omega)))
    · rw [dec_false hs]
      simp only [cond_false]
      exact key 1 (by omega) c
  · have ht : 0 ≤ day.tdiv 366 ∧ day.tdiv 366 ≤ 100000 := by
      rw [Int.tdiv_eq_ediv_of_nonneg (by omega)]
      omega
    rw [dec_false hn, cond_false, wrap_id (n := day.tdiv 366) (by omega) (by omega), wrap_id (n := 1970 + day.tdiv 366) (by omega) (by omega), wrap_id (n := 1970 + day.tdiv 366 - 1) (by omega) (by omega)]
    rw [dec_true (show 1970 + day.tdiv 366 - 1 > 1 by omega)]
    simp only [cond_true]
    exact key _ (by omega) (le_yearOf day _ g1 g2 (by omega) (start_pos day (by omega) g2))
def k67 : PrimT := fun vs gs => match vs, gs with
  | [.sc (.int .i64 day)], [] => ((decide (-719162 ≤ day) && decide (day ≤ 2932896)), .tp [.sc (.int .i64 (yearOf day)), .sc (.int .i64 ((monF 12 (yearOf day) 1 (day - yB (yearOf day))).1)), .sc (.int .i64 ((monF 12 (yearOf day) 1 (day - yB (yearOf day))).2 + 1))], [])
  | _, _ => (false, .bad, [])
theorem k67_ok : ∀ vs gs x, k67 vs gs = (true, x) → CallR C prim 67 vs gs x := by
  intro vs gs x h
  unfold k67 at h
  split at h
  · simp only [Prod.mk.injEq] at h
    obtain ⟨hp, rfl⟩ := h
    exact f67_run _ _ (f67_eq _ hp)
  · cases h

def K_f65 : CallK := kCons 62 k62 <| kNil
theorem K_f65_ok : KOK C prim K_f65 := KOK.cons k62_ok <| KOK.nil
def T_f65 : Tab := tNil
theorem T_f65_ok : TOK C prim 65 T_f65 := TOK.nil
def f65  : Option (V × List Rg) :=
  bif ((decide (1 ≤ (1 : Int)) && decide ((1 : Int) ≤ 100000) && decide ((1 : Int) ≤ 13) && decide (-1000000 ≤ (1 : Int)) && decide ((1 : Int) ≤ 1000000)) && true) then
    some (.sc (.int .i64 (dayN (1 : Int) (1 : Int) (1 : Int))), [])
  else none
theorem f65_run  (z9 : V × List Rg) (h : f65  = some z9) : CallR C prim 65 [] [] z9 := by
  refine call_fn (K := K_f65) (T := T_f65) K_f65_ok T_f65_ok (by kernel_rfl) ?_
  refine Eq.trans ?_ h
  kernel_rfl

theorem f65_eq  : f65  = some (.sc (.int .i64 (-719162)), []) := by rfl
def k65 : PrimT := fun vs gs => match vs, gs with
  | [], [] => (true, .sc (.int .i64 (-719162)), [])
  | _, _ => (false, .bad, [])
theorem k65_ok : ∀ vs gs x, k65 vs gs = (true, x) → CallR C prim 65 vs gs x := by
  intro vs gs x h
  unfold k65 at h
  split at h
  · simp only [Prod.mk.injEq, true_and] at h
    subst h
    exact f65_run  _ (f65_eq )
  · cases h

def K_f66 : CallK := kCons 62 k62 <| kNil
theorem K_f66_ok : KOK C prim K_f66 := KOK.cons k62_ok <| KOK.nil
def T_f66 : Tab := tNil
theorem T_f66_ok : TOK C prim 66 T_f66 := TOK.nil
def f66  : Option (V × List Rg) :=
  bif ((decide (1 ≤ (9999 : Int)) && decide ((9999 : Int) ≤ 100000) && decide ((12 : Int) ≤ 13) && decide (-1000000 ≤ (31 : Int)) && decide ((31 : Int) ≤ 1000000)) && true) then
    some (.sc (.int .i64 (dayN (9999 : Int) (12 : Int) (31 : Int))), [])
  else none
theorem f66_run  (z9 : V × List Rg) (h : f66  = some z9) : CallR C prim 66 [] [] z9 := by
  refine call_fn (K := K_f66) (T := T_f66) K_f66_ok T_f66_ok (by kernel_rfl) ?_
  refine Eq.trans ?_ h
  kernel_rfl

theorem f66_eq  : f66  = some (.sc (.int .i64 2932896), []) := by rfl
def k66 : PrimT := fun vs gs => match vs, gs with
  | [], [] => (true, .sc (.int .i64 2932896), [])
  | _, _ => (false, .bad, [])
theorem k66_ok : ∀ vs gs x, k66 vs gs = (true, x) → CallR C prim 66 vs gs x := by
  intro vs gs x h
  unfold k66 at h
  split at h
  · simp only [Prod.mk.injEq, true_and] at h
    subst h
    exact f66_run  _ (f66_eq )
  · cases h

def K_f30 : CallK := kCons 55 k55 <| kCons 65 k65 <| kCons 66 k66 <| kCons 67 k67 <| kNil
theorem K_f30_ok : KOK C prim K_f30 := KOK.cons k55_ok <| KOK.cons k65_ok <| KOK.cons k66_ok <| KOK.cons k67_ok <| KOK.nil
def T_f30 : Tab := tNil
theorem T_f30_ok : TOK C prim 30 T_f30 := TOK.nil
def f30 (day : Int) : Option (V × List Rg) :=
  bif (!(decide (day ≥ ((-719162) : Int)) && decide (day ≤ (2932896 : Int)))) then
    some (.tp [.sc (.int .i64 0), .sc (.int .i64 0), .sc (.int .i64 0), .sc (.int .i64 3)], [])
  else
    bif ((decide (-719162 ≤ day) && decide (day ≤ 2932896)) && true) then
      some (.tp [.sc (.int .i64 (yearOf day)), .sc (.int .i64 ((monF 12 (yearOf day) 1 (day - yB (yearOf day))).1)), .sc (.int .i64 ((monF 12 (yearOf day) 1 (day - yB (yearOf day))).2 + 1)), .sc (.int .i64 0)], [])
    else none
theorem f30_run (day : Int) (z9 : V × List Rg) (h : f30 day = some z9) : CallR C prim 30 [.sc (.int .i64 day)] [] z9 := by
  refine call_fn (K := K_f30) (T := T_f30) K_f30_ok T_f30_ok (by kernel_rfl) ?_
  refine Eq.trans ?_ h
  kernel_rfl

theorem f30_eq (day : Int) : f30 day = some (.tp [.sc (.int .i64 (bif inD day then yearOf day else 0)), .sc (.int .i64 (bif inD day then (monF 12 (yearOf day) 1 (day - yB (yearOf day))).1 else 0)), .sc (.int .i64 (bif inD day then (monF 12 (yearOf day) 1 (day - yB (yearOf day))).2 + 1 else 0)), .sc (.int .i64 (bif inD day then (0 : Int) else 3))], []) := by
  unfold f30 inD
  by_cases h1 : -719162 ≤ day
  case neg => rw [dec_false h1]; rfl
  by_cases h2 : day ≤ 2932896
  case neg => rw [dec_true h1, dec_false h2]; rfl
  rw [dec_true h1, dec_true h2]
  rfl
def k30 : PrimT := fun vs gs => match vs, gs with
  | [.sc (.int .i64 day)], [] => (true, .tp [.sc (.int .i64 (bif inD day then yearOf day else 0)), .sc (.int .i64 (bif inD day then (monF 12 (yearOf day) 1 (day - yB (yearOf day))).1 else 0)), .sc (.int .i64 (bif inD day then (monF 12 (yearOf day) 1 (day - yB (yearOf day))).2 + 1 else 0)), .sc (.int .i64 (bif inD day then (0 : Int) else 3))], [])
  | _, _ => (false, .bad, [])
theorem k30_ok : ∀ vs gs x, k30 vs gs = (true, x) → CallR C prim 30 vs gs x := by
  intro vs gs x h
  unfold k30 at h
  split at h
  · simp only [Prod.mk.injEq, true_and] at h
    subst h
    exact f30_run _ _ (f30_eq _)
  · cases h

def K_f100 : CallK := kNil
theorem K_f100_ok : KOK C prim K_f100 := KOK.nil
def T_f100 : Tab := tNil
theorem T_f100_ok : TOK C prim 100 T_f100 := TOK.nil
def f100 (y : Int) : Option (V × List Rg) :=
  bif ((Int.tmod y 4) == 0) then
    bif ((Int.tmod y 100) != 0) then
      some (.sc (.bool true), [])
    else
      some (.sc (.bool ((Int.tmod y 400) == 0)), [])
  else
    some (.sc (.bool false), [])
theorem f100_run (y : Int) (z9 : V × List Rg) (h : f100 y = some z9) : CallR C prim 100 [.sc (.int .i64 y)] [] z9 := by
  refine call_fn (K := K_f100) (T := T_f100) K_f100_ok T_f100_ok (by kernel_rfl) ?_
  refine Eq.trans ?_ h
  kernel_rfl

theorem f100_eq (y : Int) : f100 y = some (.sc (.bool (leapB y)), []) := by
  unfold f100 leapB
  cases Int.tmod y 4 == 0 <;> cases Int.tmod y 100 != 0 <;> rfl
def k100 : PrimT := fun vs gs => match vs, gs with
  | [.sc (.int .i64 y)], [] => (true, .sc (.bool (leapB y)), [])
  | _, _ => (false, .bad, [])
theorem k100_ok : ∀ vs gs x, k100 vs gs = (true, x) → CallR C prim 100 vs gs x := by
  intro vs gs x h
  unfold k100 at h
  split at h
  · simp only [Prod.mk.injEq, true_and] at h
    subst h
    exact f100_run _ _ (f100_eq _)
  · cases h

def K_f63 : CallK := kCons 100 k100 <| kNil
theorem K_f63_ok : KOK C prim K_f63 := KOK.cons k100_ok <| KOK.nil
def T_f63 : Tab := tNil
theorem T_f63_ok : TOK C prim 63 T_f63 := TOK.nil
def f63 (y : Int) (m : Int) : Option (V × List Rg) :=
  bif (m == 2) then
    bif (leapB y) then
      some (.sc (.int .i64 29), [])
    else
      some (.sc (.int .i64 28), [])
  else
    bif (m == 4) then
      some (.sc (.int .i64 30), [])
    else
      bif (m == 6) then
        some (.sc (.int .i64 30), [])
      else
        bif (m == 9) then
          some (.sc (.int .i64 30), [])
        else
          bif (m == 11) then
            some (.sc (.int .i64 30), [])
          else
            some (.sc (.int .i64 31), [])
theorem f63_run (y : Int) (m : Int) (z9 : V × List Rg) (h : f63 y m = some z9) : CallR C prim 63 [.sc (.int .i64 y), .sc (.int .i64 m)] [] z9 := by
  refine call_fn (K := K_f63) (T := T_f63) K_f63_ok T_f63_ok (by kernel_rfl) ?_
  refine Eq.trans ?_ h
  kernel_rfl

theorem f63_eq (y : Int) (m : Int) : f63 y m = some (.sc (.int .i64 (monthD y m)), []) := by
  unfold f63 monthD
  cases m == 2
  · cases m == 4 <;> cases m == 6 <;> cases m == 9 <;> cases m == 11 <;> rfl
  · cases leapB y <;> rfl
def k63 : PrimT := fun vs gs => match vs, gs with
  | [.sc (.int .i64 y), .sc (.int .i64 m)], [] => (true, .sc (.int .i64 (monthD y m)), [])
  | _, _ => (false, .bad, [])
theorem k63_ok : ∀ vs gs x, k63 vs gs = (true, x) → CallR C prim 63 vs gs x := by
  intro vs gs x h
  unfold k63 at h
  split at h
  · simp only [Prod.mk.injEq, true_and] at h
    subst h
    exact f63_run _ _ _ (f63_eq _ _)
  · cases h

def K_f64 : CallK := kNil
theorem K_f64_ok : KOK C prim K_f64 := KOK.nil
def T_f64 : Tab := tNil
theorem T_f64_ok : TOK C prim 64 T_f64 := TOK.nil
def f64 (y : Int) : Option (V × List Rg) :=
  some (.sc (.int .i64 (IntKind.wrap .i64 ((IntKind.wrap .i64 ((IntKind.wrap .i64 ((IntKind.wrap .i64 ((IntKind.wrap .i64 ((365 : Int) * (IntKind.wrap .i64 (y - 1)))) + (IntKind.wrap .i64 (Int.tdiv (IntKind.wrap .i64 (y - 1)) 4)))) - (IntKind.wrap .i64 (Int.tdiv (IntKind.wrap .i64 (y - 1)) 100)))) + (IntKind.wrap .i64 (Int.tdiv (IntKind.wrap .i64 (y - 1)) 400)))) - 719162))), [])
theorem f64_run (y : Int) (z9 : V × List Rg) (h : f64 y = some z9) : CallR C prim 64 [.sc (.int .i64 y)] [] z9 := by
  refine call_fn (K := K_f64) (T := T_f64) K_f64_ok T_f64_ok (by kernel_rfl) ?_
  refine Eq.trans ?_ h
  kernel_rfl

theorem f64_eq (y : Int) : f64 y = some (.sc (.int .i64 (ybegW y)), []) := by rfl
def k64 : PrimT := fun vs gs => match vs, gs with
  | [.sc (.int .i64 y)], [] => (true, .sc (.int .i64 (ybegW y)), [])
  | _, _ => (false, .bad, [])
theorem k64_ok : ∀ vs gs x, k64 vs gs = (true, x) → CallR C prim 64 vs gs x := by
  intro vs gs x h
  unfold k64 at h
  split at h
  · simp only [Prod.mk.injEq, true_and] at h
    subst h
    exact f64_run _ _ (f64_eq _)
  · cases h

def K_f29_l0 : CallK := kCons 63 k63 <| kNil
theorem K_f29_l0_ok : KOK C prim K_f29_l0 := KOK.cons k63_ok <| KOK.nil
def T_f29_l0 : Tab := tNil
theorem T_f29_l0_ok : TOK C prim 29 T_f29_l0 := TOK.nil
def f29_l0 : Nat → Int → Int → Int → Int → Int → (R : Type) → (Ex → St → Option R) → Option R
  | 0, _, _, _, _, _, _, _ => none
  | n + 1, y, m, d, n', k, R, κ =>
    bif (decide (k < m)) then
      f29_l0 n y m d (IntKind.wrap .i64 (n' + (monthD y k))) (IntKind.wrap .i64 (k + 1)) R κ
    else
      κ (.ex 0) (mkS [(2, .sc (.int .i64 d)), (6, .bad), (7, .bad), (8, .sc (.int .i64 n'))] [])
def f29_l0_ls : List (Nat × Pat) := [(0, .i .i64), (1, .i .i64), (2, .i .i64), (8, .i .i64), (9, .i .i64)]
def f29_l0_rs : List RPat := []
theorem f29_l0_ok (n : Nat) : ∀ (y : Int) (m : Int) (d : Int) (n' : Int) (k : Int) (R : Type) (κ : Ex → St → Option R) (r : R), f29_l0 n y m d n' k R κ = some r → ∃ ee ss, κ ee ss = some r ∧ RunP C prim 29 [0, 1, 0, 1, 1, 1] (mkS [(0, .sc (.int .i64 y)), (1, .sc (.int .i64 m)), (2, .sc (.int .i64 d)), (8, .sc (.int .i64 n')), (9, .sc (.int .i64 k))] []) ee ss := by
  induction n with
  | zero => intro y m d n' k R κ r h; cases h
  | succ n ih =>
    intro y m d n' k R κ r h
    refine loop_round (K := K_f29_l0) (T := T_f29_l0) K_f29_l0_ok T_f29_l0_ok (p := [0, 1, 0, 1, 1, 1]) (by kernel_rfl) (fun st => bif ckS f29_l0_ls f29_l0_rs st then f29_l0 n ((st.env 0).intOf) ((st.env 1).intOf) ((st.env 2).intOf) ((st.env 8).intOf) ((st.env 9).intOf) R κ else none) (fun st0 h0 => ?_) ?_
    · obtain ⟨hs, h0⟩ := cond_some h0
      rw [canon (ls := f29_l0_ls) (rs := f29_l0_rs) (by kernel_rfl) st0 hs]
      exact ih _ _ _ _ _ R κ r h0
    · refine Eq.trans ?_ h
      kernel_rfl

def f29_s0 (y : Int) (m : Int) (d : Int) (n' : Int) (k : Int) (R : Type) (κ : Ex → St → Option R) : Option R :=
  κ (.ex 0) (mkS [(2, .sc (.int .i64 d)), (6, .bad), (7, .bad), (8, .sc (.int .i64 (n' + sumM y (m.toNat - 1))))] [])
theorem f29_loop (y m d : Int) (hm : m ≤ 13) (R : Type) (κ : Ex → St → Option R) : ∀ (k i : Nat) (n' : Int), i + k = m.toNat - 1 → -1000000000000 ≤ n' → n' ≤ 1000000000000 + 31 * (i : Int) →
    f29_l0 (k + 1) y m d n' ((i : Int) + 1) R κ = κ (.ex 0) (mkS [(2, .sc (.int .i64 d)), (6, .bad), (7, .bad), (8, .sc (.int .i64 (n' + (sumM y (m.toNat - 1) - sumM y i))))] [])
  | 0, i, n', h, h1, h2 => by
    obtain rfl : i = m.toNat - 1 := by omega
    rw [f29_l0, dec_false (by omega), cond_false, Int.sub_self, Int.add_zero]
  | k + 1, i, n', h, h1, h2 => by
    have hb := monthD_bd y ((i : Int) + 1)
    rw [f29_l0, dec_true (show ((i : Int) + 1) < m by omega), cond_true, wrap_id (n := n' + monthD y ((i : Int) + 1)) (by omega) (by omega), wrap_id (n := (i : Int) + 1 + 1) (by omega) (by omega)]
    have IH := f29_loop y m d hm R κ k (i + 1) (n' + monthD y ((i : Int) + 1)) (by omega) (by omega) (by omega)
    rw [show ((i + 1 : Nat) : Int) = (i : Int) + 1 by omega] at IH
    have : n' + monthD y ((i : Int) + 1) + (sumM y (m.toNat - 1) - sumM y (i + 1)) = n' + (sumM y (m.toNat - 1) - sumM y i) := by rw [sumM_succ]; omega
    rw [IH, this]
theorem f29_s0_eq (y : Int) (m : Int) (d : Int) (n' : Int) (k : Int) (hp : ((k == 1) && decide (1 ≤ m) && decide (m ≤ 13) && decide (-1000000000000 ≤ n') && decide (n' ≤ 1000000000000)) = true) : ∃ n, ∀ (R : Type) (κ : Ex → St → Option R), f29_l0 n y m d n' k R κ = f29_s0 y m d n' k R κ := by
  simp only [Bool.and_eq_true, decide_eq_true_eq, beq_iff_eq] at hp
  obtain ⟨⟨⟨⟨rfl, g1⟩, g2⟩, g3⟩, g4⟩ := hp
  refine ⟨m.toNat - 1 + 1, fun R κ => ?_⟩
  have := f29_loop y m d g2 R κ (m.toNat - 1) 0 n' (by omega) g3 (by omega)
  rw [sumM_zero, Int.sub_zero] at this
  exact this
def t_f29_l0 (st : St) (R : Type) (κ : Ex → St → Option R) : Option R := bif ckS f29_l0_ls f29_l0_rs st then (bif ((((st.env 9).intOf) == 1) && decide (1 ≤ ((st.env 1).intOf)) && decide (((st.env 1).intOf) ≤ 13) && decide (-1000000000000 ≤ ((st.env 8).intOf)) && decide (((st.env 8).intOf) ≤ 1000000000000)) then f29_s0 ((st.env 0).intOf) ((st.env 1).intOf) ((st.env 2).intOf) ((st.env 8).intOf) ((st.env 9).intOf) R κ else none) else none
theorem t_f29_l0_ok : ∀ st0 R κ r, t_f29_l0 (forget C 29 [0, 1, 0, 1, 1, 1] st0) R κ = some r → ∃ ee ss, κ ee ss = some r ∧ RunP C prim 29 [0, 1, 0, 1, 1, 1] (forget C 29 [0, 1, 0, 1, 1, 1] st0) ee ss := by
  intro st0 R κ r h
  obtain ⟨hs, h⟩ := cond_some h
  obtain ⟨hp, h⟩ := cond_some h
  rw [canon (ls := f29_l0_ls) (rs := f29_l0_rs) (by kernel_rfl) st0 hs]
  obtain ⟨n, hn⟩ := f29_s0_eq _ _ _ _ _ hp
  rw [← hn] at h
  exact f29_l0_ok n _ _ _ _ _ R κ r h

def K_f29 : CallK := kCons 63 k63 <| kCons 64 k64 <| kNil
theorem K_f29_ok : KOK C prim K_f29 := KOK.cons k63_ok <| KOK.cons k64_ok <| KOK.nil
def T_f29 : Tab := tCons [0, 1, 0, 1, 1, 1] t_f29_l0 <| tNil
theorem T_f29_ok : TOK C prim 29 T_f29 := TOK.cons t_f29_l0_ok <| TOK.nil
def f29 (y : Int) (m : Int) (d : Int) : Option (V × List Rg) :=
  bif (decide (y < 1)) then
    some (.tp [.sc (.int .i64 0), .sc (.bool false)], [])
  else
    bif (decide (y > 9999)) then
      some (.tp [.sc (.int .i64 0), .sc (.bool false)], [])
    else
      bif (decide (m < 1)) then
        some (.tp [.sc (.int .i64 0), .sc (.bool false)], [])
      else
        bif (decide (m > 12)) then
          some (.tp [.sc (.int .i64 0), .sc (.bool false)], [])
        else
          bif (decide (d < 1)) then
            some (.tp [.sc (.int .i64 0), .sc (.bool false)], [])
          else
            bif (decide (d > (monthD y m))) then
              some (.tp [.sc (.int .i64 0), .sc (.bool false)], [])
            else
              bif (((1 : Int) == 1) && decide (1 ≤ m) && decide (m ≤ 13) && decide (-1000000000000 ≤ (ybegW y)) && decide ((ybegW y) ≤ 1000000000000)) then
                some (.tp [.sc (.int .i64 (IntKind.wrap .i64 ((IntKind.wrap .i64 (((ybegW y) + sumM y (m.toNat - 1)) + d)) - 1))), .sc (.bool true)], [])
              else none
theorem f29_run (y : Int) (m : Int) (d : Int) (z9 : V × List Rg) (h : f29 y m d = some z9) : CallR C prim 29 [.sc (.int .i64 y), .sc (.int .i64 m), .sc (.int .i64 d)] [] z9 := by
  refine call_fn (K := K_f29) (T := T_f29) K_f29_ok T_f29_ok (by kernel_rfl) ?_
  refine Eq.trans ?_ h
  kernel_rfl

theorem f29_eq (y : Int) (m : Int) (d : Int) : f29 y m d = some (.tp [.sc (.int .i64 (bif isD y m d then dayN y m d else 0)), .sc (.bool (isD y m d))], []) := by
  unfold f29 isD dayN
  by_cases h1 : y < 1
  · rw [dec_true h1, dec_false (show ¬ y ≥ 1 by omega)]; rfl
  by_cases h2 : y > 9999
  · rw [dec_false h1, dec_true h2, dec_false (show ¬ y ≤ 9999 by omega), Bool.and_false]; rfl
  by_cases h3 : m < 1
  · rw [dec_false h1, dec_false h2, dec_true h3, dec_true (show y ≥ 1 by omega), dec_true (show y ≤ 9999 by omega), dec_false (show ¬ m ≥ 1 by omega)]; rfl
  by_cases h4 : m > 12
  · rw [dec_false h1, dec_false h2, dec_false h3, dec_true h4, dec_true (show y ≥ 1 by omega), dec_true (show y ≤ 9999 by omega), dec_true (show m ≥ 1 by omega), dec_false (show ¬ m ≤ 12 by omega)]; rfl
  rw [dec_false h1, dec_false h2, dec_false h3, dec_false h4, dec_true (show y ≥ 1 by omega), dec_true (show y ≤ 9999 by omega), dec_true (show m ≥ 1 by omega), dec_true (show m ≤ 12 by omega)]
  by_cases h5 : d < 1
  · rw [dec_true h5, dec_false (show ¬ d ≥ 1 by omega)]; rfl
  by_cases h6 : d > monthD y m
  · rw [dec_false h5, dec_true h6, dec_false (show ¬ d ≤ monthD y m by omega), Bool.and_false]; rfl
  have hb := yB_bd y (by omega) (by omega)
  have hs := sumM_bd y (m.toNat - 1)
  have hm := monthD_bd y m
  rw [dec_false h5, dec_false h6, dec_true (show d ≥ 1 by omega), dec_true (show d ≤ monthD y m by omega), ybegW_eq y (by omega) (by omega), dec_true (show m ≤ 13 by omega), dec_true (show (-1000000000000 : Int) ≤ yB y by omega), dec_true (show yB y ≤ 1000000000000 by omega), wrap_id (n := yB y + sumM y (m.toNat - 1) + d) (by omega) (by omega), wrap_id (n := yB y + sumM y (m.toNat - 1) + d - 1) (by omega) (by omega)]
  rfl
def k29 : PrimT := fun vs gs => match vs, gs with
  | [.sc (.int .i64 y), .sc (.int .i64 m), .sc (.int .i64 d)], [] => (true, .tp [.sc (.int .i64 (bif isD y m d then dayN y m d else 0)), .sc (.bool (isD y m d))], [])
  | _, _ => (false, .bad, [])
theorem k29_ok : ∀ vs gs x, k29 vs gs = (true, x) → CallR C prim 29 vs gs x := by
  intro vs gs x h
  unfold k29 at h
  split at h
  · simp only [Prod.mk.injEq, true_and] at h
    subst h
    exact f29_run _ _ _ _ (f29_eq _ _ _)
  · cases h

def K_f31_l0 : CallK := kCons 64 k64 <| kNil
theorem K_f31_l0_ok : KOK C prim K_f31_l0 := KOK.cons k64_ok <| KOK.nil
def T_f31_l0 : Tab := tNil
theorem T_f31_l0_ok : TOK C prim 31 T_f31_l0 := TOK.nil
def f31_l0 : Nat → Int → Int → Int → (R : Type) → (Ex → St → Option R) → Option R
  | 0, _, _, _, _, _ => none
  | n + 1, n', low, high, R, κ =>
    bif (decide (low < high)) then
      bif (decide ((ybegW (IntKind.wrap .i64 (Int.tdiv (IntKind.wrap .i64 ((IntKind.wrap .i64 (low + high)) + 1)) 2))) ≤ n')) then
        f31_l0 n n' (IntKind.wrap .i64 (Int.tdiv (IntKind.wrap .i64 ((IntKind.wrap .i64 (low + high)) + 1)) 2)) high R κ
      else
        f31_l0 n n' low (IntKind.wrap .i64 ((IntKind.wrap .i64 (Int.tdiv (IntKind.wrap .i64 ((IntKind.wrap .i64 (low + high)) + 1)) 2)) - 1)) R κ
    else
      κ (.ex 0) (mkS [(0, .sc (.int .i64 n')), (2, .bad), (3, .bad), (4, .bad), (5, .bad), (6, .sc (.int .i64 low))] [])
def f31_l0_ls : List (Nat × Pat) := [(0, .i .i64), (6, .i .i64), (7, .i .i64)]
def f31_l0_rs : List RPat := []
theorem f31_l0_ok (n : Nat) : ∀ (n' : Int) (low : Int) (high : Int) (R : Type) (κ : Ex → St → Option R) (r : R), f31_l0 n n' low high R κ = some r → ∃ ee ss, κ ee ss = some r ∧ RunP C prim 31 [0, 0, 1, 1, 1] (mkS [(0, .sc (.int .i64 n')), (6, .sc (.int .i64 low)), (7, .sc (.int .i64 high))] []) ee ss := by
  induction n with
  | zero => intro n' low high R κ r h; cases h
  | succ n ih =>
    intro n' low high R κ r h
    refine loop_round (K := K_f31_l0) (T := T_f31_l0) K_f31_l0_ok T_f31_l0_ok (p := [0, 0, 1, 1, 1]) (by kernel_rfl) (fun st => bif ckS f31_l0_ls f31_l0_rs st then f31_l0 n ((st.env 0).intOf) ((st.env 6).intOf) ((st.env 7).intOf) R κ else none) (fun st0 h0 => ?_) ?_
    · obtain ⟨hs, h0⟩ := cond_some h0
      rw [canon (ls := f31_l0_ls) (rs := f31_l0_rs) (by kernel_rfl) st0 hs]
      exact ih _ _ _ R κ r h0
    · refine Eq.trans ?_ h
      kernel_rfl

def f31_s0 (n' : Int) (low : Int) (high : Int) (R : Type) (κ : Ex → St → Option R) : Option R :=
  κ (.ex 0) (mkS [(0, .sc (.int .i64 n')), (2, .bad), (3, .bad), (4, .bad), (5, .bad), (6, .sc (.int .i64 (yearOf n')))] [])
theorem f31_loop (n' : Int) (h1 : -719162 ≤ n') (h2 : n' ≤ 2932896) (R : Type) (κ : Ex → St → Option R) : ∀ (k : Nat) (low high : Int), 1 ≤ low → low ≤ yearOf n' → yearOf n' ≤ high → high ≤ 9999 → high - low ≤ (k : Int) →
    f31_l0 (k + 1) n' low high R κ = κ (.ex 0) (mkS [(0, .sc (.int .i64 n')), (2, .bad), (3, .bad), (4, .bad), (5, .bad), (6, .sc (.int .i64 (yearOf n')))] [])
  | 0, low, high, a, b, c, d, e => by
    obtain rfl : low = yearOf n' := by omega
    rw [f31_l0, dec_false (by omega), cond_false]
  | k + 1, low, high, a, b, c, d, e => by
    by_cases hl : low < high
    case neg =>
      obtain rfl : low = yearOf n' := by omega
      rw [f31_l0, dec_false (by omega), cond_false]
    rw [f31_l0, dec_true hl, cond_true, wrap_id (n := low + high) (by omega) (by omega), wrap_id (n := low + high + 1) (by omega) (by omega), Int.tdiv_eq_ediv_of_nonneg (by omega), wrap_id (n := (low + high + 1) / 2) (by omega) (by omega), ybegW_eq _ (by omega) (by omega)]
    by_cases hy : yB ((low + high + 1) / 2) ≤ n'
    · rw [dec_true hy, cond_true]
      exact f31_loop n' h1 h2 R κ k _ _ (by omega) (le_yearOf n' _ h1 h2 (by omega) hy) c d (by omega)
    · have := yearOf_lt n' _ h1 h2 (show 1 ≤ (low + high + 1) / 2 by omega) (by omega)
      rw [dec_false hy, cond_false, wrap_id (by omega) (by omega)]
      exact f31_loop n' h1 h2 R κ k _ _ a b (by omega) (by omega) (by omega)
theorem f31_s0_eq (n' : Int) (low : Int) (high : Int) (hp : (inD n' && decide (1 ≤ low) && decide (low ≤ yearOf n') && decide (yearOf n' ≤ high) && decide (high ≤ 9999)) = true) : ∃ n, ∀ (R : Type) (κ : Ex → St → Option R), f31_l0 n n' low high R κ = f31_s0 n' low high R κ := by
  simp only [inD, Bool.and_eq_true, decide_eq_true_eq, beq_iff_eq] at hp
  obtain ⟨⟨⟨⟨⟨g1, g2⟩, g3⟩, g4⟩, g5⟩, g6⟩ := hp
  exact ⟨(high - low).toNat + 1, fun R κ => f31_loop n' g1 g2 R κ _ low high g3 g4 g5 g6 (by omega)⟩
def t_f31_l0 (st : St) (R : Type) (κ : Ex → St → Option R) : Option R := bif ckS f31_l0_ls f31_l0_rs st then (bif (inD ((st.env 0).intOf) && decide (1 ≤ ((st.env 6).intOf)) && decide (((st.env 6).intOf) ≤ yearOf ((st.env 0).intOf)) && decide (yearOf ((st.env 0).intOf) ≤ ((st.env 7).intOf)) && decide (((st.env 7).intOf) ≤ 9999)) then f31_s0 ((st.env 0).intOf) ((st.env 6).intOf) ((st.env 7).intOf) R κ else none) else none
theorem t_f31_l0_ok : ∀ st0 R κ r, t_f31_l0 (forget C 31 [0, 0, 1, 1, 1] st0) R κ = some r → ∃ ee ss, κ ee ss = some r ∧ RunP C prim 31 [0, 0, 1, 1, 1] (forget C 31 [0, 0, 1, 1, 1] st0) ee ss := by
  intro st0 R κ r h
  obtain ⟨hs, h⟩ := cond_some h
  obtain ⟨hp, h⟩ := cond_some h
  rw [canon (ls := f31_l0_ls) (rs := f31_l0_rs) (by kernel_rfl) st0 hs]
  obtain ⟨n, hn⟩ := f31_s0_eq _ _ _ hp
  rw [← hn] at h
  exact f31_l0_ok n _ _ _ R κ r h

def K_f31_l1 : CallK := kCons 63 k63 <| kNil
theorem K_f31_l1_ok : KOK C prim K_f31_l1 := KOK.cons k63_ok <| KOK.nil
def T_f31_l1 : Tab := tNil
theorem T_f31_l1_ok : TOK C prim 31 T_f31_l1 := TOK.nil
def f31_l1 : Nat → Int → Int → Int → (R : Type) → (Ex → St → Option R) → Option R
  | 0, _, _, _, _, _ => none
  | n + 1, y, m, d, R, κ =>
    bif (decide (d > (monthD y m))) then
      f31_l1 n y (IntKind.wrap .i64 (m + 1)) (IntKind.wrap .i64 (d - (monthD y m))) R κ
    else
      κ (.ex 2) (mkS [(2, .sc (.int .i64 y)), (3, .sc (.int .i64 m)), (4, .sc (.int .i64 d)), (5, .bad)] [])
def f31_l1_ls : List (Nat × Pat) := [(2, .i .i64), (3, .i .i64), (4, .i .i64)]
def f31_l1_rs : List RPat := []
theorem f31_l1_ok (n : Nat) : ∀ (y : Int) (m : Int) (d : Int) (R : Type) (κ : Ex → St → Option R) (r : R), f31_l1 n y m d R κ = some r → ∃ ee ss, κ ee ss = some r ∧ RunP C prim 31 [0, 0, 1, 1, 1, 1, 1, 1] (mkS [(2, .sc (.int .i64 y)), (3, .sc (.int .i64 m)), (4, .sc (.int .i64 d))] []) ee ss := by
  induction n with
  | zero => intro y m d R κ r h; cases h
  | succ n ih =>
    intro y m d R κ r h
    refine loop_round (K := K_f31_l1) (T := T_f31_l1) K_f31_l1_ok T_f31_l1_ok (p := [0, 0, 1, 1, 1, 1, 1, 1]) (by kernel_rfl) (fun st => bif ckS f31_l1_ls f31_l1_rs st then f31_l1 n ((st.env 2).intOf) ((st.env 3).intOf) ((st.env 4).intOf) R κ else none) (fun st0 h0 => ?_) ?_
    · obtain ⟨hs, h0⟩ := cond_some h0
      rw [canon (ls := f31_l1_ls) (rs := f31_l1_rs) (by kernel_rfl) st0 hs]
      exact ih _ _ _ R κ r h0
    · refine Eq.trans ?_ h
      kernel_rfl

def f31_s1 (y : Int) (m : Int) (d : Int) (R : Type) (κ : Ex → St → Option R) : Option R :=
  κ (.ex 2) (mkS [(2, .sc (.int .i64 y)), (3, .sc (.int .i64 ((monF 12 y 1 (d - 1)).1))), (4, .sc (.int .i64 ((monF 12 y 1 (d - 1)).2 + 1))), (5, .bad)] [])
theorem f31_loop1 (y : Int) (R : Type) (κ : Ex → St → Option R) : ∀ (k i : Nat) (d : Int), i + k = 12 → 1 ≤ d → d + sumM y i ≤ sumM y 12 →
    f31_l1 (k + 1) y ((i : Int) + 1) d R κ = κ (.ex 2) (mkS [(2, .sc (.int .i64 y)), (3, .sc (.int .i64 ((monF k y ((i : Int) + 1) (d - 1)).1))), (4, .sc (.int .i64 ((monF k y ((i : Int) + 1) (d - 1)).2 + 1))), (5, .bad)] [])
  | 0, i, d, h, h0, h1 => by
    obtain rfl : i = 12 := by omega
    omega
  | k + 1, i, d, h, h0, h1 => by
    have hb := monthD_bd y ((i : Int) + 1)
    have hc := sumM_bd y i
    have hd := sumM_bd y 12
    rw [f31_l1, monF]
    by_cases hr : d > monthD y ((i : Int) + 1)
    · have IH := f31_loop1 y R κ k (i + 1) (d - monthD y ((i : Int) + 1)) (by omega) (by omega) (by rw [sumM_succ]; omega)
      rw [show ((i + 1 : Nat) : Int) = (i : Int) + 1 by omega, show d - monthD y ((i : Int) + 1) - 1 = d - 1 - monthD y ((i : Int) + 1) by omega] at IH
      rw [dec_true hr, wrap_id (n := (i : Int) + 1 + 1) (by omega) (by omega), wrap_id (n := d - monthD y ((i : Int) + 1)) (by omega) (by omega), dec_true (show d - 1 ≥ monthD y ((i : Int) + 1) by omega)]
      simp only [cond_true, IH]
    · rw [dec_false hr, dec_false (show ¬ d - 1 ≥ monthD y ((i : Int) + 1) by omega)]
      simp only [cond_false, Int.sub_add_cancel]
theorem f31_s1_eq (y : Int) (m : Int) (d : Int) (hp : ((m == 1) && decide (1 ≤ y) && decide (1 ≤ d) && decide (d ≤ sumM y 12)) = true) : ∃ n, ∀ (R : Type) (κ : Ex → St → Option R), f31_l1 n y m d R κ = f31_s1 y m d R κ := by
  simp only [Bool.and_eq_true, decide_eq_true_eq, beq_iff_eq] at hp
  obtain ⟨⟨⟨rfl, g2⟩, g3⟩, g4⟩ := hp
  exact ⟨12 + 1, fun R κ => f31_loop1 y R κ 12 0 d (by omega) g3 (by rw [sumM_zero]; omega)⟩
def t_f31_l1 (st : St) (R : Type) (κ : Ex → St → Option R) : Option R := bif ckS f31_l1_ls f31_l1_rs st then (bif ((((st.env 3).intOf) == 1) && decide (1 ≤ ((st.env 2).intOf)) && decide (1 ≤ ((st.env 4).intOf)) && decide (((st.env 4).intOf) ≤ sumM ((st.env 2).intOf) 12)) then f31_s1 ((st.env 2).intOf) ((st.env 3).intOf) ((st.env 4).intOf) R κ else none) else none
theorem t_f31_l1_ok : ∀ st0 R κ r, t_f31_l1 (forget C 31 [0, 0, 1, 1, 1, 1, 1, 1] st0) R κ = some r → ∃ ee ss, κ ee ss = some r ∧ RunP C prim 31 [0, 0, 1, 1, 1, 1, 1, 1] (forget C 31 [0, 0, 1, 1, 1, 1, 1, 1] st0) ee ss := by
  intro st0 R κ r h
  obtain ⟨hs, h⟩ := cond_some h
  obtain ⟨hp, h⟩ := cond_some h
  rw [canon (ls := f31_l1_ls) (rs := f31_l1_rs) (by kernel_rfl) st0 hs]
  obtain ⟨n, hn⟩ := f31_s1_eq _ _ _ hp
  rw [← hn] at h
  exact f31_l1_ok n _ _ _ R κ r h

def K_f31 : CallK := kCons 64 k64 <| kNil
theorem K_f31_ok : KOK C prim K_f31 := KOK.cons k64_ok <| KOK.nil
def T_f31 : Tab := tCons [0, 0, 1, 1, 1] t_f31_l0 <| tCons [0, 0, 1, 1, 1, 1, 1, 1] t_f31_l1 <| tNil
theorem T_f31_ok : TOK C prim 31 T_f31 := TOK.cons t_f31_l0_ok <| TOK.cons t_f31_l1_ok <| TOK.nil
def f31 (n' : Int) : Option (V × List Rg) :=
  bif (decide (n' < (ybegW (1 : Int)))) then
    some (.tp [.sc (.int .i64 0), .sc (.int .i64 0), .sc (.int .i64 0), .sc (.bool false)], [])
  else
    bif (decide (n' ≥ (ybegW (10000 : Int)))) then
      some (.tp [.sc (.int .i64 0), .sc (.int .i64 0), .sc (.int .i64 0), .sc (.bool false)], [])
    else
      bif (inD n' && decide (1 ≤ (1 : Int)) && decide ((1 : Int) ≤ yearOf n') && decide (yearOf n' ≤ (9999 : Int)) && decide ((9999 : Int) ≤ 9999)) then
        bif (((1 : Int) == 1) && decide (1 ≤ (yearOf n')) && decide (1 ≤ (IntKind.wrap .i64 ((IntKind.wrap .i64 (n' - (ybegW (yearOf n')))) + 1))) && decide ((IntKind.wrap .i64 ((IntKind.wrap .i64 (n' - (ybegW (yearOf n')))) + 1)) ≤ sumM (yearOf n') 12)) then
          some (.tp [.sc (.int .i64 (yearOf n')), .sc (.int .i64 ((monF 12 (yearOf n') 1 ((IntKind.wrap .i64 ((IntKind.wrap .i64 (n' - (ybegW (yearOf n')))) + 1)) - 1)).1)), .sc (.int .i64 ((monF 12 (yearOf n') 1 ((IntKind.wrap .i64 ((IntKind.wrap .i64 (n' - (ybegW (yearOf n')))) + 1)) - 1)).2 + 1)), .sc (.bool true)], [])
        else none
      else none
theorem f31_run (n' : Int) (z9 : V × List Rg) (h : f31 n' = some z9) : CallR C prim 31 [.sc (.int .i64 n')] [] z9 := by
  refine call_fn (K := K_f31) (T := T_f31) K_f31_ok T_f31_ok (by kernel_rfl) ?_
  refine Eq.trans ?_ h
  kernel_rfl

theorem f31_eq (n' : Int) : f31 n' = some (.tp [.sc (.int .i64 (bif inD n' then yearOf n' else 0)), .sc (.int .i64 (bif inD n' then (monF 12 (yearOf n') 1 (n' - yB (yearOf n'))).1 else 0)), .sc (.int .i64 (bif inD n' then (monF 12 (yearOf n') 1 (n' - yB (yearOf n'))).2 + 1 else 0)), .sc (.bool (inD n'))], []) := by
  have e1 : ybegW 1 = -719162 := by decide
  have e2 : ybegW 10000 = 2932897 := by decide
  unfold f31 inD
  rw [e1, e2]
  by_cases h1 : n' < -719162
  · rw [dec_true h1, dec_false (show ¬ -719162 ≤ n' by omega)]; rfl
  by_cases h2 : n' ≥ 2932897
  · rw [dec_false h1, dec_true h2, dec_false (show ¬ n' ≤ 2932896 by omega), Bool.and_false]; rfl
  have g1 : -719162 ≤ n' := by omega
  have g2 : n' ≤ 2932896 := by omega
  obtain ⟨a, b, c, d⟩ := yearOf_spec n' g1 g2
  obtain ⟨e, f⟩ := yearOf_rest n' g1 g2
  have hy := yB_bd (yearOf n') c (by omega)
  rw [dec_false h1, dec_false h2, dec_true g1, dec_true g2, dec_true (show (1 : Int) ≤ yearOf n' from c), dec_true d, ybegW_eq (yearOf n') c (by omega), wrap_id (n := n' - yB (yearOf n')) (by omega) (by omega), wrap_id (n := n' - yB (yearOf n') + 1) (by omega) (by omega), dec_true (show (1 : Int) ≤ n' - yB (yearOf n') + 1 by omega), dec_true (show n' - yB (yearOf n') + 1 ≤ sumM (yearOf n') 12 by omega)]
  simp only [Int.add_sub_cancel]
  rfl
def k31 : PrimT := fun vs gs => match vs, gs with
  | [.sc (.int .i64 n')], [] => (true, .tp [.sc (.int .i64 (bif inD n' then yearOf n' else 0)), .sc (.int .i64 (bif inD n' then (monF 12 (yearOf n') 1 (n' - yB (yearOf n'))).1 else 0)), .sc (.int .i64 (bif inD n' then (monF 12 (yearOf n') 1 (n' - yB (yearOf n'))).2 + 1 else 0)), .sc (.bool (inD n'))], [])
  | _, _ => (false, .bad, [])
theorem k31_ok : ∀ vs gs x, k31 vs gs = (true, x) → CallR C prim 31 vs gs x := by
  intro vs gs x h
  unfold k31 at h
  split at h
  · simp only [Prod.mk.injEq, true_and] at h
    subst h
    exact f31_run _ _ (f31_eq _)
  · cases h

def K_f14 : CallK := kNil
theorem K_f14_ok : KOK C prim K_f14 := KOK.nil
def T_f14 : Tab := tNil
theorem T_f14_ok : TOK C prim 14 T_f14 := TOK.nil
def f14 (is : Bool) (e : Int) : Option (V × List Rg) :=
  bif is then
    some (.sc (.int .i64 e), [])
  else
    some (.sc (.int .i64 0), [])
theorem f14_run (is : Bool) (e : Int) (z9 : V × List Rg) (h : f14 is e = some z9) : CallR C prim 14 [.sc (.bool is), .sc (.int .i64 e)] [] z9 := by
  refine call_fn (K := K_f14) (T := T_f14) K_f14_ok T_f14_ok (by kernel_rfl) ?_
  refine Eq.trans ?_ h
  kernel_rfl

theorem f14_eq (is : Bool) (e : Int) : f14 is e = some (.sc (.int .i64 (bif is then e else 0)), []) := by
  unfold f14
  cases is <;> rfl
def k14 : PrimT := fun vs gs => match vs, gs with
  | [.sc (.bool is), .sc (.int .i64 e)], [] => (true, .sc (.int .i64 (bif is then e else 0)), [])
  | _, _ => (false, .bad, [])
theorem k14_ok : ∀ vs gs x, k14 vs gs = (true, x) → CallR C prim 14 vs gs x := by
  intro vs gs x h
  unfold k14 at h
  split at h
  · simp only [Prod.mk.injEq, true_and] at h
    subst h
    exact f14_run _ _ _ (f14_eq _ _)
  · cases h

def K_f6 : CallK := kCons 14 k14 <| kCons 16 k16 <| kCons 28 k28 <| kCons 29 k29 <| kCons 30 k30 <| kCons 31 k31 <| kNil
theorem K_f6_ok : KOK C prim K_f6 := KOK.cons k14_ok <| KOK.cons k16_ok <| KOK.cons k28_ok <| KOK.cons k29_ok <| KOK.cons k30_ok <| KOK.cons k31_ok <| KOK.nil
def T_f6 : Tab := tNil
theorem T_f6_ok : TOK C prim 6 T_f6 := TOK.nil
def f6 (y : Int) (m : Int) (d : Int) (n' : Int) : Option (V × List Rg) :=
  bif (!((isD y m d) == ((bif isD y m d then (0 : Int) else 3) == 0))) then
    some (.sc (.bool false), [])
  else
    bif ((bif isD y m d then dayN y m d else 0) != (bif isD y m d then dayN y m d else 0)) then
      some (.sc (.bool false), [])
    else
      bif (!(isD y m d)) then
        bif ((bif isD y m d then (0 : Int) else 3) != 3) then
          some (.sc (.bool false), [])
        else
          bif ((bif inD n' then yearOf n' else 0) == (bif inD n' then yearOf n' else 0)) then
            bif ((bif inD n' then (monF 12 (yearOf n') 1 (n' - yB (yearOf n'))).1 else 0) == (bif inD n' then (monF 12 (yearOf n') 1 (n' - yB (yearOf n'))).1 else 0)) then
              bif ((bif inD n' then (monF 12 (yearOf n') 1 (n' - yB (yearOf n'))).2 + 1 else 0) == (bif inD n' then (monF 12 (yearOf n') 1 (n' - yB (yearOf n'))).2 + 1 else 0)) then
                some (.sc (.bool ((bif inD n' then (0 : Int) else 3) == (bif (!(inD n')) then (3 : Int) else 0))), [])
              else
                some (.sc (.bool false), [])
            else
              some (.sc (.bool false), [])
          else
            some (.sc (.bool false), [])
      else
        bif ((bif inD n' then yearOf n' else 0) == (bif inD n' then yearOf n' else 0)) then
          bif ((bif inD n' then (monF 12 (yearOf n') 1 (n' - yB (yearOf n'))).1 else 0) == (bif inD n' then (monF 12 (yearOf n') 1 (n' - yB (yearOf n'))).1 else 0)) then
            bif ((bif inD n' then (monF 12 (yearOf n') 1 (n' - yB (yearOf n'))).2 + 1 else 0) == (bif inD n' then (monF 12 (yearOf n') 1 (n' - yB (yearOf n'))).2 + 1 else 0)) then
              some (.sc (.bool ((bif inD n' then (0 : Int) else 3) == (bif (!(inD n')) then (3 : Int) else 0))), [])
            else
              some (.sc (.bool false), [])
          else
            some (.sc (.bool false), [])
        else
          some (.sc (.bool false), [])
theorem f6_run (y : Int) (m : Int) (d : Int) (n' : Int) (z9 : V × List Rg) (h : f6 y m d n' = some z9) : CallR C prim 6 [.sc (.int .i64 y), .sc (.int .i64 m), .sc (.int .i64 d), .sc (.int .i64 n')] [] z9 := by
  refine call_fn (K := K_f6) (T := T_f6) K_f6_ok T_f6_ok (by kernel_rfl) ?_
  refine Eq.trans ?_ h
  kernel_rfl

theorem f6_eq (y : Int) (m : Int) (d : Int) (n' : Int) : f6 y m d n' = some (.sc (.bool true), []) := by
  unfold f6
  cases isD y m d <;> cases inD n' <;> simp
def k6 : PrimT := fun vs gs => match vs, gs with
  | [.sc (.int .i64 y), .sc (.int .i64 m), .sc (.int .i64 d), .sc (.int .i64 n')], [] => (true, .sc (.bool true), [])
  | _, _ => (false, .bad, [])
theorem k6_ok : ∀ vs gs x, k6 vs gs = (true, x) → CallR C prim 6 vs gs x := by
  intro vs gs x h
  unfold k6 at h
  split at h
  · simp only [Prod.mk.injEq, true_and] at h
    subst h
    exact f6_run _ _ _ _ _ (f6_eq _ _ _ _)
  · cases h
end Go.Ab
