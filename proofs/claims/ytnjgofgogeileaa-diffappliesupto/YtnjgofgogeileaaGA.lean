/- Functions of hunks that are put into a list, as the machine runs them. -/
import Derived.Test.YtnjgofgogeileaaDA
import Derived.Test.YtnjgofgogeileaaZB
namespace Go.Ab
open Go Go.Proofs Go.RowKit
set_option linter.unusedSimpArgs false
set_option linter.unusedVariables false

def K_f123 : CallK := kCons 90 k90 <| kNil
theorem K_f123_ok : KOK C prim K_f123 := KOK.cons k90_ok <| KOK.nil
def T_f123 : Tab := tNil
theorem T_f123_ok : TOK C prim 123 T_f123 := TOK.nil
def f123 (s : ByteArray) : Option (V × List Rg) :=
  bif (strEq (⟨#[10]⟩ : ByteArray) s) then
    some (.sc (.int .i64 0), [])
  else
    some (.sc (.int .i64 (idxB s 10)), [])
theorem f123_run (s : ByteArray) (z9 : V × List Rg) (h : f123 s = some z9) : CallR C prim 123 [.sc (.string s), .sc (.string ⟨#[10]⟩)] [] z9 := by
  refine call_fn (K := K_f123) (T := T_f123) K_f123_ok T_f123_ok (by kernel_rfl) ?_
  refine Eq.trans ?_ h
  kernel_rfl

theorem f123_eq (s : ByteArray) : f123 s = some (.sc (.int .i64 (idxB s 10)), []) := by
  unfold f123
  cases h : strEq (⟨#[10]⟩ : ByteArray) s with
  | false => rfl
  | true =>
    obtain rfl := (strEq_iff _ _).1 h
    rfl
def k123 : PrimT := fun vs gs => match vs, gs with
  | [.sc (.string s), .sc (.string q1)], [] => ((strEq q1 (⟨#[10]⟩ : ByteArray) && true), .sc (.int .i64 (idxB s 10)), [])
  | _, _ => (false, .bad, [])
theorem k123_ok : ∀ vs gs x, k123 vs gs = (true, x) → CallR C prim 123 vs gs x := by
  intro vs gs x h
  unfold k123 at h
  split at h
  · simp only [Prod.mk.injEq] at h
    obtain ⟨hp, rfl⟩ := h
    rw [Bool.and_eq_true] at hp
    obtain ⟨hq, hp⟩ := hp
    obtain rfl := (strEq_iff _ _).1 hq
    exact f123_run _ _ (f123_eq _)
  · cases h

def K_f108 : CallK := kCons 123 k123 <| kNil
theorem K_f108_ok : KOK C prim K_f108 := KOK.cons k123_ok <| KOK.nil
def T_f108 : Tab := tNil
theorem T_f108_ok : TOK C prim 108 T_f108 := TOK.nil
def f108 (s : ByteArray) : Option (V × List Rg) :=
  some (.sc (.int .i64 (idxB s 10)), [])
theorem f108_run (s : ByteArray) (z9 : V × List Rg) (h : f108 s = some z9) : CallR C prim 108 [.sc (.string s), .sc (.string ⟨#[10]⟩)] [] z9 := by
  refine call_fn (K := K_f108) (T := T_f108) K_f108_ok T_f108_ok (by kernel_rfl) ?_
  refine Eq.trans ?_ h
  kernel_rfl

theorem f108_eq (s : ByteArray) : f108 s = some (.sc (.int .i64 (idxB s 10)), []) := by rfl
def k108 : PrimT := fun vs gs => match vs, gs with
  | [.sc (.string s), .sc (.string q1)], [] => ((strEq q1 (⟨#[10]⟩ : ByteArray) && true), .sc (.int .i64 (idxB s 10)), [])
  | _, _ => (false, .bad, [])
theorem k108_ok : ∀ vs gs x, k108 vs gs = (true, x) → CallR C prim 108 vs gs x := by
  intro vs gs x h
  unfold k108 at h
  split at h
  · simp only [Prod.mk.injEq] at h
    obtain ⟨hp, rfl⟩ := h
    rw [Bool.and_eq_true] at hp
    obtain ⟨hq, hp⟩ := hp
    obtain rfl := (strEq_iff _ _).1 hq
    exact f108_run _ _ (f108_eq _)
  · cases h

def K_f85 : CallK := kCons 108 k108 <| kNil
theorem K_f85_ok : KOK C prim K_f85 := KOK.cons k108_ok <| KOK.nil
def T_f85 : Tab := tNil
theorem T_f85_ok : TOK C prim 85 T_f85 := TOK.nil
def f85 (s : ByteArray) : Option (V × List Rg) :=
  some (.sc (.bool (decide ((idxB s 10) ≥ 0))), [])
theorem f85_run (s : ByteArray) (z9 : V × List Rg) (h : f85 s = some z9) : CallR C prim 85 [.sc (.string s), .sc (.string ⟨#[10]⟩)] [] z9 := by
  refine call_fn (K := K_f85) (T := T_f85) K_f85_ok T_f85_ok (by kernel_rfl) ?_
  refine Eq.trans ?_ h
  kernel_rfl

theorem f85_eq (s : ByteArray) : f85 s = some (.sc (.bool (hasB s 10)), []) := by
  unfold f85
  rw [hasNl]
def k85 : PrimT := fun vs gs => match vs, gs with
  | [.sc (.string s), .sc (.string q1)], [] => ((strEq q1 (⟨#[10]⟩ : ByteArray) && true), .sc (.bool (hasB s 10)), [])
  | _, _ => (false, .bad, [])
theorem k85_ok : ∀ vs gs x, k85 vs gs = (true, x) → CallR C prim 85 vs gs x := by
  intro vs gs x h
  unfold k85 at h
  split at h
  · simp only [Prod.mk.injEq] at h
    obtain ⟨hp, rfl⟩ := h
    rw [Bool.and_eq_true] at hp
    obtain ⟨hq, hp⟩ := hp
    obtain rfl := (strEq_iff _ _).1 hq
    exact f85_run _ _ (f85_eq _)
  · cases h

def K_f88_l0 : CallK := kNil
theorem K_f88_l0_ok : KOK C prim K_f88_l0 := KOK.nil
def T_f88_l0 : Tab := tNil
theorem T_f88_l0_ok : TOK C prim 88 T_f88_l0 := TOK.nil
def f88_l0 : Nat → ByteArray → Int → Int → Int → (R : Type) → (Ex → St → Option R) → Option R
  | 0, _, _, _, _, _, _ => none
  | n + 1, s, c, v7, v8, R, κ =>
    bif (decide (v8 < v7)) then
      bif (((decide ((0 : Int) ≤ v8)) && (decide (v8 < ((s.size : Nat) : Int)))) && true) then
        bif (((s.data.getD (v8).toNat 0).toNat : Int) == c) then
          κ .rt (mkS [(4, .sc (.bool true))] [])
        else
          f88_l0 n s c v7 (IntKind.wrap .i64 (v8 + 1)) R κ
      else none
    else
      κ (.ex 0) (mkS [(4, .bad)] [])
def f88_l0_ls : List (Nat × Pat) := [(0, .s), (1, .i .u8), (7, .i .i64), (8, .i .i64)]
def f88_l0_rs : List RPat := []
theorem f88_l0_ok (n : Nat) : ∀ (s : ByteArray) (c : Int) (v7 : Int) (v8 : Int) (R : Type) (κ : Ex → St → Option R) (r : R), f88_l0 n s c v7 v8 R κ = some r → ∃ ee ss, κ ee ss = some r ∧ RunP C prim 88 [0, 1, 0, 1] (mkS [(0, .sc (.string s)), (1, .sc (.int .u8 c)), (7, .sc (.int .i64 v7)), (8, .sc (.int .i64 v8))] []) ee ss := by
  induction n with
  | zero => intro s c v7 v8 R κ r h; cases h
  | succ n ih =>
    intro s c v7 v8 R κ r h
    refine loop_round (K := K_f88_l0) (T := T_f88_l0) K_f88_l0_ok T_f88_l0_ok (p := [0, 1, 0, 1]) (by kernel_rfl) (fun st => bif ckS f88_l0_ls f88_l0_rs st then f88_l0 n ((st.env 0).strOf) ((st.env 1).intOf) ((st.env 7).intOf) ((st.env 8).intOf) R κ else none) (fun st0 h0 => ?_) ?_
    · obtain ⟨hs, h0⟩ := cond_some h0
      rw [canon (ls := f88_l0_ls) (rs := f88_l0_rs) (by kernel_rfl) st0 hs]
      exact ih _ _ _ _ R κ r h0
    · refine Eq.trans ?_ h
      kernel_rfl

def f88_s0 (s : ByteArray) (c : Int) (v7 : Int) (v8 : Int) (R : Type) (κ : Ex → St → Option R) : Option R :=
  bif (hasB s c) then
    κ .rt (mkS [(4, .sc (.bool true))] [])
  else
    κ (.ex 0) (mkS [(4, .bad)] [])
theorem f88_l0_c (s : ByteArray) (c : Int) (h : s.size ≤ 1000000000) : ∀ (m k : Nat), k + m = s.size → ∀ n, m < n → ∀ (R : Type) (κ : Ex → St → Option R), f88_l0 n s c ((s.size : Nat) : Int) (k : Int) R κ = bif ((s.data.toList.drop k).any fun b => ((b.toNat : Int) == c)) then κ .rt (mkS [(4, .sc (.bool true))] []) else κ (.ex 0) (mkS [(4, .bad)] []) := by
  intro m
  induction m with
  | zero =>
    intro k hk n hn R κ
    obtain ⟨n, rfl⟩ : ∃ j, n = j + 1 := ⟨n - 1, by omega⟩
    rw [List.drop_of_length_le (by rw [ba_size]; omega), f88_l0, dec_false (by omega)]
    rfl
  | succ m ih =>
    intro k hk n hn R κ
    obtain ⟨n, rfl⟩ : ∃ j, n = j + 1 := ⟨n - 1, by omega⟩
    have hlt : k < s.data.toList.length := by rw [ba_size]; omega
    rw [f88_l0, dec_true (show (k : Int) < ((s.size : Nat) : Int) by omega), dec_true (show (0 : Int) ≤ (k : Int) by omega), Int.toNat_natCast, getD_list' s k hlt, wrap_succ (by omega), ih (k + 1) (by omega) n (by omega) R κ, List.drop_eq_getElem_cons hlt, List.any_cons]
    cases ((s.data.toList[k].toNat : Int) == c) <;> rfl
theorem f88_s0_eq (s : ByteArray) (c : Int) (v7 : Int) (v8 : Int) (hp : ((v7 == ((s.size : Nat) : Int)) && (v8 == 0) && decide (0 ≤ c) && decide (s.size ≤ 1000000000)) = true) : ∃ n, ∀ (R : Type) (κ : Ex → St → Option R), f88_l0 n s c v7 v8 R κ = f88_s0 s c v7 v8 R κ := by
  simp only [Bool.and_eq_true, decide_eq_true_eq, beq_iff_eq] at hp
  obtain ⟨⟨⟨rfl, rfl⟩, h3⟩, h4⟩ := hp
  exact ⟨s.size + 1, fun R κ => f88_l0_c s c h4 s.size 0 (by omega) _ (by omega) R κ⟩
def t_f88_l0 (st : St) (R : Type) (κ : Ex → St → Option R) : Option R := bif ckS f88_l0_ls f88_l0_rs st then (bif ((((st.env 7).intOf) == ((((st.env 0).strOf).size : Nat) : Int)) && (((st.env 8).intOf) == 0) && decide (0 ≤ ((st.env 1).intOf)) && decide (((st.env 0).strOf).size ≤ 1000000000)) then f88_s0 ((st.env 0).strOf) ((st.env 1).intOf) ((st.env 7).intOf) ((st.env 8).intOf) R κ else none) else none
theorem t_f88_l0_ok : ∀ st0 R κ r, t_f88_l0 (forget C 88 [0, 1, 0, 1] st0) R κ = some r → ∃ ee ss, κ ee ss = some r ∧ RunP C prim 88 [0, 1, 0, 1] (forget C 88 [0, 1, 0, 1] st0) ee ss := by
  intro st0 R κ r h
  obtain ⟨hs, h⟩ := cond_some h
  obtain ⟨hp, h⟩ := cond_some h
  rw [canon (ls := f88_l0_ls) (rs := f88_l0_rs) (by kernel_rfl) st0 hs]
  obtain ⟨n, hn⟩ := f88_s0_eq _ _ _ _ hp
  rw [← hn] at h
  exact f88_l0_ok n _ _ _ _ R κ r h

def K_f88 : CallK := kNil
theorem K_f88_ok : KOK C prim K_f88 := KOK.nil
def T_f88 : Tab := tCons [0, 1, 0, 1] t_f88_l0 <| tNil
theorem T_f88_ok : TOK C prim 88 T_f88 := TOK.cons t_f88_l0_ok <| TOK.nil
def f88 (s : ByteArray) (c : Int) : Option (V × List Rg) :=
  bif ((((s.size : Nat) : Int) == ((s.size : Nat) : Int)) && ((0 : Int) == 0) && decide (0 ≤ c) && decide (s.size ≤ 1000000000)) then
    bif (hasB s c) then
      some (.sc (.bool true), [])
    else
      some (.sc (.bool false), [])
  else none
theorem f88_run (s : ByteArray) (c : Int) (z9 : V × List Rg) (h : f88 s c = some z9) : CallR C prim 88 [.sc (.string s), .sc (.int .u8 c)] [] z9 := by
  refine call_fn (K := K_f88) (T := T_f88) K_f88_ok T_f88_ok (by kernel_rfl) ?_
  refine Eq.trans ?_ h
  kernel_rfl

theorem f88_eq (s : ByteArray) (c : Int) (hp : (decide (0 ≤ c) && decide (s.size ≤ 1000000000)) = true) : f88 s c = some (.sc (.bool (hasB s c)), []) := by
  simp only [Bool.and_eq_true, decide_eq_true_eq] at hp
  unfold f88
  rw [dec_true hp.1, dec_true hp.2]
  simp only [beq_self_eq_true, Bool.and_true, cond_true]
  cases hasB s c <;> rfl
def k88 : PrimT := fun vs gs => match vs, gs with
  | [.sc (.string s), .sc (.int .u8 c)], [] => ((decide (0 ≤ c) && decide (s.size ≤ 1000000000)), .sc (.bool (hasB s c)), [])
  | _, _ => (false, .bad, [])
theorem k88_ok : ∀ vs gs x, k88 vs gs = (true, x) → CallR C prim 88 vs gs x := by
  intro vs gs x h
  unfold k88 at h
  split at h
  · simp only [Prod.mk.injEq] at h
    obtain ⟨hp, rfl⟩ := h
    exact f88_run _ _ _ (f88_eq _ _ hp)
  · cases h

def K_f45_l1 : CallK := kCons 85 k85 <| kNil
theorem K_f45_l1_ok : KOK C prim K_f45_l1 := KOK.cons k85_ok <| KOK.nil
def T_f45_l1 : Tab := tNil
theorem T_f45_l1_ok : TOK C prim 45 T_f45_l1 := TOK.nil
def f45_l1 : Nat → List V → Int → Int → List V → Int → Int → (R : Type) → (Ex → St → Option R) → Option R
  | 0, _, _, _, _, _, _, _, _ => none
  | n + 1, v7, v8, v9, v16, v17, v18, R, κ =>
    bif (decide (v18 < v17)) then
      bif (((decide ((0 : Int) ≤ v18)) && (decide (v18 < ((v16.length : Nat) : Int)))) && true) then
        bif (((V.isStr (nthV v16 (((v18).toNat * 1) + 0))) && true) && true) then
          bif (decide ((((V.strOf (nthV v16 (((v18).toNat * 1) + 0))).size : Nat) : Int) > 4096)) then
            κ .rt (mkS [(2, .sc (.int .i64 2)), (7, .sl 1 v7), (8, .sc (.int .i64 v8)), (9, .sc (.int .i64 v9))] [])
          else
            bif (hasB (V.strOf (nthV v16 (((v18).toNat * 1) + 0))) 10) then
              κ .rt (mkS [(2, .sc (.int .i64 5)), (7, .sl 1 v7), (8, .sc (.int .i64 v8)), (9, .sc (.int .i64 v9))] [])
            else
              f45_l1 n v7 v8 v9 v16 v17 (IntKind.wrap .i64 (v18 + 1)) R κ
        else none
      else none
    else
      κ (.ex 2) (mkS [(2, .bad), (7, .sl 1 v7), (8, .sc (.int .i64 v8)), (9, .sc (.int .i64 v9))] [])
def f45_l1_ls : List (Nat × Pat) := [(7, .sl 1), (8, .i .i64), (9, .i .i64), (16, .sl 1), (17, .i .i64), (18, .i .i64)]
def f45_l1_rs : List RPat := []
theorem f45_l1_ok (n : Nat) : ∀ (v7 : List V) (v8 : Int) (v9 : Int) (v16 : List V) (v17 : Int) (v18 : Int) (R : Type) (κ : Ex → St → Option R) (r : R), f45_l1 n v7 v8 v9 v16 v17 v18 R κ = some r → ∃ ee ss, κ ee ss = some r ∧ RunP C prim 45 [0, 1, 1, 1, 0, 0, 1, 1, 0, 0, 1, 0, 1] (mkS [(7, .sl 1 v7), (8, .sc (.int .i64 v8)), (9, .sc (.int .i64 v9)), (16, .sl 1 v16), (17, .sc (.int .i64 v17)), (18, .sc (.int .i64 v18))] []) ee ss := by
  induction n with
  | zero => intro v7 v8 v9 v16 v17 v18 R κ r h; cases h
  | succ n ih =>
    intro v7 v8 v9 v16 v17 v18 R κ r h
    refine loop_round (K := K_f45_l1) (T := T_f45_l1) K_f45_l1_ok T_f45_l1_ok (p := [0, 1, 1, 1, 0, 0, 1, 1, 0, 0, 1, 0, 1]) (by kernel_rfl) (fun st => bif ckS f45_l1_ls f45_l1_rs st then f45_l1 n ((st.env 7).cellsOf) ((st.env 8).intOf) ((st.env 9).intOf) ((st.env 16).cellsOf) ((st.env 17).intOf) ((st.env 18).intOf) R κ else none) (fun st0 h0 => ?_) ?_
    · obtain ⟨hs, h0⟩ := cond_some h0
      rw [canon (ls := f45_l1_ls) (rs := f45_l1_rs) (by kernel_rfl) st0 hs]
      exact ih _ _ _ _ _ _ R κ r h0
    · refine Eq.trans ?_ h
      kernel_rfl

def f45_s1 (v7 : List V) (v8 : Int) (v9 : Int) (v16 : List V) (v17 : Int) (v18 : Int) (R : Type) (κ : Ex → St → Option R) : Option R :=
  bif (listE v16 != 0) then
    κ .rt (mkS [(2, .sc (.int .i64 (listE v16))), (7, .sl 1 v7), (8, .sc (.int .i64 v8)), (9, .sc (.int .i64 v9))] [])
  else
    κ (.ex 2) (mkS [(2, .bad), (7, .sl 1 v7), (8, .sc (.int .i64 v8)), (9, .sc (.int .i64 v9))] [])
theorem f45_s1_eq (v7 : List V) (v8 : Int) (v9 : Int) (v16 : List V) (v17 : Int) (v18 : Int) (hp : ((v17 == ((v16.length : Nat) : Int)) && (v18 == 0) && v16.all V.isStr && decide (v16.length ≤ 1000000000)) = true) : ∃ n, ∀ (R : Type) (κ : Ex → St → Option R), f45_l1 n v7 v8 v9 v16 v17 v18 R κ = f45_s1 v7 v8 v9 v16 v17 v18 R κ := by
  simp only [Bool.and_eq_true, decide_eq_true_eq, beq_iff_eq] at hp
  obtain ⟨⟨⟨rfl, rfl⟩, h3⟩, h4⟩ := hp
  refine ⟨v16.length + 1, fun R κ => ?_⟩
  refine errLoop (fun n k => f45_l1 n v7 v8 v9 v16 ((v16.length : Nat) : Int) k R κ) v16 lineE (fun e => κ .rt (mkS [(2, .sc (.int .i64 e)), (7, .sl 1 v7), (8, .sc (.int .i64 v8)), (9, .sc (.int .i64 v9))] [])) (κ (.ex 2) (mkS [(2, .bad), (7, .sl 1 v7), (8, .sc (.int .i64 v8)), (9, .sc (.int .i64 v9))] [])) ?_ ?_ v16.length 0 (by omega) _ (by omega)
  · intro n k hk
    have hs : V.isStr v16[k] = true := List.all_eq_true.1 h3 _ (List.getElem_mem hk)
    show f45_l1 (n + 1) v7 v8 v9 v16 ((v16.length : Nat) : Int) (k : Int) R κ = _
    rw [f45_l1, dec_true (show (k : Int) < ((v16.length : Nat) : Int) by omega), dec_true (show (0 : Int) ≤ (k : Int) by omega), nth_at hk, hs, wrap_succ (by omega)]
    simp only [Bool.and_true, cond_true]
    unfold lineE
    cases decide (((v16[k].strOf.size : Nat) : Int) > 4096)
    · cases hasB v16[k].strOf 10 <;> rfl
    · rfl
  · intro n
    show f45_l1 (n + 1) v7 v8 v9 v16 ((v16.length : Nat) : Int) ((v16.length : Nat) : Int) R κ = _
    rw [f45_l1, dec_false (by omega)]
    rfl
def t_f45_l1 (st : St) (R : Type) (κ : Ex → St → Option R) : Option R := bif ckS f45_l1_ls f45_l1_rs st then (bif ((((st.env 17).intOf) == ((((st.env 16).cellsOf).length : Nat) : Int)) && (((st.env 18).intOf) == 0) && ((st.env 16).cellsOf).all V.isStr && decide (((st.env 16).cellsOf).length ≤ 1000000000)) then f45_s1 ((st.env 7).cellsOf) ((st.env 8).intOf) ((st.env 9).intOf) ((st.env 16).cellsOf) ((st.env 17).intOf) ((st.env 18).intOf) R κ else none) else none
theorem t_f45_l1_ok : ∀ st0 R κ r, t_f45_l1 (forget C 45 [0, 1, 1, 1, 0, 0, 1, 1, 0, 0, 1, 0, 1] st0) R κ = some r → ∃ ee ss, κ ee ss = some r ∧ RunP C prim 45 [0, 1, 1, 1, 0, 0, 1, 1, 0, 0, 1, 0, 1] (forget C 45 [0, 1, 1, 1, 0, 0, 1, 1, 0, 0, 1, 0, 1] st0) ee ss := by
  intro st0 R κ r h
  obtain ⟨hs, h⟩ := cond_some h
  obtain ⟨hp, h⟩ := cond_some h
  rw [canon (ls := f45_l1_ls) (rs := f45_l1_rs) (by kernel_rfl) st0 hs]
  obtain ⟨n, hn⟩ := f45_s1_eq _ _ _ _ _ _ hp
  rw [← hn] at h
  exact f45_l1_ok n _ _ _ _ _ _ R κ r h

def K_f45_l0 : CallK := kNil
theorem K_f45_l0_ok : KOK C prim K_f45_l0 := KOK.nil
def T_f45_l0 : Tab := tCons [0, 1, 1, 1, 0, 0, 1, 1, 0, 0, 1, 0, 1] t_f45_l1 <| tNil
theorem T_f45_l0_ok : TOK C prim 45 T_f45_l0 := TOK.cons t_f45_l1_ok <| TOK.nil
def f45_l0 : Nat → List V → Int → Int → (R : Type) → (Ex → St → Option R) → Option R
  | 0, _, _, _, _, _ => none
  | n + 1, v7, v8, v9, R, κ =>
    bif (decide (v9 < v8)) then
      bif (((decide ((0 : Int) ≤ v9)) && (decide (v9 < ((v7.length : Nat) : Int)))) && true) then
        bif (((V.isSl 1 (nthV v7 (((v9).toNat * 1) + 0))) && true) && true) then
          bif (decide (((((V.cellsOf (nthV v7 (((v9).toNat * 1) + 0)))).length : Nat) : Int) > 1000)) then
            κ .rt (mkS [(2, .sc (.int .i64 2))] [])
          else
            bif ((((((V.cellsOf (nthV v7 (((v9).toNat * 1) + 0)))).length : Nat) : Int) == (((V.cellsOf (nthV v7 (((v9).toNat * 1) + 0))).length : Nat) : Int)) && ((0 : Int) == 0) && (V.cellsOf (nthV v7 (((v9).toNat * 1) + 0))).all V.isStr && decide ((V.cellsOf (nthV v7 (((v9).toNat * 1) + 0))).length ≤ 1000000000)) then
              bif (listE (V.cellsOf (nthV v7 (((v9).toNat * 1) + 0))) != 0) then
                κ .rt (mkS [(2, .sc (.int .i64 (listE (V.cellsOf (nthV v7 (((v9).toNat * 1) + 0))))))] [])
              else
                f45_l0 n v7 v8 (IntKind.wrap .i64 (v9 + 1)) R κ
            else none
        else none
      else none
    else
      κ (.ex 0) (mkS [(2, .bad)] [])
def f45_l0_ls : List (Nat × Pat) := [(7, .sl 1), (8, .i .i64), (9, .i .i64)]
def f45_l0_rs : List RPat := []
theorem f45_l0_ok (n : Nat) : ∀ (v7 : List V) (v8 : Int) (v9 : Int) (R : Type) (κ : Ex → St → Option R) (r : R), f45_l0 n v7 v8 v9 R κ = some r → ∃ ee ss, κ ee ss = some r ∧ RunP C prim 45 [0, 1, 0, 1] (mkS [(7, .sl 1 v7), (8, .sc (.int .i64 v8)), (9, .sc (.int .i64 v9))] []) ee ss := by
  induction n with
  | zero => intro v7 v8 v9 R κ r h; cases h
  | succ n ih =>
    intro v7 v8 v9 R κ r h
    refine loop_round (K := K_f45_l0) (T := T_f45_l0) K_f45_l0_ok T_f45_l0_ok (p := [0, 1, 0, 1]) (by kernel_rfl) (fun st => bif ckS f45_l0_ls f45_l0_rs st then f45_l0 n ((st.env 7).cellsOf) ((st.env 8).intOf) ((st.env 9).intOf) R κ else none) (fun st0 h0 => ?_) ?_
    · obtain ⟨hs, h0⟩ := cond_some h0
      rw [canon (ls := f45_l0_ls) (rs := f45_l0_rs) (by kernel_rfl) st0 hs]
      exact ih _ _ _ R κ r h0
    · refine Eq.trans ?_ h
      kernel_rfl

def f45_s0 (v7 : List V) (v8 : Int) (v9 : Int) (R : Type) (κ : Ex → St → Option R) : Option R :=
  bif (listsE v7 != 0) then
    κ .rt (mkS [(2, .sc (.int .i64 (listsE v7)))] [])
  else
    κ (.ex 0) (mkS [(2, .bad)] [])
theorem f45_s0_eq (v7 : List V) (v8 : Int) (v9 : Int) (hp : ((v8 == ((v7.length : Nat) : Int)) && (v9 == 0) && v7.all okStrs && decide (v7.length ≤ 1000000000)) = true) : ∃ n, ∀ (R : Type) (κ : Ex → St → Option R), f45_l0 n v7 v8 v9 R κ = f45_s0 v7 v8 v9 R κ := by
  simp only [Bool.and_eq_true, decide_eq_true_eq, beq_iff_eq] at hp
  obtain ⟨⟨⟨rfl, rfl⟩, h3⟩, h4⟩ := hp
  refine ⟨v7.length + 1, fun R κ => ?_⟩
  refine errLoop (fun n k => f45_l0 n v7 ((v7.length : Nat) : Int) k R κ) v7 (fun x => listErr x.cellsOf) (fun e => κ .rt (mkS [(2, .sc (.int .i64 e))] [])) (κ (.ex 0) (mkS [(2, .bad)] [])) ?_ ?_ v7.length 0 (by omega) _ (by omega)
  · intro n k hk
    have hs : okStrs v7[k] = true := List.all_eq_true.1 h3 _ (List.getElem_mem hk)
    unfold okStrs at hs
    simp only [Bool.and_eq_true, decide_eq_true_eq] at hs
    show f45_l0 (n + 1) v7 ((v7.length : Nat) : Int) (k : Int) R κ = _
    rw [f45_l0, dec_true (show (k : Int) < ((v7.length : Nat) : Int) by omega), dec_true (show (0 : Int) ≤ (k : Int) by omega), nth_at hk, hs.1.1, hs.1.2, dec_true hs.2, wrap_succ (by omega)]
    simp only [Bool.and_true, cond_true, beq_self_eq_true]
    unfold listErr
    cases decide (((v7[k].cellsOf.length : Nat) : Int) > 1000) <;> rfl
  · intro n
    show f45_l0 (n + 1) v7 ((v7.length : Nat) : Int) ((v7.length : Nat) : Int) R κ = _
    rw [f45_l0, dec_false (by omega)]
    rfl
def t_f45_l0 (st : St) (R : Type) (κ : Ex → St → Option R) : Option R := bif ckS f45_l0_ls f45_l0_rs st then (bif ((((st.env 8).intOf) == ((((st.env 7).cellsOf).length : Nat) : Int)) && (((st.env 9).intOf) == 0) && ((st.env 7).cellsOf).all okStrs && decide (((st.env 7).cellsOf).length ≤ 1000000000)) then f45_s0 ((st.env 7).cellsOf) ((st.env 8).intOf) ((st.env 9).intOf) R κ else none) else none
theorem t_f45_l0_ok : ∀ st0 R κ r, t_f45_l0 (forget C 45 [0, 1, 0, 1] st0) R κ = some r → ∃ ee ss, κ ee ss = some r ∧ RunP C prim 45 [0, 1, 0, 1] (forget C 45 [0, 1, 0, 1] st0) ee ss := by
  intro st0 R κ r h
  obtain ⟨hs, h⟩ := cond_some h
  obtain ⟨hp, h⟩ := cond_some h
  rw [canon (ls := f45_l0_ls) (rs := f45_l0_rs) (by kernel_rfl) st0 hs]
  obtain ⟨n, hn⟩ := f45_s0_eq _ _ _ hp
  rw [← hn] at h
  exact f45_l0_ok n _ _ _ R κ r h

def K_f45 : CallK := kNil
theorem K_f45_ok : KOK C prim K_f45 := KOK.nil
def T_f45 : Tab := tCons [0, 1, 0, 1] t_f45_l0 <| tNil
theorem T_f45_ok : TOK C prim 45 T_f45 := TOK.cons t_f45_l0_ok <| TOK.nil
def f45 (lists : List V) : Option (V × List Rg) :=
  bif ((((lists.length : Nat) : Int) == ((lists.length : Nat) : Int)) && ((0 : Int) == 0) && lists.all okStrs && decide (lists.length ≤ 1000000000)) then
    bif (listsE lists != 0) then
      some (.sc (.int .i64 (listsE lists)), [])
    else
      some (.sc (.int .i64 0), [])
  else none
theorem f45_run (lists : List V) (z9 : V × List Rg) (h : f45 lists = some z9) : CallR C prim 45 [.sl 1 lists] [] z9 := by
  refine call_fn (K := K_f45) (T := T_f45) K_f45_ok T_f45_ok (by kernel_rfl) ?_
  refine Eq.trans ?_ h
  kernel_rfl

theorem f45_eq (lists : List V) (hp : (lists.all okStrs && decide (lists.length ≤ 1000000000)) = true) : f45 lists = some (.sc (.int .i64 (listsE lists)), []) := by
  simp only [Bool.and_eq_true, decide_eq_true_eq] at hp
  unfold f45
  rw [hp.1, dec_true hp.2]
  simp only [beq_self_eq_true, Bool.and_true, cond_true]
  exact zero_or (x := listsE lists) (fun e => some (V.sc (.int .i64 e), []))
def k45 : PrimT := fun vs gs => match vs, gs with
  | [.sl 1 lists], [] => ((lists.all okStrs && decide (lists.length ≤ 1000000000)), .sc (.int .i64 (listsE lists)), [])
  | _, _ => (false, .bad, [])
theorem k45_ok : ∀ vs gs x, k45 vs gs = (true, x) → CallR C prim 45 vs gs x := by
  intro vs gs x h
  unfold k45 at h
  split at h
  · simp only [Prod.mk.injEq] at h
    obtain ⟨hp, rfl⟩ := h
    exact f45_run _ _ (f45_eq _ hp)
  · cases h

def K_f47_l0 : CallK := kCons 88 k88 <| kNil
theorem K_f47_l0_ok : KOK C prim K_f47_l0 := KOK.cons k88_ok <| KOK.nil
def T_f47_l0 : Tab := tNil
theorem T_f47_l0_ok : TOK C prim 47 T_f47_l0 := TOK.nil
def f47_l0 : Nat → List V → Int → Int → (R : Type) → (Ex → St → Option R) → Option R
  | 0, _, _, _, _, _ => none
  | n + 1, v8, v9, v10, R, κ =>
    bif (decide (v10 < v9)) then
      bif (((decide ((0 : Int) ≤ v10)) && (decide (v10 < ((v8.length : Nat) : Int)))) && true) then
        bif (((V.isStr (nthV v8 (((v10).toNat * 1) + 0))) && true) && true) then
          bif (decide ((((V.strOf (nthV v8 (((v10).toNat * 1) + 0))).size : Nat) : Int) > 4096)) then
            κ .rt (mkS [(2, .sc (.int .i64 2))] [])
          else
            bif ((decide (0 ≤ (10 : Int)) && decide ((V.strOf (nthV v8 (((v10).toNat * 1) + 0))).size ≤ 1000000000)) && true) then
              bif (hasB (V.strOf (nthV v8 (((v10).toNat * 1) + 0))) (10 : Int)) then
                κ .rt (mkS [(2, .sc (.int .i64 5))] [])
              else
                f47_l0 n v8 v9 (IntKind.wrap .i64 (v10 + 1)) R κ
            else none
        else none
      else none
    else
      κ (.ex 0) (mkS [(2, .bad)] [])
def f47_l0_ls : List (Nat × Pat) := [(8, .sl 1), (9, .i .i64), (10, .i .i64)]
def f47_l0_rs : List RPat := []
theorem f47_l0_ok (n : Nat) : ∀ (v8 : List V) (v9 : Int) (v10 : Int) (R : Type) (κ : Ex → St → Option R) (r : R), f47_l0 n v8 v9 v10 R κ = some r → ∃ ee ss, κ ee ss = some r ∧ RunP C prim 47 [0, 1, 0, 1, 1] (mkS [(8, .sl 1 v8), (9, .sc (.int .i64 v9)), (10, .sc (.int .i64 v10))] []) ee ss := by
  induction n with
  | zero => intro v8 v9 v10 R κ r h; cases h
  | succ n ih =>
    intro v8 v9 v10 R κ r h
    refine loop_round (K := K_f47_l0) (T := T_f47_l0) K_f47_l0_ok T_f47_l0_ok (p := [0, 1, 0, 1, 1]) (by kernel_rfl) (fun st => bif ckS f47_l0_ls f47_l0_rs st then f47_l0 n ((st.env 8).cellsOf) ((st.env 9).intOf) ((st.env 10).intOf) R κ else none) (fun st0 h0 => ?_) ?_
    · obtain ⟨hs, h0⟩ := cond_some h0
      rw [canon (ls := f47_l0_ls) (rs := f47_l0_rs) (by kernel_rfl) st0 hs]
      exact ih _ _ _ R κ r h0
    · refine Eq.trans ?_ h
      kernel_rfl

def f47_s0 (v8 : List V) (v9 : Int) (v10 : Int) (R : Type) (κ : Ex → St → Option R) : Option R :=
  bif (listE v8 != 0) then
    κ .rt (mkS [(2, .sc (.int .i64 (listE v8)))] [])
  else
    κ (.ex 0) (mkS [(2, .bad)] [])
theorem f47_s0_eq (v8 : List V) (v9 : Int) (v10 : Int) (hp : ((v9 == ((v8.length : Nat) : Int)) && (v10 == 0) && v8.all V.isStr && decide (v8.length ≤ 1000000000)) = true) : ∃ n, ∀ (R : Type) (κ : Ex → St → Option R), f47_l0 n v8 v9 v10 R κ = f47_s0 v8 v9 v10 R κ := by
  simp only [Bool.and_eq_true, decide_eq_true_eq, beq_iff_eq] at hp
  obtain ⟨⟨⟨rfl, rfl⟩, h3⟩, h4⟩ := hp
  refine ⟨v8.length + 1, fun R κ => ?_⟩
  refine errLoop (fun n k => f47_l0 n v8 ((v8.length : Nat) : Int) k R κ) v8 lineE (fun e => κ .rt (mkS [(2, .sc (.int .i64 e))] [])) (κ (.ex 0) (mkS [(2, .bad)] [])) ?_ ?_ v8.length 0 (by omega) _ (by omega)
  · intro n k hk
    have hs : V.isStr v8[k] = true := List.all_eq_true.1 h3 _ (List.getElem_mem hk)
    show f47_l0 (n + 1) v8 ((v8.length : Nat) : Int) (k : Int) R κ = _
    rw [f47_l0, dec_true (show (k : Int) < ((v8.length : Nat) : Int) by omega), dec_true (show (0 : Int) ≤ (k : Int) by omega), nth_at hk, hs, wrap_succ (by omega)]
    simp only [Bool.and_true, cond_true]
    unfold lineE
    by_cases hsz : ((v8[k].strOf.size : Nat) : Int) > 4096
    · rw [dec_true hsz]; rfl
    · rw [dec_false hsz, dec_true (show v8[k].strOf.size ≤ 1000000000 by omega), dec_true (show (0 : Int) ≤ 10 by omega)]
      cases hasB v8[k].strOf 10 <;> rfl
  · intro n
    show f47_l0 (n + 1) v8 ((v8.length : Nat) : Int) ((v8.length : Nat) : Int) R κ = _
    rw [f47_l0, dec_false (by omega)]
    rfl
def t_f47_l0 (st : St) (R : Type) (κ : Ex → St → Option R) : Option R := bif ckS f47_l0_ls f47_l0_rs st then (bif ((((st.env 9).intOf) == ((((st.env 8).cellsOf).length : Nat) : Int)) && (((st.env 10).intOf) == 0) && ((st.env 8).cellsOf).all V.isStr && decide (((st.env 8).cellsOf).length ≤ 1000000000)) then f47_s0 ((st.env 8).cellsOf) ((st.env 9).intOf) ((st.env 10).intOf) R κ else none) else none
theorem t_f47_l0_ok : ∀ st0 R κ r, t_f47_l0 (forget C 47 [0, 1, 0, 1, 1] st0) R κ = some r → ∃ ee ss, κ ee ss = some r ∧ RunP C prim 47 [0, 1, 0, 1, 1] (forget C 47 [0, 1, 0, 1, 1] st0) ee ss := by
  intro st0 R κ r h
  obtain ⟨hs, h⟩ := cond_some h
  obtain ⟨hp, h⟩ := cond_some h
  rw [canon (ls := f47_l0_ls) (rs := f47_l0_rs) (by kernel_rfl) st0 hs]
  obtain ⟨n, hn⟩ := f47_s0_eq _ _ _ hp
  rw [← hn] at h
  exact f47_l0_ok n _ _ _ R κ r h

def K_f47 : CallK := kNil
theorem K_f47_ok : KOK C prim K_f47 := KOK.nil
def T_f47 : Tab := tCons [0, 1, 0, 1, 1] t_f47_l0 <| tNil
theorem T_f47_ok : TOK C prim 47 T_f47 := TOK.cons t_f47_l0_ok <| TOK.nil
def f47 (l : List V) : Option (V × List Rg) :=
  bif (decide (((l.length : Nat) : Int) > 1000)) then
    some (.sc (.int .i64 2), [])
  else
    bif ((((l.length : Nat) : Int) == ((l.length : Nat) : Int)) && ((0 : Int) == 0) && l.all V.isStr && decide (l.length ≤ 1000000000)) then
      bif (listE l != 0) then
        some (.sc (.int .i64 (listE l)), [])
      else
        some (.sc (.int .i64 0), [])
    else none
theorem f47_run (l : List V) (z9 : V × List Rg) (h : f47 l = some z9) : CallR C prim 47 [.sl 1 l] [] z9 := by
  refine call_fn (K := K_f47) (T := T_f47) K_f47_ok T_f47_ok (by kernel_rfl) ?_
  refine Eq.trans ?_ h
  kernel_rfl

theorem f47_eq (l : List V) (hp : (l.all V.isStr && decide (l.length ≤ 1000000000)) = true) : f47 l = some (.sc (.int .i64 (listErr l)), []) := by
  simp only [Bool.and_eq_true, decide_eq_true_eq] at hp
  unfold f47 listErr
  rw [hp.1, dec_true hp.2]
  simp only [beq_self_eq_true, Bool.and_true, cond_true]
  cases decide (((l.length : Nat) : Int) > 1000)
  · exact zero_or (x := listE l) (fun e => some (V.sc (.int .i64 e), []))
  · rfl
def k47 : PrimT := fun vs gs => match vs, gs with
  | [.sl 1 l], [] => ((l.all V.isStr && decide (l.length ≤ 1000000000)), .sc (.int .i64 (listErr l)), [])
  | _, _ => (false, .bad, [])
theorem k47_ok : ∀ vs gs x, k47 vs gs = (true, x) → CallR C prim 47 vs gs x := by
  intro vs gs x h
  unfold k47 at h
  split at h
  · simp only [Prod.mk.injEq] at h
    obtain ⟨hp, rfl⟩ := h
    exact f47_run _ _ (f47_eq _ hp)
  · cases h

def K_f12_l0 : CallK := kCons 47 k47 <| kNil
theorem K_f12_l0_ok : KOK C prim K_f12_l0 := KOK.cons k47_ok <| KOK.nil
def T_f12_l0 : Tab := tNil
theorem T_f12_l0_ok : TOK C prim 12 T_f12_l0 := TOK.nil
def f12_l0 : Nat → List V → Int → Int → (R : Type) → (Ex → St → Option R) → Option R
  | 0, _, _, _, _, _ => none
  | n + 1, v6, v7, v8, R, κ =>
    bif (decide (v8 < v7)) then
      bif (((decide ((0 : Int) ≤ v8)) && (decide (v8 < ((v6.length : Nat) : Int)))) && true) then
        bif (((V.isSl 1 (nthV v6 (((v8).toNat * 1) + 0))) && true) && true) then
          bif (((V.cellsOf (nthV v6 (((v8).toNat * 1) + 0))).all V.isStr && decide ((V.cellsOf (nthV v6 (((v8).toNat * 1) + 0))).length ≤ 1000000000)) && true) then
            bif ((listErr (V.cellsOf (nthV v6 (((v8).toNat * 1) + 0)))) != 0) then
              κ .rt (mkS [(2, .sc (.int .i64 (listErr (V.cellsOf (nthV v6 (((v8).toNat * 1) + 0))))))] [])
            else
              f12_l0 n v6 v7 (IntKind.wrap .i64 (v8 + 1)) R κ
          else none
        else none
      else none
    else
      κ (.ex 0) (mkS [(2, .bad)] [])
def f12_l0_ls : List (Nat × Pat) := [(6, .sl 1), (7, .i .i64), (8, .i .i64)]
def f12_l0_rs : List RPat := []
theorem f12_l0_ok (n : Nat) : ∀ (v6 : List V) (v7 : Int) (v8 : Int) (R : Type) (κ : Ex → St → Option R) (r : R), f12_l0 n v6 v7 v8 R κ = some r → ∃ ee ss, κ ee ss = some r ∧ RunP C prim 12 [0, 1, 0, 1] (mkS [(6, .sl 1 v6), (7, .sc (.int .i64 v7)), (8, .sc (.int .i64 v8))] []) ee ss := by
  induction n with
  | zero => intro v6 v7 v8 R κ r h; cases h
  | succ n ih =>
    intro v6 v7 v8 R κ r h
    refine loop_round (K := K_f12_l0) (T := T_f12_l0) K_f12_l0_ok T_f12_l0_ok (p := [0, 1, 0, 1]) (by kernel_rfl) (fun st => bif ckS f12_l0_ls f12_l0_rs st then f12_l0 n ((st.env 6).cellsOf) ((st.env 7).intOf) ((st.env 8).intOf) R κ else none) (fun st0 h0 => ?_) ?_
    · obtain ⟨hs, h0⟩ := cond_some h0
      rw [canon (ls := f12_l0_ls) (rs := f12_l0_rs) (by kernel_rfl) st0 hs]
      exact ih _ _ _ R κ r h0
    · refine Eq.trans ?_ h
      kernel_rfl

def f12_s0 (v6 : List V) (v7 : Int) (v8 : Int) (R : Type) (κ : Ex → St → Option R) : Option R :=
  bif (listsE v6 != 0) then
    κ .rt (mkS [(2, .sc (.int .i64 (listsE v6)))] [])
  else
    κ (.ex 0) (mkS [(2, .bad)] [])
theorem f12_s0_eq (v6 : List V) (v7 : Int) (v8 : Int) (hp : ((v7 == ((v6.length : Nat) : Int)) && (v8 == 0) && v6.all okStrs && decide (v6.length ≤ 1000000000)) = true) : ∃ n, ∀ (R : Type) (κ : Ex → St → Option R), f12_l0 n v6 v7 v8 R κ = f12_s0 v6 v7 v8 R κ := by
  simp only [Bool.and_eq_true, decide_eq_true_eq, beq_iff_eq] at hp
  obtain ⟨⟨⟨rfl, rfl⟩, h3⟩, h4⟩ := hp
  refine ⟨v6.length + 1, fun R κ => ?_⟩
  refine errLoop (fun n k => f12_l0 n v6 ((v6.length : Nat) : Int) k R κ) v6 (fun x => listErr x.cellsOf) (fun e => κ .rt (mkS [(2, .sc (.int .i64 e))] [])) (κ (.ex 0) (mkS [(2, .bad)] [])) ?_ ?_ v6.length 0 (by omega) _ (by omega)
  · intro n k hk
    have hs : okStrs v6[k] = true := List.all_eq_true.1 h3 _ (List.getElem_mem hk)
    unfold okStrs at hs
    simp only [Bool.and_eq_true, decide_eq_true_eq] at hs
    show f12_l0 (n + 1) v6 ((v6.length : Nat) : Int) (k : Int) R κ = _
    rw [f12_l0, dec_true (show (k : Int) < ((v6.length : Nat) : Int) by omega), dec_true (show (0 : Int) ≤ (k : Int) by omega), nth_at hk, hs.1.1, hs.1.2, dec_true hs.2, wrap_succ (by omega)]
    rfl
  · intro n
    show f12_l0 (n + 1) v6 ((v6.length : Nat) : Int) ((v6.length : Nat) : Int) R κ = _
    rw [f12_l0, dec_false (by omega)]
    rfl
def t_f12_l0 (st : St) (R : Type) (κ : Ex → St → Option R) : Option R := bif ckS f12_l0_ls f12_l0_rs st then (bif ((((st.env 7).intOf) == ((((st.env 6).cellsOf).length : Nat) : Int)) && (((st.env 8).intOf) == 0) && ((st.env 6).cellsOf).all okStrs && decide (((st.env 6).cellsOf).length ≤ 1000000000)) then f12_s0 ((st.env 6).cellsOf) ((st.env 7).intOf) ((st.env 8).intOf) R κ else none) else none
theorem t_f12_l0_ok : ∀ st0 R κ r, t_f12_l0 (forget C 12 [0, 1, 0, 1] st0) R κ = some r → ∃ ee ss, κ ee ss = some r ∧ RunP C prim 12 [0, 1, 0, 1] (forget C 12 [0, 1, 0, 1] st0) ee ss := by
  intro st0 R κ r h
  obtain ⟨hs, h⟩ := cond_some h
  obtain ⟨hp, h⟩ := cond_some h
  rw [canon (ls := f12_l0_ls) (rs := f12_l0_rs) (by kernel_rfl) st0 hs]
  obtain ⟨n, hn⟩ := f12_s0_eq _ _ _ hp
  rw [← hn] at h
  exact f12_l0_ok n _ _ _ R κ r h

def K_f12 : CallK := kNil
theorem K_f12_ok : KOK C prim K_f12 := KOK.nil
def T_f12 : Tab := tCons [0, 1, 0, 1] t_f12_l0 <| tNil
theorem T_f12_ok : TOK C prim 12 T_f12 := TOK.cons t_f12_l0_ok <| TOK.nil
def f12 (l : List V) : Option (V × List Rg) :=
  bif ((((l.length : Nat) : Int) == ((l.length : Nat) : Int)) && ((0 : Int) == 0) && l.all okStrs && decide (l.length ≤ 1000000000)) then
    bif (listsE l != 0) then
      some (.sc (.int .i64 (listsE l)), [])
    else
      some (.sc (.int .i64 0), [])
  else none
theorem f12_run (l : List V) (z9 : V × List Rg) (h : f12 l = some z9) : CallR C prim 12 [.sl 1 l] [] z9 := by
  refine call_fn (K := K_f12) (T := T_f12) K_f12_ok T_f12_ok (by kernel_rfl) ?_
  refine Eq.trans ?_ h
  kernel_rfl

theorem f12_eq (l : List V) (hp : (l.all okStrs && decide (l.length ≤ 1000000000)) = true) : f12 l = some (.sc (.int .i64 (listsE l)), []) := by
  simp only [Bool.and_eq_true, decide_eq_true_eq] at hp
  unfold f12
  rw [hp.1, dec_true hp.2]
  simp only [beq_self_eq_true, Bool.and_true, cond_true]
  exact zero_or (x := listsE l) (fun e => some (V.sc (.int .i64 e), []))
def k12 : PrimT := fun vs gs => match vs, gs with
  | [.sl 1 l], [] => ((l.all okStrs && decide (l.length ≤ 1000000000)), .sc (.int .i64 (listsE l)), [])
  | _, _ => (false, .bad, [])
theorem k12_ok : ∀ vs gs x, k12 vs gs = (true, x) → CallR C prim 12 vs gs x := by
  intro vs gs x h
  unfold k12 at h
  split at h
  · simp only [Prod.mk.injEq] at h
    obtain ⟨hp, rfl⟩ := h
    exact f12_run _ _ (f12_eq _ hp)
  · cases h

def K_f29_l0 : CallK := kNil
theorem K_f29_l0_ok : KOK C prim K_f29_l0 := KOK.nil
def T_f29_l0 : Tab := tNil
theorem T_f29_l0_ok : TOK C prim 29 T_f29_l0 := TOK.nil
def f29_l0 : Nat → List V → List V → Int → Int → (R : Type) → (Ex → St → Option R) → Option R
  | 0, _, _, _, _, _, _ => none
  | n + 1, s1, s2, v12, v13, R, κ =>
    bif (decide (v13 < v12)) then
      bif (((decide ((0 : Int) ≤ v13)) && (decide (v13 < ((s1.length : Nat) : Int)))) && true) then
        bif (((V.isStr (nthV s1 (((v13).toNat * 1) + 0))) && true) && true) then
          bif (((decide ((0 : Int) ≤ v13)) && (decide (v13 < ((s2.length : Nat) : Int)))) && true) then
            bif (((V.isStr (nthV s2 (((v13).toNat * 1) + 0))) && true) && true) then
              bif (!(strEq (V.strOf (nthV s1 (((v13).toNat * 1) + 0))) (V.strOf (nthV s2 (((v13).toNat * 1) + 0))))) then
                κ .rt (mkS [(4, .sc (.bool false))] [])
              else
                f29_l0 n s1 s2 v12 (IntKind.wrap .i64 (v13 + 1)) R κ
            else none
          else none
        else none
      else none
    else
      κ (.ex 0) (mkS [(4, .bad)] [])
def f29_l0_ls : List (Nat × Pat) := [(0, .sl 1), (1, .sl 1), (12, .i .i64), (13, .i .i64)]
def f29_l0_rs : List RPat := []
theorem f29_l0_ok (n : Nat) : ∀ (s1 : List V) (s2 : List V) (v12 : Int) (v13 : Int) (R : Type) (κ : Ex → St → Option R) (r : R), f29_l0 n s1 s2 v12 v13 R κ = some r → ∃ ee ss, κ ee ss = some r ∧ RunP C prim 29 [0, 1, 0, 1, 1] (mkS [(0, .sl 1 s1), (1, .sl 1 s2), (12, .sc (.int .i64 v12)), (13, .sc (.int .i64 v13))] []) ee ss := by
  induction n with
  | zero => intro s1 s2 v12 v13 R κ r h; cases h
  | succ n ih =>
    intro s1 s2 v12 v13 R κ r h
    refine loop_round (K := K_f29_l0) (T := T_f29_l0) K_f29_l0_ok T_f29_l0_ok (p := [0, 1, 0, 1, 1]) (by kernel_rfl) (fun st => bif ckS f29_l0_ls f29_l0_rs st then f29_l0 n ((st.env 0).cellsOf) ((st.env 1).cellsOf) ((st.env 12).intOf) ((st.env 13).intOf) R κ else none) (fun st0 h0 => ?_) ?_
    · obtain ⟨hs, h0⟩ := cond_some h0
      rw [canon (ls := f29_l0_ls) (rs := f29_l0_rs) (by kernel_rfl) st0 hs]
      exact ih _ _ _ _ R κ r h0
    · refine Eq.trans ?_ h
      kernel_rfl

def f29_s0 (s1 : List V) (s2 : List V) (v12 : Int) (v13 : Int) (R : Type) (κ : Ex → St → Option R) : Option R :=
  bif (eqS s1 s2) then
    κ (.ex 0) (mkS [(4, .bad)] [])
  else
    κ .rt (mkS [(4, .sc (.bool false))] [])
theorem f29_l0_c (s1 s2 : List V) (hl : s1.length = s2.length) (h1 : s1.all V.isStr = true) (h2 : s2.all V.isStr = true) (hb : s1.length ≤ 1000000000) : ∀ (m k : Nat), k + m = s1.length → ∀ n, m < n → ∀ (R : Type) (κ : Ex → St → Option R), f29_l0 n s1 s2 ((s1.length : Nat) : Int) (k : Int) R κ = bif eqS (s1.drop k) (s2.drop k) then κ (.ex 0) (mkS [(4, .bad)] []) else κ .rt (mkS [(4, .sc (.bool false))] []) := by
  intro m
  induction m with
  | zero =>
    intro k hk n hn R κ
    obtain ⟨n, rfl⟩ : ∃ j, n = j + 1 := ⟨n - 1, by omega⟩
    rw [f29_l0, dec_false (by omega), List.drop_of_length_le (by omega), List.drop_of_length_le (by omega)]
    rfl
  | succ m ih =>
    intro k hk n hn R κ
    obtain ⟨n, rfl⟩ : ∃ j, n = j + 1 := ⟨n - 1, by omega⟩
    have k1 : k < s1.length := by omega
    have k2 : k < s2.length := by omega
    have i1 : V.isStr s1[k] = true := List.all_eq_true.1 h1 _ (List.getElem_mem k1)
    have i2 : V.isStr s2[k] = true := List.all_eq_true.1 h2 _ (List.getElem_mem k2)
    rw [f29_l0, dec_true (show (k : Int) < ((s1.length : Nat) : Int) by omega), dec_true (show (0 : Int) ≤ (k : Int) by omega), dec_true (show (k : Int) < ((s2.length : Nat) : Int) by omega), nth_at k1, nth_at k2, i1, i2, wrap_succ (by omega), ih (k + 1) (by omega) n (by omega) R κ, eqS_drop k1 k2]
    cases strEq s1[k].strOf s2[k].strOf <;> rfl
theorem f29_s0_eq (s1 : List V) (s2 : List V) (v12 : Int) (v13 : Int) (hp : ((v12 == ((s1.length : Nat) : Int)) && (v13 == 0) && (s1.length == s2.length) && s1.all V.isStr && s2.all V.isStr && decide (s1.length ≤ 1000000000)) = true) : ∃ n, ∀ (R : Type) (κ : Ex → St → Option R), f29_l0 n s1 s2 v12 v13 R κ = f29_s0 s1 s2 v12 v13 R κ := by
  simp only [Bool.and_eq_true, decide_eq_true_eq, beq_iff_eq] at hp
  obtain ⟨⟨⟨⟨⟨rfl, rfl⟩, h1⟩, h2⟩, h3⟩, h4⟩ := hp
  exact ⟨s1.length + 1, fun R κ => f29_l0_c s1 s2 h1 h2 h3 h4 s1.length 0 (by omega) _ (by omega) R κ⟩
def t_f29_l0 (st : St) (R : Type) (κ : Ex → St → Option R) : Option R := bif ckS f29_l0_ls f29_l0_rs st then (bif ((((st.env 12).intOf) == ((((st.env 0).cellsOf).length : Nat) : Int)) && (((st.env 13).intOf) == 0) && (((st.env 0).cellsOf).length == ((st.env 1).cellsOf).length) && ((st.env 0).cellsOf).all V.isStr && ((st.env 1).cellsOf).all V.isStr && decide (((st.env 0).cellsOf).length ≤ 1000000000)) then f29_s0 ((st.env 0).cellsOf) ((st.env 1).cellsOf) ((st.env 12).intOf) ((st.env 13).intOf) R κ else none) else none
theorem t_f29_l0_ok : ∀ st0 R κ r, t_f29_l0 (forget C 29 [0, 1, 0, 1, 1] st0) R κ = some r → ∃ ee ss, κ ee ss = some r ∧ RunP C prim 29 [0, 1, 0, 1, 1] (forget C 29 [0, 1, 0, 1, 1] st0) ee ss := by
  intro st0 R κ r h
  obtain ⟨hs, h⟩ := cond_some h
  obtain ⟨hp, h⟩ := cond_some h
  rw [canon (ls := f29_l0_ls) (rs := f29_l0_rs) (by kernel_rfl) st0 hs]
  obtain ⟨n, hn⟩ := f29_s0_eq _ _ _ _ hp
  rw [← hn] at h
  exact f29_l0_ok n _ _ _ _ R κ r h

def K_f29 : CallK := kNil
theorem K_f29_ok : KOK C prim K_f29 := KOK.nil
def T_f29 : Tab := tCons [0, 1, 0, 1, 1] t_f29_l0 <| tNil
theorem T_f29_ok : TOK C prim 29 T_f29 := TOK.cons t_f29_l0_ok <| TOK.nil
def f29 (s1 : List V) (s2 : List V) : Option (V × List Rg) :=
  bif (((s1.length : Nat) : Int) != ((s2.length : Nat) : Int)) then
    some (.sc (.bool false), [])
  else
    bif ((((s1.length : Nat) : Int) == ((s1.length : Nat) : Int)) && ((0 : Int) == 0) && (s1.length == s2.length) && s1.all V.isStr && s2.all V.isStr && decide (s1.length ≤ 1000000000)) then
      bif (eqS s1 s2) then
        some (.sc (.bool true), [])
      else
        some (.sc (.bool false), [])
    else none
theorem f29_run (s1 : List V) (s2 : List V) (z9 : V × List Rg) (h : f29 s1 s2 = some z9) : CallR C prim 29 [.sl 1 s1, .sl 1 s2] [] z9 := by
  refine call_fn (K := K_f29) (T := T_f29) K_f29_ok T_f29_ok (by kernel_rfl) ?_
  refine Eq.trans ?_ h
  kernel_rfl

theorem eqS_len : ∀ (a b : List V), a.length ≠ b.length → eqS a b = false
  | [], [], h => absurd rfl h
  | [], _ :: _, _ => rfl
  | _ :: _, [], _ => rfl
  | x :: a, y :: b, h => by
    unfold eqS
    rw [eqS_len a b (by simpa using h), Bool.and_false]
theorem f29_eq (s1 : List V) (s2 : List V) (hp : (s1.all V.isStr && s2.all V.isStr && decide (s1.length ≤ 1000000000) && decide (s2.length ≤ 1000000000)) = true) : f29 s1 s2 = some (.sc (.bool (eqS s1 s2)), []) := by
  simp only [Bool.and_eq_true, decide_eq_true_eq] at hp
  obtain ⟨⟨⟨h1, h2⟩, h3⟩, h4⟩ := hp
  unfold f29
  by_cases hl : s1.length = s2.length
  · have e : ((((s1.length : Nat) : Int)) != ((s2.length : Nat) : Int)) = false := by rw [hl, bne_self_eq_false]
    have e2 : (s1.length == s2.length) = true := by rw [hl]; exact beq_self_eq_true _
    rw [e, e2, h1, h2, dec_true h3, beq_self_eq_true]
    cases eqS s1 s2 <;> rfl
  · have e : ((((s1.length : Nat) : Int)) != ((s2.length : Nat) : Int)) = true := by rw [bne_iff_ne]; omega
    rw [e, eqS_len s1 s2 hl]
    rfl
def k29 : PrimT := fun vs gs => match vs, gs with
  | [.sl 1 s1, .sl 1 s2], [] => ((s1.all V.isStr && s2.all V.isStr && decide (s1.length ≤ 1000000000) && decide (s2.length ≤ 1000000000)), .sc (.bool (eqS s1 s2)), [])
  | _, _ => (false, .bad, [])
theorem k29_ok : ∀ vs gs x, k29 vs gs = (true, x) → CallR C prim 29 vs gs x := by
  intro vs gs x h
  unfold k29 at h
  split at h
  · simp only [Prod.mk.injEq] at h
    obtain ⟨hp, rfl⟩ := h
    exact f29_run _ _ _ (f29_eq _ _ hp)
  · cases h

def K_f20_l0 : CallK := kNil
theorem K_f20_l0_ok : KOK C prim K_f20_l0 := KOK.nil
def T_f20_l0 : Tab := tNil
theorem T_f20_l0_ok : TOK C prim 20 T_f20_l0 := TOK.nil
def f20_l0 : Nat → List V → Int → Int → (R : Type) → (Ex → St → Option R) → Option R
  | 0, _, _, _, _, _ => none
  | n + 1, v5, v6, v7, R, κ =>
    bif (decide (v7 < v6)) then
      bif (((decide ((0 : Int) ≤ v7)) && (decide (v7 < ((v5.length : Nat) : Int)))) && true) then
        bif (((V.isInt .i64 (nthV v5 (((v7).toNat * 1) + 0))) && true) && true) then
          bif ((V.intOf (nthV v5 (((v7).toNat * 1) + 0))) != 0) then
            κ .rt (mkS [(2, .sc (.int .i64 (V.intOf (nthV v5 (((v7).toNat * 1) + 0)))))] [])
          else
            f20_l0 n v5 v6 (IntKind.wrap .i64 (v7 + 1)) R κ
        else none
      else none
    else
      κ (.ex 0) (mkS [(2, .bad)] [])
def f20_l0_ls : List (Nat × Pat) := [(5, .sl 1), (6, .i .i64), (7, .i .i64)]
def f20_l0_rs : List RPat := []
theorem f20_l0_ok (n : Nat) : ∀ (v5 : List V) (v6 : Int) (v7 : Int) (R : Type) (κ : Ex → St → Option R) (r : R), f20_l0 n v5 v6 v7 R κ = some r → ∃ ee ss, κ ee ss = some r ∧ RunP C prim 20 [0, 1, 0, 1] (mkS [(5, .sl 1 v5), (6, .sc (.int .i64 v6)), (7, .sc (.int .i64 v7))] []) ee ss := by
  induction n with
  | zero => intro v5 v6 v7 R κ r h; cases h
  | succ n ih =>
    intro v5 v6 v7 R κ r h
    refine loop_round (K := K_f20_l0) (T := T_f20_l0) K_f20_l0_ok T_f20_l0_ok (p := [0, 1, 0, 1]) (by kernel_rfl) (fun st => bif ckS f20_l0_ls f20_l0_rs st then f20_l0 n ((st.env 5).cellsOf) ((st.env 6).intOf) ((st.env 7).intOf) R κ else none) (fun st0 h0 => ?_) ?_
    · obtain ⟨hs, h0⟩ := cond_some h0
      rw [canon (ls := f20_l0_ls) (rs := f20_l0_rs) (by kernel_rfl) st0 hs]
      exact ih _ _ _ R κ r h0
    · refine Eq.trans ?_ h
      kernel_rfl

def f20_s0 (v5 : List V) (v6 : Int) (v7 : Int) (R : Type) (κ : Ex → St → Option R) : Option R :=
  bif (firstBy V.intOf v5 != 0) then
    κ .rt (mkS [(2, .sc (.int .i64 (firstBy V.intOf v5)))] [])
  else
    κ (.ex 0) (mkS [(2, .bad)] [])
theorem f20_s0_eq (v5 : List V) (v6 : Int) (v7 : Int) (hp : ((v6 == ((v5.length : Nat) : Int)) && (v7 == 0) && v5.all (V.isInt .i64) && decide (v5.length ≤ 1000000000)) = true) : ∃ n, ∀ (R : Type) (κ : Ex → St → Option R), f20_l0 n v5 v6 v7 R κ = f20_s0 v5 v6 v7 R κ := by
  simp only [Bool.and_eq_true, decide_eq_true_eq, beq_iff_eq] at hp
  obtain ⟨⟨⟨rfl, rfl⟩, h3⟩, h4⟩ := hp
  refine ⟨v5.length + 1, fun R κ => ?_⟩
  refine errLoop (fun n k => f20_l0 n v5 ((v5.length : Nat) : Int) k R κ) v5 V.intOf (fun e => κ .rt (mkS [(2, .sc (.int .i64 e))] [])) (κ (.ex 0) (mkS [(2, .bad)] [])) ?_ ?_ v5.length 0 (by omega) _ (by omega)
  · intro n k hk
    have hs : V.isInt .i64 v5[k] = true := List.all_eq_true.1 h3 _ (List.getElem_mem hk)
    show f20_l0 (n + 1) v5 ((v5.length : Nat) : Int) (k : Int) R κ = _
    rw [f20_l0, dec_true (show (k : Int) < ((v5.length : Nat) : Int) by omega), dec_true (show (0 : Int) ≤ (k : Int) by omega), nth_at hk, hs, wrap_succ (by omega)]
    rfl
  · intro n
    show f20_l0 (n + 1) v5 ((v5.length : Nat) : Int) ((v5.length : Nat) : Int) R κ = _
    rw [f20_l0, dec_false (by omega)]
    rfl
def t_f20_l0 (st : St) (R : Type) (κ : Ex → St → Option R) : Option R := bif ckS f20_l0_ls f20_l0_rs st then (bif ((((st.env 6).intOf) == ((((st.env 5).cellsOf).length : Nat) : Int)) && (((st.env 7).intOf) == 0) && ((st.env 5).cellsOf).all (V.isInt .i64) && decide (((st.env 5).cellsOf).length ≤ 1000000000)) then f20_s0 ((st.env 5).cellsOf) ((st.env 6).intOf) ((st.env 7).intOf) R κ else none) else none
theorem t_f20_l0_ok : ∀ st0 R κ r, t_f20_l0 (forget C 20 [0, 1, 0, 1] st0) R κ = some r → ∃ ee ss, κ ee ss = some r ∧ RunP C prim 20 [0, 1, 0, 1] (forget C 20 [0, 1, 0, 1] st0) ee ss := by
  intro st0 R κ r h
  obtain ⟨hs, h⟩ := cond_some h
  obtain ⟨hp, h⟩ := cond_some h
  rw [canon (ls := f20_l0_ls) (rs := f20_l0_rs) (by kernel_rfl) st0 hs]
  obtain ⟨n, hn⟩ := f20_s0_eq _ _ _ hp
  rw [← hn] at h
  exact f20_l0_ok n _ _ _ R κ r h

def K_f20 : CallK := kNil
theorem K_f20_ok : KOK C prim K_f20 := KOK.nil
def T_f20 : Tab := tCons [0, 1, 0, 1] t_f20_l0 <| tNil
theorem T_f20_ok : TOK C prim 20 T_f20 := TOK.cons t_f20_l0_ok <| TOK.nil
def f20 (l : List V) : Option (V × List Rg) :=
  bif ((((l.length : Nat) : Int) == ((l.length : Nat) : Int)) && ((0 : Int) == 0) && l.all (V.isInt .i64) && decide (l.length ≤ 1000000000)) then
    bif (firstBy V.intOf l != 0) then
      some (.sc (.int .i64 (firstBy V.intOf l)), [])
    else
      some (.sc (.int .i64 0), [])
  else none
theorem f20_run (l : List V) (z9 : V × List Rg) (h : f20 l = some z9) : CallR C prim 20 [.sl 1 l] [] z9 := by
  refine call_fn (K := K_f20) (T := T_f20) K_f20_ok T_f20_ok (by kernel_rfl) ?_
  refine Eq.trans ?_ h
  kernel_rfl

theorem f20_eq (l : List V) (hp : (l.all (V.isInt .i64) && decide (l.length ≤ 1000000000)) = true) : f20 l = some (.sc (.int .i64 (firstBy V.intOf l)), []) := by
  simp only [Bool.and_eq_true, decide_eq_true_eq] at hp
  unfold f20
  rw [hp.1, dec_true hp.2]
  simp only [beq_self_eq_true, Bool.and_true, cond_true]
  exact zero_or (x := firstBy V.intOf l) (fun e => some (V.sc (.int .i64 e), []))
def k20 : PrimT := fun vs gs => match vs, gs with
  | [.sl 1 l], [] => ((l.all (V.isInt .i64) && decide (l.length ≤ 1000000000)), .sc (.int .i64 (firstBy V.intOf l)), [])
  | _, _ => (false, .bad, [])
theorem k20_ok : ∀ vs gs x, k20 vs gs = (true, x) → CallR C prim 20 vs gs x := by
  intro vs gs x h
  unfold k20 at h
  split at h
  · simp only [Prod.mk.injEq] at h
    obtain ⟨hp, rfl⟩ := h
    exact f20_run _ _ (f20_eq _ hp)
  · cases h

def K_f112 : CallK := kNil
theorem K_f112_ok : KOK C prim K_f112 := KOK.nil
def T_f112 : Tab := tNil
theorem T_f112_ok : TOK C prim 112 T_f112 := TOK.nil
def f112 (h0 : Int) (h1 : Int) (h2 : List V) (h3 : List V) (r00 : Int) (r01 : Int) (r02 : List V) (r03 : List V) (r04 : Bool) (r05 : Int) : Option (V × List Rg) :=
  bif (decide (h0 < 0)) then
    some (.sc (.bool false), [⟨true, [.sc (.int .i64 r00), .sc (.int .i64 r01), .sl 1 r02, .sl 1 r03, .sc (.bool r04), .sc (.int .i64 r05)]⟩])
  else
    bif (!r04) then
      some (.sc (.bool true), [⟨true, [.sc (.int .i64 r00), .sc (.int .i64 r01), .sl 1 r02, .sl 1 r03, .sc (.bool r04), .sc (.int .i64 r05)]⟩])
    else
      bif (decide (h0 ≥ r00)) then
        some (.sc (.bool (decide ((IntKind.wrap .i64 (h0 - r00)) ≥ ((r02.length : Nat) : Int)))), [⟨true, [.sc (.int .i64 r00), .sc (.int .i64 r01), .sl 1 r02, .sl 1 r03, .sc (.bool r04), .sc (.int .i64 r05)]⟩])
      else
        some (.sc (.bool false), [⟨true, [.sc (.int .i64 r00), .sc (.int .i64 r01), .sl 1 r02, .sl 1 r03, .sc (.bool r04), .sc (.int .i64 r05)]⟩])
theorem f112_run (h0 : Int) (h1 : Int) (h2 : List V) (h3 : List V) (r00 : Int) (r01 : Int) (r02 : List V) (r03 : List V) (r04 : Bool) (r05 : Int) (z9 : V × List Rg) (h : f112 h0 h1 h2 h3 r00 r01 r02 r03 r04 r05 = some z9) : CallR C prim 112 [.ptrB (.par 0) 0, .ag [.sc (.int .i64 h0), .sc (.int .i64 h1), .sl 1 h2, .sl 1 h3]] [⟨true, [.sc (.int .i64 r00), .sc (.int .i64 r01), .sl 1 r02, .sl 1 r03, .sc (.bool r04), .sc (.int .i64 r05)]⟩] z9 := by
  refine call_fn (K := K_f112) (T := T_f112) K_f112_ok T_f112_ok (by kernel_rfl) ?_
  refine Eq.trans ?_ h
  kernel_rfl

theorem f112_eq (h0 : Int) (h1 : Int) (h2 : List V) (h3 : List V) (r00 : Int) (r01 : Int) (r02 : List V) (r03 : List V) (r04 : Bool) (r05 : Int) : f112 h0 h1 h2 h3 r00 r01 r02 r03 r04 r05 = some (.sc (.bool (ordB h0 r00 r02 r04)), [⟨true, [.sc (.int .i64 r00), .sc (.int .i64 r01), .sl 1 r02, .sl 1 r03, .sc (.bool r04), .sc (.int .i64 r05)]⟩]) := by
  unfold f112 ordB
  cases decide (h0 < 0) <;> cases r04 <;> cases decide (h0 ≥ r00) <;> rfl
def k112 : PrimT := fun vs gs => match vs, gs with
  | [.ptrB (.par 0) 0, .ag [.sc (.int .i64 h0), .sc (.int .i64 h1), .sl 1 h2, .sl 1 h3]], [⟨true, [.sc (.int .i64 r00), .sc (.int .i64 r01), .sl 1 r02, .sl 1 r03, .sc (.bool r04), .sc (.int .i64 r05)]⟩] => (true, .sc (.bool (ordB h0 r00 r02 r04)), [⟨true, [.sc (.int .i64 r00), .sc (.int .i64 r01), .sl 1 r02, .sl 1 r03, .sc (.bool r04), .sc (.int .i64 r05)]⟩])
  | _, _ => (false, .bad, [])
theorem k112_ok : ∀ vs gs x, k112 vs gs = (true, x) → CallR C prim 112 vs gs x := by
  intro vs gs x h
  unfold k112 at h
  split at h
  · simp only [Prod.mk.injEq, true_and] at h
    subst h
    exact f112_run _ _ _ _ _ _ _ _ _ _ _ (f112_eq _ _ _ _ _ _ _ _ _ _)
  · cases h

def K_f93 : CallK := kNil
theorem K_f93_ok : KOK C prim K_f93 := KOK.nil
def T_f93 : Tab := tNil
theorem T_f93_ok : TOK C prim 93 T_f93 := TOK.nil
def f93 (h0 : Int) (h1 : Int) (h2 : List V) (h3 : List V) (r00 : Int) (r01 : Int) (r02 : List V) (r03 : List V) (r04 : Bool) (r05 : Int) : Option (V × List Rg) :=
  bif (decide (r05 < 0)) then
    some (.sc (.bool (h1 == (IntKind.wrap .i64 (h0 + r05)))), [⟨true, [.sc (.int .i64 r00), .sc (.int .i64 r01), .sl 1 r02, .sl 1 r03, .sc (.bool r04), .sc (.int .i64 r05)]⟩])
  else
    bif (decide (h0 ≤ (IntKind.wrap .i64 ((9223372036854775807 : Int) - r05)))) then
      some (.sc (.bool (h1 == (IntKind.wrap .i64 (h0 + r05)))), [⟨true, [.sc (.int .i64 r00), .sc (.int .i64 r01), .sl 1 r02, .sl 1 r03, .sc (.bool r04), .sc (.int .i64 r05)]⟩])
    else
      some (.sc (.bool false), [⟨true, [.sc (.int .i64 r00), .sc (.int .i64 r01), .sl 1 r02, .sl 1 r03, .sc (.bool r04), .sc (.int .i64 r05)]⟩])
theorem f93_run (h0 : Int) (h1 : Int) (h2 : List V) (h3 : List V) (r00 : Int) (r01 : Int) (r02 : List V) (r03 : List V) (r04 : Bool) (r05 : Int) (z9 : V × List Rg) (h : f93 h0 h1 h2 h3 r00 r01 r02 r03 r04 r05 = some z9) : CallR C prim 93 [.ptrB (.par 0) 0, .ag [.sc (.int .i64 h0), .sc (.int .i64 h1), .sl 1 h2, .sl 1 h3]] [⟨true, [.sc (.int .i64 r00), .sc (.int .i64 r01), .sl 1 r02, .sl 1 r03, .sc (.bool r04), .sc (.int .i64 r05)]⟩] z9 := by
  refine call_fn (K := K_f93) (T := T_f93) K_f93_ok T_f93_ok (by kernel_rfl) ?_
  refine Eq.trans ?_ h
  kernel_rfl

theorem f93_eq (h0 : Int) (h1 : Int) (h2 : List V) (h3 : List V) (r00 : Int) (r01 : Int) (r02 : List V) (r03 : List V) (r04 : Bool) (r05 : Int) : f93 h0 h1 h2 h3 r00 r01 r02 r03 r04 r05 = some (.sc (.bool (placB h0 h1 r05)), [⟨true, [.sc (.int .i64 r00), .sc (.int .i64 r01), .sl 1 r02, .sl 1 r03, .sc (.bool r04), .sc (.int .i64 r05)]⟩]) := by
  unfold f93 placB
  cases decide (r05 < 0) <;> cases decide (h0 ≤ IntKind.wrap .i64 ((9223372036854775807 : Int) - r05)) <;> rfl
def k93 : PrimT := fun vs gs => match vs, gs with
  | [.ptrB (.par 0) 0, .ag [.sc (.int .i64 h0), .sc (.int .i64 h1), .sl 1 h2, .sl 1 h3]], [⟨true, [.sc (.int .i64 r00), .sc (.int .i64 r01), .sl 1 r02, .sl 1 r03, .sc (.bool r04), .sc (.int .i64 r05)]⟩] => (true, .sc (.bool (placB h0 h1 r05)), [⟨true, [.sc (.int .i64 r00), .sc (.int .i64 r01), .sl 1 r02, .sl 1 r03, .sc (.bool r04), .sc (.int .i64 r05)]⟩])
  | _, _ => (false, .bad, [])
theorem k93_ok : ∀ vs gs x, k93 vs gs = (true, x) → CallR C prim 93 vs gs x := by
  intro vs gs x h
  unfold k93 at h
  split at h
  · simp only [Prod.mk.injEq, true_and] at h
    subst h
    exact f93_run _ _ _ _ _ _ _ _ _ _ _ (f93_eq _ _ _ _ _ _ _ _ _ _)
  · cases h

def K_f94 : CallK := kNil
theorem K_f94_ok : KOK C prim K_f94 := KOK.nil
def T_f94 : Tab := tNil
theorem T_f94_ok : TOK C prim 94 T_f94 := TOK.nil
def f94 (h0 : Int) (h1 : Int) (h2 : List V) (h3 : List V) (r00 : Int) (r01 : Int) (r02 : List V) (r03 : List V) (r04 : Bool) (r05 : Int) : Option (V × List Rg) :=
  some (.tp [], [⟨true, [.sc (.int .i64 h0), .sc (.int .i64 h1), .sl 1 h2, .sl 1 h3, .sc (.bool true), .sc (.int .i64 (IntKind.wrap .i64 (r05 + (IntKind.wrap .i64 (((h3.length : Nat) : Int) - ((h2.length : Nat) : Int))))))]⟩])
theorem f94_run (h0 : Int) (h1 : Int) (h2 : List V) (h3 : List V) (r00 : Int) (r01 : Int) (r02 : List V) (r03 : List V) (r04 : Bool) (r05 : Int) (z9 : V × List Rg) (h : f94 h0 h1 h2 h3 r00 r01 r02 r03 r04 r05 = some z9) : CallR C prim 94 [.ptrB (.par 0) 0, .ag [.sc (.int .i64 h0), .sc (.int .i64 h1), .sl 1 h2, .sl 1 h3]] [⟨true, [.sc (.int .i64 r00), .sc (.int .i64 r01), .sl 1 r02, .sl 1 r03, .sc (.bool r04), .sc (.int .i64 r05)]⟩] z9 := by
  refine call_fn (K := K_f94) (T := T_f94) K_f94_ok T_f94_ok (by kernel_rfl) ?_
  refine Eq.trans ?_ h
  kernel_rfl

theorem f94_eq (h0 : Int) (h1 : Int) (h2 : List V) (h3 : List V) (r00 : Int) (r01 : Int) (r02 : List V) (r03 : List V) (r04 : Bool) (r05 : Int) : f94 h0 h1 h2 h3 r00 r01 r02 r03 r04 r05 = some (.tp [], [⟨true, [.sc (.int .i64 h0), .sc (.int .i64 h1), .sl 1 h2, .sl 1 h3, .sc (.bool true), .sc (.int .i64 (dltI r05 h2 h3))]⟩]) := by rfl
def k94 : PrimT := fun vs gs => match vs, gs with
  | [.ptrB (.par 0) 0, .ag [.sc (.int .i64 h0), .sc (.int .i64 h1), .sl 1 h2, .sl 1 h3]], [⟨true, [.sc (.int .i64 r00), .sc (.int .i64 r01), .sl 1 r02, .sl 1 r03, .sc (.bool r04), .sc (.int .i64 r05)]⟩] => (true, .tp [], [⟨true, [.sc (.int .i64 h0), .sc (.int .i64 h1), .sl 1 h2, .sl 1 h3, .sc (.bool true), .sc (.int .i64 (dltI r05 h2 h3))]⟩])
  | _, _ => (false, .bad, [])
theorem k94_ok : ∀ vs gs x, k94 vs gs = (true, x) → CallR C prim 94 vs gs x := by
  intro vs gs x h
  unfold k94 at h
  split at h
  · simp only [Prod.mk.injEq, true_and] at h
    subst h
    exact f94_run _ _ _ _ _ _ _ _ _ _ _ (f94_eq _ _ _ _ _ _ _ _ _ _)
  · cases h

def K_f92 : CallK := kCons 45 k45 <| kCons 112 k112 <| kNil
theorem K_f92_ok : KOK C prim K_f92 := KOK.cons k45_ok <| KOK.cons k112_ok <| KOK.nil
def T_f92 : Tab := tNil
theorem T_f92_ok : TOK C prim 92 T_f92 := TOK.nil
def f92 (h0 : Int) (h1 : Int) (h2 : List V) (h3 : List V) (r00 : Int) (r01 : Int) (r02 : List V) (r03 : List V) (r04 : Bool) (r05 : Int) : Option (V × List Rg) :=
  bif ((([.sl 1 h2, .sl 1 h3] : List V).all okStrs && decide (([.sl 1 h2, .sl 1 h3] : List V).length ≤ 1000000000)) && true) then
    bif ((listsE ([.sl 1 h2, .sl 1 h3] : List V)) != 0) then
      some (.sc (.int .i64 (listsE ([.sl 1 h2, .sl 1 h3] : List V))), [⟨true, [.sc (.int .i64 r00), .sc (.int .i64 r01), .sl 1 r02, .sl 1 r03, .sc (.bool r04), .sc (.int .i64 r05)]⟩])
    else
      bif ((IntKind.wrap .i64 (((h2.length : Nat) : Int) + ((h3.length : Nat) : Int))) == 0) then
        some (.sc (.int .i64 23), [⟨true, [.sc (.int .i64 r00), .sc (.int .i64 r01), .sl 1 r02, .sl 1 r03, .sc (.bool r04), .sc (.int .i64 r05)]⟩])
      else
        bif (!(ordB h0 r00 r02 r04)) then
          some (.sc (.int .i64 9), [⟨true, [.sc (.int .i64 r00), .sc (.int .i64 r01), .sl 1 r02, .sl 1 r03, .sc (.bool r04), .sc (.int .i64 r05)]⟩])
        else
          some (.sc (.int .i64 0), [⟨true, [.sc (.int .i64 r00), .sc (.int .i64 r01), .sl 1 r02, .sl 1 r03, .sc (.bool r04), .sc (.int .i64 r05)]⟩])
  else none
theorem f92_run (h0 : Int) (h1 : Int) (h2 : List V) (h3 : List V) (r00 : Int) (r01 : Int) (r02 : List V) (r03 : List V) (r04 : Bool) (r05 : Int) (z9 : V × List Rg) (h : f92 h0 h1 h2 h3 r00 r01 r02 r03 r04 r05 = some z9) : CallR C prim 92 [.ptrB (.par 0) 0, .ag [.sc (.int .i64 h0), .sc (.int .i64 h1), .sl 1 h2, .sl 1 h3]] [⟨true, [.sc (.int .i64 r00), .sc (.int .i64 r01), .sl 1 r02, .sl 1 r03, .sc (.bool r04), .sc (.int .i64 r05)]⟩] z9 := by
  refine call_fn (K := K_f92) (T := T_f92) K_f92_ok T_f92_ok (by kernel_rfl) ?_
  refine Eq.trans ?_ h
  kernel_rfl

theorem f92_eq (h0 : Int) (h1 : Int) (h2 : List V) (h3 : List V) (r00 : Int) (r01 : Int) (r02 : List V) (r03 : List V) (r04 : Bool) (r05 : Int) (hp : (h2.all V.isStr && decide (h2.length ≤ 1000000000) && h3.all V.isStr && decide (h3.length ≤ 1000000000)) = true) : f92 h0 h1 h2 h3 r00 r01 r02 r03 r04 r05 = some (.sc (.int .i64 (formE h0 h2 h3 r00 r02 r04)), [⟨true, [.sc (.int .i64 r00), .sc (.int .i64 r01), .sl 1 r02, .sl 1 r03, .sc (.bool r04), .sc (.int .i64 r05)]⟩]) := by
  simp only [Bool.and_eq_true, decide_eq_true_eq] at hp
  obtain ⟨⟨⟨g1, g2⟩, g3⟩, g4⟩ := hp
  have ho : ([.sl 1 h2, .sl 1 h3] : List V).all okStrs = true := by
    show (okStrs _ && (okStrs _ && true)) = true
    rw [okStrs_sl g1 (by omega), okStrs_sl g3 (by omega)]; rfl
  unfold f92 formE
  rw [ho]
  cases listsE [.sl 1 h2, .sl 1 h3] != 0 <;> cases IntKind.wrap .i64 (((h2.length : Nat) : Int) + ((h3.length : Nat) : Int)) == 0 <;> cases ordB h0 r00 r02 r04 <;> rfl
def k92 : PrimT := fun vs gs => match vs, gs with
  | [.ptrB (.par 0) 0, .ag [.sc (.int .i64 h0), .sc (.int .i64 h1), .sl 1 h2, .sl 1 h3]], [⟨true, [.sc (.int .i64 r00), .sc (.int .i64 r01), .sl 1 r02, .sl 1 r03, .sc (.bool r04), .sc (.int .i64 r05)]⟩] => ((h2.all V.isStr && decide (h2.length ≤ 1000000000) && h3.all V.isStr && decide (h3.length ≤ 1000000000)), .sc (.int .i64 (formE h0 h2 h3 r00 r02 r04)), [⟨true, [.sc (.int .i64 r00), .sc (.int .i64 r01), .sl 1 r02, .sl 1 r03, .sc (.bool r04), .sc (.int .i64 r05)]⟩])
  | _, _ => (false, .bad, [])
theorem k92_ok : ∀ vs gs x, k92 vs gs = (true, x) → CallR C prim 92 vs gs x := by
  intro vs gs x h
  unfold k92 at h
  split at h
  · simp only [Prod.mk.injEq] at h
    obtain ⟨hp, rfl⟩ := h
    exact f92_run _ _ _ _ _ _ _ _ _ _ _ (f92_eq _ _ _ _ _ _ _ _ _ _ hp)
  · cases h

def K_f62_l0 : CallK := kCons 29 k29 <| kCons 92 k92 <| kCons 93 k93 <| kCons 94 k94 <| kNil
theorem K_f62_l0_ok : KOK C prim K_f62_l0 := KOK.cons k29_ok <| KOK.cons k92_ok <| KOK.cons k93_ok <| KOK.cons k94_ok <| KOK.nil
def T_f62_l0 : Tab := tNil
theorem T_f62_l0_ok : TOK C prim 62 T_f62_l0 := TOK.nil
def f62_l0 : Nat → List V → List V → Int → Int → Int → Int → List V → List V → Bool → Int → (R : Type) → (Ex → St → Option R) → Option R
  | 0, _, _, _, _, _, _, _, _, _, _, _, _ => none
  | n + 1, a, v11, v12, v13, r100, r101, r102, r103, r104, r105, R, κ =>
    bif (decide (v13 < v12)) then
      bif (((decide ((0 : Int) ≤ v13)) && (decide (v13 < (((lenE 4 v11.length) : Nat) : Int)))) && true) then
        bif (((V.isInt .i64 (nthV v11 (((v13).toNat * 4) + 0))) && ((V.isInt .i64 (nthV v11 (((v13).toNat * 4) + 1))) && ((V.isSl 1 (nthV v11 (((v13).toNat * 4) + 2))) && ((V.isSl 1 (nthV v11 (((v13).toNat * 4) + 3))) && true)))) && true) then
          bif (((V.cellsOf (nthV v11 (((v13).toNat * 4) + 2))).all V.isStr && decide ((V.cellsOf (nthV v11 (((v13).toNat * 4) + 2))).length ≤ 1000000000) && (V.cellsOf (nthV v11 (((v13).toNat * 4) + 3))).all V.isStr && decide ((V.cellsOf (nthV v11 (((v13).toNat * 4) + 3))).length ≤ 1000000000)) && true) then
            bif ((formE (V.intOf (nthV v11 (((v13).toNat * 4) + 0))) (V.cellsOf (nthV v11 (((v13).toNat * 4) + 2))) (V.cellsOf (nthV v11 (((v13).toNat * 4) + 3))) r100 r102 r104) != 0) then
              κ .rt (mkS [(0, .sl 1 a), (4, .sc (.int .i64 (formE (V.intOf (nthV v11 (((v13).toNat * 4) + 0))) (V.cellsOf (nthV v11 (((v13).toNat * 4) + 2))) (V.cellsOf (nthV v11 (((v13).toNat * 4) + 3))) r100 r102 r104))), (5, .ptrB (.loc 10) 0)] [(.loc 10, some ⟨true, [.sc (.int .i64 r100), .sc (.int .i64 r101), .sl 1 r102, .sl 1 r103, .sc (.bool r104), .sc (.int .i64 r105)]⟩)])
            else
              bif (decide ((V.intOf (nthV v11 (((v13).toNat * 4) + 0))) > ((a.length : Nat) : Int))) then
                κ .rt (mkS [(0, .sl 1 a), (4, .sc (.int .i64 3)), (5, .ptrB (.loc 10) 0)] [(.loc 10, some ⟨true, [.sc (.int .i64 r100), .sc (.int .i64 r101), .sl 1 r102, .sl 1 r103, .sc (.bool r104), .sc (.int .i64 r105)]⟩)])
              else
                bif (decide ((IntKind.wrap .i64 ((V.intOf (nthV v11 (((v13).toNat * 4) + 0))) + ((((V.cellsOf (nthV v11 (((v13).toNat * 4) + 2)))).length : Nat) : Int))) > ((a.length : Nat) : Int))) then
                  κ .rt (mkS [(0, .sl 1 a), (4, .sc (.int .i64 3)), (5, .ptrB (.loc 10) 0)] [(.loc 10, some ⟨true, [.sc (.int .i64 r100), .sc (.int .i64 r101), .sl 1 r102, .sl 1 r103, .sc (.bool r104), .sc (.int .i64 r105)]⟩)])
                else
                  bif ((((((decide ((0 : Int) ≤ (V.intOf (nthV v11 (((v13).toNat * 4) + 0))))) && (decide ((V.intOf (nthV v11 (((v13).toNat * 4) + 0))) ≤ (IntKind.wrap .i64 ((V.intOf (nthV v11 (((v13).toNat * 4) + 0))) + ((((V.cellsOf (nthV v11 (((v13).toNat * 4) + 2)))).length : Nat) : Int)))))) && (decide ((IntKind.wrap .i64 ((V.intOf (nthV v11 (((v13).toNat * 4) + 0))) + ((((V.cellsOf (nthV v11 (((v13).toNat * 4) + 2)))).length : Nat) : Int))) ≤ ((a.length : Nat) : Int)))) && true) && true) && true) then
                    bif ((((a.drop (((V.intOf (nthV v11 (((v13).toNat * 4) + 0)))).toNat * 1)).take ((((IntKind.wrap .i64 ((V.intOf (nthV v11 (((v13).toNat * 4) + 0))) + ((((V.cellsOf (nthV v11 (((v13).toNat * 4) + 2)))).length : Nat) : Int)))).toNat - ((V.intOf (nthV v11 (((v13).toNat * 4) + 0)))).toNat) * 1)).all V.isStr && (V.cellsOf (nthV v11 (((v13).toNat * 4) + 2))).all V.isStr && decide (((a.drop (((V.intOf (nthV v11 (((v13).toNat * 4) + 0)))).toNat * 1)).take ((((IntKind.wrap .i64 ((V.intOf (nthV v11 (((v13).toNat * 4) + 0))) + ((((V.cellsOf (nthV v11 (((v13).toNat * 4) + 2)))).length : Nat) : Int)))).toNat - ((V.intOf (nthV v11 (((v13).toNat * 4) + 0)))).toNat) * 1)).length ≤ 1000000000) && decide ((V.cellsOf (nthV v11 (((v13).toNat * 4) + 2))).length ≤ 1000000000)) && true) then
                      bif (!(eqS ((a.drop (((V.intOf (nthV v11 (((v13).toNat * 4) + 0)))).toNat * 1)).take ((((IntKind.wrap .i64 ((V.intOf (nthV v11 (((v13).toNat * 4) + 0))) + ((((V.cellsOf (nthV v11 (((v13).toNat * 4) + 2)))).length : Nat) : Int)))).toNat - ((V.intOf (nthV v11 (((v13).toNat * 4) + 0)))).toNat) * 1)) (V.cellsOf (nthV v11 (((v13).toNat * 4) + 2))))) then
                        κ .rt (mkS [(0, .sl 1 a), (4, .sc (.int .i64 19)), (5, .ptrB (.loc 10) 0)] [(.loc 10, some ⟨true, [.sc (.int .i64 r100), .sc (.int .i64 r101), .sl 1 r102, .sl 1 r103, .sc (.bool r104), .sc (.int .i64 r105)]⟩)])
                      else
                        bif (!(placB (V.intOf (nthV v11 (((v13).toNat * 4) + 0))) (V.intOf (nthV v11 (((v13).toNat * 4) + 1))) r105)) then
                          κ .rt (mkS [(0, .sl 1 a), (4, .sc (.int .i64 19)), (5, .ptrB (.loc 10) 0)] [(.loc 10, some ⟨true, [.sc (.int .i64 r100), .sc (.int .i64 r101), .sl 1 r102, .sl 1 r103, .sc (.bool r104), .sc (.int .i64 r105)]⟩)])
                        else
                          f62_l0 n a v11 v12 (IntKind.wrap .i64 (v13 + 1)) (V.intOf (nthV v11 (((v13).toNat * 4) + 0))) (V.intOf (nthV v11 (((v13).toNat * 4) + 1))) (V.cellsOf (nthV v11 (((v13).toNat * 4) + 2))) (V.cellsOf (nthV v11 (((v13).toNat * 4) + 3))) true (dltI r105 (V.cellsOf (nthV v11 (((v13).toNat * 4) + 2))) (V.cellsOf (nthV v11 (((v13).toNat * 4) + 3)))) R κ
                    else none
                  else none
          else none
        else none
      else none
    else
      κ (.ex 0) (mkS [(0, .sl 1 a), (4, .bad), (5, .ptrB (.loc 10) 0)] [(.loc 10, some ⟨true, [.sc (.int .i64 r100), .sc (.int .i64 r101), .sl 1 r102, .sl 1 r103, .sc (.bool r104), .sc (.int .i64 r105)]⟩)])
def f62_l0_ls : List (Nat × Pat) := [(0, .sl 1), (5, .is (.ptrB (.loc 10) 0)), (11, .sl 4), (12, .i .i64), (13, .i .i64)]
def f62_l0_rs : List RPat := [⟨.loc 10, true, [.i .i64, .i .i64, .sl 1, .sl 1, .b, .i .i64]⟩]
theorem f62_l0_ok (n : Nat) : ∀ (a : List V) (v11 : List V) (v12 : Int) (v13 : Int) (r100 : Int) (r101 : Int) (r102 : List V) (r103 : List V) (r104 : Bool) (r105 : Int) (R : Type) (κ : Ex → St → Option R) (r : R), f62_l0 n a v11 v12 v13 r100 r101 r102 r103 r104 r105 R κ = some r → ∃ ee ss, κ ee ss = some r ∧ RunP C prim 62 [0, 1, 0, 1, 1] (mkS [(0, .sl 1 a), (5, .ptrB (.loc 10) 0), (11, .sl 4 v11), (12, .sc (.int .i64 v12)), (13, .sc (.int .i64 v13))] [(.loc 10, some ⟨true, [.sc (.int .i64 r100), .sc (.int .i64 r101), .sl 1 r102, .sl 1 r103, .sc (.bool r104), .sc (.int .i64 r105)]⟩)]) ee ss := by
  induction n with
  | zero => intro a v11 v12 v13 r100 r101 r102 r103 r104 r105 R κ r h; cases h
  | succ n ih =>
    intro a v11 v12 v13 r100 r101 r102 r103 r104 r105 R κ r h
    refine loop_round (K := K_f62_l0) (T := T_f62_l0) K_f62_l0_ok T_f62_l0_ok (p := [0, 1, 0, 1, 1]) (by kernel_rfl) (fun st => bif ckS f62_l0_ls f62_l0_rs st then f62_l0 n ((st.env 0).cellsOf) ((st.env 11).cellsOf) ((st.env 12).intOf) ((st.env 13).intOf) ((nthV (rowOf (st.regs (.loc 10))) 0).intOf) ((nthV (rowOf (st.regs (.loc 10))) 1).intOf) ((nthV (rowOf (st.regs (.loc 10))) 2).cellsOf) ((nthV (rowOf (st.regs (.loc 10))) 3).cellsOf) ((nthV (rowOf (st.regs (.loc 10))) 4).boolOf) ((nthV (rowOf (st.regs (.loc 10))) 5).intOf) R κ else none) (fun st0 h0 => ?_) ?_
    · obtain ⟨hs, h0⟩ := cond_some h0
      rw [canon (ls := f62_l0_ls) (rs := f62_l0_rs) (by kernel_rfl) st0 hs]
      exact ih _ _ _ _ _ _ _ _ _ _ R κ r h0
    · refine Eq.trans ?_ h
      kernel_rfl

def f62_s0 (a : List V) (v11 : List V) (v12 : Int) (v13 : Int) (r100 : Int) (r101 : Int) (r102 : List V) (r103 : List V) (r104 : Bool) (r105 : Int) (R : Type) (κ : Ex → St → Option R) : Option R :=
  bif ((ofRun a (⟨r100, r101, r102, r103, r104, r105⟩ : WS) v11).1 != 0) then
    κ .rt (mkS [(0, .sl 1 a), (4, .sc (.int .i64 (ofRun a (⟨r100, r101, r102, r103, r104, r105⟩ : WS) v11).1)), (5, .ptrB (.loc 10) 0)] [(.loc 10, some ⟨true, [.sc (.int .i64 ((ofRun a (⟨r100, r101, r102, r103, r104, r105⟩ : WS) v11).2).f), .sc (.int .i64 ((ofRun a (⟨r100, r101, r102, r103, r104, r105⟩ : WS) v11).2).t), .sl 1 ((ofRun a (⟨r100, r101, r102, r103, r104, r105⟩ : WS) v11).2).o, .sl 1 ((ofRun a (⟨r100, r101, r102, r103, r104, r105⟩ : WS) v11).2).w, .sc (.bool ((ofRun a (⟨r100, r101, r102, r103, r104, r105⟩ : WS) v11).2).any), .sc (.int .i64 ((ofRun a (⟨r100, r101, r102, r103, r104, r105⟩ : WS) v11).2).d)]⟩)])
  else
    κ (.ex 0) (mkS [(0, .sl 1 a), (4, .bad), (5, .ptrB (.loc 10) 0)] [(.loc 10, some ⟨true, [.sc (.int .i64 ((ofRun a (⟨r100, r101, r102, r103, r104, r105⟩ : WS) v11).2).f), .sc (.int .i64 ((ofRun a (⟨r100, r101, r102, r103, r104, r105⟩ : WS) v11).2).t), .sl 1 ((ofRun a (⟨r100, r101, r102, r103, r104, r105⟩ : WS) v11).2).o, .sl 1 ((ofRun a (⟨r100, r101, r102, r103, r104, r105⟩ : WS) v11).2).w, .sc (.bool ((ofRun a (⟨r100, r101, r102, r103, r104, r105⟩ : WS) v11).2).any), .sc (.int .i64 ((ofRun a (⟨r100, r101, r102, r103, r104, r105⟩ : WS) v11).2).d)]⟩)])
def fin62 (a : List V) (r : Int × WS) (R : Type) (κ : Ex → St → Option R) : Option R :=
  bif r.1 != 0 then
    κ .rt (mkS [(0, .sl 1 a), (4, .sc (.int .i64 r.1)), (5, .ptrB (.loc 10) 0)] [(.loc 10, some ⟨true, [.sc (.int .i64 r.2.f), .sc (.int .i64 r.2.t), .sl 1 r.2.o, .sl 1 r.2.w, .sc (.bool r.2.any), .sc (.int .i64 r.2.d)]⟩)])
  else
    κ (.ex 0) (mkS [(0, .sl 1 a), (4, .bad), (5, .ptrB (.loc 10) 0)] [(.loc 10, some ⟨true, [.sc (.int .i64 r.2.f), .sc (.int .i64 r.2.t), .sl 1 r.2.o, .sl 1 r.2.w, .sc (.bool r.2.any), .sc (.int .i64 r.2.d)]⟩)])
theorem form_ord {h : Int} {o w : List V} {r : Int} {ro : List V} {any : Bool} (hf : (formE h o w r ro any != 0) = false) : 0 ≤ h := by
  unfold formE at hf
  cases h1 : listsE [.sl 1 o, .sl 1 w] != 0 with
  | true => rw [h1, cond_true, h1] at hf; cases hf
  | false =>
  rw [h1, cond_false] at hf
  cases h2 : IntKind.wrap .i64 ((o.length : Int) + (w.length : Int)) == 0 with
  | true => rw [h2] at hf; cases hf
  | false =>
  rw [h2, cond_false] at hf
  unfold ordB at hf
  by_cases hh : h < 0
  · rw [dec_true hh] at hf; cases hf
  · omega
theorem f62_l0_c (a v11 : List V) (q : Nat) (ha : a.all V.isStr = true) (la : a.length ≤ 2000000) (hq : v11.length = 4 * q) (hl : v11.length ≤ 1000000000) : ∀ (m k : Nat) (s : WS), k + m = q → okHs (v11.drop (k * 4)) = true → ∀ n, m < n → ∀ (R : Type) (κ : Ex → St → Option R),
    f62_l0 n a v11 ((q : Nat) : Int) (k : Int) s.f s.t s.o s.w s.any s.d R κ = fin62 a (ofRun a s (v11.drop (k * 4))) R κ := by
  intro m
  induction m with
  | zero =>
    intro k s hk ho n hn R κ
    obtain ⟨n, rfl⟩ : ∃ j, n = j + 1 := ⟨n - 1, by omega⟩
    rw [f62_l0, dec_false (by omega), List.drop_of_length_le (l := v11) (by omega)]
    rfl
  | succ m ih =>
    intro k s hk o1 n hn R κ
    obtain ⟨n, rfl⟩ : ∃ j, n = j + 1 := ⟨n - 1, by omega⟩
    obtain ⟨f, t, o, w, r, hd, hok, hr⟩ := okHs_cons o1 (by intro e; have := congrArg List.length e; rw [List.length_drop] at this; simp only [List.length_nil] at this; omega)
    obtain ⟨n0, n1, n2, n3, hd2, hk4⟩ := drop4 hd
    obtain ⟨p0, p1, ⟨p2, p3, p4⟩, ⟨p5, p6, p7⟩⟩ := okH_spec hok
    have IH := ih (k + 1) ⟨f.intOf, t.intOf, o.cellsOf, w.cellsOf, true, dltI s.d o.cellsOf w.cellsOf⟩ (by omega) (by rw [hd2]; exact hr) n (by omega) R κ
    rw [hd2] at IH
    rw [f62_l0, dec_true (show (k : Int) < ((q : Nat) : Int) by omega), dec_true (show (0 : Int) ≤ (k : Int) by omega), dec_true (show (k : Int) < ((lenE 4 v11.length : Nat) : Int) by omega), n0, n1, n2, n3, p0, p1, p2, p3, p5, p6, dec_true p4, dec_true p7, wrap_succ (by omega), hd, ofRun]
    simp only [Nat.mul_one, Bool.and_true, cond_true]
    cases h1 : formE f.intOf o.cellsOf w.cellsOf s.f s.o s.any != 0 with
    | true => simp only [cond_true, fin62, h1]
    | false =>
    simp only [cond_false]
    by_cases h2 : f.intOf > ((a.length : Nat) : Int)
    · rw [dec_true h2]; rfl
    rw [dec_false h2]
    have hf := form_ord h1
    have w1 : IntKind.wrap .i64 (f.intOf + ((o.cellsOf.length : Nat) : Int)) = f.intOf + ((o.cellsOf.length : Nat) : Int) := wrap_id (by omega) (by omega)
    by_cases h3 : f.intOf + ((o.cellsOf.length : Nat) : Int) > ((a.length : Nat) : Int)
    · rw [w1, dec_true h3]; rfl
    have hfit : eqS ((a.drop f.intOf.toNat).take ((f.intOf + ((o.cellsOf.length : Nat) : Int)).toNat - f.intOf.toNat)) o.cellsOf = fitsE a f.intOf o.cellsOf := by
      unfold fitsE; rw [w1]
    have ls := len_sub a f.intOf.toNat ((f.intOf + ((o.cellsOf.length : Nat) : Int)).toNat - f.intOf.toNat)
    rw [w1, dec_false h3, dec_true hf, dec_true (show f.intOf ≤ f.intOf + ((o.cellsOf.length : Nat) : Int) by omega), dec_true (show f.intOf + ((o.cellsOf.length : Nat) : Int) ≤ ((a.length : Nat) : Int) by omega), all_sub ha, dec_true (show ((a.drop f.intOf.toNat).take ((f.intOf + ((o.cellsOf.length : Nat) : Int)).toNat - f.intOf.toNat)).length ≤ 1000000000 by omega), hfit]
    cases fitsE a f.intOf o.cellsOf with
    | false => rfl
    | true =>
    cases placB f.intOf t.intOf s.d with
    | false => rfl
    | true => exact IH
theorem f62_s0_eq (a : List V) (v11 : List V) (v12 : Int) (v13 : Int) (r100 : Int) (r101 : Int) (r102 : List V) (r103 : List V) (r104 : Bool) (r105 : Int) (hp : ((v12 == ((lenE 4 v11.length : Nat) : Int)) && (v13 == 0) && okHs v11 && a.all V.isStr && decide (a.length ≤ 2000000) && decide (v11.length ≤ 1000000000)) = true) : ∃ n, ∀ (R : Type) (κ : Ex → St → Option R), f62_l0 n a v11 v12 v13 r100 r101 r102 r103 r104 r105 R κ = f62_s0 a v11 v12 v13 r100 r101 r102 r103 r104 r105 R κ := by
  simp only [Bool.and_eq_true, decide_eq_true_eq, beq_iff_eq] at hp
  obtain ⟨⟨⟨⟨⟨rfl, rfl⟩, h1⟩, h2⟩, h3⟩, h4⟩ := hp
  obtain ⟨q, hq⟩ := okHs_len _ h1
  have e : lenE 4 v11.length = q := by show v11.length / 4 = q; omega
  rw [e]
  refine ⟨q + 1, fun R κ => ?_⟩
  have := f62_l0_c a v11 q h2 h3 hq h4 q 0 ⟨r100, r101, r102, r103, r104, r105⟩ (by omega) (by simpa using h1) (q + 1) (by omega) R κ
  rw [Nat.zero_mul, List.drop_zero] at this
  exact this
def t_f62_l0 (st : St) (R : Type) (κ : Ex → St → Option R) : Option R := bif ckS f62_l0_ls f62_l0_rs st then (bif ((((st.env 12).intOf) == ((lenE 4 ((st.env 11).cellsOf).length : Nat) : Int)) && (((st.env 13).intOf) == 0) && okHs ((st.env 11).cellsOf) && ((st.env 0).cellsOf).all V.isStr && decide (((st.env 0).cellsOf).length ≤ 2000000) && decide (((st.env 11).cellsOf).length ≤ 1000000000)) then f62_s0 ((st.env 0).cellsOf) ((st.env 11).cellsOf) ((st.env 12).intOf) ((st.env 13).intOf) ((nthV (rowOf (st.regs (.loc 10))) 0).intOf) ((nthV (rowOf (st.regs (.loc 10))) 1).intOf) ((nthV (rowOf (st.regs (.loc 10))) 2).cellsOf) ((nthV (rowOf (st.regs (.loc 10))) 3).cellsOf) ((nthV (rowOf (st.regs (.loc 10))) 4).boolOf) ((nthV (rowOf (st.regs (.loc 10))) 5).intOf) R κ else none) else none
theorem t_f62_l0_ok : ∀ st0 R κ r, t_f62_l0 (forget C 62 [0, 1, 0, 1, 1] st0) R κ = some r → ∃ ee ss, κ ee ss = some r ∧ RunP C prim 62 [0, 1, 0, 1, 1] (forget C 62 [0, 1, 0, 1, 1] st0) ee ss := by
  intro st0 R κ r h
  obtain ⟨hs, h⟩ := cond_some h
  obtain ⟨hp, h⟩ := cond_some h
  rw [canon (ls := f62_l0_ls) (rs := f62_l0_rs) (by kernel_rfl) st0 hs]
  obtain ⟨n, hn⟩ := f62_s0_eq _ _ _ _ _ _ _ _ _ _ hp
  rw [← hn] at h
  exact f62_l0_ok n _ _ _ _ _ _ _ _ _ _ R κ r h

def K_f62 : CallK := kNil
theorem K_f62_ok : KOK C prim K_f62 := KOK.nil
def T_f62 : Tab := tCons [0, 1, 0, 1, 1] t_f62_l0 <| tNil
theorem T_f62_ok : TOK C prim 62 T_f62 := TOK.cons t_f62_l0_ok <| TOK.nil
def f62 (a : List V) (l : List V) : Option (V × List Rg) :=
  bif (((((lenE 4 l.length) : Nat) : Int) == ((lenE 4 l.length : Nat) : Int)) && ((0 : Int) == 0) && okHs l && a.all V.isStr && decide (a.length ≤ 2000000) && decide (l.length ≤ 1000000000)) then
    bif ((ofRun a (⟨(0 : Int), (0 : Int), ([] : List V), ([] : List V), false, (0 : Int)⟩ : WS) l).1 != 0) then
      some (.sc (.int .i64 (ofRun a (⟨(0 : Int), (0 : Int), ([] : List V), ([] : List V), false, (0 : Int)⟩ : WS) l).1), [])
    else
      bif (decide ((IntKind.wrap .i64 (((a.length : Nat) : Int) + ((ofRun a (⟨(0 : Int), (0 : Int), ([] : List V), ([] : List V), false, (0 : Int)⟩ : WS) l).2).d)) > 1000)) then
        some (.sc (.int .i64 2), [])
      else
        some (.sc (.int .i64 0), [])
  else none
theorem f62_run (a : List V) (l : List V) (z9 : V × List Rg) (h : f62 a l = some z9) : CallR C prim 62 [.sl 1 a, .sl 4 l] [] z9 := by
  refine call_fn (K := K_f62) (T := T_f62) K_f62_ok T_f62_ok (by kernel_rfl) ?_
  refine Eq.trans ?_ h
  kernel_rfl

theorem f62_eq (a : List V) (l : List V) (hp : (okHs l && a.all V.isStr && decide (a.length ≤ 2000000) && decide (l.length ≤ 1000000000)) = true) : f62 a l = some (.sc (.int .i64 (ofE a l)), []) := by
  simp only [Bool.and_eq_true, decide_eq_true_eq] at hp
  obtain ⟨⟨⟨h1, h2⟩, h3⟩, h4⟩ := hp
  have e : (⟨(0 : Int), (0 : Int), ([] : List V), ([] : List V), false, (0 : Int)⟩ : WS) = w0 := rfl
  unfold f62 ofE
  rw [e, h1, h2, dec_true h3, dec_true h4, beq_self_eq_true]
  cases (ofRun a w0 l).1 != 0 with
  | true => rfl
  | false => cases decide (IntKind.wrap .i64 (((a.length : Nat) : Int) + (ofRun a w0 l).2.d) > 1000) <;> rfl
def k62 : PrimT := fun vs gs => match vs, gs with
  | [.sl 1 a, .sl 4 l], [] => ((okHs l && a.all V.isStr && decide (a.length ≤ 2000000) && decide (l.length ≤ 1000000000)), .sc (.int .i64 (ofE a l)), [])
  | _, _ => (false, .bad, [])
theorem k62_ok : ∀ vs gs x, k62 vs gs = (true, x) → CallR C prim 62 vs gs x := by
  intro vs gs x h
  unfold k62 at h
  split at h
  · simp only [Prod.mk.injEq] at h
    obtain ⟨hp, rfl⟩ := h
    exact f62_run _ _ _ (f62_eq _ _ hp)
  · cases h

def K_f63_l0 : CallK := kNil
theorem K_f63_l0_ok : KOK C prim K_f63_l0 := KOK.nil
def T_f63_l0 : Tab := tNil
theorem T_f63_l0_ok : TOK C prim 63 T_f63_l0 := TOK.nil
def f63_l0 : Nat → List V → Int → List V → Int → Int → List V → (R : Type) → (Ex → St → Option R) → Option R
  | 0, _, _, _, _, _, _, _, _ => none
  | n + 1, a, at', v10, v11, v12, out, R, κ =>
    bif (decide (v12 < v11)) then
      bif (((decide ((0 : Int) ≤ v12)) && (decide (v12 < (((lenE 4 v10.length) : Nat) : Int)))) && true) then
        bif (((V.isInt .i64 (nthV v10 (((v12).toNat * 4) + 0))) && ((V.isInt .i64 (nthV v10 (((v12).toNat * 4) + 1))) && ((V.isSl 1 (nthV v10 (((v12).toNat * 4) + 2))) && ((V.isSl 1 (nthV v10 (((v12).toNat * 4) + 3))) && true)))) && true) then
          bif ((((((decide ((0 : Int) ≤ at')) && (decide (at' ≤ (V.intOf (nthV v10 (((v12).toNat * 4) + 0)))))) && (decide ((V.intOf (nthV v10 (((v12).toNat * 4) + 0))) ≤ ((a.length : Nat) : Int)))) && true) && true) && true) then
            bif (((roomy ((out.length + (((a.drop ((at').toNat * 1)).take ((((V.intOf (nthV v10 (((v12).toNat * 4) + 0)))).toNat - (at').toNat) * 1))).length) * 16)) && (roomy (out.length + (((a.drop ((at').toNat * 1)).take ((((V.intOf (nthV v10 (((v12).toNat * 4) + 0)))).toNat - (at').toNat) * 1))).length))) && true) then
              bif (((roomy ((((out ++ ((a.drop ((at').toNat * 1)).take ((((V.intOf (nthV v10 (((v12).toNat * 4) + 0)))).toNat - (at').toNat) * 1)))).length + ((V.cellsOf (nthV v10 (((v12).toNat * 4) + 3)))).length) * 16)) && (roomy (((out ++ ((a.drop ((at').toNat * 1)).take ((((V.intOf (nthV v10 (((v12).toNat * 4) + 0)))).toNat - (at').toNat) * 1)))).length + ((V.cellsOf (nthV v10 (((v12).toNat * 4) + 3)))).length))) && true) then
                f63_l0 n a (IntKind.wrap .i64 ((V.intOf (nthV v10 (((v12).toNat * 4) + 0))) + ((((V.cellsOf (nthV v10 (((v12).toNat * 4) + 2)))).length : Nat) : Int))) v10 v11 (IntKind.wrap .i64 (v12 + 1)) ((out ++ ((a.drop ((at').toNat * 1)).take ((((V.intOf (nthV v10 (((v12).toNat * 4) + 0)))).toNat - (at').toNat) * 1))) ++ (V.cellsOf (nthV v10 (((v12).toNat * 4) + 3)))) R κ
              else none
            else none
          else none
        else none
      else none
    else
      κ (.ex 0) (mkS [(0, .sl 1 a), (4, .bad), (5, .ref ⟨.loc 5, 0, [], 9, false⟩), (6, .sc (.int .i64 at'))] [(.loc 5, some ⟨false, [.own 9 false out]⟩)])
def f63_l0_ls : List (Nat × Pat) := [(0, .sl 1), (5, .is (.ref ⟨.loc 5, 0, [], 9, false⟩)), (6, .i .i64), (10, .sl 4), (11, .i .i64), (12, .i .i64)]
def f63_l0_rs : List RPat := [⟨.loc 5, false, [.own 9 false]⟩]
theorem f63_l0_ok (n : Nat) : ∀ (a : List V) (at' : Int) (v10 : List V) (v11 : Int) (v12 : Int) (out : List V) (R : Type) (κ : Ex → St → Option R) (r : R), f63_l0 n a at' v10 v11 v12 out R κ = some r → ∃ ee ss, κ ee ss = some r ∧ RunP C prim 63 [0, 1, 0, 1, 1, 1] (mkS [(0, .sl 1 a), (5, .ref ⟨.loc 5, 0, [], 9, false⟩), (6, .sc (.int .i64 at')), (10, .sl 4 v10), (11, .sc (.int .i64 v11)), (12, .sc (.int .i64 v12))] [(.loc 5, some ⟨false, [.own 9 false out]⟩)]) ee ss := by
  induction n with
  | zero => intro a at' v10 v11 v12 out R κ r h; cases h
  | succ n ih =>
    intro a at' v10 v11 v12 out R κ r h
    refine loop_round (K := K_f63_l0) (T := T_f63_l0) K_f63_l0_ok T_f63_l0_ok (p := [0, 1, 0, 1, 1, 1]) (by kernel_rfl) (fun st => bif ckS f63_l0_ls f63_l0_rs st then f63_l0 n ((st.env 0).cellsOf) ((st.env 6).intOf) ((st.env 10).cellsOf) ((st.env 11).intOf) ((st.env 12).intOf) ((nthV (rowOf (st.regs (.loc 5))) 0).cellsOf) R κ else none) (fun st0 h0 => ?_) ?_
    · obtain ⟨hs, h0⟩ := cond_some h0
      rw [canon (ls := f63_l0_ls) (rs := f63_l0_rs) (by kernel_rfl) st0 hs]
      exact ih _ _ _ _ _ _ R κ r h0
    · refine Eq.trans ?_ h
      kernel_rfl

def f63_s0 (a : List V) (at' : Int) (v10 : List V) (v11 : Int) (v12 : Int) (out : List V) (R : Type) (κ : Ex → St → Option R) : Option R :=
  κ (.ex 0) (mkS [(0, .sl 1 a), (4, .bad), (5, .ref ⟨.loc 5, 0, [], 9, false⟩), (6, .sc (.int .i64 (endR at' v10)))] [(.loc 5, some ⟨false, [.own 9 false (out ++ repC a at' v10)]⟩)])
theorem f63_l0_c (a v10 : List V) (q : Nat) (la : a.length ≤ 100000000) (hq : v10.length = 4 * q) (hl : v10.length ≤ 1000000000) : ∀ (m k : Nat) (p : Int) (out : List V), k + m = q → okHs (v10.drop (k * 4)) = true → 0 ≤ p → rtOk ((a.length : Nat) : Int) p (v10.drop (k * 4)) = true → out.length + newN (v10.drop (k * 4)) + a.length ≤ 3000000000 + p.toNat → ∀ n, m < n → ∀ (R : Type) (κ : Ex → St → Option R),
    f63_l0 n a p v10 ((q : Nat) : Int) (k : Int) out R κ = κ (.ex 0) (mkS [(0, .sl 1 a), (4, .bad), (5, .ref ⟨.loc 5, 0, [], 9, false⟩), (6, .sc (.int .i64 (endR p (v10.drop (k * 4)))))] [(.loc 5, some ⟨false, [.own 9 false (out ++ repC a p (v10.drop (k * 4)))]⟩)]) := by
  intro m
  induction m with
  | zero =>
    intro k p out hk ho hp hr hs n hn R κ
    obtain ⟨n, rfl⟩ : ∃ j, n = j + 1 := ⟨n - 1, by omega⟩
    rw [f63_l0, dec_false (by omega), List.drop_of_length_le (l := v10) (by omega)]
    show κ _ _ = κ _ (mkS _ [(_, some ⟨false, [.own 9 false (out ++ [])]⟩)])
    rw [List.append_nil]
    rfl
  | succ m ih =>
    intro k p out hk o1 hp hrt hs n hn R κ
    obtain ⟨n, rfl⟩ : ∃ j, n = j + 1 := ⟨n - 1, by omega⟩
    obtain ⟨f, t, o, w, r, hd, hok, hr⟩ := okHs_cons o1 (by intro e; have := congrArg List.length e; rw [List.length_drop] at this; simp only [List.length_nil] at this; omega)
    obtain ⟨n0, n1, n2, n3, hd2, hk4⟩ := drop4 hd
    obtain ⟨p0, p1, ⟨p2, p3, p4⟩, ⟨p5, p6, p7⟩⟩ := okH_spec hok
    rw [hd] at hrt hs ⊢
    unfold rtOk at hrt
    simp only [Bool.and_eq_true, decide_eq_true_eq] at hrt
    obtain ⟨⟨q1, q2⟩, q3⟩ := hrt
    have hs' : out.length + (w.cellsOf.length + newN r) + a.length ≤ 3000000000 + p.toNat := hs
    have hlen : ((a.drop p.toNat).take (f.intOf.toNat - p.toNat)).length = f.intOf.toNat - p.toNat := by
      rw [List.length_take, List.length_drop]; omega
    have IH := ih (k + 1) (f.intOf + (o.cellsOf.length : Int)) ((out ++ (a.drop p.toNat).take (f.intOf.toNat - p.toNat)) ++ w.cellsOf) (by omega) (by rw [hd2]; exact hr) (by omega) (by rw [hd2]; exact q3) (by rw [hd2, List.length_append, List.length_append, hlen]; omega) n (by omega) R κ
    rw [hd2] at IH
    have w1 : IntKind.wrap .i64 (f.intOf + ((o.cellsOf.length : Nat) : Int)) = f.intOf + ((o.cellsOf.length : Nat) : Int) := wrap_id (by omega) (by omega)
    have r1 : (roomy ((out.length + ((a.drop p.toNat).take (f.intOf.toNat - p.toNat)).length) * 16) && roomy (out.length + ((a.drop p.toNat).take (f.intOf.toNat - p.toNat)).length)) = true := by
      unfold roomy
      rw [hlen, dec_true (by omega), dec_true (by omega)]; rfl
    have r2 : (roomy (((out ++ (a.drop p.toNat).take (f.intOf.toNat - p.toNat)).length + w.cellsOf.length) * 16) && roomy ((out ++ (a.drop p.toNat).take (f.intOf.toNat - p.toNat)).length + w.cellsOf.length)) = true := by
      unfold roomy
      rw [List.length_append, hlen, dec_true (by omega), dec_true (by omega)]; rfl
    rw [f63_l0, dec_true (show (k : Int) < ((q : Nat) : Int) by omega), dec_true (show (0 : Int) ≤ (k : Int) by omega), dec_true (show (k : Int) < ((lenE 4 v10.length : Nat) : Int) by omega), n0, n1, n2, n3, p0, p1, p2, p5, wrap_succ (by omega)]
    simp only [Nat.mul_one, Bool.and_true, cond_true]
    rw [dec_true hp, dec_true q1, dec_true (show f.intOf ≤ ((a.length : Nat) : Int) by omega), r1, r2, w1]
    simp only [Bool.and_true, cond_true]
    rw [IH, List.append_assoc, List.append_assoc]
    show _ = κ _ (mkS _ [(_, some ⟨false, [.own 9 false (out ++ (((a.drop p.toNat).take (f.intOf.toNat - p.toNat) ++ w.cellsOf) ++ repC a (f.intOf + (o.cellsOf.length : Int)) r))]⟩)])
    rw [List.append_assoc]
    rfl
theorem f63_s0_eq (a : List V) (at' : Int) (v10 : List V) (v11 : Int) (v12 : Int) (out : List V) (hp : ((v11 == ((lenE 4 v10.length : Nat) : Int)) && (v12 == 0) && okHs v10 && decide (a.length ≤ 100000000) && decide (v10.length ≤ 1000000000) && decide (out.length ≤ 1000000000) && decide (newN v10 ≤ 1000000000) && decide (0 ≤ at') && rtOk ((a.length : Nat) : Int) at' v10) = true) : ∃ n, ∀ (R : Type) (κ : Ex → St → Option R), f63_l0 n a at' v10 v11 v12 out R κ = f63_s0 a at' v10 v11 v12 out R κ := by
  simp only [Bool.and_eq_true, decide_eq_true_eq, beq_iff_eq] at hp
  obtain ⟨⟨⟨⟨⟨⟨⟨⟨rfl, rfl⟩, h1⟩, h2⟩, h3⟩, h4⟩, h5⟩, h6⟩, h7⟩ := hp
  obtain ⟨q, hq⟩ := okHs_len _ h1
  have e : lenE 4 v10.length = q := by show v10.length / 4 = q; omega
  rw [e]
  refine ⟨q + 1, fun R κ => ?_⟩
  have := f63_l0_c a v10 q h2 hq h3 q 0 at' out (by omega) (by simpa using h1) h6 (by simpa using h7) (by rw [Nat.zero_mul, List.drop_zero]; omega) (q + 1) (by omega) R κ
  rw [Nat.zero_mul, List.drop_zero] at this
  exact this
def t_f63_l0 (st : St) (R : Type) (κ : Ex → St → Option R) : Option R := bif ckS f63_l0_ls f63_l0_rs st then (bif ((((st.env 11).intOf) == ((lenE 4 ((st.env 10).cellsOf).length : Nat) : Int)) && (((st.env 12).intOf) == 0) && okHs ((st.env 10).cellsOf) && decide (((st.env 0).cellsOf).length ≤ 100000000) && decide (((st.env 10).cellsOf).length ≤ 1000000000) && decide (((nthV (rowOf (st.regs (.loc 5))) 0).cellsOf).length ≤ 1000000000) && decide (newN ((st.env 10).cellsOf) ≤ 1000000000) && decide (0 ≤ ((st.env 6).intOf)) && rtOk ((((st.env 0).cellsOf).length : Nat) : Int) ((st.env 6).intOf) ((st.env 10).cellsOf)) then f63_s0 ((st.env 0).cellsOf) ((st.env 6).intOf) ((st.env 10).cellsOf) ((st.env 11).intOf) ((st.env 12).intOf) ((nthV (rowOf (st.regs (.loc 5))) 0).cellsOf) R κ else none) else none
theorem t_f63_l0_ok : ∀ st0 R κ r, t_f63_l0 (forget C 63 [0, 1, 0, 1, 1, 1] st0) R κ = some r → ∃ ee ss, κ ee ss = some r ∧ RunP C prim 63 [0, 1, 0, 1, 1, 1] (forget C 63 [0, 1, 0, 1, 1, 1] st0) ee ss := by
  intro st0 R κ r h
  obtain ⟨hs, h⟩ := cond_some h
  obtain ⟨hp, h⟩ := cond_some h
  rw [canon (ls := f63_l0_ls) (rs := f63_l0_rs) (by kernel_rfl) st0 hs]
  obtain ⟨n, hn⟩ := f63_s0_eq _ _ _ _ _ _ hp
  rw [← hn] at h
  exact f63_l0_ok n _ _ _ _ _ _ R κ r h

def K_f63 : CallK := kNil
theorem K_f63_ok : KOK C prim K_f63 := KOK.nil
def T_f63 : Tab := tCons [0, 1, 0, 1, 1, 1] t_f63_l0 <| tNil
theorem T_f63_ok : TOK C prim 63 T_f63 := TOK.cons t_f63_l0_ok <| TOK.nil
def f63 (a : List V) (l : List V) : Option (V × List Rg) :=
  bif (((((lenE 4 l.length) : Nat) : Int) == ((lenE 4 l.length : Nat) : Int)) && ((0 : Int) == 0) && okHs l && decide (a.length ≤ 100000000) && decide (l.length ≤ 1000000000) && decide (([] : List V).length ≤ 1000000000) && decide (newN l ≤ 1000000000) && decide (0 ≤ (0 : Int)) && rtOk ((a.length : Nat) : Int) (0 : Int) l) then
    bif (((((decide ((0 : Int) ≤ (endR (0 : Int) l))) && (decide ((endR (0 : Int) l) ≤ ((a.length : Nat) : Int)))) && true) && true) && true) then
      bif (((roomy ((((([] : List V) ++ repC a (0 : Int) l)).length + ((a.drop (((endR (0 : Int) l)).toNat * 1))).length) * 16)) && (roomy (((([] : List V) ++ repC a (0 : Int) l)).length + ((a.drop (((endR (0 : Int) l)).toNat * 1))).length))) && true) then
        some (.own 9 false ((([] : List V) ++ repC a (0 : Int) l) ++ (a.drop (((endR (0 : Int) l)).toNat * 1))), [])
      else none
    else none
  else none
theorem f63_run (a : List V) (l : List V) (z9 : V × List Rg) (h : f63 a l = some z9) : CallR C prim 63 [.sl 1 a, .sl 4 l] [] z9 := by
  refine call_fn (K := K_f63) (T := T_f63) K_f63_ok T_f63_ok (by kernel_rfl) ?_
  refine Eq.trans ?_ h
  kernel_rfl

theorem f63_eq (a : List V) (l : List V) (hp : (okHs l && decide (a.length ≤ 100000000) && decide (l.length ≤ 1000000000) && decide (newN l ≤ 1000000000) && rtOk ((a.length : Nat) : Int) 0 l) = true) : f63 a l = some (.own 9 false (repA a l), []) := by
  simp only [Bool.and_eq_true, decide_eq_true_eq] at hp
  obtain ⟨⟨⟨⟨h1, h2⟩, h3⟩, h4⟩, h5⟩ := hp
  obtain ⟨g1, g2, g3⟩ := repC_len a l 0 h1 (by omega) h5
  have ht : (a.drop (endR 0 l).toNat).length ≤ a.length := by rw [List.length_drop]; omega
  have r1 : (roomy (((repC a (0 : Int) l).length + (a.drop (endR (0 : Int) l).toNat).length) * 16) && roomy ((repC a (0 : Int) l).length + (a.drop (endR (0 : Int) l).toNat).length)) = true := by
    unfold roomy
    rw [dec_true (by omega), dec_true (by omega)]; rfl
  unfold f63
  rw [List.nil_append, Nat.mul_one, h1, dec_true h2, dec_true h3, dec_true h4, h5, dec_true g2, dec_true g3, r1, beq_self_eq_true]
  rfl
def k63 : PrimT := fun vs gs => match vs, gs with
  | [.sl 1 a, .sl 4 l], [] => ((okHs l && decide (a.length ≤ 100000000) && decide (l.length ≤ 1000000000) && decide (newN l ≤ 1000000000) && rtOk ((a.length : Nat) : Int) 0 l), .own 9 false (repA a l), [])
  | _, _ => (false, .bad, [])
theorem k63_ok : ∀ vs gs x, k63 vs gs = (true, x) → CallR C prim 63 vs gs x := by
  intro vs gs x h
  unfold k63 at h
  split at h
  · simp only [Prod.mk.injEq] at h
    obtain ⟨hp, rfl⟩ := h
    exact f63_run _ _ _ (f63_eq _ _ hp)
  · cases h

def K_f26 : CallK := kCons 45 k45 <| kCons 62 k62 <| kCons 63 k63 <| kNil
theorem K_f26_ok : KOK C prim K_f26 := KOK.cons k45_ok <| KOK.cons k62_ok <| KOK.cons k63_ok <| KOK.nil
def T_f26 : Tab := tNil
theorem T_f26_ok : TOK C prim 26 T_f26 := TOK.nil
def f26 (a : List V) (l : List V) : Option (V × List Rg) :=
  bif ((([.sl 1 a] : List V).all okStrs && decide (([.sl 1 a] : List V).length ≤ 1000000000)) && true) then
    bif ((listsE ([.sl 1 a] : List V)) != 0) then
      some (.tp [.own 9 false [], .sc (.int .i64 (listsE ([.sl 1 a] : List V)))], [])
    else
      bif ((okHs l && a.all V.isStr && decide (a.length ≤ 2000000) && decide (l.length ≤ 1000000000)) && true) then
        bif ((ofE a l) != 0) then
          some (.tp [.own 9 false [], .sc (.int .i64 (ofE a l))], [])
        else
          bif ((okHs l && decide (a.length ≤ 100000000) && decide (l.length ≤ 1000000000) && decide (newN l ≤ 1000000000) && rtOk ((a.length : Nat) : Int) 0 l) && true) then
            some (.tp [.own 9 false (repA a l), .sc (.int .i64 0)], [])
          else none
      else none
  else none
theorem f26_run (a : List V) (l : List V) (z9 : V × List Rg) (h : f26 a l = some z9) : CallR C prim 26 [.sl 1 a, .sl 4 l] [] z9 := by
  refine call_fn (K := K_f26) (T := T_f26) K_f26_ok T_f26_ok (by kernel_rfl) ?_
  refine Eq.trans ?_ h
  kernel_rfl

theorem f26_eq (a : List V) (l : List V) (hp : (okHs l && a.all V.isStr && decide (a.length ≤ 2000000) && decide (l.length ≤ 1000000000) && decide (newN l ≤ 1000000000)) = true) : f26 a l = some (.tp [.own 9 false (appL a l), .sc (.int .i64 (appE a l))], []) := by
  simp only [Bool.and_eq_true, decide_eq_true_eq] at hp
  obtain ⟨⟨⟨⟨h1, h2⟩, h3⟩, h4⟩, h5⟩ := hp
  have ho : ([.sl 1 a] : List V).all okStrs = true := by
    show (okStrs _ && true) = true
    rw [okStrs_sl h2 (by omega)]; rfl
  unfold f26 appL appE
  rw [ho, h1, h2, dec_true h3, dec_true h4, dec_true h5, dec_true (show a.length ≤ 100000000 by omega)]
  cases hl : listsE [.sl 1 a] != 0 with
  | true => simp only [cond_true, hl]; rfl
  | false =>
  simp only [cond_false]
  cases he : ofE a l != 0 with
  | true => rfl
  | false =>
    have e0 : ofE a l = 0 := by simpa using he
    have hrt : rtOk ((a.length : Nat) : Int) 0 l = true := of_rt h3 h1 e0
    rw [hrt, e0]
    rfl
def k26 : PrimT := fun vs gs => match vs, gs with
  | [.sl 1 a, .sl 4 l], [] => ((okHs l && a.all V.isStr && decide (a.length ≤ 2000000) && decide (l.length ≤ 1000000000) && decide (newN l ≤ 1000000000)), .tp [.own 9 false (appL a l), .sc (.int .i64 (appE a l))], [])
  | _, _ => (false, .bad, [])
theorem k26_ok : ∀ vs gs x, k26 vs gs = (true, x) → CallR C prim 26 vs gs x := by
  intro vs gs x h
  unfold k26 at h
  split at h
  · simp only [Prod.mk.injEq] at h
    obtain ⟨hp, rfl⟩ := h
    exact f26_run _ _ _ (f26_eq _ _ hp)
  · cases h

def K_f64_l0 : CallK := kCons 92 k92 <| kCons 93 k93 <| kCons 94 k94 <| kNil
theorem K_f64_l0_ok : KOK C prim K_f64_l0 := KOK.cons k92_ok <| KOK.cons k93_ok <| KOK.cons k94_ok <| KOK.nil
def T_f64_l0 : Tab := tNil
theorem T_f64_l0_ok : TOK C prim 64 T_f64_l0 := TOK.nil
def f64_l0 : Nat → Bool → List V → Int → Int → Int → Int → List V → List V → Bool → Int → (R : Type) → (Ex → St → Option R) → Option R
  | 0, _, _, _, _, _, _, _, _, _, _, _, _ => none
  | n + 1, to', v14, v15, v16, r130, r131, r132, r133, r134, r135, R, κ =>
    bif (decide (v16 < v15)) then
      bif (((decide ((0 : Int) ≤ v16)) && (decide (v16 < (((lenE 4 v14.length) : Nat) : Int)))) && true) then
        bif (((V.isInt .i64 (nthV v14 (((v16).toNat * 4) + 0))) && ((V.isInt .i64 (nthV v14 (((v16).toNat * 4) + 1))) && ((V.isSl 1 (nthV v14 (((v16).toNat * 4) + 2))) && ((V.isSl 1 (nthV v14 (((v16).toNat * 4) + 3))) && true)))) && true) then
          bif (((V.cellsOf (nthV v14 (((v16).toNat * 4) + 2))).all V.isStr && decide ((V.cellsOf (nthV v14 (((v16).toNat * 4) + 2))).length ≤ 1000000000) && (V.cellsOf (nthV v14 (((v16).toNat * 4) + 3))).all V.isStr && decide ((V.cellsOf (nthV v14 (((v16).toNat * 4) + 3))).length ≤ 1000000000)) && true) then
            bif ((formE (V.intOf (nthV v14 (((v16).toNat * 4) + 0))) (V.cellsOf (nthV v14 (((v16).toNat * 4) + 2))) (V.cellsOf (nthV v14 (((v16).toNat * 4) + 3))) r130 r132 r134) != 0) then
              κ .rt (mkS [(4, .sc (.int .i64 (formE (V.intOf (nthV v14 (((v16).toNat * 4) + 0))) (V.cellsOf (nthV v14 (((v16).toNat * 4) + 2))) (V.cellsOf (nthV v14 (((v16).toNat * 4) + 3))) r130 r132 r134)))] [])
            else
              bif (decide ((V.intOf (nthV v14 (((v16).toNat * 4) + 0))) > 1000000)) then
                κ .rt (mkS [(4, .sc (.int .i64 3))] [])
              else
                bif to' then
                  bif (!(placB (V.intOf (nthV v14 (((v16).toNat * 4) + 0))) (V.intOf (nthV v14 (((v16).toNat * 4) + 1))) r135)) then
                    κ .rt (mkS [(4, .sc (.int .i64 19))] [])
                  else
                    f64_l0 n to' v14 v15 (IntKind.wrap .i64 (v16 + 1)) (V.intOf (nthV v14 (((v16).toNat * 4) + 0))) (V.intOf (nthV v14 (((v16).toNat * 4) + 1))) (V.cellsOf (nthV v14 (((v16).toNat * 4) + 2))) (V.cellsOf (nthV v14 (((v16).toNat * 4) + 3))) true (dltI r135 (V.cellsOf (nthV v14 (((v16).toNat * 4) + 2))) (V.cellsOf (nthV v14 (((v16).toNat * 4) + 3)))) R κ
                else
                  f64_l0 n to' v14 v15 (IntKind.wrap .i64 (v16 + 1)) (V.intOf (nthV v14 (((v16).toNat * 4) + 0))) (V.intOf (nthV v14 (((v16).toNat * 4) + 1))) (V.cellsOf (nthV v14 (((v16).toNat * 4) + 2))) (V.cellsOf (nthV v14 (((v16).toNat * 4) + 3))) true (dltI r135 (V.cellsOf (nthV v14 (((v16).toNat * 4) + 2))) (V.cellsOf (nthV v14 (((v16).toNat * 4) + 3)))) R κ
          else none
        else none
      else none
    else
      κ (.ex 0) (mkS [(4, .bad)] [])
def f64_l0_ls : List (Nat × Pat) := [(1, .b), (5, .is (.ptrB (.loc 13) 0)), (14, .sl 4), (15, .i .i64), (16, .i .i64)]
def f64_l0_rs : List RPat := [⟨.loc 13, true, [.i .i64, .i .i64, .sl 1, .sl 1, .b, .i .i64]⟩]
theorem f64_l0_ok (n : Nat) : ∀ (to' : Bool) (v14 : List V) (v15 : Int) (v16 : Int) (r130 : Int) (r131 : Int) (r132 : List V) (r133 : List V) (r134 : Bool) (r135 : Int) (R : Type) (κ : Ex → St → Option R) (r : R), f64_l0 n to' v14 v15 v16 r130 r131 r132 r133 r134 r135 R κ = some r → ∃ ee ss, κ ee ss = some r ∧ RunP C prim 64 [0, 1, 0, 1, 1, 1] (mkS [(1, .sc (.bool to')), (5, .ptrB (.loc 13) 0), (14, .sl 4 v14), (15, .sc (.int .i64 v15)), (16, .sc (.int .i64 v16))] [(.loc 13, some ⟨true, [.sc (.int .i64 r130), .sc (.int .i64 r131), .sl 1 r132, .sl 1 r133, .sc (.bool r134), .sc (.int .i64 r135)]⟩)]) ee ss := by
  induction n with
  | zero => intro to' v14 v15 v16 r130 r131 r132 r133 r134 r135 R κ r h; cases h
  | succ n ih =>
    intro to' v14 v15 v16 r130 r131 r132 r133 r134 r135 R κ r h
    refine loop_round (K := K_f64_l0) (T := T_f64_l0) K_f64_l0_ok T_f64_l0_ok (p := [0, 1, 0, 1, 1, 1]) (by kernel_rfl) (fun st => bif ckS f64_l0_ls f64_l0_rs st then f64_l0 n ((st.env 1).boolOf) ((st.env 14).cellsOf) ((st.env 15).intOf) ((st.env 16).intOf) ((nthV (rowOf (st.regs (.loc 13))) 0).intOf) ((nthV (rowOf (st.regs (.loc 13))) 1).intOf) ((nthV (rowOf (st.regs (.loc 13))) 2).cellsOf) ((nthV (rowOf (st.regs (.loc 13))) 3).cellsOf) ((nthV (rowOf (st.regs (.loc 13))) 4).boolOf) ((nthV (rowOf (st.regs (.loc 13))) 5).intOf) R κ else none) (fun st0 h0 => ?_) ?_
    · obtain ⟨hs, h0⟩ := cond_some h0
      rw [canon (ls := f64_l0_ls) (rs := f64_l0_rs) (by kernel_rfl) st0 hs]
      exact ih _ _ _ _ _ _ _ _ _ _ R κ r h0
    · refine Eq.trans ?_ h
      kernel_rfl

def f64_s0 (to' : Bool) (v14 : List V) (v15 : Int) (v16 : Int) (r130 : Int) (r131 : Int) (r132 : List V) (r133 : List V) (r134 : Bool) (r135 : Int) (R : Type) (κ : Ex → St → Option R) : Option R :=
  bif ((trRun to' (⟨r130, r131, r132, r133, r134, r135⟩ : WS) v14) != 0) then
    κ .rt (mkS [(4, .sc (.int .i64 (trRun to' (⟨r130, r131, r132, r133, r134, r135⟩ : WS) v14)))] [])
  else
    κ (.ex 0) (mkS [(4, .bad)] [])
def fin64 (r : Int) (R : Type) (κ : Ex → St → Option R) : Option R :=
  bif r != 0 then κ .rt (mkS [(4, .sc (.int .i64 r))] []) else κ (.ex 0) (mkS [(4, .bad)] [])
theorem f64_l0_c (v14 : List V) (to' : Bool) (q : Nat) (hq : v14.length = 4 * q) (hl : v14.length ≤ 1000000000) : ∀ (m k : Nat) (s : WS), k + m = q → okHs (v14.drop (k * 4)) = true → ∀ n, m < n → ∀ (R : Type) (κ : Ex → St → Option R),
    f64_l0 n to' v14 ((q : Nat) : Int) (k : Int) s.f s.t s.o s.w s.any s.d R κ = fin64 (trRun to' s (v14.drop (k * 4))) R κ := by
  intro m
  induction m with
  | zero =>
    intro k s hk ho n hn R κ
    obtain ⟨n, rfl⟩ : ∃ j, n = j + 1 := ⟨n - 1, by omega⟩
    rw [f64_l0, dec_false (by omega), List.drop_of_length_le (l := v14) (by omega)]
    rfl
  | succ m ih =>
    intro k s hk o1 n hn R κ
    obtain ⟨n, rfl⟩ : ∃ j, n = j + 1 := ⟨n - 1, by omega⟩
    obtain ⟨f, t, o, w, r, hd, hok, hr⟩ := okHs_cons o1 (by intro e; have := congrArg List.length e; rw [List.length_drop] at this; simp only [List.length_nil] at this; omega)
    obtain ⟨n0, n1, n2, n3, hd2, hk4⟩ := drop4 hd
    obtain ⟨p0, p1, ⟨p2, p3, p4⟩, ⟨p5, p6, p7⟩⟩ := okH_spec hok
    have IH := ih (k + 1) ⟨f.intOf, t.intOf, o.cellsOf, w.cellsOf, true, dltI s.d o.cellsOf w.cellsOf⟩ (by omega) (by rw [hd2]; exact hr) n (by omega) R κ
    rw [hd2] at IH
    rw [f64_l0, dec_true (show (k : Int) < ((q : Nat) : Int) by omega), dec_true (show (0 : Int) ≤ (k : Int) by omega), dec_true (show (k : Int) < ((lenE 4 v14.length : Nat) : Int) by omega), n0, n1, n2, n3, p0, p1, p2, p3, p5, p6, dec_true p4, dec_true p7, wrap_succ (by omega), hd, trRun]
    simp only [Bool.and_true, cond_true]
    cases h1 : formE f.intOf o.cellsOf w.cellsOf s.f s.o s.any != 0 with
    | true => simp only [cond_true, fin64, h1]
    | false =>
    simp only [cond_false]
    by_cases h2 : f.intOf > 1000000
    · rw [dec_true h2]; rfl
    rw [dec_false h2]
    cases to' with
    | false => exact IH
    | true =>
    cases placB f.intOf t.intOf s.d with
    | false => rfl
    | true => exact IH
theorem f64_s0_eq (to' : Bool) (v14 : List V) (v15 : Int) (v16 : Int) (r130 : Int) (r131 : Int) (r132 : List V) (r133 : List V) (r134 : Bool) (r135 : Int) (hp : ((v15 == ((lenE 4 v14.length : Nat) : Int)) && (v16 == 0) && okHs v14 && decide (v14.length ≤ 1000000000)) = true) : ∃ n, ∀ (R : Type) (κ : Ex → St → Option R), f64_l0 n to' v14 v15 v16 r130 r131 r132 r133 r134 r135 R κ = f64_s0 to' v14 v15 v16 r130 r131 r132 r133 r134 r135 R κ := by
  simp only [Bool.and_eq_true, decide_eq_true_eq, beq_iff_eq] at hp
  obtain ⟨⟨⟨rfl, rfl⟩, h1⟩, h2⟩ := hp
  obtain ⟨q, hq⟩ := okHs_len _ h1
  have e : lenE 4 v14.length = q := by show v14.length / 4 = q; omega
  rw [e]
  refine ⟨q + 1, fun R κ => ?_⟩
  have := f64_l0_c v14 to' q hq h2 q 0 ⟨r130, r131, r132, r133, r134, r135⟩ (by omega) (by simpa using h1) (q + 1) (by omega) R κ
  rw [Nat.zero_mul, List.drop_zero] at this
  exact this
def t_f64_l0 (st : St) (R : Type) (κ : Ex → St → Option R) : Option R := bif ckS f64_l0_ls f64_l0_rs st then (bif ((((st.env 15).intOf) == ((lenE 4 ((st.env 14).cellsOf).length : Nat) : Int)) && (((st.env 16).intOf) == 0) && okHs ((st.env 14).cellsOf) && decide (((st.env 14).cellsOf).length ≤ 1000000000)) then f64_s0 ((st.env 1).boolOf) ((st.env 14).cellsOf) ((st.env 15).intOf) ((st.env 16).intOf) ((nthV (rowOf (st.regs (.loc 13))) 0).intOf) ((nthV (rowOf (st.regs (.loc 13))) 1).intOf) ((nthV (rowOf (st.regs (.loc 13))) 2).cellsOf) ((nthV (rowOf (st.regs (.loc 13))) 3).cellsOf) ((nthV (rowOf (st.regs (.loc 13))) 4).boolOf) ((nthV (rowOf (st.regs (.loc 13))) 5).intOf) R κ else none) else none
theorem t_f64_l0_ok : ∀ st0 R κ r, t_f64_l0 (forget C 64 [0, 1, 0, 1, 1, 1] st0) R κ = some r → ∃ ee ss, κ ee ss = some r ∧ RunP C prim 64 [0, 1, 0, 1, 1, 1] (forget C 64 [0, 1, 0, 1, 1, 1] st0) ee ss := by
  intro st0 R κ r h
  obtain ⟨hs, h⟩ := cond_some h
  obtain ⟨hp, h⟩ := cond_some h
  rw [canon (ls := f64_l0_ls) (rs := f64_l0_rs) (by kernel_rfl) st0 hs]
  obtain ⟨n, hn⟩ := f64_s0_eq _ _ _ _ _ _ _ _ _ _ hp
  rw [← hn] at h
  exact f64_l0_ok n _ _ _ _ _ _ _ _ _ _ R κ r h

def K_f64 : CallK := kNil
theorem K_f64_ok : KOK C prim K_f64 := KOK.nil
def T_f64 : Tab := tCons [0, 1, 0, 1, 1, 1] t_f64_l0 <| tNil
theorem T_f64_ok : TOK C prim 64 T_f64 := TOK.cons t_f64_l0_ok <| TOK.nil
def f64 (l : List V) (to' : Bool) : Option (V × List Rg) :=
  bif (decide ((((lenE 4 l.length) : Nat) : Int) > 1000)) then
    some (.sc (.int .i64 2), [])
  else
    bif (((((lenE 4 l.length) : Nat) : Int) == ((lenE 4 l.length : Nat) : Int)) && ((0 : Int) == 0) && okHs l && decide (l.length ≤ 1000000000)) then
      bif ((trRun to' (⟨(0 : Int), (0 : Int), ([] : List V), ([] : List V), false, (0 : Int)⟩ : WS) l) != 0) then
        some (.sc (.int .i64 (trRun to' (⟨(0 : Int), (0 : Int), ([] : List V), ([] : List V), false, (0 : Int)⟩ : WS) l)), [])
      else
        some (.sc (.int .i64 0), [])
    else none
theorem f64_run (l : List V) (to' : Bool) (z9 : V × List Rg) (h : f64 l to' = some z9) : CallR C prim 64 [.sl 4 l, .sc (.bool to')] [] z9 := by
  refine call_fn (K := K_f64) (T := T_f64) K_f64_ok T_f64_ok (by kernel_rfl) ?_
  refine Eq.trans ?_ h
  kernel_rfl

theorem f64_eq (l : List V) (to' : Bool) (hp : (okHs l && decide (l.length ≤ 1000000000)) = true) : f64 l to' = some (.sc (.int .i64 (trE to' l)), []) := by
  simp only [Bool.and_eq_true, decide_eq_true_eq] at hp
  have e : (⟨(0 : Int), (0 : Int), ([] : List V), ([] : List V), false, (0 : Int)⟩ : WS) = w0 := rfl
  unfold f64 trE
  rw [e, hp.1, dec_true hp.2, beq_self_eq_true]
  cases decide (((lenE 4 l.length : Nat) : Int) > 1000) with
  | true => rfl
  | false =>
    have := zero_or (x := trRun to' w0 l) (fun e => (some (V.sc (.int .i64 e), []) : Option (V × List Rg)))
    exact this
def k64 : PrimT := fun vs gs => match vs, gs with
  | [.sl 4 l, .sc (.bool to')], [] => ((okHs l && decide (l.length ≤ 1000000000)), .sc (.int .i64 (trE to' l)), [])
  | _, _ => (false, .bad, [])
theorem k64_ok : ∀ vs gs x, k64 vs gs = (true, x) → CallR C prim 64 vs gs x := by
  intro vs gs x h
  unfold k64 at h
  split at h
  · simp only [Prod.mk.injEq] at h
    obtain ⟨hp, rfl⟩ := h
    exact f64_run _ _ _ (f64_eq _ _ hp)
  · cases h

def K_f28_l0 : CallK := kCons 65 k65 <| kNil
theorem K_f28_l0_ok : KOK C prim K_f28_l0 := KOK.cons k65_ok <| KOK.nil
def T_f28_l0 : Tab := tNil
theorem T_f28_l0_ok : TOK C prim 28 T_f28_l0 := TOK.nil
def f28_l0 : Nat → List V → Int → Int → List V → (R : Type) → (Ex → St → Option R) → Option R
  | 0, _, _, _, _, _, _ => none
  | n + 1, v13, v14, v15, out, R, κ =>
    bif (decide (v15 < v14)) then
      bif (((decide ((0 : Int) ≤ v15)) && (decide (v15 < (((lenE 4 v13.length) : Nat) : Int)))) && true) then
        bif (((V.isInt .i64 (nthV v13 (((v15).toNat * 4) + 0))) && ((V.isInt .i64 (nthV v13 (((v15).toNat * 4) + 1))) && ((V.isSl 1 (nthV v13 (((v15).toNat * 4) + 2))) && ((V.isSl 1 (nthV v13 (((v15).toNat * 4) + 3))) && true)))) && true) then
          bif ((decide (((V.cellsOf (nthV v13 (((v15).toNat * 4) + 3)))).length * 16 ≤ 140737488355328) && (V.cellsOf (nthV v13 (((v15).toNat * 4) + 3))).all V.isStr) && true) then
            bif ((decide (((V.cellsOf (nthV v13 (((v15).toNat * 4) + 2)))).length * 16 ≤ 140737488355328) && (V.cellsOf (nthV v13 (((v15).toNat * 4) + 2))).all V.isStr) && true) then
              bif (((roomy (((lenE 4 out.length) + 1) * 64)) && (roomy ((lenE 4 out.length) + 1))) && true) then
                f28_l0 n v13 v14 (IntKind.wrap .i64 (v15 + 1)) (out ++ [.sc (.int .i64 (V.intOf (nthV v13 (((v15).toNat * 4) + 1)))), .sc (.int .i64 (V.intOf (nthV v13 (((v15).toNat * 4) + 0)))), .sl 1 (V.cellsOf (nthV v13 (((v15).toNat * 4) + 3))), .sl 1 (V.cellsOf (nthV v13 (((v15).toNat * 4) + 2)))]) R κ
              else none
            else none
          else none
        else none
      else none
    else
      κ (.ex 0) (mkS [(2, .bad), (3, .bad), (5, .ref ⟨.loc 5, 0, [], 57, false⟩)] [(.loc 5, some ⟨false, [.own 57 false out]⟩)])
def f28_l0_ls : List (Nat × Pat) := [(5, .is (.ref ⟨.loc 5, 0, [], 57, false⟩)), (13, .sl 4), (14, .i .i64), (15, .i .i64)]
def f28_l0_rs : List RPat := [⟨.loc 5, false, [.own 57 false]⟩]
theorem f28_l0_ok (n : Nat) : ∀ (v13 : List V) (v14 : Int) (v15 : Int) (out : List V) (R : Type) (κ : Ex → St → Option R) (r : R), f28_l0 n v13 v14 v15 out R κ = some r → ∃ ee ss, κ ee ss = some r ∧ RunP C prim 28 [0, 1, 0, 1, 1, 1] (mkS [(5, .ref ⟨.loc 5, 0, [], 57, false⟩), (13, .sl 4 v13), (14, .sc (.int .i64 v14)), (15, .sc (.int .i64 v15))] [(.loc 5, some ⟨false, [.own 57 false out]⟩)]) ee ss := by
  induction n with
  | zero => intro v13 v14 v15 out R κ r h; cases h
  | succ n ih =>
    intro v13 v14 v15 out R κ r h
    refine loop_round (K := K_f28_l0) (T := T_f28_l0) K_f28_l0_ok T_f28_l0_ok (p := [0, 1, 0, 1, 1, 1]) (by kernel_rfl) (fun st => bif ckS f28_l0_ls f28_l0_rs st then f28_l0 n ((st.env 13).cellsOf) ((st.env 14).intOf) ((st.env 15).intOf) ((nthV (rowOf (st.regs (.loc 5))) 0).cellsOf) R κ else none) (fun st0 h0 => ?_) ?_
    · obtain ⟨hs, h0⟩ := cond_some h0
      rw [canon (ls := f28_l0_ls) (rs := f28_l0_rs) (by kernel_rfl) st0 hs]
      exact ih _ _ _ _ R κ r h0
    · refine Eq.trans ?_ h
      kernel_rfl

def f28_s0 (v13 : List V) (v14 : Int) (v15 : Int) (out : List V) (R : Type) (κ : Ex → St → Option R) : Option R :=
  κ (.ex 0) (mkS [(2, .bad), (3, .bad), (5, .ref ⟨.loc 5, 0, [], 57, false⟩)] [(.loc 5, some ⟨false, [.own 57 false (out ++ turnC v13)]⟩)])
theorem f28_l0_c (v13 : List V) (q : Nat) (hq : v13.length = 4 * q) (hl : v13.length ≤ 1000000000) : ∀ (m k : Nat) (out : List V), k + m = q → okHs (v13.drop (k * 4)) = true → out.length + 4 * m ≤ 5000000000 → ∀ n, m < n → ∀ (R : Type) (κ : Ex → St → Option R),
    f28_l0 n v13 ((q : Nat) : Int) (k : Int) out R κ = κ (.ex 0) (mkS [(2, .bad), (3, .bad), (5, .ref ⟨.loc 5, 0, [], 57, false⟩)] [(.loc 5, some ⟨false, [.own 57 false (out ++ turnC (v13.drop (k * 4)))]⟩)]) := by
  intro m
  induction m with
  | zero =>
    intro k out hk ho hs n hn R κ
    obtain ⟨n, rfl⟩ : ∃ j, n = j + 1 := ⟨n - 1, by omega⟩
    rw [f28_l0, dec_false (by omega), List.drop_of_length_le (l := v13) (by omega)]
    show κ _ _ = κ _ (mkS _ [(_, some ⟨false, [.own 57 false (out ++ [])]⟩)])
    rw [List.append_nil]
  | succ m ih =>
    intro k out hk o1 hs n hn R κ
    obtain ⟨n, rfl⟩ : ∃ j, n = j + 1 := ⟨n - 1, by omega⟩
    obtain ⟨f, t, o, w, r, hd, hok, hr⟩ := okHs_cons o1 (by intro e; have := congrArg List.length e; rw [List.length_drop] at this; simp only [List.length_nil] at this; omega)
    obtain ⟨n0, n1, n2, n3, hd2, hk4⟩ := drop4 hd
    obtain ⟨p0, p1, ⟨p2, p3, p4⟩, ⟨p5, p6, p7⟩⟩ := okH_spec hok
    have IH := ih (k + 1) (out ++ [.sc (.int .i64 t.intOf), .sc (.int .i64 f.intOf), .sl 1 w.cellsOf, .sl 1 o.cellsOf]) (by omega) (by rw [hd2]; exact hr) (by simp only [List.length_append, List.length_cons, List.length_nil]; omega) n (by omega) R κ
    rw [hd2] at IH
    have rr : (roomy ((lenE 4 out.length + 1) * 64) && roomy (lenE 4 out.length + 1)) = true := by
      have : lenE 4 out.length = out.length / 4 := rfl
      unfold roomy
      rw [this, dec_true (by omega), dec_true (by omega)]; rfl
    rw [f28_l0, dec_true (show (k : Int) < ((q : Nat) : Int) by omega), dec_true (show (0 : Int) ≤ (k : Int) by omega), dec_true (show (k : Int) < ((lenE 4 v13.length : Nat) : Int) by omega), n0, n1, n2, n3, p0, p1, p2, p3, p5, p6, dec_true (show o.cellsOf.length * 16 ≤ 140737488355328 by omega), dec_true (show w.cellsOf.length * 16 ≤ 140737488355328 by omega), rr, wrap_succ (by omega), hd]
    simp only [Bool.and_true, cond_true]
    rw [IH, List.append_assoc]
    rfl
theorem f28_s0_eq (v13 : List V) (v14 : Int) (v15 : Int) (out : List V) (hp : ((v14 == ((lenE 4 v13.length : Nat) : Int)) && (v15 == 0) && okHs v13 && decide (v13.length ≤ 1000000000) && decide (out.length ≤ 1000000000)) = true) : ∃ n, ∀ (R : Type) (κ : Ex → St → Option R), f28_l0 n v13 v14 v15 out R κ = f28_s0 v13 v14 v15 out R κ := by
  simp only [Bool.and_eq_true, decide_eq_true_eq, beq_iff_eq] at hp
  obtain ⟨⟨⟨⟨rfl, rfl⟩, h1⟩, h2⟩, h3⟩ := hp
  obtain ⟨q, hq⟩ := okHs_len _ h1
  have e : lenE 4 v13.length = q := by show v13.length / 4 = q; omega
  rw [e]
  refine ⟨q + 1, fun R κ => ?_⟩
  have := f28_l0_c v13 q hq h2 q 0 out (by omega) (by simpa using h1) (by omega) (q + 1) (by omega) R κ
  rw [Nat.zero_mul, List.drop_zero] at this
  exact this
def t_f28_l0 (st : St) (R : Type) (κ : Ex → St → Option R) : Option R := bif ckS f28_l0_ls f28_l0_rs st then (bif ((((st.env 14).intOf) == ((lenE 4 ((st.env 13).cellsOf).length : Nat) : Int)) && (((st.env 15).intOf) == 0) && okHs ((st.env 13).cellsOf) && decide (((st.env 13).cellsOf).length ≤ 1000000000) && decide (((nthV (rowOf (st.regs (.loc 5))) 0).cellsOf).length ≤ 1000000000)) then f28_s0 ((st.env 13).cellsOf) ((st.env 14).intOf) ((st.env 15).intOf) ((nthV (rowOf (st.regs (.loc 5))) 0).cellsOf) R κ else none) else none
theorem t_f28_l0_ok : ∀ st0 R κ r, t_f28_l0 (forget C 28 [0, 1, 0, 1, 1, 1] st0) R κ = some r → ∃ ee ss, κ ee ss = some r ∧ RunP C prim 28 [0, 1, 0, 1, 1, 1] (forget C 28 [0, 1, 0, 1, 1, 1] st0) ee ss := by
  intro st0 R κ r h
  obtain ⟨hs, h⟩ := cond_some h
  obtain ⟨hp, h⟩ := cond_some h
  rw [canon (ls := f28_l0_ls) (rs := f28_l0_rs) (by kernel_rfl) st0 hs]
  obtain ⟨n, hn⟩ := f28_s0_eq _ _ _ _ hp
  rw [← hn] at h
  exact f28_l0_ok n _ _ _ _ R κ r h

def K_f28 : CallK := kCons 64 k64 <| kNil
theorem K_f28_ok : KOK C prim K_f28 := KOK.cons k64_ok <| KOK.nil
def T_f28 : Tab := tCons [0, 1, 0, 1, 1, 1] t_f28_l0 <| tNil
theorem T_f28_ok : TOK C prim 28 T_f28 := TOK.cons t_f28_l0_ok <| TOK.nil
def f28 (l : List V) : Option (V × List Rg) :=
  bif ((okHs l && decide (l.length ≤ 1000000000)) && true) then
    bif ((trE true l) != 0) then
      some (.tp [.own 57 false [], .sc (.int .i64 (trE true l))], [])
    else
      bif (((((lenE 4 l.length) : Nat) : Int) == ((lenE 4 l.length : Nat) : Int)) && ((0 : Int) == 0) && okHs l && decide (l.length ≤ 1000000000) && decide (([] : List V).length ≤ 1000000000)) then
        some (.tp [.own 57 false (([] : List V) ++ turnC l), .sc (.int .i64 0)], [])
      else none
  else none
theorem f28_run (l : List V) (z9 : V × List Rg) (h : f28 l = some z9) : CallR C prim 28 [.sl 4 l] [] z9 := by
  refine call_fn (K := K_f28) (T := T_f28) K_f28_ok T_f28_ok (by kernel_rfl) ?_
  refine Eq.trans ?_ h
  kernel_rfl

theorem f28_eq (l : List V) (hp : (okHs l && decide (l.length ≤ 1000000000)) = true) : f28 l = some (.tp [.own 57 false (turnL l), .sc (.int .i64 (trE true l))], []) := by
  simp only [Bool.and_eq_true, decide_eq_true_eq] at hp
  unfold f28 turnL
  rw [hp.1, dec_true hp.2, beq_self_eq_true]
  cases he : trE true l != 0 with
  | true => rfl
  | false =>
    have e0 : trE true l = 0 := by simpa using he
    rw [e0]
    rfl
def k28 : PrimT := fun vs gs => match vs, gs with
  | [.sl 4 l], [] => ((okHs l && decide (l.length ≤ 1000000000)), .tp [.own 57 false (turnL l), .sc (.int .i64 (trE true l))], [])
  | _, _ => (false, .bad, [])
theorem k28_ok : ∀ vs gs x, k28 vs gs = (true, x) → CallR C prim 28 vs gs x := by
  intro vs gs x h
  unfold k28 at h
  split at h
  · simp only [Prod.mk.injEq] at h
    obtain ⟨hp, rfl⟩ := h
    exact f28_run _ _ (f28_eq _ hp)
  · cases h

def K_f27_l1 : CallK := kNil
theorem K_f27_l1_ok : KOK C prim K_f27_l1 := KOK.nil
def T_f27_l1 : Tab := tNil
theorem T_f27_l1_ok : TOK C prim 27 T_f27_l1 := TOK.nil
def f27_l1 : Nat → List V → Bool → Bool → Int → Int → List V → Int → Int → List V → Int → Int → Int → Int → List V → List V → (R : Type) → (Ex → St → Option R) → Option R
  | 0, _, _, _, _, _, _, _, _, _, _, _, _, _, _, _, _, _ => none
  | n + 1, a, any, to', moved, many, v26, v27, v28, v87, v88, v89, h0, h1, h2, h3, R, κ =>
    bif (decide (v89 < v88)) then
      bif (((decide ((0 : Int) ≤ v89)) && (decide (v89 < ((v87.length : Nat) : Int)))) && true) then
        bif (((V.isStr (nthV v87 (((v89).toNat * 1) + 0))) && true) && true) then
          bif (((decide ((0 : Int) ≤ (IntKind.wrap .i64 (h0 + v89)))) && (decide ((IntKind.wrap .i64 (h0 + v89)) < ((a.length : Nat) : Int)))) && true) then
            bif (((V.isStr (nthV a ((((IntKind.wrap .i64 (h0 + v89))).toNat * 1) + 0))) && true) && true) then
              bif (!(strEq (V.strOf (nthV a ((((IntKind.wrap .i64 (h0 + v89))).toNat * 1) + 0))) (V.strOf (nthV v87 (((v89).toNat * 1) + 0))))) then
                κ .rt (mkS [(0, .sl 1 a), (1, .sc (.bool any)), (3, .sc (.bool to')), (8, .sc (.int .i64 19)), (9, .bad), (10, .sc (.int .i64 moved)), (11, .sc (.int .i64 many)), (13, .ptrB (.loc 13) 0), (26, .sl 4 v26), (27, .sc (.int .i64 v27)), (28, .sc (.int .i64 v28))] [(.loc 13, some ⟨true, [.sc (.int .i64 h0), .sc (.int .i64 h1), .sl 1 h2, .sl 1 h3]⟩)])
              else
                f27_l1 n a any to' moved many v26 v27 v28 v87 v88 (IntKind.wrap .i64 (v89 + 1)) h0 h1 h2 h3 R κ
            else none
          else none
        else none
      else none
    else
      κ (.ex 2) (mkS [(0, .sl 1 a), (1, .sc (.bool any)), (3, .sc (.bool to')), (8, .bad), (9, .bad), (10, .sc (.int .i64 moved)), (11, .sc (.int .i64 many)), (13, .ptrB (.loc 13) 0), (26, .sl 4 v26), (27, .sc (.int .i64 v27)), (28, .sc (.int .i64 v28))] [(.loc 13, some ⟨true, [.sc (.int .i64 h0), .sc (.int .i64 h1), .sl 1 h2, .sl 1 h3]⟩)])
def f27_l1_ls : List (Nat × Pat) := [(0, .sl 1), (1, .b), (3, .b), (10, .i .i64), (11, .i .i64), (13, .is (.ptrB (.loc 13) 0)), (26, .sl 4), (27, .i .i64), (28, .i .i64), (87, .sl 1), (88, .i .i64), (89, .i .i64)]
def f27_l1_rs : List RPat := [⟨.loc 13, true, [.i .i64, .i .i64, .sl 1, .sl 1]⟩]
theorem f27_l1_ok (n : Nat) : ∀ (a : List V) (any : Bool) (to' : Bool) (moved : Int) (many : Int) (v26 : List V) (v27 : Int) (v28 : Int) (v87 : List V) (v88 : Int) (v89 : Int) (h0 : Int) (h1 : Int) (h2 : List V) (h3 : List V) (R : Type) (κ : Ex → St → Option R) (r : R), f27_l1 n a any to' moved many v26 v27 v28 v87 v88 v89 h0 h1 h2 h3 R κ = some r → ∃ ee ss, κ ee ss = some r ∧ RunP C prim 27 [0, 1, 0, 1, 0, 1, 1, 1, 1, 1, 1, 1, 1, 0, 0, 1, 1, 0, 0, 1, 0, 1, 1, 1] (mkS [(0, .sl 1 a), (1, .sc (.bool any)), (3, .sc (.bool to')), (10, .sc (.int .i64 moved)), (11, .sc (.int .i64 many)), (13, .ptrB (.loc 13) 0), (26, .sl 4 v26), (27, .sc (.int .i64 v27)), (28, .sc (.int .i64 v28)), (87, .sl 1 v87), (88, .sc (.int .i64 v88)), (89, .sc (.int .i64 v89))] [(.loc 13, some ⟨true, [.sc (.int .i64 h0), .sc (.int .i64 h1), .sl 1 h2, .sl 1 h3]⟩)]) ee ss := by
  induction n with
  | zero => intro a any to' moved many v26 v27 v28 v87 v88 v89 h0 h1 h2 h3 R κ r h; cases h
  | succ n ih =>
    intro a any to' moved many v26 v27 v28 v87 v88 v89 h0 h1 h2 h3 R κ r h
    refine loop_round (K := K_f27_l1) (T := T_f27_l1) K_f27_l1_ok T_f27_l1_ok (p := [0, 1, 0, 1, 0, 1, 1, 1, 1, 1, 1, 1, 1, 0, 0, 1, 1, 0, 0, 1, 0, 1, 1, 1]) (by kernel_rfl) (fun st => bif ckS f27_l1_ls f27_l1_rs st then f27_l1 n ((st.env 0).cellsOf) ((st.env 1).boolOf) ((st.env 3).boolOf) ((st.env 10).intOf) ((st.env 11).intOf) ((st.env 26).cellsOf) ((st.env 27).intOf) ((st.env 28).intOf) ((st.env 87).cellsOf) ((st.env 88).intOf) ((st.env 89).intOf) ((nthV (rowOf (st.regs (.loc 13))) 0).intOf) ((nthV (rowOf (st.regs (.loc 13))) 1).intOf) ((nthV (rowOf (st.regs (.loc 13))) 2).cellsOf) ((nthV (rowOf (st.regs (.loc 13))) 3).cellsOf) R κ else none) (fun st0 h0 => ?_) ?_
    · obtain ⟨hs, h0⟩ := cond_some h0
      rw [canon (ls := f27_l1_ls) (rs := f27_l1_rs) (by kernel_rfl) st0 hs]
      exact ih _ _ _ _ _ _ _ _ _ _ _ _ _ _ _ R κ r h0
    · refine Eq.trans ?_ h
      kernel_rfl

def f27_s1 (a : List V) (any : Bool) (to' : Bool) (moved : Int) (many : Int) (v26 : List V) (v27 : Int) (v28 : Int) (v87 : List V) (v88 : Int) (v89 : Int) (h0 : Int) (h1 : Int) (h2 : List V) (h3 : List V) (R : Type) (κ : Ex → St → Option R) : Option R :=
  bif (eqS ((a.drop h0.toNat).take v87.length) v87) then
    κ (.ex 2) (mkS [(0, .sl 1 a), (1, .sc (.bool any)), (3, .sc (.bool to')), (8, .bad), (9, .bad), (10, .sc (.int .i64 moved)), (11, .sc (.int .i64 many)), (13, .ptrB (.loc 13) 0), (26, .sl 4 v26), (27, .sc (.int .i64 v27)), (28, .sc (.int .i64 v28))] [(.loc 13, some ⟨true, [.sc (.int .i64 h0), .sc (.int .i64 h1), .sl 1 h2, .sl 1 h3]⟩)])
  else
    κ .rt (mkS [(0, .sl 1 a), (1, .sc (.bool any)), (3, .sc (.bool to')), (8, .sc (.int .i64 19)), (9, .bad), (10, .sc (.int .i64 moved)), (11, .sc (.int .i64 many)), (13, .ptrB (.loc 13) 0), (26, .sl 4 v26), (27, .sc (.int .i64 v27)), (28, .sc (.int .i64 v28))] [(.loc 13, some ⟨true, [.sc (.int .i64 h0), .sc (.int .i64 h1), .sl 1 h2, .sl 1 h3]⟩)])
def fin27 (a : List V) (any to' : Bool) (moved many : Int) (v26 : List V) (v27 v28 : Int) (h0 h1 : Int) (h2 h3 : List V) (c : Bool) (R : Type) (κ : Ex → St → Option R) : Option R :=
  bif c then κ (.ex 2) (mkS [(0, .sl 1 a), (1, .sc (.bool any)), (3, .sc (.bool to')), (8, .bad), (9, .bad), (10, .sc (.int .i64 moved)), (11, .sc (.int .i64 many)), (13, .ptrB (.loc 13) 0), (26, .sl 4 v26), (27, .sc (.int .i64 v27)), (28, .sc (.int .i64 v28))] [(.loc 13, some ⟨true, [.sc (.int .i64 h0), .sc (.int .i64 h1), .sl 1 h2, .sl 1 h3]⟩)])
  else κ .rt (mkS [(0, .sl 1 a), (1, .sc (.bool any)), (3, .sc (.bool to')), (8, .sc (.int .i64 19)), (9, .bad), (10, .sc (.int .i64 moved)), (11, .sc (.int .i64 many)), (13, .ptrB (.loc 13) 0), (26, .sl 4 v26), (27, .sc (.int .i64 v27)), (28, .sc (.int .i64 v28))] [(.loc 13, some ⟨true, [.sc (.int .i64 h0), .sc (.int .i64 h1), .sl 1 h2, .sl 1 h3]⟩)])
theorem f27_l1_c (a : List V) (any to' : Bool) (moved many : Int) (v26 : List V) (v27 v28 : Int) (v87 : List V) (h0 : Nat) (h1 : Int) (h2 h3 : List V) (hv : v87.all V.isStr = true) (ha : a.all V.isStr = true) (lv : v87.length ≤ 1000000000) (la : a.length ≤ 2000000) (hf : h0 + v87.length ≤ a.length) : ∀ (m k : Nat), k + m = v87.length → ∀ n, m < n → ∀ (R : Type) (κ : Ex → St → Option R),
    f27_l1 n a any to' moved many v26 v27 v28 v87 ((v87.length : Nat) : Int) (k : Int) (h0 : Int) h1 h2 h3 R κ = fin27 a any to' moved many v26 v27 v28 (h0 : Int) h1 h2 h3 (eqS ((a.drop (h0 + k)).take m) (v87.drop k)) R κ := by
  intro m
  induction m with
  | zero =>
    intro k hk n hn R κ
    obtain ⟨n, rfl⟩ : ∃ j, n = j + 1 := ⟨n - 1, by omega⟩
    rw [f27_l1, dec_false (by omega), List.drop_of_length_le (l := v87) (by omega)]
    rfl
  | succ m ih =>
    intro k hk n hn R κ
    obtain ⟨n, rfl⟩ : ∃ j, n = j + 1 := ⟨n - 1, by omega⟩
    have k1 : k < v87.length := by omega
    have k2 : h0 + k < a.length := by omega
    have i1 : V.isStr v87[k] = true := List.all_eq_true.1 hv _ (List.getElem_mem k1)
    have i2 : V.isStr a[h0 + k] = true := List.all_eq_true.1 ha _ (List.getElem_mem k2)
    have w1 : IntKind.wrap .i64 ((h0 : Int) + (k : Int)) = ((h0 + k : Nat) : Int) := by rw [wrap_id (by omega) (by omega)]; simp
    rw [f27_l1, w1, dec_true (show (k : Int) < ((v87.length : Nat) : Int) by omega), dec_true (show (0 : Int) ≤ (k : Int) by omega), dec_true (show (0 : Int) ≤ ((h0 + k : Nat) : Int) by omega), dec_true (show ((h0 + k : Nat) : Int) < ((a.length : Nat) : Int) by omega), nth_at k1, nth_at k2, i1, i2, wrap_succ (by omega), ih (k + 1) (by omega) n (by omega) R κ]
    rw [List.drop_eq_getElem_cons k1, List.drop_eq_getElem_cons k2, List.take_succ_cons]
    show _ = fin27 a any to' moved many v26 v27 v28 (h0 : Int) h1 h2 h3 (strEq a[h0 + k].strOf v87[k].strOf && eqS ((a.drop (h0 + k + 1)).take m) (v87.drop (k + 1))) R κ
    cases strEq a[h0 + k].strOf v87[k].strOf <;> rfl
theorem f27_s1_eq (a : List V) (any : Bool) (to' : Bool) (moved : Int) (many : Int) (v26 : List V) (v27 : Int) (v28 : Int) (v87 : List V) (v88 : Int) (v89 : Int) (h0 : Int) (h1 : Int) (h2 : List V) (h3 : List V) (hp : ((v88 == ((v87.length : Nat) : Int)) && (v89 == 0) && v87.all V.isStr && a.all V.isStr && decide (v87.length ≤ 1000000000) && decide (0 ≤ h0) && decide (h0 + ((v87.length : Nat) : Int) ≤ ((a.length : Nat) : Int)) && decide (a.length ≤ 2000000)) = true) : ∃ n, ∀ (R : Type) (κ : Ex → St → Option R), f27_l1 n a any to' moved many v26 v27 v28 v87 v88 v89 h0 h1 h2 h3 R κ = f27_s1 a any to' moved many v26 v27 v28 v87 v88 v89 h0 h1 h2 h3 R κ := by
  simp only [Bool.and_eq_true, decide_eq_true_eq, beq_iff_eq] at hp
  obtain ⟨⟨⟨⟨⟨⟨⟨rfl, rfl⟩, g1⟩, g2⟩, g3⟩, g4⟩, g5⟩, g6⟩ := hp
  obtain ⟨j, rfl⟩ : ∃ j : Nat, h0 = (j : Int) := ⟨h0.toNat, by omega⟩
  exact ⟨v87.length + 1, fun R κ => f27_l1_c a any to' moved many v26 v27 v28 v87 j h1 h2 h3 g1 g2 g3 g6 (by omega) v87.length 0 (by omega) _ (by omega) R κ⟩
def t_f27_l1 (st : St) (R : Type) (κ : Ex → St → Option R) : Option R := bif ckS f27_l1_ls f27_l1_rs st then (bif ((((st.env 88).intOf) == ((((st.env 87).cellsOf).length : Nat) : Int)) && (((st.env 89).intOf) == 0) && ((st.env 87).cellsOf).all V.isStr && ((st.env 0).cellsOf).all V.isStr && decide (((st.env 87).cellsOf).length ≤ 1000000000) && decide (0 ≤ ((nthV (rowOf (st.regs (.loc 13))) 0).intOf)) && decide (((nthV (rowOf (st.regs (.loc 13))) 0).intOf) + ((((st.env 87).cellsOf).length : Nat) : Int) ≤ ((((st.env 0).cellsOf).length : Nat) : Int)) && decide (((st.env 0).cellsOf).length ≤ 2000000)) then f27_s1 ((st.env 0).cellsOf) ((st.env 1).boolOf) ((st.env 3).boolOf) ((st.env 10).intOf) ((st.env 11).intOf) ((st.env 26).cellsOf) ((st.env 27).intOf) ((st.env 28).intOf) ((st.env 87).cellsOf) ((st.env 88).intOf) ((st.env 89).intOf) ((nthV (rowOf (st.regs (.loc 13))) 0).intOf) ((nthV (rowOf (st.regs (.loc 13))) 1).intOf) ((nthV (rowOf (st.regs (.loc 13))) 2).cellsOf) ((nthV (rowOf (st.regs (.loc 13))) 3).cellsOf) R κ else none) else none
theorem t_f27_l1_ok : ∀ st0 R κ r, t_f27_l1 (forget C 27 [0, 1, 0, 1, 0, 1, 1, 1, 1, 1, 1, 1, 1, 0, 0, 1, 1, 0, 0, 1, 0, 1, 1, 1] st0) R κ = some r → ∃ ee ss, κ ee ss = some r ∧ RunP C prim 27 [0, 1, 0, 1, 0, 1, 1, 1, 1, 1, 1, 1, 1, 0, 0, 1, 1, 0, 0, 1, 0, 1, 1, 1] (forget C 27 [0, 1, 0, 1, 0, 1, 1, 1, 1, 1, 1, 1, 1, 0, 0, 1, 1, 0, 0, 1, 0, 1, 1, 1] st0) ee ss := by
  intro st0 R κ r h
  obtain ⟨hs, h⟩ := cond_some h
  obtain ⟨hp, h⟩ := cond_some h
  rw [canon (ls := f27_l1_ls) (rs := f27_l1_rs) (by kernel_rfl) st0 hs]
  obtain ⟨n, hn⟩ := f27_s1_eq _ _ _ _ _ _ _ _ _ _ _ _ _ _ _ hp
  rw [← hn] at h
  exact f27_l1_ok n _ _ _ _ _ _ _ _ _ _ _ _ _ _ _ R κ r h

def K_f27_l0 : CallK := kCons 47 k47 <| kNil
theorem K_f27_l0_ok : KOK C prim K_f27_l0 := KOK.cons k47_ok <| KOK.nil
def T_f27_l0 : Tab := tCons [0, 1, 0, 1, 0, 1, 1, 1, 1, 1, 1, 1, 1, 0, 0, 1, 1, 0, 0, 1, 0, 1, 1, 1] t_f27_l1 <| tNil
theorem T_f27_l0_ok : TOK C prim 27 T_f27_l0 := TOK.cons t_f27_l1_ok <| TOK.nil
def f27_l0 : Nat → List V → Bool → Bool → Int → Int → Int → List V → Int → Int → (R : Type) → (Ex → St → Option R) → Option R
  | 0, _, _, _, _, _, _, _, _, _, _, _ => none
  | n + 1, a, any, to', end', moved, many, v26, v27, v28, R, κ =>
    bif (decide (v28 < v27)) then
      bif (((decide ((0 : Int) ≤ v28)) && (decide (v28 < (((lenE 4 v26.length) : Nat) : Int)))) && true) then
        bif (((V.isInt .i64 (nthV v26 (((v28).toNat * 4) + 0))) && ((V.isInt .i64 (nthV v26 (((v28).toNat * 4) + 1))) && ((V.isSl 1 (nthV v26 (((v28).toNat * 4) + 2))) && ((V.isSl 1 (nthV v26 (((v28).toNat * 4) + 3))) && true)))) && true) then
          bif (((V.cellsOf (nthV v26 (((v28).toNat * 4) + 2))).all V.isStr && decide ((V.cellsOf (nthV v26 (((v28).toNat * 4) + 2))).length ≤ 1000000000)) && true) then
            bif (((V.cellsOf (nthV v26 (((v28).toNat * 4) + 3))).all V.isStr && decide ((V.cellsOf (nthV v26 (((v28).toNat * 4) + 3))).length ≤ 1000000000)) && true) then
              bif ((listErr (V.cellsOf (nthV v26 (((v28).toNat * 4) + 2)))) != 0) then
                κ .rt (mkS [(1, .sc (.bool any)), (8, .sc (.int .i64 (listErr (V.cellsOf (nthV v26 (((v28).toNat * 4) + 2)))))), (10, .sc (.int .i64 moved)), (11, .sc (.int .i64 many))] [])
              else
                bif ((listErr (V.cellsOf (nthV v26 (((v28).toNat * 4) + 3)))) != 0) then
                  κ .rt (mkS [(1, .sc (.bool any)), (8, .sc (.int .i64 (listErr (V.cellsOf (nthV v26 (((v28).toNat * 4) + 3)))))), (10, .sc (.int .i64 moved)), (11, .sc (.int .i64 many))] [])
                else
                  bif ((IntKind.wrap .i64 (((((V.cellsOf (nthV v26 (((v28).toNat * 4) + 2)))).length : Nat) : Int) + ((((V.cellsOf (nthV v26 (((v28).toNat * 4) + 3)))).length : Nat) : Int))) == 0) then
                    κ .rt (mkS [(1, .sc (.bool any)), (8, .sc (.int .i64 23)), (10, .sc (.int .i64 moved)), (11, .sc (.int .i64 many))] [])
                  else
                    bif (decide ((V.intOf (nthV v26 (((v28).toNat * 4) + 0))) < end')) then
                      κ .rt (mkS [(1, .sc (.bool any)), (8, .sc (.int .i64 9)), (10, .sc (.int .i64 moved)), (11, .sc (.int .i64 many))] [])
                    else
                      bif any then
                        bif (decide ((V.intOf (nthV v26 (((v28).toNat * 4) + 0))) > 1000000)) then
                          κ .rt (mkS [(1, .sc (.bool any)), (8, .sc (.int .i64 3)), (10, .sc (.int .i64 moved)), (11, .sc (.int .i64 many))] [])
                        else
                          bif (!any) then
                            bif (decide ((V.intOf (nthV v26 (((v28).toNat * 4) + 0))) > ((a.length : Nat) : Int))) then
                              κ .rt (mkS [(1, .sc (.bool any)), (8, .sc (.int .i64 3)), (10, .sc (.int .i64 moved)), (11, .sc (.int .i64 many))] [])
                            else
                              bif (decide ((IntKind.wrap .i64 ((V.intOf (nthV v26 (((v28).toNat * 4) + 0))) + ((((V.cellsOf (nthV v26 (((v28).toNat * 4) + 2)))).length : Nat) : Int))) > ((a.length : Nat) : Int))) then
                                κ .rt (mkS [(1, .sc (.bool any)), (8, .sc (.int .i64 3)), (10, .sc (.int .i64 moved)), (11, .sc (.int .i64 many))] [])
                              else
                                bif (!any) then
                                  bif ((((((V.cellsOf (nthV v26 (((v28).toNat * 4) + 2)))).length : Nat) : Int) == (((V.cellsOf (nthV v26 (((v28).toNat * 4) + 2))).length : Nat) : Int)) && ((0 : Int) == 0) && (V.cellsOf (nthV v26 (((v28).toNat * 4) + 2))).all V.isStr && a.all V.isStr && decide ((V.cellsOf (nthV v26 (((v28).toNat * 4) + 2))).length ≤ 1000000000) && decide (0 ≤ (V.intOf (nthV v26 (((v28).toNat * 4) + 0)))) && decide ((V.intOf (nthV v26 (((v28).toNat * 4) + 0))) + (((V.cellsOf (nthV v26 (((v28).toNat * 4) + 2))).length : Nat) : Int) ≤ ((a.length : Nat) : Int)) && decide (a.length ≤ 2000000)) then
                                    bif (eqS ((a.drop (V.intOf (nthV v26 (((v28).toNat * 4) + 0))).toNat).take (V.cellsOf (nthV v26 (((v28).toNat * 4) + 2))).length) (V.cellsOf (nthV v26 (((v28).toNat * 4) + 2)))) then
                                      bif to' then
                                        bif ((V.intOf (nthV v26 (((v28).toNat * 4) + 1))) != (IntKind.wrap .i64 ((V.intOf (nthV v26 (((v28).toNat * 4) + 0))) + moved))) then
                                          κ .rt (mkS [(1, .sc (.bool any)), (8, .sc (.int .i64 19)), (10, .sc (.int .i64 moved)), (11, .sc (.int .i64 many))] [])
                                        else
                                          f27_l0 n a any to' (IntKind.wrap .i64 ((V.intOf (nthV v26 (((v28).toNat * 4) + 0))) + ((((V.cellsOf (nthV v26 (((v28).toNat * 4) + 2)))).length : Nat) : Int))) (IntKind.wrap .i64 (moved + (IntKind.wrap .i64 (((((V.cellsOf (nthV v26 (((v28).toNat * 4) + 3)))).length : Nat) : Int) - ((((V.cellsOf (nthV v26 (((v28).toNat * 4) + 2)))).length : Nat) : Int))))) many v26 v27 (IntKind.wrap .i64 (v28 + 1)) R κ
                                      else
                                        f27_l0 n a any to' (IntKind.wrap .i64 ((V.intOf (nthV v26 (((v28).toNat * 4) + 0))) + ((((V.cellsOf (nthV v26 (((v28).toNat * 4) + 2)))).length : Nat) : Int))) (IntKind.wrap .i64 (moved + (IntKind.wrap .i64 (((((V.cellsOf (nthV v26 (((v28).toNat * 4) + 3)))).length : Nat) : Int) - ((((V.cellsOf (nthV v26 (((v28).toNat * 4) + 2)))).length : Nat) : Int))))) many v26 v27 (IntKind.wrap .i64 (v28 + 1)) R κ
                                    else
                                      κ .rt (mkS [(1, .sc (.bool any)), (8, .sc (.int .i64 19)), (10, .sc (.int .i64 moved)), (11, .sc (.int .i64 many))] [])
                                  else none
                                else
                                  bif to' then
                                    bif ((V.intOf (nthV v26 (((v28).toNat * 4) + 1))) != (IntKind.wrap .i64 ((V.intOf (nthV v26 (((v28).toNat * 4) + 0))) + moved))) then
                                      κ .rt (mkS [(1, .sc (.bool any)), (8, .sc (.int .i64 19)), (10, .sc (.int .i64 moved)), (11, .sc (.int .i64 many))] [])
                                    else
                                      f27_l0 n a any to' (IntKind.wrap .i64 ((V.intOf (nthV v26 (((v28).toNat * 4) + 0))) + ((((V.cellsOf (nthV v26 (((v28).toNat * 4) + 2)))).length : Nat) : Int))) (IntKind.wrap .i64 (moved + (IntKind.wrap .i64 (((((V.cellsOf (nthV v26 (((v28).toNat * 4) + 3)))).length : Nat) : Int) - ((((V.cellsOf (nthV v26 (((v28).toNat * 4) + 2)))).length : Nat) : Int))))) many v26 v27 (IntKind.wrap .i64 (v28 + 1)) R κ
                                  else
                                    f27_l0 n a any to' (IntKind.wrap .i64 ((V.intOf (nthV v26 (((v28).toNat * 4) + 0))) + ((((V.cellsOf (nthV v26 (((v28).toNat * 4) + 2)))).length : Nat) : Int))) (IntKind.wrap .i64 (moved + (IntKind.wrap .i64 (((((V.cellsOf (nthV v26 (((v28).toNat * 4) + 3)))).length : Nat) : Int) - ((((V.cellsOf (nthV v26 (((v28).toNat * 4) + 2)))).length : Nat) : Int))))) many v26 v27 (IntKind.wrap .i64 (v28 + 1)) R κ
                          else
                            bif (!any) then
                              bif ((((((V.cellsOf (nthV v26 (((v28).toNat * 4) + 2)))).length : Nat) : Int) == (((V.cellsOf (nthV v26 (((v28).toNat * 4) + 2))).length : Nat) : Int)) && ((0 : Int) == 0) && (V.cellsOf (nthV v26 (((v28).toNat * 4) + 2))).all V.isStr && a.all V.isStr && decide ((V.cellsOf (nthV v26 (((v28).toNat * 4) + 2))).length ≤ 1000000000) && decide (0 ≤ (V.intOf (nthV v26 (((v28).toNat * 4) + 0)))) && decide ((V.intOf (nthV v26 (((v28).toNat * 4) + 0))) + (((V.cellsOf (nthV v26 (((v28).toNat * 4) + 2))).length : Nat) : Int) ≤ ((a.length : Nat) : Int)) && decide (a.length ≤ 2000000)) then
                                bif (eqS ((a.drop (V.intOf (nthV v26 (((v28).toNat * 4) + 0))).toNat).take (V.cellsOf (nthV v26 (((v28).toNat * 4) + 2))).length) (V.cellsOf (nthV v26 (((v28).toNat * 4) + 2)))) then
                                  bif to' then
                                    bif ((V.intOf (nthV v26 (((v28).toNat * 4) + 1))) != (IntKind.wrap .i64 ((V.intOf (nthV v26 (((v28).toNat * 4) + 0))) + moved))) then
                                      κ .rt (mkS [(1, .sc (.bool any)), (8, .sc (.int .i64 19)), (10, .sc (.int .i64 moved)), (11, .sc (.int .i64 many))] [])
                                    else
                                      f27_l0 n a any to' (IntKind.wrap .i64 ((V.intOf (nthV v26 (((v28).toNat * 4) + 0))) + ((((V.cellsOf (nthV v26 (((v28).toNat * 4) + 2)))).length : Nat) : Int))) (IntKind.wrap .i64 (moved + (IntKind.wrap .i64 (((((V.cellsOf (nthV v26 (((v28).toNat * 4) + 3)))).length : Nat) : Int) - ((((V.cellsOf (nthV v26 (((v28).toNat * 4) + 2)))).length : Nat) : Int))))) many v26 v27 (IntKind.wrap .i64 (v28 + 1)) R κ
                                  else
                                    f27_l0 n a any to' (IntKind.wrap .i64 ((V.intOf (nthV v26 (((v28).toNat * 4) + 0))) + ((((V.cellsOf (nthV v26 (((v28).toNat * 4) + 2)))).length : Nat) : Int))) (IntKind.wrap .i64 (moved + (IntKind.wrap .i64 (((((V.cellsOf (nthV v26 (((v28).toNat * 4) + 3)))).length : Nat) : Int) - ((((V.cellsOf (nthV v26 (((v28).toNat * 4) + 2)))).length : Nat) : Int))))) many v26 v27 (IntKind.wrap .i64 (v28 + 1)) R κ
                                else
                                  κ .rt (mkS [(1, .sc (.bool any)), (8, .sc (.int .i64 19)), (10, .sc (.int .i64 moved)), (11, .sc (.int .i64 many))] [])
                              else none
                            else
                              bif to' then
                                bif ((V.intOf (nthV v26 (((v28).toNat * 4) + 1))) != (IntKind.wrap .i64 ((V.intOf (nthV v26 (((v28).toNat * 4) + 0))) + moved))) then
                                  κ .rt (mkS [(1, .sc (.bool any)), (8, .sc (.int .i64 19)), (10, .sc (.int .i64 moved)), (11, .sc (.int .i64 many))] [])
                                else
                                  f27_l0 n a any to' (IntKind.wrap .i64 ((V.intOf (nthV v26 (((v28).toNat * 4) + 0))) + ((((V.cellsOf (nthV v26 (((v28).toNat * 4) + 2)))).length : Nat) : Int))) (IntKind.wrap .i64 (moved + (IntKind.wrap .i64 (((((V.cellsOf (nthV v26 (((v28).toNat * 4) + 3)))).length : Nat) : Int) - ((((V.cellsOf (nthV v26 (((v28).toNat * 4) + 2)))).length : Nat) : Int))))) many v26 v27 (IntKind.wrap .i64 (v28 + 1)) R κ
                              else
                                f27_l0 n a any to' (IntKind.wrap .i64 ((V.intOf (nthV v26 (((v28).toNat * 4) + 0))) + ((((V.cellsOf (nthV v26 (((v28).toNat * 4) + 2)))).length : Nat) : Int))) (IntKind.wrap .i64 (moved + (IntKind.wrap .i64 (((((V.cellsOf (nthV v26 (((v28).toNat * 4) + 3)))).length : Nat) : Int) - ((((V.cellsOf (nthV v26 (((v28).toNat * 4) + 2)))).length : Nat) : Int))))) many v26 v27 (IntKind.wrap .i64 (v28 + 1)) R κ
                      else
                        bif (!any) then
                          bif (decide ((V.intOf (nthV v26 (((v28).toNat * 4) + 0))) > ((a.length : Nat) : Int))) then
                            κ .rt (mkS [(1, .sc (.bool any)), (8, .sc (.int .i64 3)), (10, .sc (.int .i64 moved)), (11, .sc (.int .i64 many))] [])
                          else
                            bif (decide ((IntKind.wrap .i64 ((V.intOf (nthV v26 (((v28).toNat * 4) + 0))) + ((((V.cellsOf (nthV v26 (((v28).toNat * 4) + 2)))).length : Nat) : Int))) > ((a.length : Nat) : Int))) then
                              κ .rt (mkS [(1, .sc (.bool any)), (8, .sc (.int .i64 3)), (10, .sc (.int .i64 moved)), (11, .sc (.int .i64 many))] [])
                            else
                              bif (!any) then
                                bif ((((((V.cellsOf (nthV v26 (((v28).toNat * 4) + 2)))).length : Nat) : Int) == (((V.cellsOf (nthV v26 (((v28).toNat * 4) + 2))).length : Nat) : Int)) && ((0 : Int) == 0) && (V.cellsOf (nthV v26 (((v28).toNat * 4) + 2))).all V.isStr && a.all V.isStr && decide ((V.cellsOf (nthV v26 (((v28).toNat * 4) + 2))).length ≤ 1000000000) && decide (0 ≤ (V.intOf (nthV v26 (((v28).toNat * 4) + 0)))) && decide ((V.intOf (nthV v26 (((v28).toNat * 4) + 0))) + (((V.cellsOf (nthV v26 (((v28).toNat * 4) + 2))).length : Nat) : Int) ≤ ((a.length : Nat) : Int)) && decide (a.length ≤ 2000000)) then
                                  bif (eqS ((a.drop (V.intOf (nthV v26 (((v28).toNat * 4) + 0))).toNat).take (V.cellsOf (nthV v26 (((v28).toNat * 4) + 2))).length) (V.cellsOf (nthV v26 (((v28).toNat * 4) + 2)))) then
                                    bif to' then
                                      bif ((V.intOf (nthV v26 (((v28).toNat * 4) + 1))) != (IntKind.wrap .i64 ((V.intOf (nthV v26 (((v28).toNat * 4) + 0))) + moved))) then
                                        κ .rt (mkS [(1, .sc (.bool any)), (8, .sc (.int .i64 19)), (10, .sc (.int .i64 moved)), (11, .sc (.int .i64 many))] [])
                                      else
                                        f27_l0 n a any to' (IntKind.wrap .i64 ((V.intOf (nthV v26 (((v28).toNat * 4) + 0))) + ((((V.cellsOf (nthV v26 (((v28).toNat * 4) + 2)))).length : Nat) : Int))) (IntKind.wrap .i64 (moved + (IntKind.wrap .i64 (((((V.cellsOf (nthV v26 (((v28).toNat * 4) + 3)))).length : Nat) : Int) - ((((V.cellsOf (nthV v26 (((v28).toNat * 4) + 2)))).length : Nat) : Int))))) many v26 v27 (IntKind.wrap .i64 (v28 + 1)) R κ
                                    else
                                      f27_l0 n a any to' (IntKind.wrap .i64 ((V.intOf (nthV v26 (((v28).toNat * 4) + 0))) + ((((V.cellsOf (nthV v26 (((v28).toNat * 4) + 2)))).length : Nat) : Int))) (IntKind.wrap .i64 (moved + (IntKind.wrap .i64 (((((V.cellsOf (nthV v26 (((v28).toNat * 4) + 3)))).length : Nat) : Int) - ((((V.cellsOf (nthV v26 (((v28).toNat * 4) + 2)))).length : Nat) : Int))))) many v26 v27 (IntKind.wrap .i64 (v28 + 1)) R κ
                                  else
                                    κ .rt (mkS [(1, .sc (.bool any)), (8, .sc (.int .i64 19)), (10, .sc (.int .i64 moved)), (11, .sc (.int .i64 many))] [])
                                else none
                              else
                                bif to' then
                                  bif ((V.intOf (nthV v26 (((v28).toNat * 4) + 1))) != (IntKind.wrap .i64 ((V.intOf (nthV v26 (((v28).toNat * 4) + 0))) + moved))) then
                                    κ .rt (mkS [(1, .sc (.bool any)), (8, .sc (.int .i64 19)), (10, .sc (.int .i64 moved)), (11, .sc (.int .i64 many))] [])
                                  else
                                    f27_l0 n a any to' (IntKind.wrap .i64 ((V.intOf (nthV v26 (((v28).toNat * 4) + 0))) + ((((V.cellsOf (nthV v26 (((v28).toNat * 4) + 2)))).length : Nat) : Int))) (IntKind.wrap .i64 (moved + (IntKind.wrap .i64 (((((V.cellsOf (nthV v26 (((v28).toNat * 4) + 3)))).length : Nat) : Int) - ((((V.cellsOf (nthV v26 (((v28).toNat * 4) + 2)))).length : Nat) : Int))))) many v26 v27 (IntKind.wrap .i64 (v28 + 1)) R κ
                                else
                                  f27_l0 n a any to' (IntKind.wrap .i64 ((V.intOf (nthV v26 (((v28).toNat * 4) + 0))) + ((((V.cellsOf (nthV v26 (((v28).toNat * 4) + 2)))).length : Nat) : Int))) (IntKind.wrap .i64 (moved + (IntKind.wrap .i64 (((((V.cellsOf (nthV v26 (((v28).toNat * 4) + 3)))).length : Nat) : Int) - ((((V.cellsOf (nthV v26 (((v28).toNat * 4) + 2)))).length : Nat) : Int))))) many v26 v27 (IntKind.wrap .i64 (v28 + 1)) R κ
                        else
                          bif (!any) then
                            bif ((((((V.cellsOf (nthV v26 (((v28).toNat * 4) + 2)))).length : Nat) : Int) == (((V.cellsOf (nthV v26 (((v28).toNat * 4) + 2))).length : Nat) : Int)) && ((0 : Int) == 0) && (V.cellsOf (nthV v26 (((v28).toNat * 4) + 2))).all V.isStr && a.all V.isStr && decide ((V.cellsOf (nthV v26 (((v28).toNat * 4) + 2))).length ≤ 1000000000) && decide (0 ≤ (V.intOf (nthV v26 (((v28).toNat * 4) + 0)))) && decide ((V.intOf (nthV v26 (((v28).toNat * 4) + 0))) + (((V.cellsOf (nthV v26 (((v28).toNat * 4) + 2))).length : Nat) : Int) ≤ ((a.length : Nat) : Int)) && decide (a.length ≤ 2000000)) then
                              bif (eqS ((a.drop (V.intOf (nthV v26 (((v28).toNat * 4) + 0))).toNat).take (V.cellsOf (nthV v26 (((v28).toNat * 4) + 2))).length) (V.cellsOf (nthV v26 (((v28).toNat * 4) + 2)))) then
                                bif to' then
                                  bif ((V.intOf (nthV v26 (((v28).toNat * 4) + 1))) != (IntKind.wrap .i64 ((V.intOf (nthV v26 (((v28).toNat * 4) + 0))) + moved))) then
                                    κ .rt (mkS [(1, .sc (.bool any)), (8, .sc (.int .i64 19)), (10, .sc (.int .i64 moved)), (11, .sc (.int .i64 many))] [])
                                  else
                                    f27_l0 n a any to' (IntKind.wrap .i64 ((V.intOf (nthV v26 (((v28).toNat * 4) + 0))) + ((((V.cellsOf (nthV v26 (((v28).toNat * 4) + 2)))).length : Nat) : Int))) (IntKind.wrap .i64 (moved + (IntKind.wrap .i64 (((((V.cellsOf (nthV v26 (((v28).toNat * 4) + 3)))).length : Nat) : Int) - ((((V.cellsOf (nthV v26 (((v28).toNat * 4) + 2)))).length : Nat) : Int))))) many v26 v27 (IntKind.wrap .i64 (v28 + 1)) R κ
                                else
                                  f27_l0 n a any to' (IntKind.wrap .i64 ((V.intOf (nthV v26 (((v28).toNat * 4) + 0))) + ((((V.cellsOf (nthV v26 (((v28).toNat * 4) + 2)))).length : Nat) : Int))) (IntKind.wrap .i64 (moved + (IntKind.wrap .i64 (((((V.cellsOf (nthV v26 (((v28).toNat * 4) + 3)))).length : Nat) : Int) - ((((V.cellsOf (nthV v26 (((v28).toNat * 4) + 2)))).length : Nat) : Int))))) many v26 v27 (IntKind.wrap .i64 (v28 + 1)) R κ
                              else
                                κ .rt (mkS [(1, .sc (.bool any)), (8, .sc (.int .i64 19)), (10, .sc (.int .i64 moved)), (11, .sc (.int .i64 many))] [])
                            else none
                          else
                            bif to' then
                              bif ((V.intOf (nthV v26 (((v28).toNat * 4) + 1))) != (IntKind.wrap .i64 ((V.intOf (nthV v26 (((v28).toNat * 4) + 0))) + moved))) then
                                κ .rt (mkS [(1, .sc (.bool any)), (8, .sc (.int .i64 19)), (10, .sc (.int .i64 moved)), (11, .sc (.int .i64 many))] [])
                              else
                                f27_l0 n a any to' (IntKind.wrap .i64 ((V.intOf (nthV v26 (((v28).toNat * 4) + 0))) + ((((V.cellsOf (nthV v26 (((v28).toNat * 4) + 2)))).length : Nat) : Int))) (IntKind.wrap .i64 (moved + (IntKind.wrap .i64 (((((V.cellsOf (nthV v26 (((v28).toNat * 4) + 3)))).length : Nat) : Int) - ((((V.cellsOf (nthV v26 (((v28).toNat * 4) + 2)))).length : Nat) : Int))))) many v26 v27 (IntKind.wrap .i64 (v28 + 1)) R κ
                            else
                              f27_l0 n a any to' (IntKind.wrap .i64 ((V.intOf (nthV v26 (((v28).toNat * 4) + 0))) + ((((V.cellsOf (nthV v26 (((v28).toNat * 4) + 2)))).length : Nat) : Int))) (IntKind.wrap .i64 (moved + (IntKind.wrap .i64 (((((V.cellsOf (nthV v26 (((v28).toNat * 4) + 3)))).length : Nat) : Int) - ((((V.cellsOf (nthV v26 (((v28).toNat * 4) + 2)))).length : Nat) : Int))))) many v26 v27 (IntKind.wrap .i64 (v28 + 1)) R κ
            else none
          else none
        else none
      else none
    else
      κ (.ex 0) (mkS [(1, .sc (.bool any)), (8, .bad), (10, .sc (.int .i64 moved)), (11, .sc (.int .i64 many))] [])
def f27_l0_ls : List (Nat × Pat) := [(0, .sl 1), (1, .b), (3, .b), (9, .i .i64), (10, .i .i64), (11, .i .i64), (26, .sl 4), (27, .i .i64), (28, .i .i64)]
def f27_l0_rs : List RPat := []
theorem f27_l0_ok (n : Nat) : ∀ (a : List V) (any : Bool) (to' : Bool) (end' : Int) (moved : Int) (many : Int) (v26 : List V) (v27 : Int) (v28 : Int) (R : Type) (κ : Ex → St → Option R) (r : R), f27_l0 n a any to' end' moved many v26 v27 v28 R κ = some r → ∃ ee ss, κ ee ss = some r ∧ RunP C prim 27 [0, 1, 0, 1, 1, 1] (mkS [(0, .sl 1 a), (1, .sc (.bool any)), (3, .sc (.bool to')), (9, .sc (.int .i64 end')), (10, .sc (.int .i64 moved)), (11, .sc (.int .i64 many)), (26, .sl 4 v26), (27, .sc (.int .i64 v27)), (28, .sc (.int .i64 v28))] []) ee ss := by
  induction n with
  | zero => intro a any to' end' moved many v26 v27 v28 R κ r h; cases h
  | succ n ih =>
    intro a any to' end' moved many v26 v27 v28 R κ r h
    refine loop_round (K := K_f27_l0) (T := T_f27_l0) K_f27_l0_ok T_f27_l0_ok (p := [0, 1, 0, 1, 1, 1]) (by kernel_rfl) (fun st => bif ckS f27_l0_ls f27_l0_rs st then f27_l0 n ((st.env 0).cellsOf) ((st.env 1).boolOf) ((st.env 3).boolOf) ((st.env 9).intOf) ((st.env 10).intOf) ((st.env 11).intOf) ((st.env 26).cellsOf) ((st.env 27).intOf) ((st.env 28).intOf) R κ else none) (fun st0 h0 => ?_) ?_
    · obtain ⟨hs, h0⟩ := cond_some h0
      rw [canon (ls := f27_l0_ls) (rs := f27_l0_rs) (by kernel_rfl) st0 hs]
      exact ih _ _ _ _ _ _ _ _ _ R κ r h0
    · refine Eq.trans ?_ h
      kernel_rfl

def f27_s0 (a : List V) (any : Bool) (to' : Bool) (end' : Int) (moved : Int) (many : Int) (v26 : List V) (v27 : Int) (v28 : Int) (R : Type) (κ : Ex → St → Option R) : Option R :=
  bif ((heRun a any to' end' moved v26).1 != 0) then
    κ .rt (mkS [(1, .sc (.bool any)), (8, .sc (.int .i64 (heRun a any to' end' moved v26).1)), (10, .sc (.int .i64 (heRun a any to' end' moved v26).2)), (11, .sc (.int .i64 many))] [])
  else
    κ (.ex 0) (mkS [(1, .sc (.bool any)), (8, .bad), (10, .sc (.int .i64 (heRun a any to' end' moved v26).2)), (11, .sc (.int .i64 many))] [])
def fin27b (any : Bool) (many : Int) (r : Int × Int) (R : Type) (κ : Ex → St → Option R) : Option R :=
  bif r.1 != 0 then κ .rt (mkS [(1, .sc (.bool any)), (8, .sc (.int .i64 r.1)), (10, .sc (.int .i64 r.2)), (11, .sc (.int .i64 many))] [])
  else κ (.ex 0) (mkS [(1, .sc (.bool any)), (8, .bad), (10, .sc (.int .i64 r.2)), (11, .sc (.int .i64 many))] [])
theorem f27_l0_c (a v26 : List V) (any to' : Bool) (many : Int) (q : Nat) (ha : a.all V.isStr = true) (la : a.length ≤ 2000000) (hq : v26.length = 4 * q) (hl : v26.length ≤ 1000000000) : ∀ (m k : Nat) (en mv : Int), k + m = q → okHs (v26.drop (k * 4)) = true → 0 ≤ en → ∀ n, m < n → ∀ (R : Type) (κ : Ex → St → Option R),
    f27_l0 n a any to' en mv many v26 ((q : Nat) : Int) (k : Int) R κ = fin27b any many (heRun a any to' en mv (v26.drop (k * 4))) R κ := by
  intro m
  induction m with
  | zero =>
    intro k en mv hk ho he n hn R κ
    obtain ⟨n, rfl⟩ : ∃ j, n = j + 1 := ⟨n - 1, by omega⟩
    rw [f27_l0, dec_false (by omega), List.drop_of_length_le (l := v26) (by omega)]
    rfl
  | succ m ih =>
    intro k en mv hk o1 he n hn R κ
    obtain ⟨n, rfl⟩ : ∃ j, n = j + 1 := ⟨n - 1, by omega⟩
    obtain ⟨f, t, o, w, r, hd, hok, hr⟩ := okHs_cons o1 (by intro e; have := congrArg List.length e; rw [List.length_drop] at this; simp only [List.length_nil] at this; omega)
    obtain ⟨n0, n1, n2, n3, hd2, hk4⟩ := drop4 hd
    obtain ⟨p0, p1, ⟨p2, p3, p4⟩, ⟨p5, p6, p7⟩⟩ := okH_spec hok
    have IH : 0 ≤ IntKind.wrap .i64 (f.intOf + ((o.cellsOf.length : Nat) : Int)) → f27_l0 n a any to' (IntKind.wrap .i64 (f.intOf + ((o.cellsOf.length : Nat) : Int))) (IntKind.wrap .i64 (mv + IntKind.wrap .i64 (((w.cellsOf.length : Nat) : Int) - ((o.cellsOf.length : Nat) : Int)))) many v26 ((q : Nat) : Int) ((k + 1 : Nat) : Int) R κ = fin27b any many (heRun a any to' (IntKind.wrap .i64 (f.intOf + (o.cellsOf.length : Int))) (dltI mv o.cellsOf w.cellsOf) r) R κ := by
      intro h
      have := ih (k + 1) (IntKind.wrap .i64 (f.intOf + ((o.cellsOf.length : Nat) : Int))) (dltI mv o.cellsOf w.cellsOf) (by omega) (by rw [hd2]; exact hr) h n (by omega) R κ
      rw [hd2] at this
      exact this
    rw [f27_l0, dec_true (show (k : Int) < ((q : Nat) : Int) by omega), dec_true (show (0 : Int) ≤ (k : Int) by omega), dec_true (show (k : Int) < ((lenE 4 v26.length : Nat) : Int) by omega), n0, n1, n2, n3, p0, p1, p2, p3, p5, p6, dec_true p4, dec_true p7, wrap_succ (by omega), hd, he_step]
    simp only [Bool.and_true, cond_true]
    cases c1 : listErr o.cellsOf != 0 with
    | true => simp only [cond_true, fin27b, c1]
    | false =>
    simp only [cond_false]
    cases c2 : listErr w.cellsOf != 0 with
    | true => simp only [cond_true, fin27b, c2]
    | false =>
    simp only [cond_false]
    cases c3 : IntKind.wrap .i64 (((o.cellsOf.length : Nat) : Int) + ((w.cellsOf.length : Nat) : Int)) == 0 with
    | true => rfl
    | false =>
    simp only [cond_false]
    by_cases c4 : f.intOf < en
    · rw [dec_true c4]; rfl
    rw [dec_false c4]
    cases any with
    | true =>
      by_cases c5 : f.intOf > 1000000
      · rw [dec_true c5]; rfl
      have w1 : IntKind.wrap .i64 (f.intOf + ((o.cellsOf.length : Nat) : Int)) = f.intOf + ((o.cellsOf.length : Nat) : Int) := wrap_id (by omega) (by omega)
      have IH := IH (by rw [w1]; omega)
      rw [dec_false c5]
      cases to' with
      | false => exact IH
      | true =>
        cases c6 : t.intOf != IntKind.wrap .i64 (f.intOf + mv) with
        | true => simp only [cond_true, cond_false, Bool.not_true, Bool.false_and, Bool.and_false, Bool.false_or, Bool.true_and, c6]; rfl
        | false =>
          simp only [cond_true, cond_false, Bool.not_true, Bool.false_and, Bool.and_false, Bool.false_or, Bool.true_and, c6]
          exact IH
    | false =>
      by_cases c5 : f.intOf > ((a.length : Nat) : Int)
      · rw [dec_true c5]; rfl
      have w1 : IntKind.wrap .i64 (f.intOf + ((o.cellsOf.length : Nat) : Int)) = f.intOf + ((o.cellsOf.length : Nat) : Int) := wrap_id (by omega) (by omega)
      have IH := IH (by rw [w1]; omega)
      rw [w1] at IH
      by_cases c6 : f.intOf + ((o.cellsOf.length : Nat) : Int) > ((a.length : Nat) : Int)
      · rw [w1, dec_false c5, dec_true c6]; rfl
      rw [w1, dec_false c5, dec_false c6]
      simp only [p3, ha, dec_true p4, dec_true la, dec_true (show 0 ≤ f.intOf by omega), dec_true (show f.intOf + ((o.cellsOf.length : Nat) : Int) ≤ ((a.length : Nat) : Int) by omega), beq_self_eq_true, Bool.and_true, Bool.not_false, cond_true, cond_false, Bool.false_and, Bool.true_and, Bool.false_or]
      cases eqS ((a.drop f.intOf.toNat).take o.cellsOf.length) o.cellsOf with
      | false => rfl
      | true =>
      cases to' with
      | false => exact IH
      | true =>
        cases c7 : t.intOf != IntKind.wrap .i64 (f.intOf + mv) with
        | true => simp only [cond_true, cond_false, Bool.not_true, Bool.true_and, c7]; rfl
        | false =>
          simp only [cond_true, cond_false, Bool.not_true, Bool.true_and, c7]
          exact IH
theorem f27_s0_eq (a : List V) (any : Bool) (to' : Bool) (end' : Int) (moved : Int) (many : Int) (v26 : List V) (v27 : Int) (v28 : Int) (hp : ((v27 == ((lenE 4 v26.length : Nat) : Int)) && (v28 == 0) && okHs v26 && a.all V.isStr && decide (a.length ≤ 2000000) && decide (v26.length ≤ 1000000000) && decide (0 ≤ end')) = true) : ∃ n, ∀ (R : Type) (κ : Ex → St → Option R), f27_l0 n a any to' end' moved many v26 v27 v28 R κ = f27_s0 a any to' end' moved many v26 v27 v28 R κ := by
  simp only [Bool.and_eq_true, decide_eq_true_eq, beq_iff_eq] at hp
  obtain ⟨⟨⟨⟨⟨⟨rfl, rfl⟩, h1⟩, h2⟩, h3⟩, h4⟩, h5⟩ := hp
  obtain ⟨q, hq⟩ := okHs_len _ h1
  have e : lenE 4 v26.length = q := by show v26.length / 4 = q; omega
  rw [e]
  refine ⟨q + 1, fun R κ => ?_⟩
  have := f27_l0_c a v26 any to' many q h2 h3 hq h4 q 0 end' moved (by omega) (by simpa using h1) h5 (q + 1) (by omega) R κ
  rw [Nat.zero_mul, List.drop_zero] at this
  exact this
def t_f27_l0 (st : St) (R : Type) (κ : Ex → St → Option R) : Option R := bif ckS f27_l0_ls f27_l0_rs st then (bif ((((st.env 27).intOf) == ((lenE 4 ((st.env 26).cellsOf).length : Nat) : Int)) && (((st.env 28).intOf) == 0) && okHs ((st.env 26).cellsOf) && ((st.env 0).cellsOf).all V.isStr && decide (((st.env 0).cellsOf).length ≤ 2000000) && decide (((st.env 26).cellsOf).length ≤ 1000000000) && decide (0 ≤ ((st.env 9).intOf))) then f27_s0 ((st.env 0).cellsOf) ((st.env 1).boolOf) ((st.env 3).boolOf) ((st.env 9).intOf) ((st.env 10).intOf) ((st.env 11).intOf) ((st.env 26).cellsOf) ((st.env 27).intOf) ((st.env 28).intOf) R κ else none) else none
theorem t_f27_l0_ok : ∀ st0 R κ r, t_f27_l0 (forget C 27 [0, 1, 0, 1, 1, 1] st0) R κ = some r → ∃ ee ss, κ ee ss = some r ∧ RunP C prim 27 [0, 1, 0, 1, 1, 1] (forget C 27 [0, 1, 0, 1, 1, 1] st0) ee ss := by
  intro st0 R κ r h
  obtain ⟨hs, h⟩ := cond_some h
  obtain ⟨hp, h⟩ := cond_some h
  rw [canon (ls := f27_l0_ls) (rs := f27_l0_rs) (by kernel_rfl) st0 hs]
  obtain ⟨n, hn⟩ := f27_s0_eq _ _ _ _ _ _ _ _ _ hp
  rw [← hn] at h
  exact f27_l0_ok n _ _ _ _ _ _ _ _ _ R κ r h

def K_f27 : CallK := kNil
theorem K_f27_ok : KOK C prim K_f27 := KOK.nil
def T_f27 : Tab := tCons [0, 1, 0, 1, 1, 1] t_f27_l0 <| tNil
theorem T_f27_ok : TOK C prim 27 T_f27 := TOK.cons t_f27_l0_ok <| TOK.nil
def f27 (a : List V) (any : Bool) (l : List V) (to' : Bool) : Option (V × List Rg) :=
  bif any then
    bif (decide ((((lenE 4 l.length) : Nat) : Int) > 1000)) then
      some (.sc (.int .i64 2), [])
    else
      bif (((((lenE 4 l.length) : Nat) : Int) == ((lenE 4 l.length : Nat) : Int)) && ((0 : Int) == 0) && okHs l && a.all V.isStr && decide (a.length ≤ 2000000) && decide (l.length ≤ 1000000000) && decide (0 ≤ (0 : Int))) then
        bif ((heRun a any to' (0 : Int) (0 : Int) l).1 != 0) then
          some (.sc (.int .i64 (heRun a any to' (0 : Int) (0 : Int) l).1), [])
        else
          bif (!any) then
            bif (decide ((IntKind.wrap .i64 (((a.length : Nat) : Int) + (heRun a any to' (0 : Int) (0 : Int) l).2)) > 1000)) then
              some (.sc (.int .i64 2), [])
            else
              some (.sc (.int .i64 0), [])
          else
            some (.sc (.int .i64 0), [])
      else none
  else
    bif (((((lenE 4 l.length) : Nat) : Int) == ((lenE 4 l.length : Nat) : Int)) && ((0 : Int) == 0) && okHs l && a.all V.isStr && decide (a.length ≤ 2000000) && decide (l.length ≤ 1000000000) && decide (0 ≤ (0 : Int))) then
      bif ((heRun a any to' (0 : Int) (0 : Int) l).1 != 0) then
        some (.sc (.int .i64 (heRun a any to' (0 : Int) (0 : Int) l).1), [])
      else
        bif (!any) then
          bif (decide ((IntKind.wrap .i64 (((a.length : Nat) : Int) + (heRun a any to' (0 : Int) (0 : Int) l).2)) > 1000)) then
            some (.sc (.int .i64 2), [])
          else
            some (.sc (.int .i64 0), [])
        else
          some (.sc (.int .i64 0), [])
    else none
theorem f27_run (a : List V) (any : Bool) (l : List V) (to' : Bool) (z9 : V × List Rg) (h : f27 a any l to' = some z9) : CallR C prim 27 [.sl 1 a, .sc (.bool any), .sl 4 l, .sc (.bool to')] [] z9 := by
  refine call_fn (K := K_f27) (T := T_f27) K_f27_ok T_f27_ok (by kernel_rfl) ?_
  refine Eq.trans ?_ h
  kernel_rfl

theorem f27_eq (a : List V) (any : Bool) (l : List V) (to' : Bool) (hp : (okHs l && a.all V.isStr && decide (a.length ≤ 2000000) && decide (l.length ≤ 1000000000)) = true) : f27 a any l to' = some (.sc (.int .i64 (heE a any l to')), []) := by
  simp only [Bool.and_eq_true, decide_eq_true_eq] at hp
  obtain ⟨⟨⟨h1, h2⟩, h3⟩, h4⟩ := hp
  unfold f27 heE
  rw [h1, h2, dec_true h3, dec_true h4, beq_self_eq_true]
  cases any with
  | true =>
    cases decide (((lenE 4 l.length : Nat) : Int) > 1000) with
    | true => rfl
    | false =>
      cases c : (heRun a true to' 0 0 l).1 != 0 with
      | true => simp only [cond_true, cond_false, Bool.true_and, Bool.and_true, beq_self_eq_true, c, dec_true (show (0 : Int) ≤ 0 by omega)]
      | false => simp only [cond_true, cond_false, Bool.true_and, Bool.and_true, beq_self_eq_true, c, dec_true (show (0 : Int) ≤ 0 by omega), Bool.not_true, Bool.false_and]
  | false =>
    cases c : (heRun a false to' 0 0 l).1 != 0 with
    | true => simp only [cond_true, cond_false, Bool.true_and, Bool.false_and, Bool.and_true, beq_self_eq_true, c, dec_true (show (0 : Int) ≤ 0 by omega)]
    | false =>
      cases d : decide (IntKind.wrap .i64 (((a.length : Nat) : Int) + (heRun a false to' 0 0 l).2) > 1000) <;> simp only [cond_true, cond_false, Bool.true_and, Bool.false_and, Bool.and_true, beq_self_eq_true, c, d, dec_true (show (0 : Int) ≤ 0 by omega), Bool.not_false]
def k27 : PrimT := fun vs gs => match vs, gs with
  | [.sl 1 a, .sc (.bool any), .sl 4 l, .sc (.bool to')], [] => ((okHs l && a.all V.isStr && decide (a.length ≤ 2000000) && decide (l.length ≤ 1000000000)), .sc (.int .i64 (heE a any l to')), [])
  | _, _ => (false, .bad, [])
theorem k27_ok : ∀ vs gs x, k27 vs gs = (true, x) → CallR C prim 27 vs gs x := by
  intro vs gs x h
  unfold k27 at h
  split at h
  · simp only [Prod.mk.injEq] at h
    obtain ⟨hp, rfl⟩ := h
    exact f27_run _ _ _ _ _ (f27_eq _ _ _ _ hp)
  · cases h

def K_f30_l0 : CallK := kNil
theorem K_f30_l0_ok : KOK C prim K_f30_l0 := KOK.nil
def T_f30_l0 : Tab := tNil
theorem T_f30_l0_ok : TOK C prim 30 T_f30_l0 := TOK.nil
def f30_l0 : Nat → List V → Int → List V → Int → Int → List V → (R : Type) → (Ex → St → Option R) → Option R
  | 0, _, _, _, _, _, _, _, _ => none
  | n + 1, a, at', v9, v10, v11, out, R, κ =>
    bif (decide (v11 < v10)) then
      bif (((decide ((0 : Int) ≤ v11)) && (decide (v11 < (((lenE 4 v9.length) : Nat) : Int)))) && true) then
        bif (((V.isInt .i64 (nthV v9 (((v11).toNat * 4) + 0))) && ((V.isInt .i64 (nthV v9 (((v11).toNat * 4) + 1))) && ((V.isSl 1 (nthV v9 (((v11).toNat * 4) + 2))) && ((V.isSl 1 (nthV v9 (((v11).toNat * 4) + 3))) && true)))) && true) then
          bif ((((((decide ((0 : Int) ≤ at')) && (decide (at' ≤ (V.intOf (nthV v9 (((v11).toNat * 4) + 0)))))) && (decide ((V.intOf (nthV v9 (((v11).toNat * 4) + 0))) ≤ ((a.length : Nat) : Int)))) && true) && true) && true) then
            bif (((roomy ((out.length + (((a.drop ((at').toNat * 1)).take ((((V.intOf (nthV v9 (((v11).toNat * 4) + 0)))).toNat - (at').toNat) * 1))).length) * 16)) && (roomy (out.length + (((a.drop ((at').toNat * 1)).take ((((V.intOf (nthV v9 (((v11).toNat * 4) + 0)))).toNat - (at').toNat) * 1))).length))) && true) then
              bif (((roomy ((((out ++ ((a.drop ((at').toNat * 1)).take ((((V.intOf (nthV v9 (((v11).toNat * 4) + 0)))).toNat - (at').toNat) * 1)))).length + ((V.cellsOf (nthV v9 (((v11).toNat * 4) + 3)))).length) * 16)) && (roomy (((out ++ ((a.drop ((at').toNat * 1)).take ((((V.intOf (nthV v9 (((v11).toNat * 4) + 0)))).toNat - (at').toNat) * 1)))).length + ((V.cellsOf (nthV v9 (((v11).toNat * 4) + 3)))).length))) && true) then
                f30_l0 n a (IntKind.wrap .i64 ((V.intOf (nthV v9 (((v11).toNat * 4) + 0))) + ((((V.cellsOf (nthV v9 (((v11).toNat * 4) + 2)))).length : Nat) : Int))) v9 v10 (IntKind.wrap .i64 (v11 + 1)) ((out ++ ((a.drop ((at').toNat * 1)).take ((((V.intOf (nthV v9 (((v11).toNat * 4) + 0)))).toNat - (at').toNat) * 1))) ++ (V.cellsOf (nthV v9 (((v11).toNat * 4) + 3)))) R κ
              else none
            else none
          else none
        else none
      else none
    else
      κ (.ex 0) (mkS [(0, .sl 1 a), (4, .bad), (5, .ref ⟨.loc 5, 0, [], 9, false⟩), (6, .sc (.int .i64 at'))] [(.loc 5, some ⟨false, [.own 9 false out]⟩)])
def f30_l0_ls : List (Nat × Pat) := [(0, .sl 1), (5, .is (.ref ⟨.loc 5, 0, [], 9, false⟩)), (6, .i .i64), (9, .sl 4), (10, .i .i64), (11, .i .i64)]
def f30_l0_rs : List RPat := [⟨.loc 5, false, [.own 9 false]⟩]
theorem f30_l0_ok (n : Nat) : ∀ (a : List V) (at' : Int) (v9 : List V) (v10 : Int) (v11 : Int) (out : List V) (R : Type) (κ : Ex → St → Option R) (r : R), f30_l0 n a at' v9 v10 v11 out R κ = some r → ∃ ee ss, κ ee ss = some r ∧ RunP C prim 30 [0, 1, 0, 1, 1, 1] (mkS [(0, .sl 1 a), (5, .ref ⟨.loc 5, 0, [], 9, false⟩), (6, .sc (.int .i64 at')), (9, .sl 4 v9), (10, .sc (.int .i64 v10)), (11, .sc (.int .i64 v11))] [(.loc 5, some ⟨false, [.own 9 false out]⟩)]) ee ss := by
  induction n with
  | zero => intro a at' v9 v10 v11 out R κ r h; cases h
  | succ n ih =>
    intro a at' v9 v10 v11 out R κ r h
    refine loop_round (K := K_f30_l0) (T := T_f30_l0) K_f30_l0_ok T_f30_l0_ok (p := [0, 1, 0, 1, 1, 1]) (by kernel_rfl) (fun st => bif ckS f30_l0_ls f30_l0_rs st then f30_l0 n ((st.env 0).cellsOf) ((st.env 6).intOf) ((st.env 9).cellsOf) ((st.env 10).intOf) ((st.env 11).intOf) ((nthV (rowOf (st.regs (.loc 5))) 0).cellsOf) R κ else none) (fun st0 h0 => ?_) ?_
    · obtain ⟨hs, h0⟩ := cond_some h0
      rw [canon (ls := f30_l0_ls) (rs := f30_l0_rs) (by kernel_rfl) st0 hs]
      exact ih _ _ _ _ _ _ R κ r h0
    · refine Eq.trans ?_ h
      kernel_rfl

def f30_s0 (a : List V) (at' : Int) (v9 : List V) (v10 : Int) (v11 : Int) (out : List V) (R : Type) (κ : Ex → St → Option R) : Option R :=
  κ (.ex 0) (mkS [(0, .sl 1 a), (4, .bad), (5, .ref ⟨.loc 5, 0, [], 9, false⟩), (6, .sc (.int .i64 (endR at' v9)))] [(.loc 5, some ⟨false, [.own 9 false (out ++ repC a at' v9)]⟩)])
theorem f30_l0_c (a v9 : List V) (q : Nat) (la : a.length ≤ 100000000) (hq : v9.length = 4 * q) (hl : v9.length ≤ 1000000000) : ∀ (m k : Nat) (p : Int) (out : List V), k + m = q → okHs (v9.drop (k * 4)) = true → 0 ≤ p → rtOk ((a.length : Nat) : Int) p (v9.drop (k * 4)) = true → out.length + newN (v9.drop (k * 4)) + a.length ≤ 3000000000 + p.toNat → ∀ n, m < n → ∀ (R : Type) (κ : Ex → St → Option R),
    f30_l0 n a p v9 ((q : Nat) : Int) (k : Int) out R κ = κ (.ex 0) (mkS [(0, .sl 1 a), (4, .bad), (5, .ref ⟨.loc 5, 0, [], 9, false⟩), (6, .sc (.int .i64 (endR p (v9.drop (k * 4)))))] [(.loc 5, some ⟨false, [.own 9 false (out ++ repC a p (v9.drop (k * 4)))]⟩)]) := by
  intro m
  induction m with
  | zero =>
    intro k p out hk ho hp hr hs n hn R κ
    obtain ⟨n, rfl⟩ : ∃ j, n = j + 1 := ⟨n - 1, by omega⟩
    rw [f30_l0, dec_false (by omega), List.drop_of_length_le (l := v9) (by omega)]
    show κ _ _ = κ _ (mkS _ [(_, some ⟨false, [.own 9 false (out ++ [])]⟩)])
    rw [List.append_nil]
    rfl
  | succ m ih =>
    intro k p out hk o1 hp hrt hs n hn R κ
    obtain ⟨n, rfl⟩ : ∃ j, n = j + 1 := ⟨n - 1, by omega⟩
    obtain ⟨f, t, o, w, r, hd, hok, hr⟩ := okHs_cons o1 (by intro e; have := congrArg List.length e; rw [List.length_drop] at this; simp only [List.length_nil] at this; omega)
    obtain ⟨n0, n1, n2, n3, hd2, hk4⟩ := drop4 hd
    obtain ⟨p0, p1, ⟨p2, p3, p4⟩, ⟨p5, p6, p7⟩⟩ := okH_spec hok
    rw [hd] at hrt hs ⊢
    unfold rtOk at hrt
    simp only [Bool.and_eq_true, decide_eq_true_eq] at hrt
    obtain ⟨⟨q1, q2⟩, q3⟩ := hrt
    have hs' : out.length + (w.cellsOf.length + newN r) + a.length ≤ 3000000000 + p.toNat := hs
    have hlen : ((a.drop p.toNat).take (f.intOf.toNat - p.toNat)).length = f.intOf.toNat - p.toNat := by
      rw [List.length_take, List.length_drop]; omega
    have IH := ih (k + 1) (f.intOf + (o.cellsOf.length : Int)) ((out ++ (a.drop p.toNat).take (f.intOf.toNat - p.toNat)) ++ w.cellsOf) (by omega) (by rw [hd2]; exact hr) (by omega) (by rw [hd2]; exact q3) (by rw [hd2, List.length_append, List.length_append, hlen]; omega) n (by omega) R κ
    rw [hd2] at IH
    have w1 : IntKind.wrap .i64 (f.intOf + ((o.cellsOf.length : Nat) : Int)) = f.intOf + ((o.cellsOf.length : Nat) : Int) := wrap_id (by omega) (by omega)
    have r1 : (roomy ((out.length + ((a.drop p.toNat).take (f.intOf.toNat - p.toNat)).length) * 16) && roomy (out.length + ((a.drop p.toNat).take (f.intOf.toNat - p.toNat)).length)) = true := by
      unfold roomy
      rw [hlen, dec_true (by omega), dec_true (by omega)]; rfl
    have r2 : (roomy (((out ++ (a.drop p.toNat).take (f.intOf.toNat - p.toNat)).length + w.cellsOf.length) * 16) && roomy ((out ++ (a.drop p.toNat).take (f.intOf.toNat - p.toNat)).length + w.cellsOf.length)) = true := by
      unfold roomy
      rw [List.length_append, hlen, dec_true (by omega), dec_true (by omega)]; rfl
    rw [f30_l0, dec_true (show (k : Int) < ((q : Nat) : Int) by omega), dec_true (show (0 : Int) ≤ (k : Int) by omega), dec_true (show (k : Int) < ((lenE 4 v9.length : Nat) : Int) by omega), n0, n1, n2, n3, p0, p1, p2, p5, wrap_succ (by omega)]
    simp only [Nat.mul_one, Bool.and_true, cond_true]
    rw [dec_true hp, dec_true q1, dec_true (show f.intOf ≤ ((a.length : Nat) : Int) by omega), r1, r2, w1]
    simp only [Bool.and_true, cond_true]
    rw [IH, List.append_assoc, List.append_assoc]
    show _ = κ _ (mkS _ [(_, some ⟨false, [.own 9 false (out ++ (((a.drop p.toNat).take (f.intOf.toNat - p.toNat) ++ w.cellsOf) ++ repC a (f.intOf + (o.cellsOf.length : Int)) r))]⟩)])
    rw [List.append_assoc]
    rfl
theorem f30_s0_eq (a : List V) (at' : Int) (v9 : List V) (v10 : Int) (v11 : Int) (out : List V) (hp : ((v10 == ((lenE 4 v9.length : Nat) : Int)) && (v11 == 0) && okHs v9 && decide (a.length ≤ 100000000) && decide (v9.length ≤ 1000000000) && decide (out.length ≤ 1000000000) && decide (newN v9 ≤ 1000000000) && decide (0 ≤ at') && rtOk ((a.length : Nat) : Int) at' v9) = true) : ∃ n, ∀ (R : Type) (κ : Ex → St → Option R), f30_l0 n a at' v9 v10 v11 out R κ = f30_s0 a at' v9 v10 v11 out R κ := by
  simp only [Bool.and_eq_true, decide_eq_true_eq, beq_iff_eq] at hp
  obtain ⟨⟨⟨⟨⟨⟨⟨⟨rfl, rfl⟩, h1⟩, h2⟩, h3⟩, h4⟩, h5⟩, h6⟩, h7⟩ := hp
  obtain ⟨q, hq⟩ := okHs_len _ h1
  have e : lenE 4 v9.length = q := by show v9.length / 4 = q; omega
  rw [e]
  refine ⟨q + 1, fun R κ => ?_⟩
  have := f30_l0_c a v9 q h2 hq h3 q 0 at' out (by omega) (by simpa using h1) h6 (by simpa using h7) (by rw [Nat.zero_mul, List.drop_zero]; omega) (q + 1) (by omega) R κ
  rw [Nat.zero_mul, List.drop_zero] at this
  exact this
def t_f30_l0 (st : St) (R : Type) (κ : Ex → St → Option R) : Option R := bif ckS f30_l0_ls f30_l0_rs st then (bif ((((st.env 10).intOf) == ((lenE 4 ((st.env 9).cellsOf).length : Nat) : Int)) && (((st.env 11).intOf) == 0) && okHs ((st.env 9).cellsOf) && decide (((st.env 0).cellsOf).length ≤ 100000000) && decide (((st.env 9).cellsOf).length ≤ 1000000000) && decide (((nthV (rowOf (st.regs (.loc 5))) 0).cellsOf).length ≤ 1000000000) && decide (newN ((st.env 9).cellsOf) ≤ 1000000000) && decide (0 ≤ ((st.env 6).intOf)) && rtOk ((((st.env 0).cellsOf).length : Nat) : Int) ((st.env 6).intOf) ((st.env 9).cellsOf)) then f30_s0 ((st.env 0).cellsOf) ((st.env 6).intOf) ((st.env 9).cellsOf) ((st.env 10).intOf) ((st.env 11).intOf) ((nthV (rowOf (st.regs (.loc 5))) 0).cellsOf) R κ else none) else none
theorem t_f30_l0_ok : ∀ st0 R κ r, t_f30_l0 (forget C 30 [0, 1, 0, 1, 1, 1] st0) R κ = some r → ∃ ee ss, κ ee ss = some r ∧ RunP C prim 30 [0, 1, 0, 1, 1, 1] (forget C 30 [0, 1, 0, 1, 1, 1] st0) ee ss := by
  intro st0 R κ r h
  obtain ⟨hs, h⟩ := cond_some h
  obtain ⟨hp, h⟩ := cond_some h
  rw [canon (ls := f30_l0_ls) (rs := f30_l0_rs) (by kernel_rfl) st0 hs]
  obtain ⟨n, hn⟩ := f30_s0_eq _ _ _ _ _ _ hp
  rw [← hn] at h
  exact f30_l0_ok n _ _ _ _ _ _ R κ r h

def K_f30 : CallK := kNil
theorem K_f30_ok : KOK C prim K_f30 := KOK.nil
def T_f30 : Tab := tCons [0, 1, 0, 1, 1, 1] t_f30_l0 <| tNil
theorem T_f30_ok : TOK C prim 30 T_f30 := TOK.cons t_f30_l0_ok <| TOK.nil
def f30 (a : List V) (l : List V) : Option (V × List Rg) :=
  bif (((((lenE 4 l.length) : Nat) : Int) == ((lenE 4 l.length : Nat) : Int)) && ((0 : Int) == 0) && okHs l && decide (a.length ≤ 100000000) && decide (l.length ≤ 1000000000) && decide (([] : List V).length ≤ 1000000000) && decide (newN l ≤ 1000000000) && decide (0 ≤ (0 : Int)) && rtOk ((a.length : Nat) : Int) (0 : Int) l) then
    bif (((((decide ((0 : Int) ≤ (endR (0 : Int) l))) && (decide ((endR (0 : Int) l) ≤ ((a.length : Nat) : Int)))) && true) && true) && true) then
      bif (((roomy ((((([] : List V) ++ repC a (0 : Int) l)).length + ((a.drop (((endR (0 : Int) l)).toNat * 1))).length) * 16)) && (roomy (((([] : List V) ++ repC a (0 : Int) l)).length + ((a.drop (((endR (0 : Int) l)).toNat * 1))).length))) && true) then
        some (.own 9 false ((([] : List V) ++ repC a (0 : Int) l) ++ (a.drop (((endR (0 : Int) l)).toNat * 1))), [])
      else none
    else none
  else none
theorem f30_run (a : List V) (l : List V) (z9 : V × List Rg) (h : f30 a l = some z9) : CallR C prim 30 [.sl 1 a, .sl 4 l] [] z9 := by
  refine call_fn (K := K_f30) (T := T_f30) K_f30_ok T_f30_ok (by kernel_rfl) ?_
  refine Eq.trans ?_ h
  kernel_rfl

theorem f30_eq (a : List V) (l : List V) (hp : (okHs l && decide (a.length ≤ 100000000) && decide (l.length ≤ 1000000000) && decide (newN l ≤ 1000000000) && rtOk ((a.length : Nat) : Int) 0 l) = true) : f30 a l = some (.own 9 false (repA a l), []) := by
  simp only [Bool.and_eq_true, decide_eq_true_eq] at hp
  obtain ⟨⟨⟨⟨h1, h2⟩, h3⟩, h4⟩, h5⟩ := hp
  obtain ⟨g1, g2, g3⟩ := repC_len a l 0 h1 (by omega) h5
  have ht : (a.drop (endR 0 l).toNat).length ≤ a.length := by rw [List.length_drop]; omega
  have r1 : (roomy (((repC a (0 : Int) l).length + (a.drop (endR (0 : Int) l).toNat).length) * 16) && roomy ((repC a (0 : Int) l).length + (a.drop (endR (0 : Int) l).toNat).length)) = true := by
    unfold roomy
    rw [dec_true (by omega), dec_true (by omega)]; rfl
  unfold f30
  rw [List.nil_append, Nat.mul_one, h1, dec_true h2, dec_true h3, dec_true h4, h5, dec_true g2, dec_true g3, r1, beq_self_eq_true]
  rfl
def k30 : PrimT := fun vs gs => match vs, gs with
  | [.sl 1 a, .sl 4 l], [] => ((okHs l && decide (a.length ≤ 100000000) && decide (l.length ≤ 1000000000) && decide (newN l ≤ 1000000000) && rtOk ((a.length : Nat) : Int) 0 l), .own 9 false (repA a l), [])
  | _, _ => (false, .bad, [])
theorem k30_ok : ∀ vs gs x, k30 vs gs = (true, x) → CallR C prim 30 vs gs x := by
  intro vs gs x h
  unfold k30 at h
  split at h
  · simp only [Prod.mk.injEq] at h
    obtain ⟨hp, rfl⟩ := h
    exact f30_run _ _ _ (f30_eq _ _ hp)
  · cases h

def K_f7_l0 : CallK := kCons 29 k29 <| kNil
theorem K_f7_l0_ok : KOK C prim K_f7_l0 := KOK.cons k29_ok <| KOK.nil
def T_f7_l0 : Tab := tNil
theorem T_f7_l0_ok : TOK C prim 7 T_f7_l0 := TOK.nil
def f7_l0 : Nat → List V → List V → Int → Int → Int → Int → Int → List V → List V → (R : Type) → (Ex → St → Option R) → Option R
  | 0, _, _, _, _, _, _, _, _, _, _, _ => none
  | n + 1, a, l, e, want, wrong, v65, v66, b, back, R, κ =>
    bif (decide (v66 < v65)) then
      bif (((decide ((0 : Int) ≤ v66)) && (decide (v66 < (((lenE 4 back.length) : Nat) : Int)))) && true) then
        bif (((V.isInt .i64 (nthV back (((v66).toNat * 4) + 0))) && ((V.isInt .i64 (nthV back ((((v66).toNat * 4) + 0) + 1))) && ((V.isSl 1 (nthV back (((((v66).toNat * 4) + 0) + 1) + 1))) && ((V.isSl 1 (nthV back ((((((v66).toNat * 4) + 0) + 1) + 1) + 1))) && true)))) && true) then
          bif (((decide ((0 : Int) ≤ v66)) && (decide (v66 < (((lenE 4 l.length) : Nat) : Int)))) && true) then
            bif (((V.isInt .i64 (nthV l (((v66).toNat * 4) + 0))) && ((V.isInt .i64 (nthV l (((v66).toNat * 4) + 1))) && ((V.isSl 1 (nthV l (((v66).toNat * 4) + 2))) && ((V.isSl 1 (nthV l (((v66).toNat * 4) + 3))) && true)))) && true) then
              bif ((V.intOf (nthV back (((v66).toNat * 4) + 0))) != (V.intOf (nthV l (((v66).toNat * 4) + 1)))) then
                κ .rt (mkS [(0, .sl 1 a), (1, .sl 4 l), (4, .sc (.bool false)), (5, .ref ⟨.loc 5, 0, [], 9, false⟩), (6, .sc (.int .i64 e)), (7, .sc (.int .i64 want)), (8, .ref ⟨.loc 8, 0, [], 57, false⟩), (10, .sc (.int .i64 wrong))] [(.loc 5, some ⟨false, [.own 9 false b]⟩), (.loc 8, some ⟨false, [.own 57 false back]⟩)])
              else
                bif ((V.intOf (nthV back ((((v66).toNat * 4) + 0) + 1))) != (V.intOf (nthV l (((v66).toNat * 4) + 0)))) then
                  κ .rt (mkS [(0, .sl 1 a), (1, .sl 4 l), (4, .sc (.bool false)), (5, .ref ⟨.loc 5, 0, [], 9, false⟩), (6, .sc (.int .i64 e)), (7, .sc (.int .i64 want)), (8, .ref ⟨.loc 8, 0, [], 57, false⟩), (10, .sc (.int .i64 wrong))] [(.loc 5, some ⟨false, [.own 9 false b]⟩), (.loc 8, some ⟨false, [.own 57 false back]⟩)])
                else
                  bif (((V.cellsOf (nthV back (((((v66).toNat * 4) + 0) + 1) + 1))).all V.isStr && (V.cellsOf (nthV l (((v66).toNat * 4) + 3))).all V.isStr && decide ((V.cellsOf (nthV back (((((v66).toNat * 4) + 0) + 1) + 1))).length ≤ 1000000000) && decide ((V.cellsOf (nthV l (((v66).toNat * 4) + 3))).length ≤ 1000000000)) && true) then
                    bif (!(eqS (V.cellsOf (nthV back (((((v66).toNat * 4) + 0) + 1) + 1))) (V.cellsOf (nthV l (((v66).toNat * 4) + 3))))) then
                      κ .rt (mkS [(0, .sl 1 a), (1, .sl 4 l), (4, .sc (.bool false)), (5, .ref ⟨.loc 5, 0, [], 9, false⟩), (6, .sc (.int .i64 e)), (7, .sc (.int .i64 want)), (8, .ref ⟨.loc 8, 0, [], 57, false⟩), (10, .sc (.int .i64 wrong))] [(.loc 5, some ⟨false, [.own 9 false b]⟩), (.loc 8, some ⟨false, [.own 57 false back]⟩)])
                    else
                      bif (((V.cellsOf (nthV back ((((((v66).toNat * 4) + 0) + 1) + 1) + 1))).all V.isStr && (V.cellsOf (nthV l (((v66).toNat * 4) + 2))).all V.isStr && decide ((V.cellsOf (nthV back ((((((v66).toNat * 4) + 0) + 1) + 1) + 1))).length ≤ 1000000000) && decide ((V.cellsOf (nthV l (((v66).toNat * 4) + 2))).length ≤ 1000000000)) && true) then
                        bif (!(eqS (V.cellsOf (nthV back ((((((v66).toNat * 4) + 0) + 1) + 1) + 1))) (V.cellsOf (nthV l (((v66).toNat * 4) + 2))))) then
                          κ .rt (mkS [(0, .sl 1 a), (1, .sl 4 l), (4, .sc (.bool false)), (5, .ref ⟨.loc 5, 0, [], 9, false⟩), (6, .sc (.int .i64 e)), (7, .sc (.int .i64 want)), (8, .ref ⟨.loc 8, 0, [], 57, false⟩), (10, .sc (.int .i64 wrong))] [(.loc 5, some ⟨false, [.own 9 false b]⟩), (.loc 8, some ⟨false, [.own 57 false back]⟩)])
                        else
                          f7_l0 n a l e want wrong v65 (IntKind.wrap .i64 (v66 + 1)) b back R κ
                      else none
                  else none
            else none
          else none
        else none
      else none
    else
      κ (.ex 0) (mkS [(0, .sl 1 a), (1, .sl 4 l), (4, .bad), (5, .ref ⟨.loc 5, 0, [], 9, false⟩), (6, .sc (.int .i64 e)), (7, .sc (.int .i64 want)), (8, .ref ⟨.loc 8, 0, [], 57, false⟩), (10, .sc (.int .i64 wrong))] [(.loc 5, some ⟨false, [.own 9 false b]⟩), (.loc 8, some ⟨false, [.own 57 false back]⟩)])
def f7_l0_ls : List (Nat × Pat) := [(0, .sl 1), (1, .sl 4), (5, .is (.ref ⟨.loc 5, 0, [], 9, false⟩)), (6, .i .i64), (7, .i .i64), (8, .is (.ref ⟨.loc 8, 0, [], 57, false⟩)), (10, .i .i64), (64, .is (.ref ⟨.loc 8, 0, [], 57, false⟩)), (65, .i .i64), (66, .i .i64)]
def f7_l0_rs : List RPat := [⟨.loc 5, false, [.own 9 false]⟩, ⟨.loc 8, false, [.own 57 false]⟩]
theorem f7_l0_ok (n : Nat) : ∀ (a : List V) (l : List V) (e : Int) (want : Int) (wrong : Int) (v65 : Int) (v66 : Int) (b : List V) (back : List V) (R : Type) (κ : Ex → St → Option R) (r : R), f7_l0 n a l e want wrong v65 v66 b back R κ = some r → ∃ ee ss, κ ee ss = some r ∧ RunP C prim 7 [0, 1, 0, 1, 1, 1, 1, 1, 1] (mkS [(0, .sl 1 a), (1, .sl 4 l), (5, .ref ⟨.loc 5, 0, [], 9, false⟩), (6, .sc (.int .i64 e)), (7, .sc (.int .i64 want)), (8, .ref ⟨.loc 8, 0, [], 57, false⟩), (10, .sc (.int .i64 wrong)), (64, .ref ⟨.loc 8, 0, [], 57, false⟩), (65, .sc (.int .i64 v65)), (66, .sc (.int .i64 v66))] [(.loc 5, some ⟨false, [.own 9 false b]⟩), (.loc 8, some ⟨false, [.own 57 false back]⟩)]) ee ss := by
  induction n with
  | zero => intro a l e want wrong v65 v66 b back R κ r h; cases h
  | succ n ih =>
    intro a l e want wrong v65 v66 b back R κ r h
    refine loop_round (K := K_f7_l0) (T := T_f7_l0) K_f7_l0_ok T_f7_l0_ok (p := [0, 1, 0, 1, 1, 1, 1, 1, 1]) (by kernel_rfl) (fun st => bif ckS f7_l0_ls f7_l0_rs st then f7_l0 n ((st.env 0).cellsOf) ((st.env 1).cellsOf) ((st.env 6).intOf) ((st.env 7).intOf) ((st.env 10).intOf) ((st.env 65).intOf) ((st.env 66).intOf) ((nthV (rowOf (st.regs (.loc 5))) 0).cellsOf) ((nthV (rowOf (st.regs (.loc 8))) 0).cellsOf) R κ else none) (fun st0 h0 => ?_) ?_
    · obtain ⟨hs, h0⟩ := cond_some h0
      rw [canon (ls := f7_l0_ls) (rs := f7_l0_rs) (by kernel_rfl) st0 hs]
      exact ih _ _ _ _ _ _ _ _ _ R κ r h0
    · refine Eq.trans ?_ h
      kernel_rfl

def f7_s0 (a : List V) (l : List V) (e : Int) (want : Int) (wrong : Int) (v65 : Int) (v66 : Int) (b : List V) (back : List V) (R : Type) (κ : Ex → St → Option R) : Option R :=
  bif (turnOk back l) then
    κ (.ex 0) (mkS [(0, .sl 1 a), (1, .sl 4 l), (4, .bad), (5, .ref ⟨.loc 5, 0, [], 9, false⟩), (6, .sc (.int .i64 e)), (7, .sc (.int .i64 want)), (8, .ref ⟨.loc 8, 0, [], 57, false⟩), (10, .sc (.int .i64 wrong))] [(.loc 5, some ⟨false, [.own 9 false b]⟩), (.loc 8, some ⟨false, [.own 57 false back]⟩)])
  else
    κ .rt (mkS [(0, .sl 1 a), (1, .sl 4 l), (4, .sc (.bool false)), (5, .ref ⟨.loc 5, 0, [], 9, false⟩), (6, .sc (.int .i64 e)), (7, .sc (.int .i64 want)), (8, .ref ⟨.loc 8, 0, [], 57, false⟩), (10, .sc (.int .i64 wrong))] [(.loc 5, some ⟨false, [.own 9 false b]⟩), (.loc 8, some ⟨false, [.own 57 false back]⟩)])
def fin7 (a l : List V) (e want wrong : Int) (b back : List V) (c : Bool) (R : Type) (κ : Ex → St → Option R) : Option R :=
  bif c then κ (.ex 0) (mkS [(0, .sl 1 a), (1, .sl 4 l), (4, .bad), (5, .ref ⟨.loc 5, 0, [], 9, false⟩), (6, .sc (.int .i64 e)), (7, .sc (.int .i64 want)), (8, .ref ⟨.loc 8, 0, [], 57, false⟩), (10, .sc (.int .i64 wrong))] [(.loc 5, some ⟨false, [.own 9 false b]⟩), (.loc 8, some ⟨false, [.own 57 false back]⟩)])
  else κ .rt (mkS [(0, .sl 1 a), (1, .sl 4 l), (4, .sc (.bool false)), (5, .ref ⟨.loc 5, 0, [], 9, false⟩), (6, .sc (.int .i64 e)), (7, .sc (.int .i64 want)), (8, .ref ⟨.loc 8, 0, [], 57, false⟩), (10, .sc (.int .i64 wrong))] [(.loc 5, some ⟨false, [.own 9 false b]⟩), (.loc 8, some ⟨false, [.own 57 false back]⟩)])
theorem f7_l0_c (a l : List V) (e want wrong : Int) (b back : List V) (q q2 : Nat) (hq : back.length = 4 * q) (hq2 : l.length = 4 * q2) (hle : q ≤ q2) (hb : back.length ≤ 1000000000) : ∀ (m k : Nat), k + m = q → okHs (back.drop (k * 4)) = true → okHs (l.drop (k * 4)) = true → ∀ n, m < n → ∀ (R : Type) (κ : Ex → St → Option R),
    f7_l0 n a l e want wrong ((q : Nat) : Int) (k : Int) b back R κ = fin7 a l e want wrong b back (turnOk (back.drop (k * 4)) (l.drop (k * 4))) R κ := by
  intro m
  induction m with
  | zero =>
    intro k hk o1 o2 n hn R κ
    obtain ⟨n, rfl⟩ : ∃ j, n = j + 1 := ⟨n - 1, by omega⟩
    rw [f7_l0, dec_false (by omega), List.drop_of_length_le (l := back) (by omega)]
    rfl
  | succ m ih =>
    intro k hk o1 o2 n hn R κ
    obtain ⟨n, rfl⟩ : ∃ j, n = j + 1 := ⟨n - 1, by omega⟩
    obtain ⟨f, t, o, w, r, hd, hok, hr⟩ := okHs_cons o1 (by intro e; have := congrArg List.length e; rw [List.length_drop] at this; simp only [List.length_nil] at this; omega)
    obtain ⟨f', t', o', w', r', hd', hok', hr'⟩ := okHs_cons o2 (by intro e; have := congrArg List.length e; rw [List.length_drop] at this; simp only [List.length_nil] at this; omega)
    obtain ⟨n0, n1, n2, n3, hd2, hk4⟩ := drop4 hd
    obtain ⟨n0', n1', n2', n3', hd2', hk4'⟩ := drop4 hd'
    obtain ⟨p0, p1, ⟨p2, p3, p4⟩, ⟨p5, p6, p7⟩⟩ := okH_spec hok
    obtain ⟨p0', p1', ⟨p2', p3', p4'⟩, ⟨p5', p6', p7'⟩⟩ := okH_spec hok'
    have IH := ih (k + 1) (by omega) (by rw [hd2]; exact hr) (by rw [hd2']; exact hr') n (by omega) R κ
    rw [hd2, hd2'] at IH
    have m1 : nthV back ((k : Int).toNat * 4 + 0 + 1) = t := n1
    have m2 : nthV back ((k : Int).toNat * 4 + 0 + 1 + 1) = o := n2
    have m3 : nthV back ((k : Int).toNat * 4 + 0 + 1 + 1 + 1) = w := n3
    rw [f7_l0, dec_true (show (k : Int) < ((q : Nat) : Int) by omega), dec_true (show (0 : Int) ≤ (k : Int) by omega), dec_true (show (k : Int) < ((lenE 4 back.length : Nat) : Int) by omega), dec_true (show (k : Int) < ((lenE 4 l.length : Nat) : Int) by omega), m1, m2, m3, n0, n0', n1', n2', n3', p0, p1, p2, p3, p5, p6, p0', p1', p2', p3', p5', p6', dec_true p4, dec_true p7, dec_true p4', dec_true p7', wrap_succ (by omega), IH, hd, hd', turnOk]
    cases f.intOf != t'.intOf with
    | true => rfl
    | false =>
    cases t.intOf != f'.intOf with
    | true => rfl
    | false =>
    cases eqS o.cellsOf w'.cellsOf with
    | false => rfl
    | true => cases eqS w.cellsOf o'.cellsOf <;> rfl
theorem f7_s0_eq (a : List V) (l : List V) (e : Int) (want : Int) (wrong : Int) (v65 : Int) (v66 : Int) (b : List V) (back : List V) (hp : ((v65 == ((lenE 4 back.length : Nat) : Int)) && (v66 == 0) && okHs back && okHs l && decide (back.length ≤ 1000000000) && decide (back.length ≤ l.length)) = true) : ∃ n, ∀ (R : Type) (κ : Ex → St → Option R), f7_l0 n a l e want wrong v65 v66 b back R κ = f7_s0 a l e want wrong v65 v66 b back R κ := by
  simp only [Bool.and_eq_true, decide_eq_true_eq, beq_iff_eq] at hp
  obtain ⟨⟨⟨⟨⟨rfl, rfl⟩, h1⟩, h2⟩, h3⟩, h4⟩ := hp
  obtain ⟨q, hq⟩ := okHs_len _ h1
  obtain ⟨q2, hq2⟩ := okHs_len _ h2
  have e' : lenE 4 back.length = q := by show back.length / 4 = q; omega
  rw [e']
  refine ⟨q + 1, fun R κ => ?_⟩
  have := f7_l0_c a l e want wrong b back q q2 hq hq2 (by omega) h3 q 0 (by omega) (by simpa using h1) (by simpa using h2) (q + 1) (by omega) R κ
  rw [Nat.zero_mul, List.drop_zero, List.drop_zero] at this
  exact this
def t_f7_l0 (st : St) (R : Type) (κ : Ex → St → Option R) : Option R := bif ckS f7_l0_ls f7_l0_rs st then (bif ((((st.env 65).intOf) == ((lenE 4 ((nthV (rowOf (st.regs (.loc 8))) 0).cellsOf).length : Nat) : Int)) && (((st.env 66).intOf) == 0) && okHs ((nthV (rowOf (st.regs (.loc 8))) 0).cellsOf) && okHs ((st.env 1).cellsOf) && decide (((nthV (rowOf (st.regs (.loc 8))) 0).cellsOf).length ≤ 1000000000) && decide (((nthV (rowOf (st.regs (.loc 8))) 0).cellsOf).length ≤ ((st.env 1).cellsOf).length)) then f7_s0 ((st.env 0).cellsOf) ((st.env 1).cellsOf) ((st.env 6).intOf) ((st.env 7).intOf) ((st.env 10).intOf) ((st.env 65).intOf) ((st.env 66).intOf) ((nthV (rowOf (st.regs (.loc 5))) 0).cellsOf) ((nthV (rowOf (st.regs (.loc 8))) 0).cellsOf) R κ else none) else none
theorem t_f7_l0_ok : ∀ st0 R κ r, t_f7_l0 (forget C 7 [0, 1, 0, 1, 1, 1, 1, 1, 1] st0) R κ = some r → ∃ ee ss, κ ee ss = some r ∧ RunP C prim 7 [0, 1, 0, 1, 1, 1, 1, 1, 1] (forget C 7 [0, 1, 0, 1, 1, 1, 1, 1, 1] st0) ee ss := by
  intro st0 R κ r h
  obtain ⟨hs, h⟩ := cond_some h
  obtain ⟨hp, h⟩ := cond_some h
  rw [canon (ls := f7_l0_ls) (rs := f7_l0_rs) (by kernel_rfl) st0 hs]
  obtain ⟨n, hn⟩ := f7_s0_eq _ _ _ _ _ _ _ _ _ hp
  rw [← hn] at h
  exact f7_l0_ok n _ _ _ _ _ _ _ _ _ R κ r h

def K_f7 : CallK := kCons 12 k12 <| kCons 13 k13 <| kCons 20 k20 <| kCons 26 k26 <| kCons 27 k27 <| kCons 28 k28 <| kCons 29 k29 <| kCons 30 k30 <| kNil
theorem K_f7_ok : KOK C prim K_f7 := KOK.cons k12_ok <| KOK.cons k13_ok <| KOK.cons k20_ok <| KOK.cons k26_ok <| KOK.cons k27_ok <| KOK.cons k28_ok <| KOK.cons k29_ok <| KOK.cons k30_ok <| KOK.nil
def T_f7 : Tab := tCons [0, 1, 0, 1, 1, 1, 1, 1, 1] t_f7_l0 <| tNil
theorem T_f7_ok : TOK C prim 7 T_f7 := TOK.cons t_f7_l0_ok <| TOK.nil
def f7 (a : List V) (l : List V) : Option (V × List Rg) :=
  bif ((okHs l && a.all V.isStr && decide (a.length ≤ 2000000) && decide (l.length ≤ 1000000000) && decide (newN l ≤ 1000000000)) && true) then
    bif ((([.sl 1 a] : List V).all okStrs && decide (([.sl 1 a] : List V).length ≤ 1000000000)) && true) then
      bif ((okHs l && a.all V.isStr && decide (a.length ≤ 2000000) && decide (l.length ≤ 1000000000)) && true) then
        bif ((([.sc (.int .i64 (listsE ([.sl 1 a] : List V))), .sc (.int .i64 (heE a false l true))] : List V).all (V.isInt .i64) && decide (([.sc (.int .i64 (listsE ([.sl 1 a] : List V))), .sc (.int .i64 (heE a false l true))] : List V).length ≤ 1000000000)) && true) then
          bif ((okHs l && decide (l.length ≤ 1000000000)) && true) then
            bif ((okHs l && ([] : List V).all V.isStr && decide (([] : List V).length ≤ 2000000) && decide (l.length ≤ 1000000000)) && true) then
              bif ((trE true l) != (heE ([] : List V) true l true)) then
                some (.sc (.bool false), [])
              else
                bif ((((lenE 4 ((turnL l)).length) : Nat) : Int) != (((lenE 4 l.length) : Nat) : Int)) then
                  bif ((heE ([] : List V) true l true) == 0) then
                    some (.sc (.bool false), [])
                  else
                    bif ((heE ([] : List V) true l true) != 0) then
                      bif (decide ((((lenE 4 ((turnL l)).length) : Nat) : Int) > 0)) then
                        some (.sc (.bool false), [])
                      else
                        bif (((((lenE 4 ((turnL l)).length) : Nat) : Int) == ((lenE 4 (turnL l).length : Nat) : Int)) && ((0 : Int) == 0) && okHs (turnL l) && okHs l && decide ((turnL l).length ≤ 1000000000) && decide ((turnL l).length ≤ l.length)) then
                          bif (turnOk (turnL l) l) then
                            bif ((firstBy V.intOf ([.sc (.int .i64 (listsE ([.sl 1 a] : List V))), .sc (.int .i64 (heE a false l true))] : List V)) != 0) then
                              bif (((((appL a l)).length : Nat) : Int) == 0) then
                                some (.sc (.bool ((appE a l) == (firstBy V.intOf ([.sc (.int .i64 (listsE ([.sl 1 a] : List V))), .sc (.int .i64 (heE a false l true))] : List V)))), [])
                              else
                                some (.sc (.bool false), [])
                            else
                              bif ((appE a l) != 0) then
                                some (.sc (.bool false), [])
                              else
                                bif ((okHs l && decide (a.length ≤ 100000000) && decide (l.length ≤ 1000000000) && decide (newN l ≤ 1000000000) && rtOk ((a.length : Nat) : Int) 0 l) && true) then
                                  bif (((appL a l).all V.isStr && (repA a l).all V.isStr && decide ((appL a l).length ≤ 1000000000) && decide ((repA a l).length ≤ 1000000000)) && true) then
                                    bif (!(eqS (appL a l) (repA a l))) then
                                      some (.sc (.bool false), [])
                                    else
                                      bif ((heE ([] : List V) true l true) != 0) then
                                        some (.sc (.bool true), [])
                                      else
                                        bif ((okHs (turnL l) && (appL a l).all V.isStr && decide ((appL a l).length ≤ 2000000) && decide ((turnL l).length ≤ 1000000000) && decide (newN (turnL l) ≤ 1000000000)) && true) then
                                          bif ((appE (appL a l) (turnL l)) == 0) then
                                            bif ((a.all V.isStr && (appL (appL a l) (turnL l)).all V.isStr && decide (a.length ≤ 1000000000) && decide ((appL (appL a l) (turnL l)).length ≤ 1000000000)) && true) then
                                              some (.sc (.bool (eqS a (appL (appL a l) (turnL l)))), [])
                                            else none
                                          else
                                            some (.sc (.bool false), [])
                                        else none
                                  else none
                                else none
                          else
                            some (.sc (.bool false), [])
                        else none
                    else
                      bif (((((lenE 4 ((turnL l)).length) : Nat) : Int) == ((lenE 4 (turnL l).length : Nat) : Int)) && ((0 : Int) == 0) && okHs (turnL l) && okHs l && decide ((turnL l).length ≤ 1000000000) && decide ((turnL l).length ≤ l.length)) then
                        bif (turnOk (turnL l) l) then
                          bif ((firstBy V.intOf ([.sc (.int .i64 (listsE ([.sl 1 a] : List V))), .sc (.int .i64 (heE a false l true))] : List V)) != 0) then
                            bif (((((appL a l)).length : Nat) : Int) == 0) then
                              some (.sc (.bool ((appE a l) == (firstBy V.intOf ([.sc (.int .i64 (listsE ([.sl 1 a] : List V))), .sc (.int .i64 (heE a false l true))] : List V)))), [])
                            else
                              some (.sc (.bool false), [])
                          else
                            bif ((appE a l) != 0) then
                              some (.sc (.bool false), [])
                            else
                              bif ((okHs l && decide (a.length ≤ 100000000) && decide (l.length ≤ 1000000000) && decide (newN l ≤ 1000000000) && rtOk ((a.length : Nat) : Int) 0 l) && true) then
                                bif (((appL a l).all V.isStr && (repA a l).all V.isStr && decide ((appL a l).length ≤ 1000000000) && decide ((repA a l).length ≤ 1000000000)) && true) then
                                  bif (!(eqS (appL a l) (repA a l))) then
                                    some (.sc (.bool false), [])
                                  else
                                    bif ((heE ([] : List V) true l true) != 0) then
                                      some (.sc (.bool true), [])
                                    else
                                      bif ((okHs (turnL l) && (appL a l).all V.isStr && decide ((appL a l).length ≤ 2000000) && decide ((turnL l).length ≤ 1000000000) && decide (newN (turnL l) ≤ 1000000000)) && true) then
                                        bif ((appE (appL a l) (turnL l)) == 0) then
                                          bif ((a.all V.isStr && (appL (appL a l) (turnL l)).all V.isStr && decide (a.length ≤ 1000000000) && decide ((appL (appL a l) (turnL l)).length ≤ 1000000000)) && true) then
                                            some (.sc (.bool (eqS a (appL (appL a l) (turnL l)))), [])
                                          else none
                                        else
                                          some (.sc (.bool false), [])
                                      else none
                                else none
                              else none
                        else
                          some (.sc (.bool false), [])
                      else none
                else
                  bif ((heE ([] : List V) true l true) != 0) then
                    bif (decide ((((lenE 4 ((turnL l)).length) : Nat) : Int) > 0)) then
                      some (.sc (.bool false), [])
                    else
                      bif (((((lenE 4 ((turnL l)).length) : Nat) : Int) == ((lenE 4 (turnL l).length : Nat) : Int)) && ((0 : Int) == 0) && okHs (turnL l) && okHs l && decide ((turnL l).length ≤ 1000000000) && decide ((turnL l).length ≤ l.length)) then
                        bif (turnOk (turnL l) l) then
                          bif ((firstBy V.intOf ([.sc (.int .i64 (listsE ([.sl 1 a] : List V))), .sc (.int .i64 (heE a false l true))] : List V)) != 0) then
                            bif (((((appL a l)).length : Nat) : Int) == 0) then
                              some (.sc (.bool ((appE a l) == (firstBy V.intOf ([.sc (.int .i64 (listsE ([.sl 1 a] : List V))), .sc (.int .i64 (heE a false l true))] : List V)))), [])
                            else
                              some (.sc (.bool false), [])
                          else
                            bif ((appE a l) != 0) then
                              some (.sc (.bool false), [])
                            else
                              bif ((okHs l && decide (a.length ≤ 100000000) && decide (l.length ≤ 1000000000) && decide (newN l ≤ 1000000000) && rtOk ((a.length : Nat) : Int) 0 l) && true) then
                                bif (((appL a l).all V.isStr && (repA a l).all V.isStr && decide ((appL a l).length ≤ 1000000000) && decide ((repA a l).length ≤ 1000000000)) && true) then
                                  bif (!(eqS (appL a l) (repA a l))) then
                                    some (.sc (.bool false), [])
                                  else
                                    bif ((heE ([] : List V) true l true) != 0) then
                                      some (.sc (.bool true), [])
                                    else
                                      bif ((okHs (turnL l) && (appL a l).all V.isStr && decide ((appL a l).length ≤ 2000000) && decide ((turnL l).length ≤ 1000000000) && decide (newN (turnL l) ≤ 1000000000)) && true) then
                                        bif ((appE (appL a l) (turnL l)) == 0) then
                                          bif ((a.all V.isStr && (appL (appL a l) (turnL l)).all V.isStr && decide (a.length ≤ 1000000000) && decide ((appL (appL a l) (turnL l)).length ≤ 1000000000)) && true) then
                                            some (.sc (.bool (eqS a (appL (appL a l) (turnL l)))), [])
                                          else none
                                        else
                                          some (.sc (.bool false), [])
                                      else none
                                else none
                              else none
                        else
                          some (.sc (.bool false), [])
                      else none
                  else
                    bif (((((lenE 4 ((turnL l)).length) : Nat) : Int) == ((lenE 4 (turnL l).length : Nat) : Int)) && ((0 : Int) == 0) && okHs (turnL l) && okHs l && decide ((turnL l).length ≤ 1000000000) && decide ((turnL l).length ≤ l.length)) then
                      bif (turnOk (turnL l) l) then
                        bif ((firstBy V.intOf ([.sc (.int .i64 (listsE ([.sl 1 a] : List V))), .sc (.int .i64 (heE a false l true))] : List V)) != 0) then
                          bif (((((appL a l)).length : Nat) : Int) == 0) then
                            some (.sc (.bool ((appE a l) == (firstBy V.intOf ([.sc (.int .i64 (listsE ([.sl 1 a] : List V))), .sc (.int .i64 (heE a false l true))] : List V)))), [])
                          else
                            some (.sc (.bool false), [])
                        else
                          bif ((appE a l) != 0) then
                            some (.sc (.bool false), [])
                          else
                            bif ((okHs l && decide (a.length ≤ 100000000) && decide (l.length ≤ 1000000000) && decide (newN l ≤ 1000000000) && rtOk ((a.length : Nat) : Int) 0 l) && true) then
                              bif (((appL a l).all V.isStr && (repA a l).all V.isStr && decide ((appL a l).length ≤ 1000000000) && decide ((repA a l).length ≤ 1000000000)) && true) then
                                bif (!(eqS (appL a l) (repA a l))) then
                                  some (.sc (.bool false), [])
                                else
                                  bif ((heE ([] : List V) true l true) != 0) then
                                    some (.sc (.bool true), [])
                                  else
                                    bif ((okHs (turnL l) && (appL a l).all V.isStr && decide ((appL a l).length ≤ 2000000) && decide ((turnL l).length ≤ 1000000000) && decide (newN (turnL l) ≤ 1000000000)) && true) then
                                      bif ((appE (appL a l) (turnL l)) == 0) then
                                        bif ((a.all V.isStr && (appL (appL a l) (turnL l)).all V.isStr && decide (a.length ≤ 1000000000) && decide ((appL (appL a l) (turnL l)).length ≤ 1000000000)) && true) then
                                          some (.sc (.bool (eqS a (appL (appL a l) (turnL l)))), [])
                                        else none
                                      else
                                        some (.sc (.bool false), [])
                                    else none
                              else none
                            else none
                      else
                        some (.sc (.bool false), [])
                    else none
            else none
          else none
        else none
      else none
    else none
  else none
theorem f7_run (a : List V) (l : List V) (z9 : V × List Rg) (h : f7 a l = some z9) : CallR C prim 7 [.sl 1 a, .sl 4 l] [] z9 := by
  refine call_fn (K := K_f7) (T := T_f7) K_f7_ok T_f7_ok (by kernel_rfl) ?_
  refine Eq.trans ?_ h
  kernel_rfl

theorem eqS_all (l : List V) : eqS l l = true := eqS_refl l
theorem f7_back {a l : List V} (ha : a.all V.isStr = true) (la : a.length ≤ 1048576) (h1 : okHs l = true) (h7 : rngHs l = true) (hl : l.length ≤ 10000000) (he : appE a l = 0) :
    appL a l = repA a l ∧ (repA a l).all V.isStr = true ∧ (repA a l).length ≤ 1000 ∧ appE (repA a l) (turnC l) = 0 ∧ appL (repA a l) (turnC l) = a := by
  have hof := ofE_he a l (by omega) h1 h7 (by omega)
  obtain ⟨t1, t2, t3, t4⟩ := turnC_ok l h1
  have hL : appL a l = repA a l := by unfold appL; rw [he]; rfl
  unfold appE at he
  cases c : listsE [.sl 1 a] != 0 with
  | true => rw [c, cond_true] at he; rw [he] at c; cases c
  | false =>
  rw [c, cond_false, hof] at he
  have ea : listErr a = 0 := by rw [listsE_one] at c; simpa using c
  obtain ⟨la1, lea⟩ := listErr_zero ea
  unfold heE at he
  rw [Bool.false_and, cond_false] at he
  cases c2 : (heRun a false true 0 0 l).1 != 0 with
  | true => rw [c2, cond_true] at he; rw [he] at c2; cases c2
  | false =>
  rw [c2, cond_false] at he
  have e1 : (heRun a false true 0 0 l).1 = 0 := by simpa using c2
  have hrun : ∀ b : List V, b.length ≤ 1000000 → b.drop (0 : Int).toNat = repT a 0 l → _ := fun b lb hb => turned_ok ha (by omega) b lb l 0 0 0 h1 (by omega) (by omega) (by omega) (by omega) (by omega) hb e1
  have hb0 : repA a l = repT a 0 l := rfl
  -- how long it is
  obtain ⟨hlen, hmv⟩ := he_len ha (by omega) (1000 * (l.length : Int)) (by omega) l 0 0 h1 (by omega) (by omega) e1 (by omega)
  have hk : (a.length : Int) + (heRun a false true 0 0 l).2 ≤ 1000 := by
    cases c3 : decide (IntKind.wrap .i64 ((a.length : Int) + (heRun a false true 0 0 l).2) > 1000) with
    | true => rw [c3] at he; cases he
    | false =>
      have := of_decide_eq_false c3
      rw [wrap_id (by omega) (by omega)] at this
      omega
  obtain ⟨i1, i2, i3, i4, i5⟩ := hrun (repT a 0 l) (by omega) rfl
  have hbl : (repA a l).length ≤ 1000 := by rw [hb0]; omega
  have eb : listErr (repA a l) = 0 := listErr_of hbl (i4 ((listE_zero a).1 lea))
  have hbe : appE (repA a l) (turnC l) = 0 := by
    unfold appE
    rw [listsE_one, eb, ofE_he (repA a l) (turnC l) (by omega) t1 (turnC_rng l h7) (by omega)]
    unfold heE
    rw [hb0, show (heRun (repT a 0 l) false true 0 0 (turnC l)) = (0, -(heRun a false true 0 0 l).2) from i1]
    show (bif decide (IntKind.wrap .i64 (((repT a 0 l).length : Int) + -(heRun a false true 0 0 l).2) > 1000) then (2 : Int) else 0) = 0
    rw [wrap_id (by omega) (by omega), dec_false (by omega)]
    rfl
  refine ⟨hL, i5, hbl, hbe, ?_⟩
  have : appL (repA a l) (turnC l) = repA (repA a l) (turnC l) := by unfold appL; rw [hbe]; rfl
  rw [this]
  exact i2
theorem first_two (x y : Int) : firstBy V.intOf [.sc (.int .i64 x), .sc (.int .i64 y)] = bif x != 0 then x else y := by
  show (bif x != 0 then x else bif y != 0 then y else 0) = _
  rw [zero_or (x := y) (fun e => e)]
theorem f7_eq (a : List V) (l : List V) (hp : (okHs l && a.all V.isStr && decide (a.length ≤ 1048576) && decide (l.length ≤ 10000000) && decide (newN l ≤ 1048576) && decide (oldN l ≤ 1048576) && rngHs l) = true) : f7 a l = some (.sc (.bool true), []) := by
  simp only [Bool.and_eq_true, decide_eq_true_eq] at hp
  obtain ⟨⟨⟨⟨⟨⟨h1, h2⟩, h3⟩, h4⟩, h5⟩, h6⟩, h7⟩ := hp
  have hw := trE_he true l h1 h7 (by omega)
  have hof := ofE_he a l (by omega) h1 h7 (by omega)
  have ho : ([.sl 1 a] : List V).all okStrs = true := by
    show (okStrs _ && true) = true
    rw [okStrs_sl h2 (by omega)]; rfl
  have hfirst : firstBy V.intOf [.sc (.int .i64 (listsE [.sl 1 a])), .sc (.int .i64 (heE a false l true))] = appE a l := by
    rw [first_two]; unfold appE; rw [hof]
  have d1 : decide (([.sl 1 a] : List V).length ≤ 1000000000) = true := rfl
  have d2 : ([.sc (.int .i64 (listsE [.sl 1 a])), .sc (.int .i64 (heE a false l true))] : List V).all (V.isInt .i64) = true := rfl
  have d3 : decide (([.sc (.int .i64 (listsE [.sl 1 a])), .sc (.int .i64 (heE a false l true))] : List V).length ≤ 1000000000) = true := rfl
  have d4 : ([] : List V).all V.isStr = true := rfl
  have d5 : decide (([] : List V).length ≤ 2000000) = true := rfl
  have d6 : lenE 4 ([] : List V).length = 0 := rfl
  have d7 : okHs [] = true := rfl
  have d8 : turnOk [] l = true := rfl
  have d9 : decide (([] : List V).length ≤ 1000000000) = true := rfl
  have d10 : decide (([] : List V).length ≤ l.length) = true := dec_true (Nat.zero_le _)
  have d11 : decide (((0 : Nat) : Int) > 0) = false := rfl
  have z1 : lenE 4 0 = 0 := rfl
  have z2 : decide (0 ≤ 2000000) = true := rfl
  have z3 : decide (0 ≤ 1000000000) = true := rfl
  have z4 : decide (0 ≤ l.length) = true := dec_true (Nat.zero_le _)
  obtain ⟨t1, t2, t3, t4⟩ := turnC_ok l h1
  have l1 : decide (a.length ≤ 2000000) = true := dec_true (by omega)
  have l2 : decide (l.length ≤ 1000000000) = true := dec_true (by omega)
  have l3 : decide (newN l ≤ 1000000000) = true := dec_true (by omega)
  have l4 : decide (a.length ≤ 100000000) = true := dec_true (by omega)
  have l5 : decide (a.length ≤ 1000000000) = true := dec_true (by omega)
  unfold f7
  rw [← hw, hfirst]
  cases ce : appE a l != 0 with
  | true =>
    have hL : appL a l = [] := by unfold appL; rw [ce]; rfl
    cases cw : trE true l != 0 with
    | true =>
      have cw2 : (trE true l == 0) = false := by rw [beq_eq_false_iff_ne]; simpa using cw
      have hT : turnL l = [] := by unfold turnL; rw [cw]; rfl
      cases cl : (((0 : Nat) : Int) != ((lenE 4 l.length : Nat) : Int)) <;>
      simp only [hT, hL, h1, h2, ho, d1, d2, d3, d4, d5, d6, d7, d8, d9, d10, d11, l1, l2, l3, l4, l5, ce, cw, cw2, cl, bne_self_eq_false, beq_self_eq_true, Bool.and_true, Bool.true_and, cond_true, cond_false, List.length_nil] <;> simp only [z1, z2, z3, z4, cl, d11, Bool.and_true, cond_true, cond_false] <;> rfl
    | false =>
      have hT : turnL l = turnC l := by unfold turnL; rw [cw]; rfl
      have cw2 : (trE true l == 0) = true := by have : trE true l = 0 := by simpa using cw
                                                rw [this]; rfl
      have l6 : decide ((turnC l).length ≤ 1000000000) = true := by rw [t2]; exact l2
      have l7 : decide ((turnC l).length ≤ l.length) = true := dec_true (by omega)
      simp only [hT, hL, h1, h2, ho, d1, d2, d3, d4, d5, l1, l2, l3, l4, l5, l6, l7, t1, t2, t3, ce, cw, cw2, bne_self_eq_false, beq_self_eq_true, Bool.and_true, Bool.true_and, cond_true, cond_false, List.length_nil]
      simp only [dec_true (Nat.le_refl l.length), l2, Bool.and_true, cond_true]
      rfl
  | false =>
    have e0 : appE a l = 0 := by simpa using ce
    obtain ⟨b1, b2, b3, b4, b5⟩ := f7_back h2 h3 h1 h7 h4 e0
    have hofe : ofE a l = 0 := by
      unfold appE at e0
      cases c : listsE [.sl 1 a] != 0 with
      | true => rw [c, cond_true] at e0; rw [e0] at c; cases c
      | false => rw [c, cond_false] at e0; exact e0
    have hrt : rtOk ((a.length : Nat) : Int) 0 l = true := of_rt (by omega) h1 hofe
    have m1 : decide ((repA a l).length ≤ 1000000000) = true := dec_true (by omega)
    have m2 : decide ((repA a l).length ≤ 2000000) = true := dec_true (by omega)
    cases cw : trE true l != 0 with
    | true =>
      have cw2 : (trE true l == 0) = false := by rw [beq_eq_false_iff_ne]; simpa using cw
      have hT : turnL l = [] := by unfold turnL; rw [cw]; rfl
      cases cl : (((0 : Nat) : Int) != ((lenE 4 l.length : Nat) : Int)) <;>
      simp only [hT, b1, b2, hrt, m1, m2, eqS_all, h1, h2, ho, d1, d2, d3, d4, d5, d6, d7, d8, d9, d10, d11, l1, l2, l3, l4, l5, ce, cw, cw2, cl, bne_self_eq_false, beq_self_eq_true, Bool.and_true, Bool.true_and, Bool.not_true, cond_true, cond_false, List.length_nil] <;> simp only [z1, z2, z3, z4, cl, d11, Bool.and_true, cond_true, cond_false] <;> rfl
    | false =>
      have hT : turnL l = turnC l := by unfold turnL; rw [cw]; rfl
      have cw2 : (trE true l == 0) = true := by have : trE true l = 0 := by simpa using cw
                                                rw [this]; rfl
      have l6 : decide ((turnC l).length ≤ 1000000000) = true := by rw [t2]; exact l2
      have l7 : decide ((turnC l).length ≤ l.length) = true := dec_true (by omega)
      have l8 : decide (newN (turnC l) ≤ 1000000000) = true := by rw [t4]; exact dec_true (by omega)
      simp only [hT, b1, b2, b4, b5, hrt, m1, m2, eqS_all, h1, h2, ho, d1, d2, d3, d4, d5, l1, l2, l3, l4, l5, l6, l7, l8, t1, t2, t3, ce, cw, cw2, bne_self_eq_false, beq_self_eq_true, Bool.and_true, Bool.true_and, Bool.not_true, cond_true, cond_false, List.length_nil]
      simp only [dec_true (Nat.le_refl l.length), l2, Bool.and_true, cond_true]
      rfl
def k7 : PrimT := fun vs gs => match vs, gs with
  | [.sl 1 a, .sl 4 l], [] => ((okHs l && a.all V.isStr && decide (a.length ≤ 1048576) && decide (l.length ≤ 10000000) && decide (newN l ≤ 1048576) && decide (oldN l ≤ 1048576) && rngHs l), .sc (.bool true), [])
  | _, _ => (false, .bad, [])
theorem k7_ok : ∀ vs gs x, k7 vs gs = (true, x) → CallR C prim 7 vs gs x := by
  intro vs gs x h
  unfold k7 at h
  split at h
  · simp only [Prod.mk.injEq] at h
    obtain ⟨hp, rfl⟩ := h
    exact f7_run _ _ _ (f7_eq _ _ hp)
  · cases h
end Go.Ab
