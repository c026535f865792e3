/- Functions of the text of pieces, as the machine runs them. -/
import Derived.Test.YtnjgofgogeileaaDM
namespace Go.Ab
open Go Go.Proofs Go.RowKit
set_option linter.unusedSimpArgs false
set_option linter.unusedVariables false

def K_f123 : CallK := kCons 90 k90 <| kNil
theorem K_f123_ok : KOK C prim K_f123 := KOK.cons k90_ok <| KOK.nil
def T_f123 : Tab := tNil
theorem T_f123_ok : TOK C prim 123 T_f123 := TOK.nil
def f123 (s : ByteArray) : Option (V × List Rg) :=
  bif (strEq (⟨#[10]⟩ : ByteArray) s) then
    some (.sc (.int .i64 0), [])
  else
    some (.sc (.int .i64 (idxB s 10)), [])
theorem f123_run (s : ByteArray) (x : V × List Rg) (h : f123 s = some x) : CallR C prim 123 [.sc (.string s), .sc (.string ⟨#[10]⟩)] [] x := by
  refine call_fn (K := K_f123) (T := T_f123) K_f123_ok T_f123_ok (by kernel_rfl) ?_
  refine Eq.trans ?_ h
  kernel_rfl

theorem f123_eq (s : ByteArray) : f123 s = some (.sc (.int .i64 (idxB s 10)), []) := by
  unfold f123
  cases h : strEq (⟨#[10]⟩ : ByteArray) s with
  | false => rfl
  | true =>
    obtain rfl := (strEq_iff _ _).1 h
    rfl
def k123 : PrimT := fun vs gs => match vs, gs with
  | [.sc (.string s), .sc (.string q1)], [] => ((strEq q1 (⟨#[10]⟩ : ByteArray) && true), .sc (.int .i64 (idxB s 10)), [])
  | _, _ => (false, .bad, [])
theorem k123_ok : ∀ vs gs x, k123 vs gs = (true, x) → CallR C prim 123 vs gs x := by
  intro vs gs x h
  unfold k123 at h
  split at h
  · simp only [Prod.mk.injEq] at h
    obtain ⟨hp, rfl⟩ := h
    rw [Bool.and_eq_true] at hp
    obtain ⟨hq, hp⟩ := hp
    obtain rfl := (strEq_iff _ _).1 hq
    exact f123_run _ _ (f123_eq _)
  · cases h

def K_f108 : CallK := kCons 123 k123 <| kNil
theorem K_f108_ok : KOK C prim K_f108 := KOK.cons k123_ok <| KOK.nil
def T_f108 : Tab := tNil
theorem T_f108_ok : TOK C prim 108 T_f108 := TOK.nil
def f108 (s : ByteArray) : Option (V × List Rg) :=
  some (.sc (.int .i64 (idxB s 10)), [])
theorem f108_run (s : ByteArray) (x : V × List Rg) (h : f108 s = some x) : CallR C prim 108 [.sc (.string s), .sc (.string ⟨#[10]⟩)] [] x := by
  refine call_fn (K := K_f108) (T := T_f108) K_f108_ok T_f108_ok (by kernel_rfl) ?_
  refine Eq.trans ?_ h
  kernel_rfl

theorem f108_eq (s : ByteArray) : f108 s = some (.sc (.int .i64 (idxB s 10)), []) := by rfl
def k108 : PrimT := fun vs gs => match vs, gs with
  | [.sc (.string s), .sc (.string q1)], [] => ((strEq q1 (⟨#[10]⟩ : ByteArray) && true), .sc (.int .i64 (idxB s 10)), [])
  | _, _ => (false, .bad, [])
theorem k108_ok : ∀ vs gs x, k108 vs gs = (true, x) → CallR C prim 108 vs gs x := by
  intro vs gs x h
  unfold k108 at h
  split at h
  · simp only [Prod.mk.injEq] at h
    obtain ⟨hp, rfl⟩ := h
    rw [Bool.and_eq_true] at hp
    obtain ⟨hq, hp⟩ := hp
    obtain rfl := (strEq_iff _ _).1 hq
    exact f108_run _ _ (f108_eq _)
  · cases h

def K_f85 : CallK := kCons 108 k108 <| kNil
theorem K_f85_ok : KOK C prim K_f85 := KOK.cons k108_ok <| KOK.nil
def T_f85 : Tab := tNil
theorem T_f85_ok : TOK C prim 85 T_f85 := TOK.nil
def f85 (s : ByteArray) : Option (V × List Rg) :=
  some (.sc (.bool (decide ((idxB s 10) ≥ 0))), [])
theorem f85_run (s : ByteArray) (x : V × List Rg) (h : f85 s = some x) : CallR C prim 85 [.sc (.string s), .sc (.string ⟨#[10]⟩)] [] x := by
  refine call_fn (K := K_f85) (T := T_f85) K_f85_ok T_f85_ok (by kernel_rfl) ?_
  refine Eq.trans ?_ h
  kernel_rfl

theorem f85_eq (s : ByteArray) : f85 s = some (.sc (.bool (hasB s 10)), []) := by
  unfold f85
  rw [hasNl]
def k85 : PrimT := fun vs gs => match vs, gs with
  | [.sc (.string s), .sc (.string q1)], [] => ((strEq q1 (⟨#[10]⟩ : ByteArray) && true), .sc (.bool (hasB s 10)), [])
  | _, _ => (false, .bad, [])
theorem k85_ok : ∀ vs gs x, k85 vs gs = (true, x) → CallR C prim 85 vs gs x := by
  intro vs gs x h
  unfold k85 at h
  split at h
  · simp only [Prod.mk.injEq] at h
    obtain ⟨hp, rfl⟩ := h
    rw [Bool.and_eq_true] at hp
    obtain ⟨hq, hp⟩ := hp
    obtain rfl := (strEq_iff _ _).1 hq
    exact f85_run _ _ (f85_eq _)
  · cases h

def K_f88_l0 : CallK := kNil
theorem K_f88_l0_ok : KOK C prim K_f88_l0 := KOK.nil
def T_f88_l0 : Tab := tNil
theorem T_f88_l0_ok : TOK C prim 88 T_f88_l0 := TOK.nil
def f88_l0 : Nat → ByteArray → Int → Int → Int → (R : Type) → (Ex → St → Option R) → Option R
  | 0, _, _, _, _, _, _ => none
  | n + 1, s, c, v7, v8, R, κ =>
    bif (decide (v8 < v7)) then
      bif (((decide ((0 : Int) ≤ v8)) && (decide (v8 < ((s.size : Nat) : Int)))) && true) then
        bif (((s.data.getD (v8).toNat 0).toNat : Int) == c) then
          κ .rt (mkS [(4, .sc (.bool true))] [])
        else
          f88_l0 n s c v7 (IntKind.wrap .i64 (v8 + 1)) R κ
      else none
    else
      κ (.ex 0) (mkS [(4, .bad)] [])
def f88_l0_ls : List (Nat × Pat) := [(0, .s), (1, .i .u8), (7, .i .i64), (8, .i .i64)]
def f88_l0_rs : List RPat := []
theorem f88_l0_ok (n : Nat) : ∀ (s : ByteArray) (c : Int) (v7 : Int) (v8 : Int) (R : Type) (κ : Ex → St → Option R) (r : R), f88_l0 n s c v7 v8 R κ = some r → ∃ ee ss, κ ee ss = some r ∧ RunP C prim 88 [0, 1, 0, 1] (mkS [(0, .sc (.string s)), (1, .sc (.int .u8 c)), (7, .sc (.int .i64 v7)), (8, .sc (.int .i64 v8))] []) ee ss := by
  induction n with
  | zero => intro s c v7 v8 R κ r h; cases h
  | succ n ih =>
    intro s c v7 v8 R κ r h
    refine loop_round (K := K_f88_l0) (T := T_f88_l0) K_f88_l0_ok T_f88_l0_ok (p := [0, 1, 0, 1]) (by kernel_rfl) (fun st => bif ckS f88_l0_ls f88_l0_rs st then f88_l0 n ((st.env 0).strOf) ((st.env 1).intOf) ((st.env 7).intOf) ((st.env 8).intOf) R κ else none) (fun st0 h0 => ?_) ?_
    · obtain ⟨hs, h0⟩ := cond_some h0
      rw [canon (ls := f88_l0_ls) (rs := f88_l0_rs) (by kernel_rfl) st0 hs]
      exact ih _ _ _ _ R κ r h0
    · refine Eq.trans ?_ h
      kernel_rfl

def f88_s0 (s : ByteArray) (c : Int) (v7 : Int) (v8 : Int) (R : Type) (κ : Ex → St → Option R) : Option R :=
  bif (hasB s c) then
    κ .rt (mkS [(4, .sc (.bool true))] [])
  else
    κ (.ex 0) (mkS [(4, .bad)] [])
theorem f88_l0_c (s : ByteArray) (c : Int) (h : s.size ≤ 1000000000) : ∀ (m k : Nat), k + m = s.size → ∀ n, m < n → ∀ (R : Type) (κ : Ex → St → Option R), f88_l0 n s c ((s.size : Nat) : Int) (k : Int) R κ = bif ((s.data.toList.drop k).any fun b => ((b.toNat : Int) == c)) then κ .rt (mkS [(4, .sc (.bool true))] []) else κ (.ex 0) (mkS [(4, .bad)] []) := by
  intro m
  induction m with
  | zero =>
    intro k hk n hn R κ
    obtain ⟨n, rfl⟩ : ∃ j, n = j + 1 := ⟨n - 1, by omega⟩
    rw [List.drop_of_length_le (by rw [ba_size]; omega), f88_l0, dec_false (by omega)]
    rfl
  | succ m ih =>
    intro k hk n hn R κ
    obtain ⟨n, rfl⟩ : ∃ j, n = j + 1 := ⟨n - 1, by omega⟩
    have hlt : k < s.data.toList.length := by rw [ba_size]; omega
    rw [f88_l0, dec_true (show (k : Int) < ((s.size : Nat) : Int) by omega), dec_true (show (0 : Int) ≤ (k : Int) by omega), Int.toNat_natCast, getD_list' s k hlt, wrap_succ (by omega), ih (k + 1) (by omega) n (by omega) R κ, List.drop_eq_getElem_cons hlt, List.any_cons]
    cases ((s.data.toList[k].toNat : Int) == c) <;> rfl
theorem f88_s0_eq (s : ByteArray) (c : Int) (v7 : Int) (v8 : Int) (hp : ((v7 == ((s.size : Nat) : Int)) && (v8 == 0) && decide (0 ≤ c) && decide (s.size ≤ 1000000000)) = true) : ∃ n, ∀ (R : Type) (κ : Ex → St → Option R), f88_l0 n s c v7 v8 R κ = f88_s0 s c v7 v8 R κ := by
  simp only [Bool.and_eq_true, decide_eq_true_eq, beq_iff_eq] at hp
  obtain ⟨⟨⟨rfl, rfl⟩, h3⟩, h4⟩ := hp
  exact ⟨s.size + 1, fun R κ => f88_l0_c s c h4 s.size 0 (by omega) _ (by omega) R κ⟩
def t_f88_l0 (st : St) (R : Type) (κ : Ex → St → Option R) : Option R := bif ckS f88_l0_ls f88_l0_rs st then (bif ((((st.env 7).intOf) == ((((st.env 0).strOf).size : Nat) : Int)) && (((st.env 8).intOf) == 0) && decide (0 ≤ ((st.env 1).intOf)) && decide (((st.env 0).strOf).size ≤ 1000000000)) then f88_s0 ((st.env 0).strOf) ((st.env 1).intOf) ((st.env 7).intOf) ((st.env 8).intOf) R κ else none) else none
theorem t_f88_l0_ok : ∀ st0 R κ r, t_f88_l0 (forget C 88 [0, 1, 0, 1] st0) R κ = some r → ∃ ee ss, κ ee ss = some r ∧ RunP C prim 88 [0, 1, 0, 1] (forget C 88 [0, 1, 0, 1] st0) ee ss := by
  intro st0 R κ r h
  obtain ⟨hs, h⟩ := cond_some h
  obtain ⟨hp, h⟩ := cond_some h
  rw [canon (ls := f88_l0_ls) (rs := f88_l0_rs) (by kernel_rfl) st0 hs]
  obtain ⟨n, hn⟩ := f88_s0_eq _ _ _ _ hp
  rw [← hn] at h
  exact f88_l0_ok n _ _ _ _ R κ r h

def K_f88 : CallK := kNil
theorem K_f88_ok : KOK C prim K_f88 := KOK.nil
def T_f88 : Tab := tCons [0, 1, 0, 1] t_f88_l0 <| tNil
theorem T_f88_ok : TOK C prim 88 T_f88 := TOK.cons t_f88_l0_ok <| TOK.nil
def f88 (s : ByteArray) (c : Int) : Option (V × List Rg) :=
  bif ((((s.size : Nat) : Int) == ((s.size : Nat) : Int)) && ((0 : Int) == 0) && decide (0 ≤ c) && decide (s.size ≤ 1000000000)) then
    bif (hasB s c) then
      some (.sc (.bool true), [])
    else
      some (.sc (.bool false), [])
  else none
theorem f88_run (s : ByteArray) (c : Int) (x : V × List Rg) (h : f88 s c = some x) : CallR C prim 88 [.sc (.string s), .sc (.int .u8 c)] [] x := by
  refine call_fn (K := K_f88) (T := T_f88) K_f88_ok T_f88_ok (by kernel_rfl) ?_
  refine Eq.trans ?_ h
  kernel_rfl

theorem f88_eq (s : ByteArray) (c : Int) (hp : (decide (0 ≤ c) && decide (s.size ≤ 1000000000)) = true) : f88 s c = some (.sc (.bool (hasB s c)), []) := by
  simp only [Bool.and_eq_true, decide_eq_true_eq] at hp
  unfold f88
  rw [dec_true hp.1, dec_true hp.2]
  simp only [beq_self_eq_true, Bool.and_true, cond_true]
  cases hasB s c <;> rfl
def k88 : PrimT := fun vs gs => match vs, gs with
  | [.sc (.string s), .sc (.int .u8 c)], [] => ((decide (0 ≤ c) && decide (s.size ≤ 1000000000)), .sc (.bool (hasB s c)), [])
  | _, _ => (false, .bad, [])
theorem k88_ok : ∀ vs gs x, k88 vs gs = (true, x) → CallR C prim 88 vs gs x := by
  intro vs gs x h
  unfold k88 at h
  split at h
  · simp only [Prod.mk.injEq] at h
    obtain ⟨hp, rfl⟩ := h
    exact f88_run _ _ _ (f88_eq _ _ hp)
  · cases h

def K_f45_l1 : CallK := kCons 85 k85 <| kNil
theorem K_f45_l1_ok : KOK C prim K_f45_l1 := KOK.cons k85_ok <| KOK.nil
def T_f45_l1 : Tab := tNil
theorem T_f45_l1_ok : TOK C prim 45 T_f45_l1 := TOK.nil
def f45_l1 : Nat → List V → Int → Int → List V → Int → Int → (R : Type) → (Ex → St → Option R) → Option R
  | 0, _, _, _, _, _, _, _, _ => none
  | n + 1, v7, v8, v9, v16, v17, v18, R, κ =>
    bif (decide (v18 < v17)) then
      bif (((decide ((0 : Int) ≤ v18)) && (decide (v18 < ((v16.length : Nat) : Int)))) && true) then
        bif (((V.isStr (nthV v16 (((v18).toNat * 1) + 0))) && true) && true) then
          bif (decide ((((V.strOf (nthV v16 (((v18).toNat * 1) + 0))).size : Nat) : Int) > 4096)) then
            κ .rt (mkS [(2, .sc (.int .i64 2)), (7, .sl 1 v7), (8, .sc (.int .i64 v8)), (9, .sc (.int .i64 v9))] [])
          else
            bif (hasB (V.strOf (nthV v16 (((v18).toNat * 1) + 0))) 10) then
              κ .rt (mkS [(2, .sc (.int .i64 5)), (7, .sl 1 v7), (8, .sc (.int .i64 v8)), (9, .sc (.int .i64 v9))] [])
            else
              f45_l1 n v7 v8 v9 v16 v17 (IntKind.wrap .i64 (v18 + 1)) R κ
        else none
      else none
    else
      κ (.ex 2) (mkS [(2, .bad), (7, .sl 1 v7), (8, .sc (.int .i64 v8)), (9, .sc (.int .i64 v9))] [])
def f45_l1_ls : List (Nat × Pat) := [(7, .sl 1), (8, .i .i64), (9, .i .i64), (16, .sl 1), (17, .i .i64), (18, .i .i64)]
def f45_l1_rs : List RPat := []
theorem f45_l1_ok (n : Nat) : ∀ (v7 : List V) (v8 : Int) (v9 : Int) (v16 : List V) (v17 : Int) (v18 : Int) (R : Type) (κ : Ex → St → Option R) (r : R), f45_l1 n v7 v8 v9 v16 v17 v18 R κ = some r → ∃ ee ss, κ ee ss = some r ∧ RunP C prim 45 [0, 1, 1, 1, 0, 0, 1, 1, 0, 0, 1, 0, 1] (mkS [(7, .sl 1 v7), (8, .sc (.int .i64 v8)), (9, .sc (.int .i64 v9)), (16, .sl 1 v16), (17, .sc (.int .i64 v17)), (18, .sc (.int .i64 v18))] []) ee ss := by
  induction n with
  | zero => intro v7 v8 v9 v16 v17 v18 R κ r h; cases h
  | succ n ih =>
    intro v7 v8 v9 v16 v17 v18 R κ r h
    refine loop_round (K := K_f45_l1) (T := T_f45_l1) K_f45_l1_ok T_f45_l1_ok (p := [0, 1, 1, 1, 0, 0, 1, 1, 0, 0, 1, 0, 1]) (by kernel_rfl) (fun st => bif ckS f45_l1_ls f45_l1_rs st then f45_l1 n ((st.env 7).cellsOf) ((st.env 8).intOf) ((st.env 9).intOf) ((st.env 16).cellsOf) ((st.env 17).intOf) ((st.env 18).intOf) R κ else none) (fun st0 h0 => ?_) ?_
    · obtain ⟨hs, h0⟩ := cond_some h0
      rw [canon (ls := f45_l1_ls) (rs := f45_l1_rs) (by kernel_rfl) st0 hs]
      exact ih _ _ _ _ _ _ R κ r h0
    · refine Eq.trans ?_ h
      kernel_rfl

def f45_s1 (v7 : List V) (v8 : Int) (v9 : Int) (v16 : List V) (v17 : Int) (v18 : Int) (R : Type) (κ : Ex → St → Option R) : Option R :=
  bif (listE v16 != 0) then
    κ .rt (mkS [(2, .sc (.int .i64 (listE v16))), (7, .sl 1 v7), (8, .sc (.int .i64 v8)), (9, .sc (.int .i64 v9))] [])
  else
    κ (.ex 2) (mkS [(2, .bad), (7, .sl 1 v7), (8, .sc (.int .i64 v8)), (9, .sc (.int .i64 v9))] [])
theorem f45_s1_eq (v7 : List V) (v8 : Int) (v9 : Int) (v16 : List V) (v17 : Int) (v18 : Int) (hp : ((v17 == ((v16.length : Nat) : Int)) && (v18 == 0) && v16.all V.isStr && decide (v16.length ≤ 1000000000)) = true) : ∃ n, ∀ (R : Type) (κ : Ex → St → Option R), f45_l1 n v7 v8 v9 v16 v17 v18 R κ = f45_s1 v7 v8 v9 v16 v17 v18 R κ := by
  simp only [Bool.and_eq_true, decide_eq_true_eq, beq_iff_eq] at hp
  obtain ⟨⟨⟨rfl, rfl⟩, h3⟩, h4⟩ := hp
  refine ⟨v16.length + 1, fun R κ => ?_⟩
  refine errLoop (fun n k => f45_l1 n v7 v8 v9 v16 ((v16.length : Nat) : Int) k R κ) v16 lineE (fun e => κ .rt (mkS [(2, .sc (.int .i64 e)), (7, .sl 1 v7), (8, .sc (.int .i64 v8)), (9, .sc (.int .i64 v9))] [])) (κ (.ex 2) (mkS [(2, .bad), (7, .sl 1 v7), (8, .sc (.int .i64 v8)), (9, .sc (.int .i64 v9))] [])) ?_ ?_ v16.length 0 (by omega) _ (by omega)
  · intro n k hk
    have hs : V.isStr v16[k] = true := List.all_eq_true.1 h3 _ (List.getElem_mem hk)
    show f45_l1 (n + 1) v7 v8 v9 v16 ((v16.length : Nat) : Int) (k : Int) R κ = _
    rw [f45_l1, dec_true (show (k : Int) < ((v16.length : Nat) : Int) by omega), dec_true (show (0 : Int) ≤ (k : Int) by omega), nth_at hk, hs, wrap_succ (by omega)]
    simp only [Bool.and_true, cond_true]
    unfold lineE
    cases decide (((v16[k].strOf.size : Nat) : Int) > 4096)
    · cases hasB v16[k].strOf 10 <;> rfl
    · rfl
  · intro n
    show f45_l1 (n + 1) v7 v8 v9 v16 ((v16.length : Nat) : Int) ((v16.length : Nat) : Int) R κ = _
    rw [f45_l1, dec_false (by omega)]
    rfl
def t_f45_l1 (st : St) (R : Type) (κ : Ex → St → Option R) : Option R := bif ckS f45_l1_ls f45_l1_rs st then (bif ((((st.env 17).intOf) == ((((st.env 16).cellsOf).length : Nat) : Int)) && (((st.env 18).intOf) == 0) && ((st.env 16).cellsOf).all V.isStr && decide (((st.env 16).cellsOf).length ≤ 1000000000)) then f45_s1 ((st.env 7).cellsOf) ((st.env 8).intOf) ((st.env 9).intOf) ((st.env 16).cellsOf) ((st.env 17).intOf) ((st.env 18).intOf) R κ else none) else none
theorem t_f45_l1_ok : ∀ st0 R κ r, t_f45_l1 (forget C 45 [0, 1, 1, 1, 0, 0, 1, 1, 0, 0, 1, 0, 1] st0) R κ = some r → ∃ ee ss, κ ee ss = some r ∧ RunP C prim 45 [0, 1, 1, 1, 0, 0, 1, 1, 0, 0, 1, 0, 1] (forget C 45 [0, 1, 1, 1, 0, 0, 1, 1, 0, 0, 1, 0, 1] st0) ee ss := by
  intro st0 R κ r h
  obtain ⟨hs, h⟩ := cond_some h
  obtain ⟨hp, h⟩ := cond_some h
  rw [canon (ls := f45_l1_ls) (rs := f45_l1_rs) (by kernel_rfl) st0 hs]
  obtain ⟨n, hn⟩ := f45_s1_eq _ _ _ _ _ _ hp
  rw [← hn] at h
  exact f45_l1_ok n _ _ _ _ _ _ R κ r h

def K_f45_l0 : CallK := kNil
theorem K_f45_l0_ok : KOK C prim K_f45_l0 := KOK.nil
def T_f45_l0 : Tab := tCons [0, 1, 1, 1, 0, 0, 1, 1, 0, 0, 1, 0, 1] t_f45_l1 <| tNil
theorem T_f45_l0_ok : TOK C prim 45 T_f45_l0 := TOK.cons t_f45_l1_ok <| TOK.nil
def f45_l0 : Nat → List V → Int → Int → (R : Type) → (Ex → St → Option R) → Option R
  | 0, _, _, _, _, _ => none
  | n + 1, v7, v8, v9, R, κ =>
    bif (decide (v9 < v8)) then
      bif (((decide ((0 : Int) ≤ v9)) && (decide (v9 < ((v7.length : Nat) : Int)))) && true) then
        bif (((V.isSl 1 (nthV v7 (((v9).toNat * 1) + 0))) && true) && true) then
          bif (decide (((((V.cellsOf (nthV v7 (((v9).toNat * 1) + 0)))).length : Nat) : Int) > 1000)) then
            κ .rt (mkS [(2, .sc (.int .i64 2))] [])
          else
            bif ((((((V.cellsOf (nthV v7 (((v9).toNat * 1) + 0)))).length : Nat) : Int) == (((V.cellsOf (nthV v7 (((v9).toNat * 1) + 0))).length : Nat) : Int)) && ((0 : Int) == 0) && (V.cellsOf (nthV v7 (((v9).toNat * 1) + 0))).all V.isStr && decide ((V.cellsOf (nthV v7 (((v9).toNat * 1) + 0))).length ≤ 1000000000)) then
              bif (listE (V.cellsOf (nthV v7 (((v9).toNat * 1) + 0))) != 0) then
                κ .rt (mkS [(2, .sc (.int .i64 (listE (V.cellsOf (nthV v7 (((v9).toNat * 1) + 0))))))] [])
              else
                f45_l0 n v7 v8 (IntKind.wrap .i64 (v9 + 1)) R κ
            else none
        else none
      else none
    else
      κ (.ex 0) (mkS [(2, .bad)] [])
def f45_l0_ls : List (Nat × Pat) := [(7, .sl 1), (8, .i .i64), (9, .i .i64)]
def f45_l0_rs : List RPat := []
theorem f45_l0_ok (n : Nat) : ∀ (v7 : List V) (v8 : Int) (v9 : Int) (R : Type) (κ : Ex → St → Option R) (r : R), f45_l0 n v7 v8 v9 R κ = some r → ∃ ee ss, κ ee ss = some r ∧ RunP C prim 45 [0, 1, 0, 1] (mkS [(7, .sl 1 v7), (8, .sc (.int .i64 v8)), (9, .sc (.int .i64 v9))] []) ee ss := by
  induction n with
  | zero => intro v7 v8 v9 R κ r h; cases h
  | succ n ih =>
    intro v7 v8 v9 R κ r h
    refine loop_round (K := K_f45_l0) (T := T_f45_l0) K_f45_l0_ok T_f45_l0_ok (p := [0, 1, 0, 1]) (by kernel_rfl) (fun st => bif ckS f45_l0_ls f45_l0_rs st then f45_l0 n ((st.env 7).cellsOf) ((st.env 8).intOf) ((st.env 9).intOf) R κ else none) (fun st0 h0 => ?_) ?_
    · obtain ⟨hs, h0⟩ := cond_some h0
      rw [canon (ls := f45_l0_ls) (rs := f45_l0_rs) (by kernel_rfl) st0 hs]
      exact ih _ _ _ R κ r h0
    · refine Eq.trans ?_ h
      kernel_rfl

def f45_s0 (v7 : List V) (v8 : Int) (v9 : Int) (R : Type) (κ : Ex → St → Option R) : Option R :=
  bif (listsE v7 != 0) then
    κ .rt (mkS [(2, .sc (.int .i64 (listsE v7)))] [])
  else
    κ (.ex 0) (mkS [(2, .bad)] [])
theorem f45_s0_eq (v7 : List V) (v8 : Int) (v9 : Int) (hp : ((v8 == ((v7.length : Nat) : Int)) && (v9 == 0) && v7.all okStrs && decide (v7.length ≤ 1000000000)) = true) : ∃ n, ∀ (R : Type) (κ : Ex → St → Option R), f45_l0 n v7 v8 v9 R κ = f45_s0 v7 v8 v9 R κ := by
  simp only [Bool.and_eq_true, decide_eq_true_eq, beq_iff_eq] at hp
  obtain ⟨⟨⟨rfl, rfl⟩, h3⟩, h4⟩ := hp
  refine ⟨v7.length + 1, fun R κ => ?_⟩
  refine errLoop (fun n k => f45_l0 n v7 ((v7.length : Nat) : Int) k R κ) v7 (fun x => listErr x.cellsOf) (fun e => κ .rt (mkS [(2, .sc (.int .i64 e))] [])) (κ (.ex 0) (mkS [(2, .bad)] [])) ?_ ?_ v7.length 0 (by omega) _ (by omega)
  · intro n k hk
    have hs : okStrs v7[k] = true := List.all_eq_true.1 h3 _ (List.getElem_mem hk)
    unfold okStrs at hs
    simp only [Bool.and_eq_true, decide_eq_true_eq] at hs
    show f45_l0 (n + 1) v7 ((v7.length : Nat) : Int) (k : Int) R κ = _
    rw [f45_l0, dec_true (show (k : Int) < ((v7.length : Nat) : Int) by omega), dec_true (show (0 : Int) ≤ (k : Int) by omega), nth_at hk, hs.1.1, hs.1.2, dec_true hs.2, wrap_succ (by omega)]
    simp only [Bool.and_true, cond_true, beq_self_eq_true]
    unfold listErr
    cases decide (((v7[k].cellsOf.length : Nat) : Int) > 1000) <;> rfl
  · intro n
    show f45_l0 (n + 1) v7 ((v7.length : Nat) : Int) ((v7.length : Nat) : Int) R κ = _
    rw [f45_l0, dec_false (by omega)]
    rfl
def t_f45_l0 (st : St) (R : Type) (κ : Ex → St → Option R) : Option R := bif ckS f45_l0_ls f45_l0_rs st then (bif ((((st.env 8).intOf) == ((((st.env 7).cellsOf).length : Nat) : Int)) && (((st.env 9).intOf) == 0) && ((st.env 7).cellsOf).all okStrs && decide (((st.env 7).cellsOf).length ≤ 1000000000)) then f45_s0 ((st.env 7).cellsOf) ((st.env 8).intOf) ((st.env 9).intOf) R κ else none) else none
theorem t_f45_l0_ok : ∀ st0 R κ r, t_f45_l0 (forget C 45 [0, 1, 0, 1] st0) R κ = some r → ∃ ee ss, κ ee ss = some r ∧ RunP C prim 45 [0, 1, 0, 1] (forget C 45 [0, 1, 0, 1] st0) ee ss := by
  intro st0 R κ r h
  obtain ⟨hs, h⟩ := cond_some h
  obtain ⟨hp, h⟩ := cond_some h
  rw [canon (ls := f45_l0_ls) (rs := f45_l0_rs) (by kernel_rfl) st0 hs]
  obtain ⟨n, hn⟩ := f45_s0_eq _ _ _ hp
  rw [← hn] at h
  exact f45_l0_ok n _ _ _ R κ r h

def K_f45 : CallK := kNil
theorem K_f45_ok : KOK C prim K_f45 := KOK.nil
def T_f45 : Tab := tCons [0, 1, 0, 1] t_f45_l0 <| tNil
theorem T_f45_ok : TOK C prim 45 T_f45 := TOK.cons t_f45_l0_ok <| TOK.nil
def f45 (lists : List V) : Option (V × List Rg) :=
  bif ((((lists.length : Nat) : Int) == ((lists.length : Nat) : Int)) && ((0 : Int) == 0) && lists.all okStrs && decide (lists.length ≤ 1000000000)) then
    bif (listsE lists != 0) then
      some (.sc (.int .i64 (listsE lists)), [])
    else
      some (.sc (.int .i64 0), [])
  else none
theorem f45_run (lists : List V) (x : V × List Rg) (h : f45 lists = some x) : CallR C prim 45 [.sl 1 lists] [] x := by
  refine call_fn (K := K_f45) (T := T_f45) K_f45_ok T_f45_ok (by kernel_rfl) ?_
  refine Eq.trans ?_ h
  kernel_rfl

theorem f45_eq (lists : List V) (hp : (lists.all okStrs && decide (lists.length ≤ 1000000000)) = true) : f45 lists = some (.sc (.int .i64 (listsE lists)), []) := by
  simp only [Bool.and_eq_true, decide_eq_true_eq] at hp
  unfold f45
  rw [hp.1, dec_true hp.2]
  simp only [beq_self_eq_true, Bool.and_true, cond_true]
  exact zero_or (x := listsE lists) (fun e => some (V.sc (.int .i64 e), []))
def k45 : PrimT := fun vs gs => match vs, gs with
  | [.sl 1 lists], [] => ((lists.all okStrs && decide (lists.length ≤ 1000000000)), .sc (.int .i64 (listsE lists)), [])
  | _, _ => (false, .bad, [])
theorem k45_ok : ∀ vs gs x, k45 vs gs = (true, x) → CallR C prim 45 vs gs x := by
  intro vs gs x h
  unfold k45 at h
  split at h
  · simp only [Prod.mk.injEq] at h
    obtain ⟨hp, rfl⟩ := h
    exact f45_run _ _ (f45_eq _ hp)
  · cases h

def K_f47_l0 : CallK := kCons 88 k88 <| kNil
theorem K_f47_l0_ok : KOK C prim K_f47_l0 := KOK.cons k88_ok <| KOK.nil
def T_f47_l0 : Tab := tNil
theorem T_f47_l0_ok : TOK C prim 47 T_f47_l0 := TOK.nil
def f47_l0 : Nat → List V → Int → Int → (R : Type) → (Ex → St → Option R) → Option R
  | 0, _, _, _, _, _ => none
  | n + 1, v8, v9, v10, R, κ =>
    bif (decide (v10 < v9)) then
      bif (((decide ((0 : Int) ≤ v10)) && (decide (v10 < ((v8.length : Nat) : Int)))) && true) then
        bif (((V.isStr (nthV v8 (((v10).toNat * 1) + 0))) && true) && true) then
          bif (decide ((((V.strOf (nthV v8 (((v10).toNat * 1) + 0))).size : Nat) : Int) > 4096)) then
            κ .rt (mkS [(2, .sc (.int .i64 2))] [])
          else
            bif ((decide (0 ≤ (10 : Int)) && decide ((V.strOf (nthV v8 (((v10).toNat * 1) + 0))).size ≤ 1000000000)) && true) then
              bif (hasB (V.strOf (nthV v8 (((v10).toNat * 1) + 0))) (10 : Int)) then
                κ .rt (mkS [(2, .sc (.int .i64 5))] [])
              else
                f47_l0 n v8 v9 (IntKind.wrap .i64 (v10 + 1)) R κ
            else none
        else none
      else none
    else
      κ (.ex 0) (mkS [(2, .bad)] [])
def f47_l0_ls : List (Nat × Pat) := [(8, .sl 1), (9, .i .i64), (10, .i .i64)]
def f47_l0_rs : List RPat := []
theorem f47_l0_ok (n : Nat) : ∀ (v8 : List V) (v9 : Int) (v10 : Int) (R : Type) (κ : Ex → St → Option R) (r : R), f47_l0 n v8 v9 v10 R κ = some r → ∃ ee ss, κ ee ss = some r ∧ RunP C prim 47 [0, 1, 0, 1, 1] (mkS [(8, .sl 1 v8), (9, .sc (.int .i64 v9)), (10, .sc (.int .i64 v10))] []) ee ss := by
  induction n with
  | zero => intro v8 v9 v10 R κ r h; cases h
  | succ n ih =>
    intro v8 v9 v10 R κ r h
    refine loop_round (K := K_f47_l0) (T := T_f47_l0) K_f47_l0_ok T_f47_l0_ok (p := [0, 1, 0, 1, 1]) (by kernel_rfl) (fun st => bif ckS f47_l0_ls f47_l0_rs st then f47_l0 n ((st.env 8).cellsOf) ((st.env 9).intOf) ((st.env 10).intOf) R κ else none) (fun st0 h0 => ?_) ?_
    · obtain ⟨hs, h0⟩ := cond_some h0
      rw [canon (ls := f47_l0_ls) (rs := f47_l0_rs) (by kernel_rfl) st0 hs]
      exact ih _ _ _ R κ r h0
    · refine Eq.trans ?_ h
      kernel_rfl

def f47_s0 (v8 : List V) (v9 : Int) (v10 : Int) (R : Type) (κ : Ex → St → Option R) : Option R :=
  bif (listE v8 != 0) then
    κ .rt (mkS [(2, .sc (.int .i64 (listE v8)))] [])
  else
    κ (.ex 0) (mkS [(2, .bad)] [])
theorem f47_s0_eq (v8 : List V) (v9 : Int) (v10 : Int) (hp : ((v9 == ((v8.length : Nat) : Int)) && (v10 == 0) && v8.all V.isStr && decide (v8.length ≤ 1000000000)) = true) : ∃ n, ∀ (R : Type) (κ : Ex → St → Option R), f47_l0 n v8 v9 v10 R κ = f47_s0 v8 v9 v10 R κ := by
  simp only [Bool.and_eq_true, decide_eq_true_eq, beq_iff_eq] at hp
  obtain ⟨⟨⟨rfl, rfl⟩, h3⟩, h4⟩ := hp
  refine ⟨v8.length + 1, fun R κ => ?_⟩
  refine errLoop (fun n k => f47_l0 n v8 ((v8.length : Nat) : Int) k R κ) v8 lineE (fun e => κ .rt (mkS [(2, .sc (.int .i64 e))] [])) (κ (.ex 0) (mkS [(2, .bad)] [])) ?_ ?_ v8.length 0 (by omega) _ (by omega)
  · intro n k hk
    have hs : V.isStr v8[k] = true := List.all_eq_true.1 h3 _ (List.getElem_mem hk)
    show f47_l0 (n + 1) v8 ((v8.length : Nat) : Int) (k : Int) R κ = _
    rw [f47_l0, dec_true (show (k : Int) < ((v8.length : Nat) : Int) by omega), dec_true (show (0 : Int) ≤ (k : Int) by omega), nth_at hk, hs, wrap_succ (by omega)]
    simp only [Bool.and_true, cond_true]
    unfold lineE
    by_cases hsz : ((v8[k].strOf.size : Nat) : Int) > 4096
    · rw [dec_true hsz]; rfl
    · rw [dec_false hsz, dec_true (show v8[k].strOf.size ≤ 1000000000 by omega), dec_true (show (0 : Int) ≤ 10 by omega)]
      cases hasB v8[k].strOf 10 <;> rfl
  · intro n
    show f47_l0 (n + 1) v8 ((v8.length : Nat) : Int) ((v8.length : Nat) : Int) R κ = _
    rw [f47_l0, dec_false (by omega)]
    rfl
def t_f47_l0 (st : St) (R : Type) (κ : Ex → St → Option R) : Option R := bif ckS f47_l0_ls f47_l0_rs st then (bif ((((st.env 9).intOf) == ((((st.env 8).cellsOf).length : Nat) : Int)) && (((st.env 10).intOf) == 0) && ((st.env 8).cellsOf).all V.isStr && decide (((st.env 8).cellsOf).length ≤ 1000000000)) then f47_s0 ((st.env 8).cellsOf) ((st.env 9).intOf) ((st.env 10).intOf) R κ else none) else none
theorem t_f47_l0_ok : ∀ st0 R κ r, t_f47_l0 (forget C 47 [0, 1, 0, 1, 1] st0) R κ = some r → ∃ ee ss, κ ee ss = some r ∧ RunP C prim 47 [0, 1, 0, 1, 1] (forget C 47 [0, 1, 0, 1, 1] st0) ee ss := by
  intro st0 R κ r h
  obtain ⟨hs, h⟩ := cond_some h
  obtain ⟨hp, h⟩ := cond_some h
  rw [canon (ls := f47_l0_ls) (rs := f47_l0_rs) (by kernel_rfl) st0 hs]
  obtain ⟨n, hn⟩ := f47_s0_eq _ _ _ hp
  rw [← hn] at h
  exact f47_l0_ok n _ _ _ R κ r h

def K_f47 : CallK := kNil
theorem K_f47_ok : KOK C prim K_f47 := KOK.nil
def T_f47 : Tab := tCons [0, 1, 0, 1, 1] t_f47_l0 <| tNil
theorem T_f47_ok : TOK C prim 47 T_f47 := TOK.cons t_f47_l0_ok <| TOK.nil
def f47 (l : List V) : Option (V × List Rg) :=
  bif (decide (((l.length : Nat) : Int) > 1000)) then
    some (.sc (.int .i64 2), [])
  else
    bif ((((l.length : Nat) : Int) == ((l.length : Nat) : Int)) && ((0 : Int) == 0) && l.all V.isStr && decide (l.length ≤ 1000000000)) then
      bif (listE l != 0) then
        some (.sc (.int .i64 (listE l)), [])
      else
        some (.sc (.int .i64 0), [])
    else none
theorem f47_run (l : List V) (x : V × List Rg) (h : f47 l = some x) : CallR C prim 47 [.sl 1 l] [] x := by
  refine call_fn (K := K_f47) (T := T_f47) K_f47_ok T_f47_ok (by kernel_rfl) ?_
  refine Eq.trans ?_ h
  kernel_rfl

theorem f47_eq (l : List V) (hp : (l.all V.isStr && decide (l.length ≤ 1000000000)) = true) : f47 l = some (.sc (.int .i64 (listErr l)), []) := by
  simp only [Bool.and_eq_true, decide_eq_true_eq] at hp
  unfold f47 listErr
  rw [hp.1, dec_true hp.2]
  simp only [beq_self_eq_true, Bool.and_true, cond_true]
  cases decide (((l.length : Nat) : Int) > 1000)
  · exact zero_or (x := listE l) (fun e => some (V.sc (.int .i64 e), []))
  · rfl
def k47 : PrimT := fun vs gs => match vs, gs with
  | [.sl 1 l], [] => ((l.all V.isStr && decide (l.length ≤ 1000000000)), .sc (.int .i64 (listErr l)), [])
  | _, _ => (false, .bad, [])
theorem k47_ok : ∀ vs gs x, k47 vs gs = (true, x) → CallR C prim 47 vs gs x := by
  intro vs gs x h
  unfold k47 at h
  split at h
  · simp only [Prod.mk.injEq] at h
    obtain ⟨hp, rfl⟩ := h
    exact f47_run _ _ (f47_eq _ hp)
  · cases h

def K_f12_l0 : CallK := kCons 47 k47 <| kNil
theorem K_f12_l0_ok : KOK C prim K_f12_l0 := KOK.cons k47_ok <| KOK.nil
def T_f12_l0 : Tab := tNil
theorem T_f12_l0_ok : TOK C prim 12 T_f12_l0 := TOK.nil
def f12_l0 : Nat → List V → Int → Int → (R : Type) → (Ex → St → Option R) → Option R
  | 0, _, _, _, _, _ => none
  | n + 1, v6, v7, v8, R, κ =>
    bif (decide (v8 < v7)) then
      bif (((decide ((0 : Int) ≤ v8)) && (decide (v8 < ((v6.length : Nat) : Int)))) && true) then
        bif (((V.isSl 1 (nthV v6 (((v8).toNat * 1) + 0))) && true) && true) then
          bif (((V.cellsOf (nthV v6 (((v8).toNat * 1) + 0))).all V.isStr && decide ((V.cellsOf (nthV v6 (((v8).toNat * 1) + 0))).length ≤ 1000000000)) && true) then
            bif ((listErr (V.cellsOf (nthV v6 (((v8).toNat * 1) + 0)))) != 0) then
              κ .rt (mkS [(2, .sc (.int .i64 (listErr (V.cellsOf (nthV v6 (((v8).toNat * 1) + 0))))))] [])
            else
              f12_l0 n v6 v7 (IntKind.wrap .i64 (v8 + 1)) R κ
          else none
        else none
      else none
    else
      κ (.ex 0) (mkS [(2, .bad)] [])
def f12_l0_ls : List (Nat × Pat) := [(6, .sl 1), (7, .i .i64), (8, .i .i64)]
def f12_l0_rs : List RPat := []
theorem f12_l0_ok (n : Nat) : ∀ (v6 : List V) (v7 : Int) (v8 : Int) (R : Type) (κ : Ex → St → Option R) (r : R), f12_l0 n v6 v7 v8 R κ = some r → ∃ ee ss, κ ee ss = some r ∧ RunP C prim 12 [0, 1, 0, 1] (mkS [(6, .sl 1 v6), (7, .sc (.int .i64 v7)), (8, .sc (.int .i64 v8))] []) ee ss := by
  induction n with
  | zero => intro v6 v7 v8 R κ r h; cases h
  | succ n ih =>
    intro v6 v7 v8 R κ r h
    refine loop_round (K := K_f12_l0) (T := T_f12_l0) K_f12_l0_ok T_f12_l0_ok (p := [0, 1, 0, 1]) (by kernel_rfl) (fun st => bif ckS f12_l0_ls f12_l0_rs st then f12_l0 n ((st.env 6).cellsOf) ((st.env 7).intOf) ((st.env 8).intOf) R κ else none) (fun st0 h0 => ?_) ?_
    · obtain ⟨hs, h0⟩ := cond_some h0
      rw [canon (ls := f12_l0_ls) (rs := f12_l0_rs) (by kernel_rfl) st0 hs]
      exact ih _ _ _ R κ r h0
    · refine Eq.trans ?_ h
      kernel_rfl

def f12_s0 (v6 : List V) (v7 : Int) (v8 : Int) (R : Type) (κ : Ex → St → Option R) : Option R :=
  bif (listsE v6 != 0) then
    κ .rt (mkS [(2, .sc (.int .i64 (listsE v6)))] [])
  else
    κ (.ex 0) (mkS [(2, .bad)] [])
theorem f12_s0_eq (v6 : List V) (v7 : Int) (v8 : Int) (hp : ((v7 == ((v6.length : Nat) : Int)) && (v8 == 0) && v6.all okStrs && decide (v6.length ≤ 1000000000)) = true) : ∃ n, ∀ (R : Type) (κ : Ex → St → Option R), f12_l0 n v6 v7 v8 R κ = f12_s0 v6 v7 v8 R κ := by
  simp only [Bool.and_eq_true, decide_eq_true_eq, beq_iff_eq] at hp
  obtain ⟨⟨⟨rfl, rfl⟩, h3⟩, h4⟩ := hp
  refine ⟨v6.length + 1, fun R κ => ?_⟩
  refine errLoop (fun n k => f12_l0 n v6 ((v6.length : Nat) : Int) k R κ) v6 (fun x => listErr x.cellsOf) (fun e => κ .rt (mkS [(2, .sc (.int .i64 e))] [])) (κ (.ex 0) (mkS [(2, .bad)] [])) ?_ ?_ v6.length 0 (by omega) _ (by omega)
  · intro n k hk
    have hs : okStrs v6[k] = true := List.all_eq_true.1 h3 _ (List.getElem_mem hk)
    unfold okStrs at hs
    simp only [Bool.and_eq_true, decide_eq_true_eq] at hs
    show f12_l0 (n + 1) v6 ((v6.length : Nat) : Int) (k : Int) R κ = _
    rw [f12_l0, dec_true (show (k : Int) < ((v6.length : Nat) : Int) by omega), dec_true (show (0 : Int) ≤ (k : Int) by omega), nth_at hk, hs.1.1, hs.1.2, dec_true hs.2, wrap_succ (by omega)]
    rfl
  · intro n
    show f12_l0 (n + 1) v6 ((v6.length : Nat) : Int) ((v6.length : Nat) : Int) R κ = _
    rw [f12_l0, dec_false (by omega)]
    rfl
def t_f12_l0 (st : St) (R : Type) (κ : Ex → St → Option R) : Option R := bif ckS f12_l0_ls f12_l0_rs st then (bif ((((st.env 7).intOf) == ((((st.env 6).cellsOf).length : Nat) : Int)) && (((st.env 8).intOf) == 0) && ((st.env 6).cellsOf).all okStrs && decide (((st.env 6).cellsOf).length ≤ 1000000000)) then f12_s0 ((st.env 6).cellsOf) ((st.env 7).intOf) ((st.env 8).intOf) R κ else none) else none
theorem t_f12_l0_ok : ∀ st0 R κ r, t_f12_l0 (forget C 12 [0, 1, 0, 1] st0) R κ = some r → ∃ ee ss, κ ee ss = some r ∧ RunP C prim 12 [0, 1, 0, 1] (forget C 12 [0, 1, 0, 1] st0) ee ss := by
  intro st0 R κ r h
  obtain ⟨hs, h⟩ := cond_some h
  obtain ⟨hp, h⟩ := cond_some h
  rw [canon (ls := f12_l0_ls) (rs := f12_l0_rs) (by kernel_rfl) st0 hs]
  obtain ⟨n, hn⟩ := f12_s0_eq _ _ _ hp
  rw [← hn] at h
  exact f12_l0_ok n _ _ _ R κ r h

def K_f12 : CallK := kNil
theorem K_f12_ok : KOK C prim K_f12 := KOK.nil
def T_f12 : Tab := tCons [0, 1, 0, 1] t_f12_l0 <| tNil
theorem T_f12_ok : TOK C prim 12 T_f12 := TOK.cons t_f12_l0_ok <| TOK.nil
def f12 (l : List V) : Option (V × List Rg) :=
  bif ((((l.length : Nat) : Int) == ((l.length : Nat) : Int)) && ((0 : Int) == 0) && l.all okStrs && decide (l.length ≤ 1000000000)) then
    bif (listsE l != 0) then
      some (.sc (.int .i64 (listsE l)), [])
    else
      some (.sc (.int .i64 0), [])
  else none
theorem f12_run (l : List V) (x : V × List Rg) (h : f12 l = some x) : CallR C prim 12 [.sl 1 l] [] x := by
  refine call_fn (K := K_f12) (T := T_f12) K_f12_ok T_f12_ok (by kernel_rfl) ?_
  refine Eq.trans ?_ h
  kernel_rfl

theorem f12_eq (l : List V) (hp : (l.all okStrs && decide (l.length ≤ 1000000000)) = true) : f12 l = some (.sc (.int .i64 (listsE l)), []) := by
  simp only [Bool.and_eq_true, decide_eq_true_eq] at hp
  unfold f12
  rw [hp.1, dec_true hp.2]
  simp only [beq_self_eq_true, Bool.and_true, cond_true]
  exact zero_or (x := listsE l) (fun e => some (V.sc (.int .i64 e), []))
def k12 : PrimT := fun vs gs => match vs, gs with
  | [.sl 1 l], [] => ((l.all okStrs && decide (l.length ≤ 1000000000)), .sc (.int .i64 (listsE l)), [])
  | _, _ => (false, .bad, [])
theorem k12_ok : ∀ vs gs x, k12 vs gs = (true, x) → CallR C prim 12 vs gs x := by
  intro vs gs x h
  unfold k12 at h
  split at h
  · simp only [Prod.mk.injEq] at h
    obtain ⟨hp, rfl⟩ := h
    exact f12_run _ _ (f12_eq _ hp)
  · cases h

def K_f20_l0 : CallK := kNil
theorem K_f20_l0_ok : KOK C prim K_f20_l0 := KOK.nil
def T_f20_l0 : Tab := tNil
theorem T_f20_l0_ok : TOK C prim 20 T_f20_l0 := TOK.nil
def f20_l0 : Nat → List V → Int → Int → (R : Type) → (Ex → St → Option R) → Option R
  | 0, _, _, _, _, _ => none
  | n + 1, v5, v6, v7, R, κ =>
    bif (decide (v7 < v6)) then
      bif (((decide ((0 : Int) ≤ v7)) && (decide (v7 < ((v5.length : Nat) : Int)))) && true) then
        bif (((V.isInt .i64 (nthV v5 (((v7).toNat * 1) + 0))) && true) && true) then
          bif ((V.intOf (nthV v5 (((v7).toNat * 1) + 0))) != 0) then
            κ .rt (mkS [(2, .sc (.int .i64 (V.intOf (nthV v5 (((v7).toNat * 1) + 0)))))] [])
          else
            f20_l0 n v5 v6 (IntKind.wrap .i64 (v7 + 1)) R κ
        else none
      else none
    else
      κ (.ex 0) (mkS [(2, .bad)] [])
def f20_l0_ls : List (Nat × Pat) := [(5, .sl 1), (6, .i .i64), (7, .i .i64)]
def f20_l0_rs : List RPat := []
theorem f20_l0_ok (n : Nat) : ∀ (v5 : List V) (v6 : Int) (v7 : Int) (R : Type) (κ : Ex → St → Option R) (r : R), f20_l0 n v5 v6 v7 R κ = some r → ∃ ee ss, κ ee ss = some r ∧ RunP C prim 20 [0, 1, 0, 1] (mkS [(5, .sl 1 v5), (6, .sc (.int .i64 v6)), (7, .sc (.int .i64 v7))] []) ee ss := by
  induction n with
  | zero => intro v5 v6 v7 R κ r h; cases h
  | succ n ih =>
    intro v5 v6 v7 R κ r h
    refine loop_round (K := K_f20_l0) (T := T_f20_l0) K_f20_l0_ok T_f20_l0_ok (p := [0, 1, 0, 1]) (by kernel_rfl) (fun st => bif ckS f20_l0_ls f20_l0_rs st then f20_l0 n ((st.env 5).cellsOf) ((st.env 6).intOf) ((st.env 7).intOf) R κ else none) (fun st0 h0 => ?_) ?_
    · obtain ⟨hs, h0⟩ := cond_some h0
      rw [canon (ls := f20_l0_ls) (rs := f20_l0_rs) (by kernel_rfl) st0 hs]
      exact ih _ _ _ R κ r h0
    · refine Eq.trans ?_ h
      kernel_rfl

def f20_s0 (v5 : List V) (v6 : Int) (v7 : Int) (R : Type) (κ : Ex → St → Option R) : Option R :=
  bif (firstBy V.intOf v5 != 0) then
    κ .rt (mkS [(2, .sc (.int .i64 (firstBy V.intOf v5)))] [])
  else
    κ (.ex 0) (mkS [(2, .bad)] [])
theorem f20_s0_eq (v5 : List V) (v6 : Int) (v7 : Int) (hp : ((v6 == ((v5.length : Nat) : Int)) && (v7 == 0) && v5.all (V.isInt .i64) && decide (v5.length ≤ 1000000000)) = true) : ∃ n, ∀ (R : Type) (κ : Ex → St → Option R), f20_l0 n v5 v6 v7 R κ = f20_s0 v5 v6 v7 R κ := by
  simp only [Bool.and_eq_true, decide_eq_true_eq, beq_iff_eq] at hp
  obtain ⟨⟨⟨rfl, rfl⟩, h3⟩, h4⟩ := hp
  refine ⟨v5.length + 1, fun R κ => ?_⟩
  refine errLoop (fun n k => f20_l0 n v5 ((v5.length : Nat) : Int) k R κ) v5 V.intOf (fun e => κ .rt (mkS [(2, .sc (.int .i64 e))] [])) (κ (.ex 0) (mkS [(2, .bad)] [])) ?_ ?_ v5.length 0 (by omega) _ (by omega)
  · intro n k hk
    have hs : V.isInt .i64 v5[k] = true := List.all_eq_true.1 h3 _ (List.getElem_mem hk)
    show f20_l0 (n + 1) v5 ((v5.length : Nat) : Int) (k : Int) R κ = _
    rw [f20_l0, dec_true (show (k : Int) < ((v5.length : Nat) : Int) by omega), dec_true (show (0 : Int) ≤ (k : Int) by omega), nth_at hk, hs, wrap_succ (by omega)]
    rfl
  · intro n
    show f20_l0 (n + 1) v5 ((v5.length : Nat) : Int) ((v5.length : Nat) : Int) R κ = _
    rw [f20_l0, dec_false (by omega)]
    rfl
def t_f20_l0 (st : St) (R : Type) (κ : Ex → St → Option R) : Option R := bif ckS f20_l0_ls f20_l0_rs st then (bif ((((st.env 6).intOf) == ((((st.env 5).cellsOf).length : Nat) : Int)) && (((st.env 7).intOf) == 0) && ((st.env 5).cellsOf).all (V.isInt .i64) && decide (((st.env 5).cellsOf).length ≤ 1000000000)) then f20_s0 ((st.env 5).cellsOf) ((st.env 6).intOf) ((st.env 7).intOf) R κ else none) else none
theorem t_f20_l0_ok : ∀ st0 R κ r, t_f20_l0 (forget C 20 [0, 1, 0, 1] st0) R κ = some r → ∃ ee ss, κ ee ss = some r ∧ RunP C prim 20 [0, 1, 0, 1] (forget C 20 [0, 1, 0, 1] st0) ee ss := by
  intro st0 R κ r h
  obtain ⟨hs, h⟩ := cond_some h
  obtain ⟨hp, h⟩ := cond_some h
  rw [canon (ls := f20_l0_ls) (rs := f20_l0_rs) (by kernel_rfl) st0 hs]
  obtain ⟨n, hn⟩ := f20_s0_eq _ _ _ hp
  rw [← hn] at h
  exact f20_l0_ok n _ _ _ R κ r h

def K_f20 : CallK := kNil
theorem K_f20_ok : KOK C prim K_f20 := KOK.nil
def T_f20 : Tab := tCons [0, 1, 0, 1] t_f20_l0 <| tNil
theorem T_f20_ok : TOK C prim 20 T_f20 := TOK.cons t_f20_l0_ok <| TOK.nil
def f20 (l : List V) : Option (V × List Rg) :=
  bif ((((l.length : Nat) : Int) == ((l.length : Nat) : Int)) && ((0 : Int) == 0) && l.all (V.isInt .i64) && decide (l.length ≤ 1000000000)) then
    bif (firstBy V.intOf l != 0) then
      some (.sc (.int .i64 (firstBy V.intOf l)), [])
    else
      some (.sc (.int .i64 0), [])
  else none
theorem f20_run (l : List V) (x : V × List Rg) (h : f20 l = some x) : CallR C prim 20 [.sl 1 l] [] x := by
  refine call_fn (K := K_f20) (T := T_f20) K_f20_ok T_f20_ok (by kernel_rfl) ?_
  refine Eq.trans ?_ h
  kernel_rfl

theorem f20_eq (l : List V) (hp : (l.all (V.isInt .i64) && decide (l.length ≤ 1000000000)) = true) : f20 l = some (.sc (.int .i64 (firstBy V.intOf l)), []) := by
  simp only [Bool.and_eq_true, decide_eq_true_eq] at hp
  unfold f20
  rw [hp.1, dec_true hp.2]
  simp only [beq_self_eq_true, Bool.and_true, cond_true]
  exact zero_or (x := firstBy V.intOf l) (fun e => some (V.sc (.int .i64 e), []))
def k20 : PrimT := fun vs gs => match vs, gs with
  | [.sl 1 l], [] => ((l.all (V.isInt .i64) && decide (l.length ≤ 1000000000)), .sc (.int .i64 (firstBy V.intOf l)), [])
  | _, _ => (false, .bad, [])
theorem k20_ok : ∀ vs gs x, k20 vs gs = (true, x) → CallR C prim 20 vs gs x := by
  intro vs gs x h
  unfold k20 at h
  split at h
  · simp only [Prod.mk.injEq] at h
    obtain ⟨hp, rfl⟩ := h
    exact f20_run _ _ (f20_eq _ hp)
  · cases h

def K_f21 : CallK := kNil
theorem K_f21_ok : KOK C prim K_f21 := KOK.nil
def T_f21 : Tab := tNil
theorem T_f21_ok : TOK C prim 21 T_f21 := TOK.nil
def f21 (is : Bool) (e : Int) : Option (V × List Rg) :=
  bif is then
    some (.sc (.int .i64 e), [])
  else
    some (.sc (.int .i64 0), [])
theorem f21_run (is : Bool) (e : Int) (x : V × List Rg) (h : f21 is e = some x) : CallR C prim 21 [.sc (.bool is), .sc (.int .i64 e)] [] x := by
  refine call_fn (K := K_f21) (T := T_f21) K_f21_ok T_f21_ok (by kernel_rfl) ?_
  refine Eq.trans ?_ h
  kernel_rfl

theorem f21_eq (is : Bool) (e : Int) : f21 is e = some (.sc (.int .i64 (bif is then e else 0)), []) := by cases is <;> rfl
def k21 : PrimT := fun vs gs => match vs, gs with
  | [.sc (.bool is), .sc (.int .i64 e)], [] => (true, .sc (.int .i64 (bif is then e else 0)), [])
  | _, _ => (false, .bad, [])
theorem k21_ok : ∀ vs gs x, k21 vs gs = (true, x) → CallR C prim 21 vs gs x := by
  intro vs gs x h
  unfold k21 at h
  split at h
  · simp only [Prod.mk.injEq, true_and] at h
    subst h
    exact f21_run _ _ _ (f21_eq _ _)
  · cases h

def K_f22 : CallK := kNil
theorem K_f22_ok : KOK C prim K_f22 := KOK.nil
def T_f22 : Tab := tNil
theorem T_f22_ok : TOK C prim 22 T_f22 := TOK.nil
def f22 (s : ByteArray) (e : Int) (want : ByteArray) (f : Int) : Option (V × List Rg) :=
  bif (f != 0) then
    bif (strEq s (⟨#[]⟩ : ByteArray)) then
      some (.sc (.bool (e == f)), [])
    else
      some (.sc (.bool false), [])
  else
    bif (strEq s want) then
      some (.sc (.bool (e == 0)), [])
    else
      some (.sc (.bool false), [])
theorem f22_run (s : ByteArray) (e : Int) (want : ByteArray) (f : Int) (x : V × List Rg) (h : f22 s e want f = some x) : CallR C prim 22 [.sc (.string s), .sc (.int .i64 e), .sc (.string want), .sc (.int .i64 f)] [] x := by
  refine call_fn (K := K_f22) (T := T_f22) K_f22_ok T_f22_ok (by kernel_rfl) ?_
  refine Eq.trans ?_ h
  kernel_rfl

theorem f22_eq (s : ByteArray) (e : Int) (want : ByteArray) (f : Int) : f22 s e want f = some (.sc (.bool (outc s e want f)), []) := by
  unfold f22 outc
  cases f != 0
  · cases strEq s want <;> rfl
  · cases strEq s ⟨#[]⟩ <;> rfl
def k22 : PrimT := fun vs gs => match vs, gs with
  | [.sc (.string s), .sc (.int .i64 e), .sc (.string want), .sc (.int .i64 f)], [] => (true, .sc (.bool (outc s e want f)), [])
  | _, _ => (false, .bad, [])
theorem k22_ok : ∀ vs gs x, k22 vs gs = (true, x) → CallR C prim 22 vs gs x := by
  intro vs gs x h
  unfold k22 at h
  split at h
  · simp only [Prod.mk.injEq, true_and] at h
    subst h
    exact f22_run _ _ _ _ _ (f22_eq _ _ _ _)
  · cases h

def K_f58 : CallK := kCons 91 k91 <| kNil
theorem K_f58_ok : KOK C prim K_f58 := KOK.cons k91_ok <| KOK.nil
def T_f58 : Tab := tNil
theorem T_f58_ok : TOK C prim 58 T_f58 := TOK.nil
def f58 (s : ByteArray) (r01 : List V) : Option (V × List Rg) :=
  bif (((roomy ((r01.length + ((bytesV s)).length) * 1)) && (roomy (r01.length + ((bytesV s)).length))) && true) then
    some (.tp [.sc (.int .i64 ((s.size : Nat) : Int)), .sc .nilIface], [⟨true, [.slf, .own 5 false (r01 ++ (bytesV s))]⟩])
  else none
theorem f58_run (s : ByteArray) (r01 : List V) (x : V × List Rg) (h : f58 s r01 = some x) : CallR C prim 58 [.ptrB (.par 0) 0, .sc (.string s)] [⟨true, [.slf, .own 5 false r01]⟩] x := by
  refine call_fn (K := K_f58) (T := T_f58) K_f58_ok T_f58_ok (by kernel_rfl) ?_
  refine Eq.trans ?_ h
  kernel_rfl

theorem f58_eq (s : ByteArray) (r01 : List V) (hp : (roomB r01 s) = true) : f58 s r01 = some (.tp [.sc (.int .i64 ((s.size : Nat) : Int)), .sc .nilIface], [⟨true, [.slf, .own 5 false (r01 ++ bytesV s)]⟩]) := by
  unfold roomB at hp
  have h := of_decide_eq_true hp
  unfold f58 roomy
  rw [bytesV_len, dec_true (by omega), dec_true (by omega)]
  rfl
def k58 : PrimT := fun vs gs => match vs, gs with
  | [.ptrB (.par 0) 0, .sc (.string s)], [⟨true, [.slf, .own 5 false r01]⟩] => ((roomB r01 s), .tp [.sc (.int .i64 ((s.size : Nat) : Int)), .sc .nilIface], [⟨true, [.slf, .own 5 false (r01 ++ bytesV s)]⟩])
  | _, _ => (false, .bad, [])
theorem k58_ok : ∀ vs gs x, k58 vs gs = (true, x) → CallR C prim 58 vs gs x := by
  intro vs gs x h
  unfold k58 at h
  split at h
  · simp only [Prod.mk.injEq] at h
    obtain ⟨hp, rfl⟩ := h
    exact f58_run _ _ _ (f58_eq _ _ hp)
  · cases h

def K_f60_l0 : CallK := kNil
theorem K_f60_l0_ok : KOK C prim K_f60_l0 := KOK.nil
def T_f60_l0 : Tab := tNil
theorem T_f60_l0_ok : TOK C prim 60 T_f60_l0 := TOK.nil
def f60_l0 : Nat → ByteArray → List V → Int → Int → (R : Type) → (Ex → St → Option R) → Option R
  | 0, _, _, _, _, _, _ => none
  | n + 1, s, v6, v7, v8, R, κ =>
    bif (decide (v8 < v7)) then
      bif (((decide ((0 : Int) ≤ v8)) && (decide (v8 < ((v6.length : Nat) : Int)))) && true) then
        bif (((V.isStr (nthV v6 (((v8).toNat * 1) + 0))) && true) && true) then
          bif ((decide (((V.strOf (nthV v6 (((v8).toNat * 1) + 0))).size + 1) ≤ 9223372036854775807)) && true) then
            bif ((decide ((s.size + ((V.strOf (nthV v6 (((v8).toNat * 1) + 0))) ++ (⟨#[10]⟩ : ByteArray)).size) ≤ 9223372036854775807)) && true) then
              f60_l0 n (s ++ ((V.strOf (nthV v6 (((v8).toNat * 1) + 0))) ++ (⟨#[10]⟩ : ByteArray))) v6 v7 (IntKind.wrap .i64 (v8 + 1)) R κ
            else none
          else none
        else none
      else none
    else
      κ (.ex 0) (mkS [(2, .bad), (3, .sc (.string s))] [])
def f60_l0_ls : List (Nat × Pat) := [(3, .s), (6, .sl 1), (7, .i .i64), (8, .i .i64)]
def f60_l0_rs : List RPat := []
theorem f60_l0_ok (n : Nat) : ∀ (s : ByteArray) (v6 : List V) (v7 : Int) (v8 : Int) (R : Type) (κ : Ex → St → Option R) (r : R), f60_l0 n s v6 v7 v8 R κ = some r → ∃ ee ss, κ ee ss = some r ∧ RunP C prim 60 [0, 1, 0, 1, 1] (mkS [(3, .sc (.string s)), (6, .sl 1 v6), (7, .sc (.int .i64 v7)), (8, .sc (.int .i64 v8))] []) ee ss := by
  induction n with
  | zero => intro s v6 v7 v8 R κ r h; cases h
  | succ n ih =>
    intro s v6 v7 v8 R κ r h
    refine loop_round (K := K_f60_l0) (T := T_f60_l0) K_f60_l0_ok T_f60_l0_ok (p := [0, 1, 0, 1, 1]) (by kernel_rfl) (fun st => bif ckS f60_l0_ls f60_l0_rs st then f60_l0 n ((st.env 3).strOf) ((st.env 6).cellsOf) ((st.env 7).intOf) ((st.env 8).intOf) R κ else none) (fun st0 h0 => ?_) ?_
    · obtain ⟨hs, h0⟩ := cond_some h0
      rw [canon (ls := f60_l0_ls) (rs := f60_l0_rs) (by kernel_rfl) st0 hs]
      exact ih _ _ _ _ R κ r h0
    · refine Eq.trans ?_ h
      kernel_rfl

def f60_s0 (s : ByteArray) (v6 : List V) (v7 : Int) (v8 : Int) (R : Type) (κ : Ex → St → Option R) : Option R :=
  κ (.ex 0) (mkS [(2, .bad), (3, .sc (.string (s ++ resB v6)))] [])
theorem f60_l0_c (v6 : List V) (hu : v6.all V.isStr = true) (hl : v6.length ≤ 1000000000) : ∀ (m k : Nat) (s : ByteArray), k + m = v6.length → s.size + (resB (v6.drop k)).size ≤ 100000000000 → ∀ n, m < n → ∀ (R : Type) (κ : Ex → St → Option R), f60_l0 n s v6 ((v6.length : Nat) : Int) (k : Int) R κ = κ (.ex 0) (mkS [(2, .bad), (3, .sc (.string (s ++ resB (v6.drop k))))] []) := by
  intro m
  induction m with
  | zero =>
    intro k s hk hs n hn R κ
    obtain ⟨n, rfl⟩ : ∃ j, n = j + 1 := ⟨n - 1, by omega⟩
    rw [List.drop_of_length_le (by omega), f60_l0, dec_false (by omega)]
    unfold resB
    rw [ba_nil']
    rfl
  | succ m ih =>
    intro k s hk hs n hn R κ
    obtain ⟨n, rfl⟩ : ∃ j, n = j + 1 := ⟨n - 1, by omega⟩
    have hlt : k < v6.length := by omega
    have hx : V.isStr v6[k] = true := List.all_eq_true.1 hu _ (List.getElem_mem hlt)
    rw [List.drop_eq_getElem_cons hlt] at hs ⊢
    unfold resB at hs ⊢
    have e10 : (⟨#[10]⟩ : ByteArray).size = 1 := rfl
    simp only [ba_size_append, e10] at hs
    rw [f60_l0, dec_true (show (k : Int) < ((v6.length : Nat) : Int) by omega), dec_true (show (0 : Int) ≤ (k : Int) by omega), nth_at hlt, hx, ba_size_append, e10, dec_true (show v6[k].strOf.size + 1 ≤ 9223372036854775807 by omega), dec_true (show s.size + (v6[k].strOf.size + 1) ≤ 9223372036854775807 by omega), wrap_succ (by omega),
      ih (k + 1) _ (by omega) (by simp only [ba_size_append, e10]; omega) n (by omega) R κ, ba_assoc s]
    rfl
theorem f60_s0_eq (s : ByteArray) (v6 : List V) (v7 : Int) (v8 : Int) (hp : ((v7 == ((v6.length : Nat) : Int)) && (v8 == 0) && v6.all V.isStr && decide (v6.length ≤ 1000000000) && decide (s.size + (resB v6).size ≤ 100000000000)) = true) : ∃ n, ∀ (R : Type) (κ : Ex → St → Option R), f60_l0 n s v6 v7 v8 R κ = f60_s0 s v6 v7 v8 R κ := by
  simp only [Bool.and_eq_true, decide_eq_true_eq, beq_iff_eq] at hp
  obtain ⟨⟨⟨⟨rfl, rfl⟩, h3⟩, h4⟩, h5⟩ := hp
  exact ⟨v6.length + 1, fun R κ => f60_l0_c v6 h3 h4 v6.length 0 s (by omega) h5 _ (by omega) R κ⟩
def t_f60_l0 (st : St) (R : Type) (κ : Ex → St → Option R) : Option R := bif ckS f60_l0_ls f60_l0_rs st then (bif ((((st.env 7).intOf) == ((((st.env 6).cellsOf).length : Nat) : Int)) && (((st.env 8).intOf) == 0) && ((st.env 6).cellsOf).all V.isStr && decide (((st.env 6).cellsOf).length ≤ 1000000000) && decide (((st.env 3).strOf).size + (resB ((st.env 6).cellsOf)).size ≤ 100000000000)) then f60_s0 ((st.env 3).strOf) ((st.env 6).cellsOf) ((st.env 7).intOf) ((st.env 8).intOf) R κ else none) else none
theorem t_f60_l0_ok : ∀ st0 R κ r, t_f60_l0 (forget C 60 [0, 1, 0, 1, 1] st0) R κ = some r → ∃ ee ss, κ ee ss = some r ∧ RunP C prim 60 [0, 1, 0, 1, 1] (forget C 60 [0, 1, 0, 1, 1] st0) ee ss := by
  intro st0 R κ r h
  obtain ⟨hs, h⟩ := cond_some h
  obtain ⟨hp, h⟩ := cond_some h
  rw [canon (ls := f60_l0_ls) (rs := f60_l0_rs) (by kernel_rfl) st0 hs]
  obtain ⟨n, hn⟩ := f60_s0_eq _ _ _ _ hp
  rw [← hn] at h
  exact f60_l0_ok n _ _ _ _ R κ r h

def K_f60 : CallK := kNil
theorem K_f60_ok : KOK C prim K_f60 := KOK.nil
def T_f60 : Tab := tCons [0, 1, 0, 1, 1] t_f60_l0 <| tNil
theorem T_f60_ok : TOK C prim 60 T_f60 := TOK.cons t_f60_l0_ok <| TOK.nil
def f60 (l : List V) : Option (V × List Rg) :=
  bif ((((l.length : Nat) : Int) == ((l.length : Nat) : Int)) && ((0 : Int) == 0) && l.all V.isStr && decide (l.length ≤ 1000000000) && decide ((⟨#[]⟩ : ByteArray).size + (resB l).size ≤ 100000000000)) then
    some (.sc (.string ((⟨#[]⟩ : ByteArray) ++ resB l)), [])
  else none
theorem f60_run (l : List V) (x : V × List Rg) (h : f60 l = some x) : CallR C prim 60 [.sl 1 l] [] x := by
  refine call_fn (K := K_f60) (T := T_f60) K_f60_ok T_f60_ok (by kernel_rfl) ?_
  refine Eq.trans ?_ h
  kernel_rfl

theorem f60_eq (l : List V) (hp : (l.all V.isStr && decide (l.length ≤ 1000000000) && decide ((resB l).size ≤ 100000000000)) = true) : f60 l = some (.sc (.string (resB l)), []) := by
  simp only [Bool.and_eq_true, decide_eq_true_eq] at hp
  have e0 : (⟨#[]⟩ : ByteArray).size = 0 := rfl
  unfold f60
  rw [hp.1.1, dec_true hp.1.2, e0, dec_true (by omega), ba_nil]
  simp only [beq_self_eq_true, Bool.and_true, cond_true]
def k60 : PrimT := fun vs gs => match vs, gs with
  | [.sl 1 l], [] => ((l.all V.isStr && decide (l.length ≤ 1000000000) && decide ((resB l).size ≤ 100000000000)), .sc (.string (resB l)), [])
  | _, _ => (false, .bad, [])
theorem k60_ok : ∀ vs gs x, k60 vs gs = (true, x) → CallR C prim 60 vs gs x := by
  intro vs gs x h
  unfold k60 at h
  split at h
  · simp only [Prod.mk.injEq] at h
    obtain ⟨hp, rfl⟩ := h
    exact f60_run _ _ (f60_eq _ hp)
  · cases h

def K_f57_l0 : CallK := kCons 58 k58 <| kNil
theorem K_f57_l0_ok : KOK C prim K_f57_l0 := KOK.cons k58_ok <| KOK.nil
def T_f57_l0 : Tab := tNil
theorem T_f57_l0_ok : TOK C prim 57 T_f57_l0 := TOK.nil
def f57_l0 : Nat → ByteArray → List V → Int → Int → List V → (R : Type) → (Ex → St → Option R) → Option R
  | 0, _, _, _, _, _, _, _ => none
  | n + 1, sign, v8, v9, v10, r01, R, κ =>
    bif (decide (v10 < v9)) then
      bif (((decide ((0 : Int) ≤ v10)) && (decide (v10 < ((v8.length : Nat) : Int)))) && true) then
        bif (((V.isStr (nthV v8 (((v10).toNat * 1) + 0))) && true) && true) then
          bif ((decide ((sign.size + (V.strOf (nthV v8 (((v10).toNat * 1) + 0))).size) ≤ 9223372036854775807)) && true) then
            bif ((decide (((sign ++ (V.strOf (nthV v8 (((v10).toNat * 1) + 0)))).size + 1) ≤ 9223372036854775807)) && true) then
              bif ((roomB r01 ((sign ++ (V.strOf (nthV v8 (((v10).toNat * 1) + 0)))) ++ (⟨#[10]⟩ : ByteArray))) && true) then
                f57_l0 n sign v8 v9 (IntKind.wrap .i64 (v10 + 1)) (r01 ++ bytesV ((sign ++ (V.strOf (nthV v8 (((v10).toNat * 1) + 0)))) ++ (⟨#[10]⟩ : ByteArray))) R κ
              else none
            else none
          else none
        else none
      else none
    else
      κ (.ex 0) (mkS [] [(.par 0, some ⟨true, [.slf, .own 5 false r01]⟩)])
def f57_l0_ls : List (Nat × Pat) := [(0, .is (.ptrB (.par 0) 0)), (1, .s), (8, .sl 1), (9, .i .i64), (10, .i .i64)]
def f57_l0_rs : List RPat := [⟨.par 0, true, [.is (.slf), .own 5 false]⟩]
theorem f57_l0_ok (n : Nat) : ∀ (sign : ByteArray) (v8 : List V) (v9 : Int) (v10 : Int) (r01 : List V) (R : Type) (κ : Ex → St → Option R) (r : R), f57_l0 n sign v8 v9 v10 r01 R κ = some r → ∃ ee ss, κ ee ss = some r ∧ RunP C prim 57 [0, 1] (mkS [(0, .ptrB (.par 0) 0), (1, .sc (.string sign)), (8, .sl 1 v8), (9, .sc (.int .i64 v9)), (10, .sc (.int .i64 v10))] [(.par 0, some ⟨true, [.slf, .own 5 false r01]⟩)]) ee ss := by
  induction n with
  | zero => intro sign v8 v9 v10 r01 R κ r h; cases h
  | succ n ih =>
    intro sign v8 v9 v10 r01 R κ r h
    refine loop_round (K := K_f57_l0) (T := T_f57_l0) K_f57_l0_ok T_f57_l0_ok (p := [0, 1]) (by kernel_rfl) (fun st => bif ckS f57_l0_ls f57_l0_rs st then f57_l0 n ((st.env 1).strOf) ((st.env 8).cellsOf) ((st.env 9).intOf) ((st.env 10).intOf) ((nthV (rowOf (st.regs (.par 0))) 1).cellsOf) R κ else none) (fun st0 h0 => ?_) ?_
    · obtain ⟨hs, h0⟩ := cond_some h0
      rw [canon (ls := f57_l0_ls) (rs := f57_l0_rs) (by kernel_rfl) st0 hs]
      exact ih _ _ _ _ _ R κ r h0
    · refine Eq.trans ?_ h
      kernel_rfl

def f57_s0 (sign : ByteArray) (v8 : List V) (v9 : Int) (v10 : Int) (r01 : List V) (R : Type) (κ : Ex → St → Option R) : Option R :=
  κ (.ex 0) (mkS [] [(.par 0, some ⟨true, [.slf, .own 5 false (r01 ++ bytesV (resB v8))]⟩)])
theorem f57_l0_c (v8 : List V) (hu : v8.all V.isStr = true) (hl : v8.length ≤ 1000000000) : ∀ (m k : Nat) (r : List V), k + m = v8.length → r.length + (resB (v8.drop k)).size ≤ 100000000000 → ∀ n, m < n → ∀ (R : Type) (κ : Ex → St → Option R), f57_l0 n ⟨#[]⟩ v8 ((v8.length : Nat) : Int) (k : Int) r R κ = κ (.ex 0) (mkS [] [(.par 0, some ⟨true, [.slf, .own 5 false (r ++ bytesV (resB (v8.drop k)))]⟩)]) := by
  intro m
  induction m with
  | zero =>
    intro k r hk hs n hn R κ
    obtain ⟨n, rfl⟩ : ∃ j, n = j + 1 := ⟨n - 1, by omega⟩
    rw [List.drop_of_length_le (by omega), f57_l0, dec_false (by omega)]
    unfold resB
    rw [bytesV_nil, List.append_nil]
    rfl
  | succ m ih =>
    intro k r hk hs n hn R κ
    obtain ⟨n, rfl⟩ : ∃ j, n = j + 1 := ⟨n - 1, by omega⟩
    have hlt : k < v8.length := by omega
    have hx : V.isStr v8[k] = true := List.all_eq_true.1 hu _ (List.getElem_mem hlt)
    rw [List.drop_eq_getElem_cons hlt] at hs ⊢
    unfold resB at hs ⊢
    have e10 : (⟨#[10]⟩ : ByteArray).size = 1 := rfl
    have e0 : (⟨#[]⟩ : ByteArray).size = 0 := rfl
    simp only [ba_size_append, e10] at hs
    have hroom : roomB r (v8[k].strOf ++ (⟨#[10]⟩ : ByteArray)) = true := by
      unfold roomB
      rw [ba_size_append, e10]
      exact dec_true (by omega)
    rw [f57_l0, dec_true (show (k : Int) < ((v8.length : Nat) : Int) by omega), dec_true (show (0 : Int) ≤ (k : Int) by omega), nth_at hlt, hx, e0, ba_nil, dec_true (show 0 + v8[k].strOf.size ≤ 9223372036854775807 by omega), dec_true (show v8[k].strOf.size + 1 ≤ 9223372036854775807 by omega), hroom, wrap_succ (by omega),
      ih (k + 1) _ (by omega) (by rw [List.length_append, bytesV_len, ba_size_append, e10]; omega) n (by omega) R κ, bytesV_app _ (resB _), List.append_assoc]
    rfl
theorem f57_s0_eq (sign : ByteArray) (v8 : List V) (v9 : Int) (v10 : Int) (r01 : List V) (hp : ((sign.size == 0) && (v9 == ((v8.length : Nat) : Int)) && (v10 == 0) && v8.all V.isStr && decide (v8.length ≤ 1000000000) && decide (r01.length + (resB v8).size ≤ 100000000000)) = true) : ∃ n, ∀ (R : Type) (κ : Ex → St → Option R), f57_l0 n sign v8 v9 v10 r01 R κ = f57_s0 sign v8 v9 v10 r01 R κ := by
  simp only [Bool.and_eq_true, decide_eq_true_eq, beq_iff_eq] at hp
  obtain ⟨⟨⟨⟨⟨h0, rfl⟩, rfl⟩, h3⟩, h4⟩, h5⟩ := hp
  obtain rfl : sign = ⟨#[]⟩ := ba_ext (by rw [← ba_size] at h0; exact List.eq_nil_of_length_eq_zero h0)
  exact ⟨v8.length + 1, fun R κ => f57_l0_c v8 h3 h4 v8.length 0 r01 (by omega) h5 _ (by omega) R κ⟩
def t_f57_l0 (st : St) (R : Type) (κ : Ex → St → Option R) : Option R := bif ckS f57_l0_ls f57_l0_rs st then (bif ((((st.env 1).strOf).size == 0) && (((st.env 9).intOf) == ((((st.env 8).cellsOf).length : Nat) : Int)) && (((st.env 10).intOf) == 0) && ((st.env 8).cellsOf).all V.isStr && decide (((st.env 8).cellsOf).length ≤ 1000000000) && decide (((nthV (rowOf (st.regs (.par 0))) 1).cellsOf).length + (resB ((st.env 8).cellsOf)).size ≤ 100000000000)) then f57_s0 ((st.env 1).strOf) ((st.env 8).cellsOf) ((st.env 9).intOf) ((st.env 10).intOf) ((nthV (rowOf (st.regs (.par 0))) 1).cellsOf) R κ else none) else none
theorem t_f57_l0_ok : ∀ st0 R κ r, t_f57_l0 (forget C 57 [0, 1] st0) R κ = some r → ∃ ee ss, κ ee ss = some r ∧ RunP C prim 57 [0, 1] (forget C 57 [0, 1] st0) ee ss := by
  intro st0 R κ r h
  obtain ⟨hs, h⟩ := cond_some h
  obtain ⟨hp, h⟩ := cond_some h
  rw [canon (ls := f57_l0_ls) (rs := f57_l0_rs) (by kernel_rfl) st0 hs]
  obtain ⟨n, hn⟩ := f57_s0_eq _ _ _ _ _ hp
  rw [← hn] at h
  exact f57_l0_ok n _ _ _ _ _ R κ r h

def K_f57 : CallK := kNil
theorem K_f57_ok : KOK C prim K_f57 := KOK.nil
def T_f57 : Tab := tCons [0, 1] t_f57_l0 <| tNil
theorem T_f57_ok : TOK C prim 57 T_f57 := TOK.cons t_f57_l0_ok <| TOK.nil
def f57 (l : List V) (r01 : List V) : Option (V × List Rg) :=
  bif (((⟨#[]⟩ : ByteArray).size == 0) && (((l.length : Nat) : Int) == ((l.length : Nat) : Int)) && ((0 : Int) == 0) && l.all V.isStr && decide (l.length ≤ 1000000000) && decide (r01.length + (resB l).size ≤ 100000000000)) then
    some (.tp [], [⟨true, [.slf, .own 5 false (r01 ++ bytesV (resB l))]⟩])
  else none
theorem f57_run (l : List V) (r01 : List V) (x : V × List Rg) (h : f57 l r01 = some x) : CallR C prim 57 [.ptrB (.par 0) 0, .sc (.string ⟨#[]⟩), .sl 1 l] [⟨true, [.slf, .own 5 false r01]⟩] x := by
  refine call_fn (K := K_f57) (T := T_f57) K_f57_ok T_f57_ok (by kernel_rfl) ?_
  refine Eq.trans ?_ h
  kernel_rfl

theorem f57_eq (l : List V) (r01 : List V) (hp : (l.all V.isStr && decide (l.length ≤ 1000000000) && decide (r01.length + (resB l).size ≤ 100000000000)) = true) : f57 l r01 = some (.tp [], [⟨true, [.slf, .own 5 false (r01 ++ bytesV (resB l))]⟩]) := by
  simp only [Bool.and_eq_true, decide_eq_true_eq] at hp
  have e0 : ((⟨#[]⟩ : ByteArray).size == 0) = true := rfl
  unfold f57
  rw [hp.1.1, dec_true hp.1.2, dec_true hp.2, e0]
  simp only [beq_self_eq_true, Bool.and_true, cond_true]
def k57 : PrimT := fun vs gs => match vs, gs with
  | [.ptrB (.par 0) 0, .sc (.string q1), .sl 1 l], [⟨true, [.slf, .own 5 false r01]⟩] => ((strEq q1 (⟨#[]⟩ : ByteArray) && (l.all V.isStr && decide (l.length ≤ 1000000000) && decide (r01.length + (resB l).size ≤ 100000000000))), .tp [], [⟨true, [.slf, .own 5 false (r01 ++ bytesV (resB l))]⟩])
  | _, _ => (false, .bad, [])
theorem k57_ok : ∀ vs gs x, k57 vs gs = (true, x) → CallR C prim 57 vs gs x := by
  intro vs gs x h
  unfold k57 at h
  split at h
  · simp only [Prod.mk.injEq] at h
    obtain ⟨hp, rfl⟩ := h
    rw [Bool.and_eq_true] at hp
    obtain ⟨hq, hp⟩ := hp
    obtain rfl := (strEq_iff _ _).1 hq
    exact f57_run _ _ _ (f57_eq _ _ hp)
  · cases h

def K_f23_l0 : CallK := kCons 60 k60 <| kNil
theorem K_f23_l0_ok : KOK C prim K_f23_l0 := KOK.cons k60_ok <| KOK.nil
def T_f23_l0 : Tab := tNil
theorem T_f23_l0_ok : TOK C prim 23 T_f23_l0 := TOK.nil
def f23_l0 : Nat → ByteArray → List V → Int → Int → (R : Type) → (Ex → St → Option R) → Option R
  | 0, _, _, _, _, _, _ => none
  | n + 1, s, v6, v7, v8, R, κ =>
    bif (decide (v8 < v7)) then
      bif (((decide ((0 : Int) ≤ v8)) && (decide (v8 < (((lenE 5 v6.length) : Nat) : Int)))) && true) then
        bif (((V.isBool (nthV v6 (((v8).toNat * 5) + 0))) && ((V.isSl 1 (nthV v6 (((v8).toNat * 5) + 1))) && ((V.isSl 1 (nthV v6 (((v8).toNat * 5) + 2))) && ((V.isSl 1 (nthV v6 (((v8).toNat * 5) + 3))) && ((V.isSl 1 (nthV v6 (((v8).toNat * 5) + 4))) && true))))) && true) then
          bif (((V.cellsOf (nthV v6 (((v8).toNat * 5) + 1))).all V.isStr && decide ((V.cellsOf (nthV v6 (((v8).toNat * 5) + 1))).length ≤ 1000000000) && decide ((resB (V.cellsOf (nthV v6 (((v8).toNat * 5) + 1)))).size ≤ 100000000000)) && true) then
            bif ((decide ((s.size + (resB (V.cellsOf (nthV v6 (((v8).toNat * 5) + 1)))).size) ≤ 9223372036854775807)) && true) then
              bif (V.boolOf (nthV v6 (((v8).toNat * 5) + 0))) then
                bif (((V.cellsOf (nthV v6 (((v8).toNat * 5) + 3))).all V.isStr && decide ((V.cellsOf (nthV v6 (((v8).toNat * 5) + 3))).length ≤ 1000000000) && decide ((resB (V.cellsOf (nthV v6 (((v8).toNat * 5) + 3)))).size ≤ 100000000000)) && true) then
                  bif ((decide ((8 + (resB (V.cellsOf (nthV v6 (((v8).toNat * 5) + 3)))).size) ≤ 9223372036854775807)) && true) then
                    bif ((decide ((((⟨#[60, 60, 60, 60, 60, 60, 60, 10]⟩ : ByteArray) ++ (resB (V.cellsOf (nthV v6 (((v8).toNat * 5) + 3))))).size + 8) ≤ 9223372036854775807)) && true) then
                      bif (((V.cellsOf (nthV v6 (((v8).toNat * 5) + 2))).all V.isStr && decide ((V.cellsOf (nthV v6 (((v8).toNat * 5) + 2))).length ≤ 1000000000) && decide ((resB (V.cellsOf (nthV v6 (((v8).toNat * 5) + 2)))).size ≤ 100000000000)) && true) then
                        bif ((decide (((((⟨#[60, 60, 60, 60, 60, 60, 60, 10]⟩ : ByteArray) ++ (resB (V.cellsOf (nthV v6 (((v8).toNat * 5) + 3))))) ++ (⟨#[124, 124, 124, 124, 124, 124, 124, 10]⟩ : ByteArray)).size + (resB (V.cellsOf (nthV v6 (((v8).toNat * 5) + 2)))).size) ≤ 9223372036854775807)) && true) then
                          bif ((decide ((((((⟨#[60, 60, 60, 60, 60, 60, 60, 10]⟩ : ByteArray) ++ (resB (V.cellsOf (nthV v6 (((v8).toNat * 5) + 3))))) ++ (⟨#[124, 124, 124, 124, 124, 124, 124, 10]⟩ : ByteArray)) ++ (resB (V.cellsOf (nthV v6 (((v8).toNat * 5) + 2))))).size + 8) ≤ 9223372036854775807)) && true) then
                            bif (((V.cellsOf (nthV v6 (((v8).toNat * 5) + 4))).all V.isStr && decide ((V.cellsOf (nthV v6 (((v8).toNat * 5) + 4))).length ≤ 1000000000) && decide ((resB (V.cellsOf (nthV v6 (((v8).toNat * 5) + 4)))).size ≤ 100000000000)) && true) then
                              bif ((decide (((((((⟨#[60, 60, 60, 60, 60, 60, 60, 10]⟩ : ByteArray) ++ (resB (V.cellsOf (nthV v6 (((v8).toNat * 5) + 3))))) ++ (⟨#[124, 124, 124, 124, 124, 124, 124, 10]⟩ : ByteArray)) ++ (resB (V.cellsOf (nthV v6 (((v8).toNat * 5) + 2))))) ++ (⟨#[61, 61, 61, 61, 61, 61, 61, 10]⟩ : ByteArray)).size + (resB (V.cellsOf (nthV v6 (((v8).toNat * 5) + 4)))).size) ≤ 9223372036854775807)) && true) then
                                bif ((decide ((((((((⟨#[60, 60, 60, 60, 60, 60, 60, 10]⟩ : ByteArray) ++ (resB (V.cellsOf (nthV v6 (((v8).toNat * 5) + 3))))) ++ (⟨#[124, 124, 124, 124, 124, 124, 124, 10]⟩ : ByteArray)) ++ (resB (V.cellsOf (nthV v6 (((v8).toNat * 5) + 2))))) ++ (⟨#[61, 61, 61, 61, 61, 61, 61, 10]⟩ : ByteArray)) ++ (resB (V.cellsOf (nthV v6 (((v8).toNat * 5) + 4))))).size + 8) ≤ 9223372036854775807)) && true) then
                                  bif ((decide (((s ++ (resB (V.cellsOf (nthV v6 (((v8).toNat * 5) + 1))))).size + (((((((⟨#[60, 60, 60, 60, 60, 60, 60, 10]⟩ : ByteArray) ++ (resB (V.cellsOf (nthV v6 (((v8).toNat * 5) + 3))))) ++ (⟨#[124, 124, 124, 124, 124, 124, 124, 10]⟩ : ByteArray)) ++ (resB (V.cellsOf (nthV v6 (((v8).toNat * 5) + 2))))) ++ (⟨#[61, 61, 61, 61, 61, 61, 61, 10]⟩ : ByteArray)) ++ (resB (V.cellsOf (nthV v6 (((v8).toNat * 5) + 4))))) ++ (⟨#[62, 62, 62, 62, 62, 62, 62, 10]⟩ : ByteArray)).size) ≤ 9223372036854775807)) && true) then
                                    f23_l0 n ((s ++ (resB (V.cellsOf (nthV v6 (((v8).toNat * 5) + 1))))) ++ (((((((⟨#[60, 60, 60, 60, 60, 60, 60, 10]⟩ : ByteArray) ++ (resB (V.cellsOf (nthV v6 (((v8).toNat * 5) + 3))))) ++ (⟨#[124, 124, 124, 124, 124, 124, 124, 10]⟩ : ByteArray)) ++ (resB (V.cellsOf (nthV v6 (((v8).toNat * 5) + 2))))) ++ (⟨#[61, 61, 61, 61, 61, 61, 61, 10]⟩ : ByteArray)) ++ (resB (V.cellsOf (nthV v6 (((v8).toNat * 5) + 4))))) ++ (⟨#[62, 62, 62, 62, 62, 62, 62, 10]⟩ : ByteArray))) v6 v7 (IntKind.wrap .i64 (v8 + 1)) R κ
                                  else none
                                else none
                              else none
                            else none
                          else none
                        else none
                      else none
                    else none
                  else none
                else none
              else
                f23_l0 n (s ++ (resB (V.cellsOf (nthV v6 (((v8).toNat * 5) + 1))))) v6 v7 (IntKind.wrap .i64 (v8 + 1)) R κ
            else none
          else none
        else none
      else none
    else
      κ (.ex 0) (mkS [(2, .bad), (3, .sc (.string s))] [])
def f23_l0_ls : List (Nat × Pat) := [(3, .s), (6, .sl 5), (7, .i .i64), (8, .i .i64)]
def f23_l0_rs : List RPat := []
theorem f23_l0_ok (n : Nat) : ∀ (s : ByteArray) (v6 : List V) (v7 : Int) (v8 : Int) (R : Type) (κ : Ex → St → Option R) (r : R), f23_l0 n s v6 v7 v8 R κ = some r → ∃ ee ss, κ ee ss = some r ∧ RunP C prim 23 [0, 1, 0, 1, 1] (mkS [(3, .sc (.string s)), (6, .sl 5 v6), (7, .sc (.int .i64 v7)), (8, .sc (.int .i64 v8))] []) ee ss := by
  induction n with
  | zero => intro s v6 v7 v8 R κ r h; cases h
  | succ n ih =>
    intro s v6 v7 v8 R κ r h
    refine loop_round (K := K_f23_l0) (T := T_f23_l0) K_f23_l0_ok T_f23_l0_ok (p := [0, 1, 0, 1, 1]) (by kernel_rfl) (fun st => bif ckS f23_l0_ls f23_l0_rs st then f23_l0 n ((st.env 3).strOf) ((st.env 6).cellsOf) ((st.env 7).intOf) ((st.env 8).intOf) R κ else none) (fun st0 h0 => ?_) ?_
    · obtain ⟨hs, h0⟩ := cond_some h0
      rw [canon (ls := f23_l0_ls) (rs := f23_l0_rs) (by kernel_rfl) st0 hs]
      exact ih _ _ _ _ R κ r h0
    · refine Eq.trans ?_ h
      kernel_rfl

def f23_s0 (s : ByteArray) (v6 : List V) (v7 : Int) (v8 : Int) (R : Type) (κ : Ex → St → Option R) : Option R :=
  κ (.ex 0) (mkS [(2, .bad), (3, .sc (.string (s ++ markB v6)))] [])
theorem f23_l0_c (v6 : List V) (q : Nat) (hq : v6.length = 5 * q) (hl : v6.length ≤ 1000000000) : ∀ (m k : Nat) (s : ByteArray), k + m = q → okPs (v6.drop (k * 5)) = true → s.size + (markB (v6.drop (k * 5))).size ≤ 100000000000 → ∀ n, m < n → ∀ (R : Type) (κ : Ex → St → Option R), f23_l0 n s v6 ((lenE 5 v6.length : Nat) : Int) (k : Int) R κ = κ (.ex 0) (mkS [(2, .bad), (3, .sc (.string (s ++ markB (v6.drop (k * 5)))))] []) := by
  have hlen : lenE 5 v6.length = q := by show v6.length / 5 = q; omega
  rw [hlen]
  intro m
  induction m with
  | zero =>
    intro k s hk ho hs n hn R κ
    obtain ⟨n, rfl⟩ : ∃ j, n = j + 1 := ⟨n - 1, by omega⟩
    rw [List.drop_of_length_le (by omega), f23_l0, dec_false (by omega)]
    unfold markB
    rw [ba_nil']
    rfl
  | succ m ih =>
    intro k s hk ho hs n hn R κ
    obtain ⟨n, rfl⟩ : ∃ j, n = j + 1 := ⟨n - 1, by omega⟩
    obtain ⟨c, li, ba, a, b, r, hd, hok, hr⟩ := okPs_cons ho (by intro e; have := congrArg List.length e; rw [List.length_drop] at this; simp only [List.length_nil] at this; omega)
    obtain ⟨n0, n1, n2, n3, n4, hd2, hk5⟩ := drop5 hd
    obtain ⟨p0, ⟨p1, p2, p3⟩, ⟨p4, p5, p6⟩, ⟨p7, p8, p9⟩, ⟨p10, p11, p12⟩⟩ := okP_spec hok
    rw [hd] at hs ⊢
    unfold markB at hs ⊢
    have IH : ∀ s' : ByteArray, s' = s ++ pieceB c li ba a b → f23_l0 n s' v6 ((q : Nat) : Int) ((k + 1 : Nat) : Int) R κ = κ (.ex 0) (mkS [(2, .bad), (3, .sc (.string (s ++ (pieceB c li ba a b ++ markB r))))] []) := by
      intro s' hs'
      subst hs'
      have := ih (k + 1) (s ++ pieceB c li ba a b) (by omega) (by rw [hd2]; exact hr) (by rw [hd2]; simp only [ba_size_append] at hs ⊢; omega) n (by omega) R κ
      rw [hd2, ba_assoc] at this
      exact this
    have c1 : (⟨#[60, 60, 60, 60, 60, 60, 60, 10]⟩ : ByteArray).size = 8 := rfl
    have c2 : (⟨#[124, 124, 124, 124, 124, 124, 124, 10]⟩ : ByteArray).size = 8 := rfl
    have c3 : (⟨#[61, 61, 61, 61, 61, 61, 61, 10]⟩ : ByteArray).size = 8 := rfl
    have c4 : (⟨#[62, 62, 62, 62, 62, 62, 62, 10]⟩ : ByteArray).size = 8 := rfl
    rw [f23_l0, dec_true (show (k : Int) < ((q : Nat) : Int) by omega), dec_true (show (0 : Int) ≤ (k : Int) by omega), hlen, dec_true (show (k : Int) < ((q : Nat) : Int) by omega), n0, n1, n2, n3, n4, p0, p1, p2, p4, p5, p7, p8, p10, p11, wrap_succ (by omega)]
    unfold pieceB at hs
    cases hc : c.boolOf with
    | true =>
      rw [hc, cond_true] at hs
      simp only [ba_size_append, c1, c2, c3, c4] at hs
      simp only [ba_size_append, c1, c2, c3, c4]
      simp (disch := omega) only [dec_true, Bool.and_true, cond_true]
      refine IH _ ?_
      unfold pieceB
      rw [hc, cond_true, ba_assoc]
    | false =>
      rw [hc, cond_false] at hs
      simp only [ba_size_append, c1, c2, c3, c4] at hs
      simp (disch := omega) only [dec_true, Bool.and_true, cond_true, cond_false]
      refine IH _ ?_
      unfold pieceB
      rw [hc, cond_false]
theorem f23_s0_eq (s : ByteArray) (v6 : List V) (v7 : Int) (v8 : Int) (hp : ((v7 == ((lenE 5 v6.length : Nat) : Int)) && (v8 == 0) && okPs v6 && decide (v6.length ≤ 1000000000) && decide (s.size + (markB v6).size ≤ 100000000000)) = true) : ∃ n, ∀ (R : Type) (κ : Ex → St → Option R), f23_l0 n s v6 v7 v8 R κ = f23_s0 s v6 v7 v8 R κ := by
  simp only [Bool.and_eq_true, decide_eq_true_eq, beq_iff_eq] at hp
  obtain ⟨⟨⟨⟨rfl, rfl⟩, h3⟩, h4⟩, h5⟩ := hp
  obtain ⟨q, hq⟩ := okPs_len v6 h3
  exact ⟨q + 1, fun R κ => f23_l0_c v6 q hq h4 q 0 s (by omega) (by simpa using h3) (by simpa using h5) _ (by omega) R κ⟩
def t_f23_l0 (st : St) (R : Type) (κ : Ex → St → Option R) : Option R := bif ckS f23_l0_ls f23_l0_rs st then (bif ((((st.env 7).intOf) == ((lenE 5 ((st.env 6).cellsOf).length : Nat) : Int)) && (((st.env 8).intOf) == 0) && okPs ((st.env 6).cellsOf) && decide (((st.env 6).cellsOf).length ≤ 1000000000) && decide (((st.env 3).strOf).size + (markB ((st.env 6).cellsOf)).size ≤ 100000000000)) then f23_s0 ((st.env 3).strOf) ((st.env 6).cellsOf) ((st.env 7).intOf) ((st.env 8).intOf) R κ else none) else none
theorem t_f23_l0_ok : ∀ st0 R κ r, t_f23_l0 (forget C 23 [0, 1, 0, 1, 1] st0) R κ = some r → ∃ ee ss, κ ee ss = some r ∧ RunP C prim 23 [0, 1, 0, 1, 1] (forget C 23 [0, 1, 0, 1, 1] st0) ee ss := by
  intro st0 R κ r h
  obtain ⟨hs, h⟩ := cond_some h
  obtain ⟨hp, h⟩ := cond_some h
  rw [canon (ls := f23_l0_ls) (rs := f23_l0_rs) (by kernel_rfl) st0 hs]
  obtain ⟨n, hn⟩ := f23_s0_eq _ _ _ _ hp
  rw [← hn] at h
  exact f23_l0_ok n _ _ _ _ R κ r h

def K_f23 : CallK := kNil
theorem K_f23_ok : KOK C prim K_f23 := KOK.nil
def T_f23 : Tab := tCons [0, 1, 0, 1, 1] t_f23_l0 <| tNil
theorem T_f23_ok : TOK C prim 23 T_f23 := TOK.cons t_f23_l0_ok <| TOK.nil
def f23 (l : List V) : Option (V × List Rg) :=
  bif (((((lenE 5 l.length) : Nat) : Int) == ((lenE 5 l.length : Nat) : Int)) && ((0 : Int) == 0) && okPs l && decide (l.length ≤ 1000000000) && decide ((⟨#[]⟩ : ByteArray).size + (markB l).size ≤ 100000000000)) then
    some (.sc (.string ((⟨#[]⟩ : ByteArray) ++ markB l)), [])
  else none
theorem f23_run (l : List V) (x : V × List Rg) (h : f23 l = some x) : CallR C prim 23 [.sl 5 l] [] x := by
  refine call_fn (K := K_f23) (T := T_f23) K_f23_ok T_f23_ok (by kernel_rfl) ?_
  refine Eq.trans ?_ h
  kernel_rfl

theorem f23_eq (l : List V) (hp : (okPs l && decide (l.length ≤ 1000000000) && decide ((markB l).size ≤ 100000000000)) = true) : f23 l = some (.sc (.string (markB l)), []) := by
  simp only [Bool.and_eq_true, decide_eq_true_eq] at hp
  have e0 : (⟨#[]⟩ : ByteArray).size = 0 := rfl
  unfold f23
  rw [hp.1.1, dec_true hp.1.2, e0, dec_true (by omega), ba_nil]
  simp only [beq_self_eq_true, Bool.and_true, cond_true]
def k23 : PrimT := fun vs gs => match vs, gs with
  | [.sl 5 l], [] => ((okPs l && decide (l.length ≤ 1000000000) && decide ((markB l).size ≤ 100000000000)), .sc (.string (markB l)), [])
  | _, _ => (false, .bad, [])
theorem k23_ok : ∀ vs gs x, k23 vs gs = (true, x) → CallR C prim 23 vs gs x := by
  intro vs gs x h
  unfold k23 at h
  split at h
  · simp only [Prod.mk.injEq] at h
    obtain ⟨hp, rfl⟩ := h
    exact f23_run _ _ (f23_eq _ hp)
  · cases h

def K_f19_l0 : CallK := kCons 45 k45 <| kCons 57 k57 <| kCons 58 k58 <| kNil
theorem K_f19_l0_ok : KOK C prim K_f19_l0 := KOK.cons k45_ok <| KOK.cons k57_ok <| KOK.cons k58_ok <| KOK.nil
def T_f19_l0 : Tab := tNil
theorem T_f19_l0_ok : TOK C prim 19 T_f19_l0 := TOK.nil
def f19_l0 : Nat → List V → Int → Int → List V → (R : Type) → (Ex → St → Option R) → Option R
  | 0, _, _, _, _, _, _ => none
  | n + 1, v8, v9, v10, b1, R, κ =>
    bif (decide (v10 < v9)) then
      bif (((decide ((0 : Int) ≤ v10)) && (decide (v10 < (((lenE 5 v8.length) : Nat) : Int)))) && true) then
        bif (((V.isBool (nthV v8 (((v10).toNat * 5) + 0))) && ((V.isSl 1 (nthV v8 (((v10).toNat * 5) + 1))) && ((V.isSl 1 (nthV v8 (((v10).toNat * 5) + 2))) && ((V.isSl 1 (nthV v8 (((v10).toNat * 5) + 3))) && ((V.isSl 1 (nthV v8 (((v10).toNat * 5) + 4))) && true))))) && true) then
          bif (V.boolOf (nthV v8 (((v10).toNat * 5) + 0))) then
            bif (decide (((((V.cellsOf (nthV v8 (((v10).toNat * 5) + 1)))).length : Nat) : Int) > 0)) then
              κ .rt (mkS [(2, .sc (.string ⟨#[]⟩)), (3, .sc (.int .i64 5)), (4, .ptrB (.loc 4) 0)] [(.loc 4, some ⟨true, [.slf, .own 5 false b1]⟩)])
            else
              bif (!(V.boolOf (nthV v8 (((v10).toNat * 5) + 0)))) then
                bif (decide ((IntKind.wrap .i64 ((IntKind.wrap .i64 (((((V.cellsOf (nthV v8 (((v10).toNat * 5) + 2)))).length : Nat) : Int) + ((((V.cellsOf (nthV v8 (((v10).toNat * 5) + 3)))).length : Nat) : Int))) + ((((V.cellsOf (nthV v8 (((v10).toNat * 5) + 4)))).length : Nat) : Int))) > 0)) then
                  κ .rt (mkS [(2, .sc (.string ⟨#[]⟩)), (3, .sc (.int .i64 5)), (4, .ptrB (.loc 4) 0)] [(.loc 4, some ⟨true, [.slf, .own 5 false b1]⟩)])
                else
                  bif ((([.sl 1 (V.cellsOf (nthV v8 (((v10).toNat * 5) + 1))), .sl 1 (V.cellsOf (nthV v8 (((v10).toNat * 5) + 2))), .sl 1 (V.cellsOf (nthV v8 (((v10).toNat * 5) + 3))), .sl 1 (V.cellsOf (nthV v8 (((v10).toNat * 5) + 4)))] : List V).all okStrs && decide (([.sl 1 (V.cellsOf (nthV v8 (((v10).toNat * 5) + 1))), .sl 1 (V.cellsOf (nthV v8 (((v10).toNat * 5) + 2))), .sl 1 (V.cellsOf (nthV v8 (((v10).toNat * 5) + 3))), .sl 1 (V.cellsOf (nthV v8 (((v10).toNat * 5) + 4)))] : List V).length ≤ 1000000000)) && true) then
                    bif ((listsE ([.sl 1 (V.cellsOf (nthV v8 (((v10).toNat * 5) + 1))), .sl 1 (V.cellsOf (nthV v8 (((v10).toNat * 5) + 2))), .sl 1 (V.cellsOf (nthV v8 (((v10).toNat * 5) + 3))), .sl 1 (V.cellsOf (nthV v8 (((v10).toNat * 5) + 4)))] : List V)) != 0) then
                      κ .rt (mkS [(2, .sc (.string ⟨#[]⟩)), (3, .sc (.int .i64 (listsE ([.sl 1 (V.cellsOf (nthV v8 (((v10).toNat * 5) + 1))), .sl 1 (V.cellsOf (nthV v8 (((v10).toNat * 5) + 2))), .sl 1 (V.cellsOf (nthV v8 (((v10).toNat * 5) + 3))), .sl 1 (V.cellsOf (nthV v8 (((v10).toNat * 5) + 4)))] : List V)))), (4, .ptrB (.loc 4) 0)] [(.loc 4, some ⟨true, [.slf, .own 5 false b1]⟩)])
                    else
                      bif (!(V.boolOf (nthV v8 (((v10).toNat * 5) + 0)))) then
                        bif (((V.cellsOf (nthV v8 (((v10).toNat * 5) + 1))).all V.isStr && decide ((V.cellsOf (nthV v8 (((v10).toNat * 5) + 1))).length ≤ 1000000000) && decide (b1.length + (resB (V.cellsOf (nthV v8 (((v10).toNat * 5) + 1)))).size ≤ 100000000000)) && true) then
                          f19_l0 n v8 v9 (IntKind.wrap .i64 (v10 + 1)) (b1 ++ bytesV (resB (V.cellsOf (nthV v8 (((v10).toNat * 5) + 1))))) R κ
                        else none
                      else
                        bif ((roomB b1 (⟨#[60, 60, 60, 60, 60, 60, 60, 10]⟩ : ByteArray)) && true) then
                          bif (((V.cellsOf (nthV v8 (((v10).toNat * 5) + 3))).all V.isStr && decide ((V.cellsOf (nthV v8 (((v10).toNat * 5) + 3))).length ≤ 1000000000) && decide ((b1 ++ bytesV (⟨#[60, 60, 60, 60, 60, 60, 60, 10]⟩ : ByteArray)).length + (resB (V.cellsOf (nthV v8 (((v10).toNat * 5) + 3)))).size ≤ 100000000000)) && true) then
                            bif ((roomB ((b1 ++ bytesV (⟨#[60, 60, 60, 60, 60, 60, 60, 10]⟩ : ByteArray)) ++ bytesV (resB (V.cellsOf (nthV v8 (((v10).toNat * 5) + 3))))) (⟨#[124, 124, 124, 124, 124, 124, 124, 10]⟩ : ByteArray)) && true) then
                              bif (((V.cellsOf (nthV v8 (((v10).toNat * 5) + 2))).all V.isStr && decide ((V.cellsOf (nthV v8 (((v10).toNat * 5) + 2))).length ≤ 1000000000) && decide ((((b1 ++ bytesV (⟨#[60, 60, 60, 60, 60, 60, 60, 10]⟩ : ByteArray)) ++ bytesV (resB (V.cellsOf (nthV v8 (((v10).toNat * 5) + 3))))) ++ bytesV (⟨#[124, 124, 124, 124, 124, 124, 124, 10]⟩ : ByteArray)).length + (resB (V.cellsOf (nthV v8 (((v10).toNat * 5) + 2)))).size ≤ 100000000000)) && true) then
                                bif ((roomB ((((b1 ++ bytesV (⟨#[60, 60, 60, 60, 60, 60, 60, 10]⟩ : ByteArray)) ++ bytesV (resB (V.cellsOf (nthV v8 (((v10).toNat * 5) + 3))))) ++ bytesV (⟨#[124, 124, 124, 124, 124, 124, 124, 10]⟩ : ByteArray)) ++ bytesV (resB (V.cellsOf (nthV v8 (((v10).toNat * 5) + 2))))) (⟨#[61, 61, 61, 61, 61, 61, 61, 10]⟩ : ByteArray)) && true) then
                                  bif (((V.cellsOf (nthV v8 (((v10).toNat * 5) + 4))).all V.isStr && decide ((V.cellsOf (nthV v8 (((v10).toNat * 5) + 4))).length ≤ 1000000000) && decide ((((((b1 ++ bytesV (⟨#[60, 60, 60, 60, 60, 60, 60, 10]⟩ : ByteArray)) ++ bytesV (resB (V.cellsOf (nthV v8 (((v10).toNat * 5) + 3))))) ++ bytesV (⟨#[124, 124, 124, 124, 124, 124, 124, 10]⟩ : ByteArray)) ++ bytesV (resB (V.cellsOf (nthV v8 (((v10).toNat * 5) + 2))))) ++ bytesV (⟨#[61, 61, 61, 61, 61, 61, 61, 10]⟩ : ByteArray)).length + (resB (V.cellsOf (nthV v8 (((v10).toNat * 5) + 4)))).size ≤ 100000000000)) && true) then
                                    bif ((roomB ((((((b1 ++ bytesV (⟨#[60, 60, 60, 60, 60, 60, 60, 10]⟩ : ByteArray)) ++ bytesV (resB (V.cellsOf (nthV v8 (((v10).toNat * 5) + 3))))) ++ bytesV (⟨#[124, 124, 124, 124, 124, 124, 124, 10]⟩ : ByteArray)) ++ bytesV (resB (V.cellsOf (nthV v8 (((v10).toNat * 5) + 2))))) ++ bytesV (⟨#[61, 61, 61, 61, 61, 61, 61, 10]⟩ : ByteArray)) ++ bytesV (resB (V.cellsOf (nthV v8 (((v10).toNat * 5) + 4))))) (⟨#[62, 62, 62, 62, 62, 62, 62, 10]⟩ : ByteArray)) && true) then
                                      f19_l0 n v8 v9 (IntKind.wrap .i64 (v10 + 1)) (((((((b1 ++ bytesV (⟨#[60, 60, 60, 60, 60, 60, 60, 10]⟩ : ByteArray)) ++ bytesV (resB (V.cellsOf (nthV v8 (((v10).toNat * 5) + 3))))) ++ bytesV (⟨#[124, 124, 124, 124, 124, 124, 124, 10]⟩ : ByteArray)) ++ bytesV (resB (V.cellsOf (nthV v8 (((v10).toNat * 5) + 2))))) ++ bytesV (⟨#[61, 61, 61, 61, 61, 61, 61, 10]⟩ : ByteArray)) ++ bytesV (resB (V.cellsOf (nthV v8 (((v10).toNat * 5) + 4))))) ++ bytesV (⟨#[62, 62, 62, 62, 62, 62, 62, 10]⟩ : ByteArray)) R κ
                                    else none
                                  else none
                                else none
                              else none
                            else none
                          else none
                        else none
                  else none
              else
                bif ((([.sl 1 (V.cellsOf (nthV v8 (((v10).toNat * 5) + 1))), .sl 1 (V.cellsOf (nthV v8 (((v10).toNat * 5) + 2))), .sl 1 (V.cellsOf (nthV v8 (((v10).toNat * 5) + 3))), .sl 1 (V.cellsOf (nthV v8 (((v10).toNat * 5) + 4)))] : List V).all okStrs && decide (([.sl 1 (V.cellsOf (nthV v8 (((v10).toNat * 5) + 1))), .sl 1 (V.cellsOf (nthV v8 (((v10).toNat * 5) + 2))), .sl 1 (V.cellsOf (nthV v8 (((v10).toNat * 5) + 3))), .sl 1 (V.cellsOf (nthV v8 (((v10).toNat * 5) + 4)))] : List V).length ≤ 1000000000)) && true) then
                  bif ((listsE ([.sl 1 (V.cellsOf (nthV v8 (((v10).toNat * 5) + 1))), .sl 1 (V.cellsOf (nthV v8 (((v10).toNat * 5) + 2))), .sl 1 (V.cellsOf (nthV v8 (((v10).toNat * 5) + 3))), .sl 1 (V.cellsOf (nthV v8 (((v10).toNat * 5) + 4)))] : List V)) != 0) then
                    κ .rt (mkS [(2, .sc (.string ⟨#[]⟩)), (3, .sc (.int .i64 (listsE ([.sl 1 (V.cellsOf (nthV v8 (((v10).toNat * 5) + 1))), .sl 1 (V.cellsOf (nthV v8 (((v10).toNat * 5) + 2))), .sl 1 (V.cellsOf (nthV v8 (((v10).toNat * 5) + 3))), .sl 1 (V.cellsOf (nthV v8 (((v10).toNat * 5) + 4)))] : List V)))), (4, .ptrB (.loc 4) 0)] [(.loc 4, some ⟨true, [.slf, .own 5 false b1]⟩)])
                  else
                    bif (!(V.boolOf (nthV v8 (((v10).toNat * 5) + 0)))) then
                      bif (((V.cellsOf (nthV v8 (((v10).toNat * 5) + 1))).all V.isStr && decide ((V.cellsOf (nthV v8 (((v10).toNat * 5) + 1))).length ≤ 1000000000) && decide (b1.length + (resB (V.cellsOf (nthV v8 (((v10).toNat * 5) + 1)))).size ≤ 100000000000)) && true) then
                        f19_l0 n v8 v9 (IntKind.wrap .i64 (v10 + 1)) (b1 ++ bytesV (resB (V.cellsOf (nthV v8 (((v10).toNat * 5) + 1))))) R κ
                      else none
                    else
                      bif ((roomB b1 (⟨#[60, 60, 60, 60, 60, 60, 60, 10]⟩ : ByteArray)) && true) then
                        bif (((V.cellsOf (nthV v8 (((v10).toNat * 5) + 3))).all V.isStr && decide ((V.cellsOf (nthV v8 (((v10).toNat * 5) + 3))).length ≤ 1000000000) && decide ((b1 ++ bytesV (⟨#[60, 60, 60, 60, 60, 60, 60, 10]⟩ : ByteArray)).length + (resB (V.cellsOf (nthV v8 (((v10).toNat * 5) + 3)))).size ≤ 100000000000)) && true) then
                          bif ((roomB ((b1 ++ bytesV (⟨#[60, 60, 60, 60, 60, 60, 60, 10]⟩ : ByteArray)) ++ bytesV (resB (V.cellsOf (nthV v8 (((v10).toNat * 5) + 3))))) (⟨#[124, 124, 124, 124, 124, 124, 124, 10]⟩ : ByteArray)) && true) then
                            bif (((V.cellsOf (nthV v8 (((v10).toNat * 5) + 2))).all V.isStr && decide ((V.cellsOf (nthV v8 (((v10).toNat * 5) + 2))).length ≤ 1000000000) && decide ((((b1 ++ bytesV (⟨#[60, 60, 60, 60, 60, 60, 60, 10]⟩ : ByteArray)) ++ bytesV (resB (V.cellsOf (nthV v8 (((v10).toNat * 5) + 3))))) ++ bytesV (⟨#[124, 124, 124, 124, 124, 124, 124, 10]⟩ : ByteArray)).length + (resB (V.cellsOf (nthV v8 (((v10).toNat * 5) + 2)))).size ≤ 100000000000)) && true) then
                              bif ((roomB ((((b1 ++ bytesV (⟨#[60, 60, 60, 60, 60, 60, 60, 10]⟩ : ByteArray)) ++ bytesV (resB (V.cellsOf (nthV v8 (((v10).toNat * 5) + 3))))) ++ bytesV (⟨#[124, 124, 124, 124, 124, 124, 124, 10]⟩ : ByteArray)) ++ bytesV (resB (V.cellsOf (nthV v8 (((v10).toNat * 5) + 2))))) (⟨#[61, 61, 61, 61, 61, 61, 61, 10]⟩ : ByteArray)) && true) then
                                bif (((V.cellsOf (nthV v8 (((v10).toNat * 5) + 4))).all V.isStr && decide ((V.cellsOf (nthV v8 (((v10).toNat * 5) + 4))).length ≤ 1000000000) && decide ((((((b1 ++ bytesV (⟨#[60, 60, 60, 60, 60, 60, 60, 10]⟩ : ByteArray)) ++ bytesV (resB (V.cellsOf (nthV v8 (((v10).toNat * 5) + 3))))) ++ bytesV (⟨#[124, 124, 124, 124, 124, 124, 124, 10]⟩ : ByteArray)) ++ bytesV (resB (V.cellsOf (nthV v8 (((v10).toNat * 5) + 2))))) ++ bytesV (⟨#[61, 61, 61, 61, 61, 61, 61, 10]⟩ : ByteArray)).length + (resB (V.cellsOf (nthV v8 (((v10).toNat * 5) + 4)))).size ≤ 100000000000)) && true) then
                                  bif ((roomB ((((((b1 ++ bytesV (⟨#[60, 60, 60, 60, 60, 60, 60, 10]⟩ : ByteArray)) ++ bytesV (resB (V.cellsOf (nthV v8 (((v10).toNat * 5) + 3))))) ++ bytesV (⟨#[124, 124, 124, 124, 124, 124, 124, 10]⟩ : ByteArray)) ++ bytesV (resB (V.cellsOf (nthV v8 (((v10).toNat * 5) + 2))))) ++ bytesV (⟨#[61, 61, 61, 61, 61, 61, 61, 10]⟩ : ByteArray)) ++ bytesV (resB (V.cellsOf (nthV v8 (((v10).toNat * 5) + 4))))) (⟨#[62, 62, 62, 62, 62, 62, 62, 10]⟩ : ByteArray)) && true) then
                                    f19_l0 n v8 v9 (IntKind.wrap .i64 (v10 + 1)) (((((((b1 ++ bytesV (⟨#[60, 60, 60, 60, 60, 60, 60, 10]⟩ : ByteArray)) ++ bytesV (resB (V.cellsOf (nthV v8 (((v10).toNat * 5) + 3))))) ++ bytesV (⟨#[124, 124, 124, 124, 124, 124, 124, 10]⟩ : ByteArray)) ++ bytesV (resB (V.cellsOf (nthV v8 (((v10).toNat * 5) + 2))))) ++ bytesV (⟨#[61, 61, 61, 61, 61, 61, 61, 10]⟩ : ByteArray)) ++ bytesV (resB (V.cellsOf (nthV v8 (((v10).toNat * 5) + 4))))) ++ bytesV (⟨#[62, 62, 62, 62, 62, 62, 62, 10]⟩ : ByteArray)) R κ
                                  else none
                                else none
                              else none
                            else none
                          else none
                        else none
                      else none
                else none
          else
            bif (!(V.boolOf (nthV v8 (((v10).toNat * 5) + 0)))) then
              bif (decide ((IntKind.wrap .i64 ((IntKind.wrap .i64 (((((V.cellsOf (nthV v8 (((v10).toNat * 5) + 2)))).length : Nat) : Int) + ((((V.cellsOf (nthV v8 (((v10).toNat * 5) + 3)))).length : Nat) : Int))) + ((((V.cellsOf (nthV v8 (((v10).toNat * 5) + 4)))).length : Nat) : Int))) > 0)) then
                κ .rt (mkS [(2, .sc (.string ⟨#[]⟩)), (3, .sc (.int .i64 5)), (4, .ptrB (.loc 4) 0)] [(.loc 4, some ⟨true, [.slf, .own 5 false b1]⟩)])
              else
                bif ((([.sl 1 (V.cellsOf (nthV v8 (((v10).toNat * 5) + 1))), .sl 1 (V.cellsOf (nthV v8 (((v10).toNat * 5) + 2))), .sl 1 (V.cellsOf (nthV v8 (((v10).toNat * 5) + 3))), .sl 1 (V.cellsOf (nthV v8 (((v10).toNat * 5) + 4)))] : List V).all okStrs && decide (([.sl 1 (V.cellsOf (nthV v8 (((v10).toNat * 5) + 1))), .sl 1 (V.cellsOf (nthV v8 (((v10).toNat * 5) + 2))), .sl 1 (V.cellsOf (nthV v8 (((v10).toNat * 5) + 3))), .sl 1 (V.cellsOf (nthV v8 (((v10).toNat * 5) + 4)))] : List V).length ≤ 1000000000)) && true) then
                  bif ((listsE ([.sl 1 (V.cellsOf (nthV v8 (((v10).toNat * 5) + 1))), .sl 1 (V.cellsOf (nthV v8 (((v10).toNat * 5) + 2))), .sl 1 (V.cellsOf (nthV v8 (((v10).toNat * 5) + 3))), .sl 1 (V.cellsOf (nthV v8 (((v10).toNat * 5) + 4)))] : List V)) != 0) then
                    κ .rt (mkS [(2, .sc (.string ⟨#[]⟩)), (3, .sc (.int .i64 (listsE ([.sl 1 (V.cellsOf (nthV v8 (((v10).toNat * 5) + 1))), .sl 1 (V.cellsOf (nthV v8 (((v10).toNat * 5) + 2))), .sl 1 (V.cellsOf (nthV v8 (((v10).toNat * 5) + 3))), .sl 1 (V.cellsOf (nthV v8 (((v10).toNat * 5) + 4)))] : List V)))), (4, .ptrB (.loc 4) 0)] [(.loc 4, some ⟨true, [.slf, .own 5 false b1]⟩)])
                  else
                    bif (!(V.boolOf (nthV v8 (((v10).toNat * 5) + 0)))) then
                      bif (((V.cellsOf (nthV v8 (((v10).toNat * 5) + 1))).all V.isStr && decide ((V.cellsOf (nthV v8 (((v10).toNat * 5) + 1))).length ≤ 1000000000) && decide (b1.length + (resB (V.cellsOf (nthV v8 (((v10).toNat * 5) + 1)))).size ≤ 100000000000)) && true) then
                        f19_l0 n v8 v9 (IntKind.wrap .i64 (v10 + 1)) (b1 ++ bytesV (resB (V.cellsOf (nthV v8 (((v10).toNat * 5) + 1))))) R κ
                      else none
                    else
                      bif ((roomB b1 (⟨#[60, 60, 60, 60, 60, 60, 60, 10]⟩ : ByteArray)) && true) then
                        bif (((V.cellsOf (nthV v8 (((v10).toNat * 5) + 3))).all V.isStr && decide ((V.cellsOf (nthV v8 (((v10).toNat * 5) + 3))).length ≤ 1000000000) && decide ((b1 ++ bytesV (⟨#[60, 60, 60, 60, 60, 60, 60, 10]⟩ : ByteArray)).length + (resB (V.cellsOf (nthV v8 (((v10).toNat * 5) + 3)))).size ≤ 100000000000)) && true) then
                          bif ((roomB ((b1 ++ bytesV (⟨#[60, 60, 60, 60, 60, 60, 60, 10]⟩ : ByteArray)) ++ bytesV (resB (V.cellsOf (nthV v8 (((v10).toNat * 5) + 3))))) (⟨#[124, 124, 124, 124, 124, 124, 124, 10]⟩ : ByteArray)) && true) then
                            bif (((V.cellsOf (nthV v8 (((v10).toNat * 5) + 2))).all V.isStr && decide ((V.cellsOf (nthV v8 (((v10).toNat * 5) + 2))).length ≤ 1000000000) && decide ((((b1 ++ bytesV (⟨#[60, 60, 60, 60, 60, 60, 60, 10]⟩ : ByteArray)) ++ bytesV (resB (V.cellsOf (nthV v8 (((v10).toNat * 5) + 3))))) ++ bytesV (⟨#[124, 124, 124, 124, 124, 124, 124, 10]⟩ : ByteArray)).length + (resB (V.cellsOf (nthV v8 (((v10).toNat * 5) + 2)))).size ≤ 100000000000)) && true) then
                              bif ((roomB ((((b1 ++ bytesV (⟨#[60, 60, 60, 60, 60, 60, 60, 10]⟩ : ByteArray)) ++ bytesV (resB (V.cellsOf (nthV v8 (((v10).toNat * 5) + 3))))) ++ bytesV (⟨#[124, 124, 124, 124, 124, 124, 124, 10]⟩ : ByteArray)) ++ bytesV (resB (V.cellsOf (nthV v8 (((v10).toNat * 5) + 2))))) (⟨#[61, 61, 61, 61, 61, 61, 61, 10]⟩ : ByteArray)) && true) then
                                bif (((V.cellsOf (nthV v8 (((v10).toNat * 5) + 4))).all V.isStr && decide ((V.cellsOf (nthV v8 (((v10).toNat * 5) + 4))).length ≤ 1000000000) && decide ((((((b1 ++ bytesV (⟨#[60, 60, 60, 60, 60, 60, 60, 10]⟩ : ByteArray)) ++ bytesV (resB (V.cellsOf (nthV v8 (((v10).toNat * 5) + 3))))) ++ bytesV (⟨#[124, 124, 124, 124, 124, 124, 124, 10]⟩ : ByteArray)) ++ bytesV (resB (V.cellsOf (nthV v8 (((v10).toNat * 5) + 2))))) ++ bytesV (⟨#[61, 61, 61, 61, 61, 61, 61, 10]⟩ : ByteArray)).length + (resB (V.cellsOf (nthV v8 (((v10).toNat * 5) + 4)))).size ≤ 100000000000)) && true) then
                                  bif ((roomB ((((((b1 ++ bytesV (⟨#[60, 60, 60, 60, 60, 60, 60, 10]⟩ : ByteArray)) ++ bytesV (resB (V.cellsOf (nthV v8 (((v10).toNat * 5) + 3))))) ++ bytesV (⟨#[124, 124, 124, 124, 124, 124, 124, 10]⟩ : ByteArray)) ++ bytesV (resB (V.cellsOf (nthV v8 (((v10).toNat * 5) + 2))))) ++ bytesV (⟨#[61, 61, 61, 61, 61, 61, 61, 10]⟩ : ByteArray)) ++ bytesV (resB (V.cellsOf (nthV v8 (((v10).toNat * 5) + 4))))) (⟨#[62, 62, 62, 62, 62, 62, 62, 10]⟩ : ByteArray)) && true) then
                                    f19_l0 n v8 v9 (IntKind.wrap .i64 (v10 + 1)) (((((((b1 ++ bytesV (⟨#[60, 60, 60, 60, 60, 60, 60, 10]⟩ : ByteArray)) ++ bytesV (resB (V.cellsOf (nthV v8 (((v10).toNat * 5) + 3))))) ++ bytesV (⟨#[124, 124, 124, 124, 124, 124, 124, 10]⟩ : ByteArray)) ++ bytesV (resB (V.cellsOf (nthV v8 (((v10).toNat * 5) + 2))))) ++ bytesV (⟨#[61, 61, 61, 61, 61, 61, 61, 10]⟩ : ByteArray)) ++ bytesV (resB (V.cellsOf (nthV v8 (((v10).toNat * 5) + 4))))) ++ bytesV (⟨#[62, 62, 62, 62, 62, 62, 62, 10]⟩ : ByteArray)) R κ
                                  else none
                                else none
                              else none
                            else none
                          else none
                        else none
                      else none
                else none
            else
              bif ((([.sl 1 (V.cellsOf (nthV v8 (((v10).toNat * 5) + 1))), .sl 1 (V.cellsOf (nthV v8 (((v10).toNat * 5) + 2))), .sl 1 (V.cellsOf (nthV v8 (((v10).toNat * 5) + 3))), .sl 1 (V.cellsOf (nthV v8 (((v10).toNat * 5) + 4)))] : List V).all okStrs && decide (([.sl 1 (V.cellsOf (nthV v8 (((v10).toNat * 5) + 1))), .sl 1 (V.cellsOf (nthV v8 (((v10).toNat * 5) + 2))), .sl 1 (V.cellsOf (nthV v8 (((v10).toNat * 5) + 3))), .sl 1 (V.cellsOf (nthV v8 (((v10).toNat * 5) + 4)))] : List V).length ≤ 1000000000)) && true) then
                bif ((listsE ([.sl 1 (V.cellsOf (nthV v8 (((v10).toNat * 5) + 1))), .sl 1 (V.cellsOf (nthV v8 (((v10).toNat * 5) + 2))), .sl 1 (V.cellsOf (nthV v8 (((v10).toNat * 5) + 3))), .sl 1 (V.cellsOf (nthV v8 (((v10).toNat * 5) + 4)))] : List V)) != 0) then
                  κ .rt (mkS [(2, .sc (.string ⟨#[]⟩)), (3, .sc (.int .i64 (listsE ([.sl 1 (V.cellsOf (nthV v8 (((v10).toNat * 5) + 1))), .sl 1 (V.cellsOf (nthV v8 (((v10).toNat * 5) + 2))), .sl 1 (V.cellsOf (nthV v8 (((v10).toNat * 5) + 3))), .sl 1 (V.cellsOf (nthV v8 (((v10).toNat * 5) + 4)))] : List V)))), (4, .ptrB (.loc 4) 0)] [(.loc 4, some ⟨true, [.slf, .own 5 false b1]⟩)])
                else
                  bif (!(V.boolOf (nthV v8 (((v10).toNat * 5) + 0)))) then
                    bif (((V.cellsOf (nthV v8 (((v10).toNat * 5) + 1))).all V.isStr && decide ((V.cellsOf (nthV v8 (((v10).toNat * 5) + 1))).length ≤ 1000000000) && decide (b1.length + (resB (V.cellsOf (nthV v8 (((v10).toNat * 5) + 1)))).size ≤ 100000000000)) && true) then
                      f19_l0 n v8 v9 (IntKind.wrap .i64 (v10 + 1)) (b1 ++ bytesV (resB (V.cellsOf (nthV v8 (((v10).toNat * 5) + 1))))) R κ
                    else none
                  else
                    bif ((roomB b1 (⟨#[60, 60, 60, 60, 60, 60, 60, 10]⟩ : ByteArray)) && true) then
                      bif (((V.cellsOf (nthV v8 (((v10).toNat * 5) + 3))).all V.isStr && decide ((V.cellsOf (nthV v8 (((v10).toNat * 5) + 3))).length ≤ 1000000000) && decide ((b1 ++ bytesV (⟨#[60, 60, 60, 60, 60, 60, 60, 10]⟩ : ByteArray)).length + (resB (V.cellsOf (nthV v8 (((v10).toNat * 5) + 3)))).size ≤ 100000000000)) && true) then
                        bif ((roomB ((b1 ++ bytesV (⟨#[60, 60, 60, 60, 60, 60, 60, 10]⟩ : ByteArray)) ++ bytesV (resB (V.cellsOf (nthV v8 (((v10).toNat * 5) + 3))))) (⟨#[124, 124, 124, 124, 124, 124, 124, 10]⟩ : ByteArray)) && true) then
                          bif (((V.cellsOf (nthV v8 (((v10).toNat * 5) + 2))).all V.isStr && decide ((V.cellsOf (nthV v8 (((v10).toNat * 5) + 2))).length ≤ 1000000000) && decide ((((b1 ++ bytesV (⟨#[60, 60, 60, 60, 60, 60, 60, 10]⟩ : ByteArray)) ++ bytesV (resB (V.cellsOf (nthV v8 (((v10).toNat * 5) + 3))))) ++ bytesV (⟨#[124, 124, 124, 124, 124, 124, 124, 10]⟩ : ByteArray)).length + (resB (V.cellsOf (nthV v8 (((v10).toNat * 5) + 2)))).size ≤ 100000000000)) && true) then
                            bif ((roomB ((((b1 ++ bytesV (⟨#[60, 60, 60, 60, 60, 60, 60, 10]⟩ : ByteArray)) ++ bytesV (resB (V.cellsOf (nthV v8 (((v10).toNat * 5) + 3))))) ++ bytesV (⟨#[124, 124, 124, 124, 124, 124, 124, 10]⟩ : ByteArray)) ++ bytesV (resB (V.cellsOf (nthV v8 (((v10).toNat * 5) + 2))))) (⟨#[61, 61, 61, 61, 61, 61, 61, 10]⟩ : ByteArray)) && true) then
                              bif (((V.cellsOf (nthV v8 (((v10).toNat * 5) + 4))).all V.isStr && decide ((V.cellsOf (nthV v8 (((v10).toNat * 5) + 4))).length ≤ 1000000000) && decide ((((((b1 ++ bytesV (⟨#[60, 60, 60, 60, 60, 60, 60, 10]⟩ : ByteArray)) ++ bytesV (resB (V.cellsOf (nthV v8 (((v10).toNat * 5) + 3))))) ++ bytesV (⟨#[124, 124, 124, 124, 124, 124, 124, 10]⟩ : ByteArray)) ++ bytesV (resB (V.cellsOf (nthV v8 (((v10).toNat * 5) + 2))))) ++ bytesV (⟨#[61, 61, 61, 61, 61, 61, 61, 10]⟩ : ByteArray)).length + (resB (V.cellsOf (nthV v8 (((v10).toNat * 5) + 4)))).size ≤ 100000000000)) && true) then
                                bif ((roomB ((((((b1 ++ bytesV (⟨#[60, 60, 60, 60, 60, 60, 60, 10]⟩ : ByteArray)) ++ bytesV (resB (V.cellsOf (nthV v8 (((v10).toNat * 5) + 3))))) ++ bytesV (⟨#[124, 124, 124, 124, 124, 124, 124, 10]⟩ : ByteArray)) ++ bytesV (resB (V.cellsOf (nthV v8 (((v10).toNat * 5) + 2))))) ++ bytesV (⟨#[61, 61, 61, 61, 61, 61, 61, 10]⟩ : ByteArray)) ++ bytesV (resB (V.cellsOf (nthV v8 (((v10).toNat * 5) + 4))))) (⟨#[62, 62, 62, 62, 62, 62, 62, 10]⟩ : ByteArray)) && true) then
                                  f19_l0 n v8 v9 (IntKind.wrap .i64 (v10 + 1)) (((((((b1 ++ bytesV (⟨#[60, 60, 60, 60, 60, 60, 60, 10]⟩ : ByteArray)) ++ bytesV (resB (V.cellsOf (nthV v8 (((v10).toNat * 5) + 3))))) ++ bytesV (⟨#[124, 124, 124, 124, 124, 124, 124, 10]⟩ : ByteArray)) ++ bytesV (resB (V.cellsOf (nthV v8 (((v10).toNat * 5) + 2))))) ++ bytesV (⟨#[61, 61, 61, 61, 61, 61, 61, 10]⟩ : ByteArray)) ++ bytesV (resB (V.cellsOf (nthV v8 (((v10).toNat * 5) + 4))))) ++ bytesV (⟨#[62, 62, 62, 62, 62, 62, 62, 10]⟩ : ByteArray)) R κ
                                else none
                              else none
                            else none
                          else none
                        else none
                      else none
                    else none
              else none
        else none
      else none
    else
      κ (.ex 0) (mkS [(2, .bad), (3, .bad), (4, .ptrB (.loc 4) 0)] [(.loc 4, some ⟨true, [.slf, .own 5 false b1]⟩)])
def f19_l0_ls : List (Nat × Pat) := [(4, .is (.ptrB (.loc 4) 0)), (8, .sl 5), (9, .i .i64), (10, .i .i64)]
def f19_l0_rs : List RPat := [⟨.loc 4, true, [.is (.slf), .own 5 false]⟩]
theorem f19_l0_ok (n : Nat) : ∀ (v8 : List V) (v9 : Int) (v10 : Int) (b1 : List V) (R : Type) (κ : Ex → St → Option R) (r : R), f19_l0 n v8 v9 v10 b1 R κ = some r → ∃ ee ss, κ ee ss = some r ∧ RunP C prim 19 [0, 1, 0, 1, 1] (mkS [(4, .ptrB (.loc 4) 0), (8, .sl 5 v8), (9, .sc (.int .i64 v9)), (10, .sc (.int .i64 v10))] [(.loc 4, some ⟨true, [.slf, .own 5 false b1]⟩)]) ee ss := by
  induction n with
  | zero => intro v8 v9 v10 b1 R κ r h; cases h
  | succ n ih =>
    intro v8 v9 v10 b1 R κ r h
    refine loop_round (K := K_f19_l0) (T := T_f19_l0) K_f19_l0_ok T_f19_l0_ok (p := [0, 1, 0, 1, 1]) (by kernel_rfl) (fun st => bif ckS f19_l0_ls f19_l0_rs st then f19_l0 n ((st.env 8).cellsOf) ((st.env 9).intOf) ((st.env 10).intOf) ((nthV (rowOf (st.regs (.loc 4))) 1).cellsOf) R κ else none) (fun st0 h0 => ?_) ?_
    · obtain ⟨hs, h0⟩ := cond_some h0
      rw [canon (ls := f19_l0_ls) (rs := f19_l0_rs) (by kernel_rfl) st0 hs]
      exact ih _ _ _ _ R κ r h0
    · refine Eq.trans ?_ h
      kernel_rfl

def f19_s0 (v8 : List V) (v9 : Int) (v10 : Int) (b1 : List V) (R : Type) (κ : Ex → St → Option R) : Option R :=
  bif (errPs v8 != 0) then
    κ .rt (mkS [(2, .sc (.string ⟨#[]⟩)), (3, .sc (.int .i64 (errPs v8))), (4, .ptrB (.loc 4) 0)] [(.loc 4, some ⟨true, [.slf, .own 5 false (b1 ++ bytesV (markOk v8))]⟩)])
  else
    κ (.ex 0) (mkS [(2, .bad), (3, .bad), (4, .ptrB (.loc 4) 0)] [(.loc 4, some ⟨true, [.slf, .own 5 false (b1 ++ bytesV (markOk v8))]⟩)])
def fin19 (e : Int) (row : List V) (R : Type) (κ : Ex → St → Option R) : Option R :=
  bif (e != 0) then
    κ .rt (mkS [(2, .sc (.string ⟨#[]⟩)), (3, .sc (.int .i64 e)), (4, .ptrB (.loc 4) 0)] [(.loc 4, some ⟨true, [.slf, .own 5 false row]⟩)])
  else
    κ (.ex 0) (mkS [(2, .bad), (3, .bad), (4, .ptrB (.loc 4) 0)] [(.loc 4, some ⟨true, [.slf, .own 5 false row]⟩)])
theorem f19_l0_c (v8 : List V) (q : Nat) (hq : v8.length = 5 * q) (hl : v8.length ≤ 1000000000) : ∀ (m k : Nat) (b1 : List V), k + m = q → okPs (v8.drop (k * 5)) = true → b1.length + (markB (v8.drop (k * 5))).size ≤ 100000000000 → ∀ n, m < n → ∀ (R : Type) (κ : Ex → St → Option R), f19_l0 n v8 ((lenE 5 v8.length : Nat) : Int) (k : Int) b1 R κ = fin19 (errPs (v8.drop (k * 5))) (b1 ++ bytesV (markOk (v8.drop (k * 5)))) R κ := by
  have hlen : lenE 5 v8.length = q := by show v8.length / 5 = q; omega
  rw [hlen]
  intro m
  induction m with
  | zero =>
    intro k b1 hk ho hs n hn R κ
    obtain ⟨n, rfl⟩ : ∃ j, n = j + 1 := ⟨n - 1, by omega⟩
    rw [List.drop_of_length_le (by omega), f19_l0, dec_false (by omega)]
    unfold markOk errPs
    rw [bytesV_nil, List.append_nil]
    rfl
  | succ m ih =>
    intro k b1 hk ho hs n hn R κ
    obtain ⟨n, rfl⟩ : ∃ j, n = j + 1 := ⟨n - 1, by omega⟩
    obtain ⟨c, li, ba, a, b, r, hd, hok, hr⟩ := okPs_cons ho (by intro e; have := congrArg List.length e; rw [List.length_drop] at this; simp only [List.length_nil] at this; omega)
    obtain ⟨n0, n1, n2, n3, n4, hd2, hk5⟩ := drop5 hd
    obtain ⟨p0, ⟨p1, p2, p3⟩, ⟨p4, p5, p6⟩, ⟨p7, p8, p9⟩, ⟨p10, p11, p12⟩⟩ := okP_spec hok
    rw [hd] at hs ⊢
    unfold markB at hs
    rw [ba_size_append] at hs
    have c1 : (⟨#[60, 60, 60, 60, 60, 60, 60, 10]⟩ : ByteArray).size = 8 := rfl
    have c2 : (⟨#[124, 124, 124, 124, 124, 124, 124, 10]⟩ : ByteArray).size = 8 := rfl
    have c3 : (⟨#[61, 61, 61, 61, 61, 61, 61, 10]⟩ : ByteArray).size = 8 := rfl
    have c4 : (⟨#[62, 62, 62, 62, 62, 62, 62, 10]⟩ : ByteArray).size = 8 := rfl
    have BAD : ∀ x : Int, errP c li ba a b = x → (x != 0) = true → κ .rt (mkS [(2, .sc (.string ⟨#[]⟩)), (3, .sc (.int .i64 x)), (4, .ptrB (.loc 4) 0)] [(.loc 4, some ⟨true, [.slf, .own 5 false b1]⟩)]) = fin19 (errPs (c :: li :: ba :: a :: b :: r)) (b1 ++ bytesV (markOk (c :: li :: ba :: a :: b :: r))) R κ := by
      intro x hx h0
      unfold errPs markOk fin19
      rw [hx, h0, cond_true, cond_true, h0, cond_true, bytesV_nil, List.append_nil]
    have GOOD : errP c li ba a b = 0 → ∀ b2 : List V, b2 = b1 ++ bytesV (pieceB c li ba a b) → f19_l0 n v8 ((q : Nat) : Int) ((k + 1 : Nat) : Int) b2 R κ = fin19 (errPs (c :: li :: ba :: a :: b :: r)) (b1 ++ bytesV (markOk (c :: li :: ba :: a :: b :: r))) R κ := by
      intro hx b2 hb2
      subst hb2
      have h0 : ((0 : Int) != 0) = false := rfl
      unfold errPs markOk
      rw [hx, h0, cond_false, cond_false, bytesV_app, ← List.append_assoc]
      have := ih (k + 1) (b1 ++ bytesV (pieceB c li ba a b)) (by omega) (by rw [hd2]; exact hr) (by rw [hd2, List.length_append, bytesV_len]; omega) n (by omega) R κ
      rw [hd2] at this
      exact this
    have hall : ([.sl 1 li.cellsOf, .sl 1 ba.cellsOf, .sl 1 a.cellsOf, .sl 1 b.cellsOf] : List V).all okStrs = true := by
      simp only [List.all_cons, List.all_nil, okStrs_sl p2 p3, okStrs_sl p5 p6, okStrs_sl p8 p9, okStrs_sl p11 p12, Bool.and_true]
    have hl4 : decide (([.sl 1 li.cellsOf, .sl 1 ba.cellsOf, .sl 1 a.cellsOf, .sl 1 b.cellsOf] : List V).length ≤ 1000000000) = true := dec_true (by simp)
    have hE : badP c li ba a b = false → errP c li ba a b = listsE [.sl 1 li.cellsOf, .sl 1 ba.cellsOf, .sl 1 a.cellsOf, .sl 1 b.cellsOf] := by
      intro h; unfold errP; rw [h, cond_false]
    have hB : badP c li ba a b = true → errP c li ba a b = 5 := by
      intro h; unfold errP; rw [h, cond_true]
    rw [f19_l0, hlen, dec_true (show (k : Int) < ((q : Nat) : Int) by omega), dec_true (show (0 : Int) ≤ (k : Int) by omega), n0, n1, n2, n3, n4, p0, p1, p4, p7, p10, wrap_succ (by omega), hall, hl4]
    generalize listsE [.sl 1 li.cellsOf, .sl 1 ba.cellsOf, .sl 1 a.cellsOf, .sl 1 b.cellsOf] = E at hE
    cases hc : c.boolOf with
    | true =>
      simp only [Bool.and_true, cond_true, Bool.not_true, cond_false]
      by_cases hb : 0 < li.cellsOf.length
      · rw [dec_true (show ((li.cellsOf.length : Nat) : Int) > 0 by omega), cond_true]
        exact BAD 5 (hB (by unfold badP; rw [hc, cond_true, dec_true hb])) rfl
      · rw [dec_false (show ¬ ((li.cellsOf.length : Nat) : Int) > 0 by omega), cond_false]
        have hE' := hE (by unfold badP; rw [hc, cond_true, dec_false hb])
        cases h0 : E != 0 with
        | true => rw [cond_true]; exact BAD E hE' h0
        | false =>
          have h00 : E = 0 := by simpa using h0
          have hli : li.cellsOf = [] := List.eq_nil_of_length_eq_zero (by omega)
          rw [cond_false, p5, p8, p11]
          unfold pieceB at hs
          rw [hc, cond_true, hli] at hs
          have r0 : (resB []).size = 0 := rfl
          simp only [ba_size_append, c1, c2, c3, c4, r0] at hs
          simp only [roomB, List.length_append, bytesV_len, c1, c2, c3, c4]
          simp (disch := omega) only [dec_true, Bool.and_true, cond_true]
          refine GOOD (by rw [hE', h00]) _ ?_
          unfold pieceB
          rw [hc, cond_true, hli]
          simp only [resB, ba_nil, bytesV_app, List.append_assoc]
    | false =>
      simp only [Bool.and_true, cond_true, Bool.not_false, cond_false]
      rw [wrap_id (n := ((ba.cellsOf.length : Nat) : Int) + ((a.cellsOf.length : Nat) : Int)) (by omega) (by omega), wrap_id (n := ((ba.cellsOf.length : Nat) : Int) + ((a.cellsOf.length : Nat) : Int) + ((b.cellsOf.length : Nat) : Int)) (by omega) (by omega)]
      by_cases hb : 0 < ba.cellsOf.length + a.cellsOf.length + b.cellsOf.length
      · rw [dec_true (show ((ba.cellsOf.length : Nat) : Int) + ((a.cellsOf.length : Nat) : Int) + ((b.cellsOf.length : Nat) : Int) > 0 by omega), cond_true]
        exact BAD 5 (hB (by unfold badP; rw [hc, cond_false, dec_true hb])) rfl
      · rw [dec_false (show ¬ ((ba.cellsOf.length : Nat) : Int) + ((a.cellsOf.length : Nat) : Int) + ((b.cellsOf.length : Nat) : Int) > 0 by omega), cond_false]
        have hE' := hE (by unfold badP; rw [hc, cond_false, dec_false hb])
        cases h0 : E != 0 with
        | true => rw [cond_true]; exact BAD E hE' h0
        | false =>
          have h00 : E = 0 := by simpa using h0
          rw [cond_false, p2]
          unfold pieceB at hs
          rw [hc, cond_false] at hs
          simp (disch := omega) only [dec_true, Bool.and_true, cond_true]
          refine GOOD (by rw [hE', h00]) _ ?_
          unfold pieceB
          rw [hc, cond_false]
theorem f19_s0_eq (v8 : List V) (v9 : Int) (v10 : Int) (b1 : List V) (hp : ((v9 == ((lenE 5 v8.length : Nat) : Int)) && (v10 == 0) && okPs v8 && decide (v8.length ≤ 1000000000) && decide (b1.length + (markB v8).size ≤ 100000000000)) = true) : ∃ n, ∀ (R : Type) (κ : Ex → St → Option R), f19_l0 n v8 v9 v10 b1 R κ = f19_s0 v8 v9 v10 b1 R κ := by
  simp only [Bool.and_eq_true, decide_eq_true_eq, beq_iff_eq] at hp
  obtain ⟨⟨⟨⟨rfl, rfl⟩, h3⟩, h4⟩, h5⟩ := hp
  obtain ⟨q, hq⟩ := okPs_len v8 h3
  refine ⟨q + 1, fun R κ => ?_⟩
  have := f19_l0_c v8 q hq h4 q 0 b1 (by omega) (by simpa using h3) (by simpa using h5) (q + 1) (by omega) R κ
  rw [Nat.zero_mul, List.drop_zero] at this
  exact this
def t_f19_l0 (st : St) (R : Type) (κ : Ex → St → Option R) : Option R := bif ckS f19_l0_ls f19_l0_rs st then (bif ((((st.env 9).intOf) == ((lenE 5 ((st.env 8).cellsOf).length : Nat) : Int)) && (((st.env 10).intOf) == 0) && okPs ((st.env 8).cellsOf) && decide (((st.env 8).cellsOf).length ≤ 1000000000) && decide (((nthV (rowOf (st.regs (.loc 4))) 1).cellsOf).length + (markB ((st.env 8).cellsOf)).size ≤ 100000000000)) then f19_s0 ((st.env 8).cellsOf) ((st.env 9).intOf) ((st.env 10).intOf) ((nthV (rowOf (st.regs (.loc 4))) 1).cellsOf) R κ else none) else none
theorem t_f19_l0_ok : ∀ st0 R κ r, t_f19_l0 (forget C 19 [0, 1, 0, 1, 1] st0) R κ = some r → ∃ ee ss, κ ee ss = some r ∧ RunP C prim 19 [0, 1, 0, 1, 1] (forget C 19 [0, 1, 0, 1, 1] st0) ee ss := by
  intro st0 R κ r h
  obtain ⟨hs, h⟩ := cond_some h
  obtain ⟨hp, h⟩ := cond_some h
  rw [canon (ls := f19_l0_ls) (rs := f19_l0_rs) (by kernel_rfl) st0 hs]
  obtain ⟨n, hn⟩ := f19_s0_eq _ _ _ _ hp
  rw [← hn] at h
  exact f19_l0_ok n _ _ _ _ R κ r h

def K_f19 : CallK := kCons 59 k59 <| kNil
theorem K_f19_ok : KOK C prim K_f19 := KOK.cons k59_ok <| KOK.nil
def T_f19 : Tab := tCons [0, 1, 0, 1, 1] t_f19_l0 <| tNil
theorem T_f19_ok : TOK C prim 19 T_f19 := TOK.cons t_f19_l0_ok <| TOK.nil
def f19 (l : List V) : Option (V × List Rg) :=
  bif (((((lenE 5 l.length) : Nat) : Int) == ((lenE 5 l.length : Nat) : Int)) && ((0 : Int) == 0) && okPs l && decide (l.length ≤ 1000000000) && decide (([] : List V).length + (markB l).size ≤ 100000000000)) then
    bif (errPs l != 0) then
      some (.tp [.sc (.string ⟨#[]⟩), .sc (.int .i64 (errPs l))], [])
    else
      bif ((((([] : List V) ++ bytesV (markOk l))).all okU8) && true) then
        some (.tp [.sc (.string (strOfCells (([] : List V) ++ bytesV (markOk l)))), .sc (.int .i64 0)], [])
      else none
  else none
theorem f19_run (l : List V) (x : V × List Rg) (h : f19 l = some x) : CallR C prim 19 [.sl 5 l] [] x := by
  refine call_fn (K := K_f19) (T := T_f19) K_f19_ok T_f19_ok (by kernel_rfl) ?_
  refine Eq.trans ?_ h
  kernel_rfl

theorem f19_eq (l : List V) (hp : (okPs l && decide (l.length ≤ 1000000000) && decide ((markB l).size ≤ 100000000000)) = true) : f19 l = some (.tp [.sc (.string (markS l)), .sc (.int .i64 (errPs l))], []) := by
  simp only [Bool.and_eq_true, decide_eq_true_eq] at hp
  unfold f19 markS
  rw [hp.1.1, dec_true hp.1.2, List.length_nil, Nat.zero_add, dec_true hp.2, List.nil_append, okU8_bytesV, strOf_bytesV]
  simp only [beq_self_eq_true, Bool.and_true, cond_true]
  cases h0 : errPs l != 0 with
  | true => rfl
  | false =>
    have h00 : errPs l = 0 := by simpa using h0
    rw [cond_false, cond_false, markOk_eq l hp.1.1 h00, h00]
def k19 : PrimT := fun vs gs => match vs, gs with
  | [.sl 5 l], [] => ((okPs l && decide (l.length ≤ 1000000000) && decide ((markB l).size ≤ 100000000000)), .tp [.sc (.string (markS l)), .sc (.int .i64 (errPs l))], [])
  | _, _ => (false, .bad, [])
theorem k19_ok : ∀ vs gs x, k19 vs gs = (true, x) → CallR C prim 19 vs gs x := by
  intro vs gs x h
  unfold k19 at h
  split at h
  · simp only [Prod.mk.injEq] at h
    obtain ⟨hp, rfl⟩ := h
    exact f19_run _ _ (f19_eq _ hp)
  · cases h

def K_f5_l0 : CallK := kCons 12 k12 <| kCons 20 k20 <| kCons 21 k21 <| kNil
theorem K_f5_l0_ok : KOK C prim K_f5_l0 := KOK.cons k12_ok <| KOK.cons k20_ok <| KOK.cons k21_ok <| KOK.nil
def T_f5_l0 : Tab := tNil
theorem T_f5_l0_ok : TOK C prim 5 T_f5_l0 := TOK.nil
def f5_l0 : Nat → List V → ByteArray → Int → Int → List V → Int → Int → (R : Type) → (Ex → St → Option R) → Option R
  | 0, _, _, _, _, _, _, _, _, _ => none
  | n + 1, l, s, e, want, v14, v15, v16, R, κ =>
    bif (decide (v16 < v15)) then
      bif (((decide ((0 : Int) ≤ v16)) && (decide (v16 < (((lenE 5 v14.length) : Nat) : Int)))) && true) then
        bif (((V.isBool (nthV v14 (((v16).toNat * 5) + 0))) && ((V.isSl 1 (nthV v14 (((v16).toNat * 5) + 1))) && ((V.isSl 1 (nthV v14 (((v16).toNat * 5) + 2))) && ((V.isSl 1 (nthV v14 (((v16).toNat * 5) + 3))) && ((V.isSl 1 (nthV v14 (((v16).toNat * 5) + 4))) && true))))) && true) then
          bif (V.boolOf (nthV v14 (((v16).toNat * 5) + 0))) then
            bif (decide (((((V.cellsOf (nthV v14 (((v16).toNat * 5) + 1)))).length : Nat) : Int) > 0)) then
              bif ((([.sl 1 (V.cellsOf (nthV v14 (((v16).toNat * 5) + 1))), .sl 1 (V.cellsOf (nthV v14 (((v16).toNat * 5) + 2))), .sl 1 (V.cellsOf (nthV v14 (((v16).toNat * 5) + 3))), .sl 1 (V.cellsOf (nthV v14 (((v16).toNat * 5) + 4)))] : List V).all okStrs && decide (([.sl 1 (V.cellsOf (nthV v14 (((v16).toNat * 5) + 1))), .sl 1 (V.cellsOf (nthV v14 (((v16).toNat * 5) + 2))), .sl 1 (V.cellsOf (nthV v14 (((v16).toNat * 5) + 3))), .sl 1 (V.cellsOf (nthV v14 (((v16).toNat * 5) + 4)))] : List V).length ≤ 1000000000)) && true) then
                bif ((([.sc (.int .i64 want), .sc (.int .i64 (bif true then (5 : Int) else 0)), .sc (.int .i64 (listsE ([.sl 1 (V.cellsOf (nthV v14 (((v16).toNat * 5) + 1))), .sl 1 (V.cellsOf (nthV v14 (((v16).toNat * 5) + 2))), .sl 1 (V.cellsOf (nthV v14 (((v16).toNat * 5) + 3))), .sl 1 (V.cellsOf (nthV v14 (((v16).toNat * 5) + 4)))] : List V)))] : List V).all (V.isInt .i64) && decide (([.sc (.int .i64 want), .sc (.int .i64 (bif true then (5 : Int) else 0)), .sc (.int .i64 (listsE ([.sl 1 (V.cellsOf (nthV v14 (((v16).toNat * 5) + 1))), .sl 1 (V.cellsOf (nthV v14 (((v16).toNat * 5) + 2))), .sl 1 (V.cellsOf (nthV v14 (((v16).toNat * 5) + 3))), .sl 1 (V.cellsOf (nthV v14 (((v16).toNat * 5) + 4)))] : List V)))] : List V).length ≤ 1000000000)) && true) then
                  f5_l0 n l s e (firstBy V.intOf ([.sc (.int .i64 want), .sc (.int .i64 (bif true then (5 : Int) else 0)), .sc (.int .i64 (listsE ([.sl 1 (V.cellsOf (nthV v14 (((v16).toNat * 5) + 1))), .sl 1 (V.cellsOf (nthV v14 (((v16).toNat * 5) + 2))), .sl 1 (V.cellsOf (nthV v14 (((v16).toNat * 5) + 3))), .sl 1 (V.cellsOf (nthV v14 (((v16).toNat * 5) + 4)))] : List V)))] : List V)) v14 v15 (IntKind.wrap .i64 (v16 + 1)) R κ
                else none
              else none
            else
              bif (!(V.boolOf (nthV v14 (((v16).toNat * 5) + 0)))) then
                bif ((([.sl 1 (V.cellsOf (nthV v14 (((v16).toNat * 5) + 1))), .sl 1 (V.cellsOf (nthV v14 (((v16).toNat * 5) + 2))), .sl 1 (V.cellsOf (nthV v14 (((v16).toNat * 5) + 3))), .sl 1 (V.cellsOf (nthV v14 (((v16).toNat * 5) + 4)))] : List V).all okStrs && decide (([.sl 1 (V.cellsOf (nthV v14 (((v16).toNat * 5) + 1))), .sl 1 (V.cellsOf (nthV v14 (((v16).toNat * 5) + 2))), .sl 1 (V.cellsOf (nthV v14 (((v16).toNat * 5) + 3))), .sl 1 (V.cellsOf (nthV v14 (((v16).toNat * 5) + 4)))] : List V).length ≤ 1000000000)) && true) then
                  bif ((([.sc (.int .i64 want), .sc (.int .i64 (bif (decide ((IntKind.wrap .i64 ((IntKind.wrap .i64 (((((V.cellsOf (nthV v14 (((v16).toNat * 5) + 2)))).length : Nat) : Int) + ((((V.cellsOf (nthV v14 (((v16).toNat * 5) + 3)))).length : Nat) : Int))) + ((((V.cellsOf (nthV v14 (((v16).toNat * 5) + 4)))).length : Nat) : Int))) > 0)) then (5 : Int) else 0)), .sc (.int .i64 (listsE ([.sl 1 (V.cellsOf (nthV v14 (((v16).toNat * 5) + 1))), .sl 1 (V.cellsOf (nthV v14 (((v16).toNat * 5) + 2))), .sl 1 (V.cellsOf (nthV v14 (((v16).toNat * 5) + 3))), .sl 1 (V.cellsOf (nthV v14 (((v16).toNat * 5) + 4)))] : List V)))] : List V).all (V.isInt .i64) && decide (([.sc (.int .i64 want), .sc (.int .i64 (bif (decide ((IntKind.wrap .i64 ((IntKind.wrap .i64 (((((V.cellsOf (nthV v14 (((v16).toNat * 5) + 2)))).length : Nat) : Int) + ((((V.cellsOf (nthV v14 (((v16).toNat * 5) + 3)))).length : Nat) : Int))) + ((((V.cellsOf (nthV v14 (((v16).toNat * 5) + 4)))).length : Nat) : Int))) > 0)) then (5 : Int) else 0)), .sc (.int .i64 (listsE ([.sl 1 (V.cellsOf (nthV v14 (((v16).toNat * 5) + 1))), .sl 1 (V.cellsOf (nthV v14 (((v16).toNat * 5) + 2))), .sl 1 (V.cellsOf (nthV v14 (((v16).toNat * 5) + 3))), .sl 1 (V.cellsOf (nthV v14 (((v16).toNat * 5) + 4)))] : List V)))] : List V).length ≤ 1000000000)) && true) then
                    f5_l0 n l s e (firstBy V.intOf ([.sc (.int .i64 want), .sc (.int .i64 (bif (decide ((IntKind.wrap .i64 ((IntKind.wrap .i64 (((((V.cellsOf (nthV v14 (((v16).toNat * 5) + 2)))).length : Nat) : Int) + ((((V.cellsOf (nthV v14 (((v16).toNat * 5) + 3)))).length : Nat) : Int))) + ((((V.cellsOf (nthV v14 (((v16).toNat * 5) + 4)))).length : Nat) : Int))) > 0)) then (5 : Int) else 0)), .sc (.int .i64 (listsE ([.sl 1 (V.cellsOf (nthV v14 (((v16).toNat * 5) + 1))), .sl 1 (V.cellsOf (nthV v14 (((v16).toNat * 5) + 2))), .sl 1 (V.cellsOf (nthV v14 (((v16).toNat * 5) + 3))), .sl 1 (V.cellsOf (nthV v14 (((v16).toNat * 5) + 4)))] : List V)))] : List V)) v14 v15 (IntKind.wrap .i64 (v16 + 1)) R κ
                  else none
                else none
              else
                bif ((([.sl 1 (V.cellsOf (nthV v14 (((v16).toNat * 5) + 1))), .sl 1 (V.cellsOf (nthV v14 (((v16).toNat * 5) + 2))), .sl 1 (V.cellsOf (nthV v14 (((v16).toNat * 5) + 3))), .sl 1 (V.cellsOf (nthV v14 (((v16).toNat * 5) + 4)))] : List V).all okStrs && decide (([.sl 1 (V.cellsOf (nthV v14 (((v16).toNat * 5) + 1))), .sl 1 (V.cellsOf (nthV v14 (((v16).toNat * 5) + 2))), .sl 1 (V.cellsOf (nthV v14 (((v16).toNat * 5) + 3))), .sl 1 (V.cellsOf (nthV v14 (((v16).toNat * 5) + 4)))] : List V).length ≤ 1000000000)) && true) then
                  bif ((([.sc (.int .i64 want), .sc (.int .i64 (bif false then (5 : Int) else 0)), .sc (.int .i64 (listsE ([.sl 1 (V.cellsOf (nthV v14 (((v16).toNat * 5) + 1))), .sl 1 (V.cellsOf (nthV v14 (((v16).toNat * 5) + 2))), .sl 1 (V.cellsOf (nthV v14 (((v16).toNat * 5) + 3))), .sl 1 (V.cellsOf (nthV v14 (((v16).toNat * 5) + 4)))] : List V)))] : List V).all (V.isInt .i64) && decide (([.sc (.int .i64 want), .sc (.int .i64 (bif false then (5 : Int) else 0)), .sc (.int .i64 (listsE ([.sl 1 (V.cellsOf (nthV v14 (((v16).toNat * 5) + 1))), .sl 1 (V.cellsOf (nthV v14 (((v16).toNat * 5) + 2))), .sl 1 (V.cellsOf (nthV v14 (((v16).toNat * 5) + 3))), .sl 1 (V.cellsOf (nthV v14 (((v16).toNat * 5) + 4)))] : List V)))] : List V).length ≤ 1000000000)) && true) then
                    f5_l0 n l s e (firstBy V.intOf ([.sc (.int .i64 want), .sc (.int .i64 (bif false then (5 : Int) else 0)), .sc (.int .i64 (listsE ([.sl 1 (V.cellsOf (nthV v14 (((v16).toNat * 5) + 1))), .sl 1 (V.cellsOf (nthV v14 (((v16).toNat * 5) + 2))), .sl 1 (V.cellsOf (nthV v14 (((v16).toNat * 5) + 3))), .sl 1 (V.cellsOf (nthV v14 (((v16).toNat * 5) + 4)))] : List V)))] : List V)) v14 v15 (IntKind.wrap .i64 (v16 + 1)) R κ
                  else none
                else none
          else
            bif (!(V.boolOf (nthV v14 (((v16).toNat * 5) + 0)))) then
              bif ((([.sl 1 (V.cellsOf (nthV v14 (((v16).toNat * 5) + 1))), .sl 1 (V.cellsOf (nthV v14 (((v16).toNat * 5) + 2))), .sl 1 (V.cellsOf (nthV v14 (((v16).toNat * 5) + 3))), .sl 1 (V.cellsOf (nthV v14 (((v16).toNat * 5) + 4)))] : List V).all okStrs && decide (([.sl 1 (V.cellsOf (nthV v14 (((v16).toNat * 5) + 1))), .sl 1 (V.cellsOf (nthV v14 (((v16).toNat * 5) + 2))), .sl 1 (V.cellsOf (nthV v14 (((v16).toNat * 5) + 3))), .sl 1 (V.cellsOf (nthV v14 (((v16).toNat * 5) + 4)))] : List V).length ≤ 1000000000)) && true) then
                bif ((([.sc (.int .i64 want), .sc (.int .i64 (bif (decide ((IntKind.wrap .i64 ((IntKind.wrap .i64 (((((V.cellsOf (nthV v14 (((v16).toNat * 5) + 2)))).length : Nat) : Int) + ((((V.cellsOf (nthV v14 (((v16).toNat * 5) + 3)))).length : Nat) : Int))) + ((((V.cellsOf (nthV v14 (((v16).toNat * 5) + 4)))).length : Nat) : Int))) > 0)) then (5 : Int) else 0)), .sc (.int .i64 (listsE ([.sl 1 (V.cellsOf (nthV v14 (((v16).toNat * 5) + 1))), .sl 1 (V.cellsOf (nthV v14 (((v16).toNat * 5) + 2))), .sl 1 (V.cellsOf (nthV v14 (((v16).toNat * 5) + 3))), .sl 1 (V.cellsOf (nthV v14 (((v16).toNat * 5) + 4)))] : List V)))] : List V).all (V.isInt .i64) && decide (([.sc (.int .i64 want), .sc (.int .i64 (bif (decide ((IntKind.wrap .i64 ((IntKind.wrap .i64 (((((V.cellsOf (nthV v14 (((v16).toNat * 5) + 2)))).length : Nat) : Int) + ((((V.cellsOf (nthV v14 (((v16).toNat * 5) + 3)))).length : Nat) : Int))) + ((((V.cellsOf (nthV v14 (((v16).toNat * 5) + 4)))).length : Nat) : Int))) > 0)) then (5 : Int) else 0)), .sc (.int .i64 (listsE ([.sl 1 (V.cellsOf (nthV v14 (((v16).toNat * 5) + 1))), .sl 1 (V.cellsOf (nthV v14 (((v16).toNat * 5) + 2))), .sl 1 (V.cellsOf (nthV v14 (((v16).toNat * 5) + 3))), .sl 1 (V.cellsOf (nthV v14 (((v16).toNat * 5) + 4)))] : List V)))] : List V).length ≤ 1000000000)) && true) then
                  f5_l0 n l s e (firstBy V.intOf ([.sc (.int .i64 want), .sc (.int .i64 (bif (decide ((IntKind.wrap .i64 ((IntKind.wrap .i64 (((((V.cellsOf (nthV v14 (((v16).toNat * 5) + 2)))).length : Nat) : Int) + ((((V.cellsOf (nthV v14 (((v16).toNat * 5) + 3)))).length : Nat) : Int))) + ((((V.cellsOf (nthV v14 (((v16).toNat * 5) + 4)))).length : Nat) : Int))) > 0)) then (5 : Int) else 0)), .sc (.int .i64 (listsE ([.sl 1 (V.cellsOf (nthV v14 (((v16).toNat * 5) + 1))), .sl 1 (V.cellsOf (nthV v14 (((v16).toNat * 5) + 2))), .sl 1 (V.cellsOf (nthV v14 (((v16).toNat * 5) + 3))), .sl 1 (V.cellsOf (nthV v14 (((v16).toNat * 5) + 4)))] : List V)))] : List V)) v14 v15 (IntKind.wrap .i64 (v16 + 1)) R κ
                else none
              else none
            else
              bif ((([.sl 1 (V.cellsOf (nthV v14 (((v16).toNat * 5) + 1))), .sl 1 (V.cellsOf (nthV v14 (((v16).toNat * 5) + 2))), .sl 1 (V.cellsOf (nthV v14 (((v16).toNat * 5) + 3))), .sl 1 (V.cellsOf (nthV v14 (((v16).toNat * 5) + 4)))] : List V).all okStrs && decide (([.sl 1 (V.cellsOf (nthV v14 (((v16).toNat * 5) + 1))), .sl 1 (V.cellsOf (nthV v14 (((v16).toNat * 5) + 2))), .sl 1 (V.cellsOf (nthV v14 (((v16).toNat * 5) + 3))), .sl 1 (V.cellsOf (nthV v14 (((v16).toNat * 5) + 4)))] : List V).length ≤ 1000000000)) && true) then
                bif ((([.sc (.int .i64 want), .sc (.int .i64 (bif false then (5 : Int) else 0)), .sc (.int .i64 (listsE ([.sl 1 (V.cellsOf (nthV v14 (((v16).toNat * 5) + 1))), .sl 1 (V.cellsOf (nthV v14 (((v16).toNat * 5) + 2))), .sl 1 (V.cellsOf (nthV v14 (((v16).toNat * 5) + 3))), .sl 1 (V.cellsOf (nthV v14 (((v16).toNat * 5) + 4)))] : List V)))] : List V).all (V.isInt .i64) && decide (([.sc (.int .i64 want), .sc (.int .i64 (bif false then (5 : Int) else 0)), .sc (.int .i64 (listsE ([.sl 1 (V.cellsOf (nthV v14 (((v16).toNat * 5) + 1))), .sl 1 (V.cellsOf (nthV v14 (((v16).toNat * 5) + 2))), .sl 1 (V.cellsOf (nthV v14 (((v16).toNat * 5) + 3))), .sl 1 (V.cellsOf (nthV v14 (((v16).toNat * 5) + 4)))] : List V)))] : List V).length ≤ 1000000000)) && true) then
                  f5_l0 n l s e (firstBy V.intOf ([.sc (.int .i64 want), .sc (.int .i64 (bif false then (5 : Int) else 0)), .sc (.int .i64 (listsE ([.sl 1 (V.cellsOf (nthV v14 (((v16).toNat * 5) + 1))), .sl 1 (V.cellsOf (nthV v14 (((v16).toNat * 5) + 2))), .sl 1 (V.cellsOf (nthV v14 (((v16).toNat * 5) + 3))), .sl 1 (V.cellsOf (nthV v14 (((v16).toNat * 5) + 4)))] : List V)))] : List V)) v14 v15 (IntKind.wrap .i64 (v16 + 1)) R κ
                else none
              else none
        else none
      else none
    else
      κ (.ex 0) (mkS [(0, .sl 5 l), (2, .bad), (3, .sc (.string s)), (4, .sc (.int .i64 e)), (5, .sc (.int .i64 want))] [])
def f5_l0_ls : List (Nat × Pat) := [(0, .sl 5), (3, .s), (4, .i .i64), (5, .i .i64), (14, .sl 5), (15, .i .i64), (16, .i .i64)]
def f5_l0_rs : List RPat := []
theorem f5_l0_ok (n : Nat) : ∀ (l : List V) (s : ByteArray) (e : Int) (want : Int) (v14 : List V) (v15 : Int) (v16 : Int) (R : Type) (κ : Ex → St → Option R) (r : R), f5_l0 n l s e want v14 v15 v16 R κ = some r → ∃ ee ss, κ ee ss = some r ∧ RunP C prim 5 [0, 1, 0, 1, 1, 1] (mkS [(0, .sl 5 l), (3, .sc (.string s)), (4, .sc (.int .i64 e)), (5, .sc (.int .i64 want)), (14, .sl 5 v14), (15, .sc (.int .i64 v15)), (16, .sc (.int .i64 v16))] []) ee ss := by
  induction n with
  | zero => intro l s e want v14 v15 v16 R κ r h; cases h
  | succ n ih =>
    intro l s e want v14 v15 v16 R κ r h
    refine loop_round (K := K_f5_l0) (T := T_f5_l0) K_f5_l0_ok T_f5_l0_ok (p := [0, 1, 0, 1, 1, 1]) (by kernel_rfl) (fun st => bif ckS f5_l0_ls f5_l0_rs st then f5_l0 n ((st.env 0).cellsOf) ((st.env 3).strOf) ((st.env 4).intOf) ((st.env 5).intOf) ((st.env 14).cellsOf) ((st.env 15).intOf) ((st.env 16).intOf) R κ else none) (fun st0 h0 => ?_) ?_
    · obtain ⟨hs, h0⟩ := cond_some h0
      rw [canon (ls := f5_l0_ls) (rs := f5_l0_rs) (by kernel_rfl) st0 hs]
      exact ih _ _ _ _ _ _ _ R κ r h0
    · refine Eq.trans ?_ h
      kernel_rfl

def f5_s0 (l : List V) (s : ByteArray) (e : Int) (want : Int) (v14 : List V) (v15 : Int) (v16 : Int) (R : Type) (κ : Ex → St → Option R) : Option R :=
  κ (.ex 0) (mkS [(0, .sl 5 l), (2, .bad), (3, .sc (.string s)), (4, .sc (.int .i64 e)), (5, .sc (.int .i64 (bif want != 0 then want else errPs v14)))] [])
theorem wantW (want x e' : Int) : (bif (bif want != 0 then want else x) != 0 then (bif want != 0 then want else x) else e') = bif want != 0 then want else bif x != 0 then x else e' := by
  cases h : want != 0 with
  | true => rw [cond_true, h, cond_true, cond_true]
  | false => rw [cond_false, cond_false]
theorem f5_l0_c (l : List V) (s : ByteArray) (e : Int) (v14 : List V) (q : Nat) (hq : v14.length = 5 * q) (hl : v14.length ≤ 1000000000) : ∀ (m k : Nat) (want : Int), k + m = q → okPs (v14.drop (k * 5)) = true → ∀ n, m < n → ∀ (R : Type) (κ : Ex → St → Option R), f5_l0 n l s e want v14 ((lenE 5 v14.length : Nat) : Int) (k : Int) R κ = κ (.ex 0) (mkS [(0, .sl 5 l), (2, .bad), (3, .sc (.string s)), (4, .sc (.int .i64 e)), (5, .sc (.int .i64 (bif want != 0 then want else errPs (v14.drop (k * 5)))))] []) := by
  have hlen : lenE 5 v14.length = q := by show v14.length / 5 = q; omega
  rw [hlen]
  intro m
  induction m with
  | zero =>
    intro k want hk ho n hn R κ
    obtain ⟨n, rfl⟩ : ∃ j, n = j + 1 := ⟨n - 1, by omega⟩
    rw [List.drop_of_length_le (by omega), f5_l0, dec_false (by omega)]
    unfold errPs
    have : (bif want != 0 then want else 0) = want := by
      cases h : want != 0 with
      | true => rfl
      | false =>
        have : want = 0 := by simpa using h
        rw [this]; rfl
    rw [this]
    rfl
  | succ m ih =>
    intro k want hk ho n hn R κ
    obtain ⟨n, rfl⟩ : ∃ j, n = j + 1 := ⟨n - 1, by omega⟩
    obtain ⟨c, li, ba, a, b, r, hd, hok, hr⟩ := okPs_cons ho (by intro e; have := congrArg List.length e; rw [List.length_drop] at this; simp only [List.length_nil] at this; omega)
    obtain ⟨n0, n1, n2, n3, n4, hd2, hk5⟩ := drop5 hd
    obtain ⟨p0, ⟨p1, p2, p3⟩, ⟨p4, p5, p6⟩, ⟨p7, p8, p9⟩, ⟨p10, p11, p12⟩⟩ := okP_spec hok
    rw [hd]
    have IH : ∀ w : Int, w = (bif want != 0 then want else errP c li ba a b) → f5_l0 n l s e w v14 ((q : Nat) : Int) ((k + 1 : Nat) : Int) R κ = κ (.ex 0) (mkS [(0, .sl 5 l), (2, .bad), (3, .sc (.string s)), (4, .sc (.int .i64 e)), (5, .sc (.int .i64 (bif want != 0 then want else errPs (c :: li :: ba :: a :: b :: r))))] []) := by
      intro w hw
      subst hw
      have := ih (k + 1) (bif want != 0 then want else errP c li ba a b) (by omega) (by rw [hd2]; exact hr) n (by omega) R κ
      rw [hd2, wantW] at this
      exact this
    have hall : ([.sl 1 li.cellsOf, .sl 1 ba.cellsOf, .sl 1 a.cellsOf, .sl 1 b.cellsOf] : List V).all okStrs = true := by
      simp only [List.all_cons, List.all_nil, okStrs_sl p2 p3, okStrs_sl p5 p6, okStrs_sl p8 p9, okStrs_sl p11 p12, Bool.and_true]
    have hl4 : decide (([.sl 1 li.cellsOf, .sl 1 ba.cellsOf, .sl 1 a.cellsOf, .sl 1 b.cellsOf] : List V).length ≤ 1000000000) = true := dec_true (by simp)
    have hI : ∀ x y z : Int, ([.sc (.int .i64 x), .sc (.int .i64 y), .sc (.int .i64 z)] : List V).all (V.isInt .i64) = true := fun _ _ _ => rfl
    have hL : ∀ x y z : Int, decide (([.sc (.int .i64 x), .sc (.int .i64 y), .sc (.int .i64 z)] : List V).length ≤ 1000000000) = true := fun _ _ _ => dec_true (by simp)
    have hE : errP c li ba a b = bif badP c li ba a b then 5 else listsE [.sl 1 li.cellsOf, .sl 1 ba.cellsOf, .sl 1 a.cellsOf, .sl 1 b.cellsOf] := rfl
    rw [f5_l0, hlen, dec_true (show (k : Int) < ((q : Nat) : Int) by omega), dec_true (show (0 : Int) ≤ (k : Int) by omega), n0, n1, n2, n3, n4, p0, p1, p4, p7, p10, wrap_succ (by omega), hall, hl4]
    generalize listsE [.sl 1 li.cellsOf, .sl 1 ba.cellsOf, .sl 1 a.cellsOf, .sl 1 b.cellsOf] = E at hE
    have hF : ∀ (y : Int) (bb : Bool), badP c li ba a b = bb → y = (bif bb then (5 : Int) else 0) → firstBy V.intOf [.sc (.int .i64 want), .sc (.int .i64 y), .sc (.int .i64 E)] = bif want != 0 then want else errP c li ba a b := by
      intro y bb hbb hy
      rw [hE, hbb, hy]
      simp only [firstBy, V.intOf]
      cases bb with
      | true => rfl
      | false =>
        have h0 : ((bif false then (5 : Int) else 0) != 0) = false := rfl
        rw [h0, cond_false, cond_false]
        congr 1
        cases h1 : E != 0 with
        | true => rfl
        | false =>
          have : E = 0 := by simpa using h1
          rw [this]; rfl
    simp only [hI, hL, Bool.and_true, cond_true]
    cases hc : c.boolOf with
    | true =>
      simp only [cond_true, Bool.not_true, cond_false]
      by_cases hb : 0 < li.cellsOf.length
      · rw [dec_true (show ((li.cellsOf.length : Nat) : Int) > 0 by omega), cond_true]
        exact IH _ (hF _ true (by unfold badP; rw [hc, cond_true, dec_true hb]) rfl)
      · rw [dec_false (show ¬ ((li.cellsOf.length : Nat) : Int) > 0 by omega), cond_false]
        exact IH _ (hF _ false (by unfold badP; rw [hc, cond_true, dec_false hb]) rfl)
    | false =>
      simp only [cond_true, Bool.not_false, cond_false]
      rw [wrap_id (n := ((ba.cellsOf.length : Nat) : Int) + ((a.cellsOf.length : Nat) : Int)) (by omega) (by omega), wrap_id (n := ((ba.cellsOf.length : Nat) : Int) + ((a.cellsOf.length : Nat) : Int) + ((b.cellsOf.length : Nat) : Int)) (by omega) (by omega)]
      by_cases hb : 0 < ba.cellsOf.length + a.cellsOf.length + b.cellsOf.length
      · rw [dec_true (show ((ba.cellsOf.length : Nat) : Int) + ((a.cellsOf.length : Nat) : Int) + ((b.cellsOf.length : Nat) : Int) > 0 by omega)]
        exact IH _ (hF _ true (by unfold badP; rw [hc, cond_false, dec_true hb]) rfl)
      · rw [dec_false (show ¬ ((ba.cellsOf.length : Nat) : Int) + ((a.cellsOf.length : Nat) : Int) + ((b.cellsOf.length : Nat) : Int) > 0 by omega)]
        exact IH _ (hF _ false (by unfold badP; rw [hc, cond_false, dec_false hb]) rfl)
theorem f5_s0_eq (l : List V) (s : ByteArray) (e : Int) (want : Int) (v14 : List V) (v15 : Int) (v16 : Int) (hp : ((v15 == ((lenE 5 v14.length : Nat) : Int)) && (v16 == 0) && okPs v14 && decide (v14.length ≤ 1000000000)) = true) : ∃ n, ∀ (R : Type) (κ : Ex → St → Option R), f5_l0 n l s e want v14 v15 v16 R κ = f5_s0 l s e want v14 v15 v16 R κ := by
  simp only [Bool.and_eq_true, decide_eq_true_eq, beq_iff_eq] at hp
  obtain ⟨⟨⟨rfl, rfl⟩, h3⟩, h4⟩ := hp
  obtain ⟨q, hq⟩ := okPs_len v14 h3
  refine ⟨q + 1, fun R κ => ?_⟩
  have := f5_l0_c l s e v14 q hq h4 q 0 want (by omega) (by simpa using h3) (q + 1) (by omega) R κ
  rw [Nat.zero_mul, List.drop_zero] at this
  exact this
def t_f5_l0 (st : St) (R : Type) (κ : Ex → St → Option R) : Option R := bif ckS f5_l0_ls f5_l0_rs st then (bif ((((st.env 15).intOf) == ((lenE 5 ((st.env 14).cellsOf).length : Nat) : Int)) && (((st.env 16).intOf) == 0) && okPs ((st.env 14).cellsOf) && decide (((st.env 14).cellsOf).length ≤ 1000000000)) then f5_s0 ((st.env 0).cellsOf) ((st.env 3).strOf) ((st.env 4).intOf) ((st.env 5).intOf) ((st.env 14).cellsOf) ((st.env 15).intOf) ((st.env 16).intOf) R κ else none) else none
theorem t_f5_l0_ok : ∀ st0 R κ r, t_f5_l0 (forget C 5 [0, 1, 0, 1, 1, 1] st0) R κ = some r → ∃ ee ss, κ ee ss = some r ∧ RunP C prim 5 [0, 1, 0, 1, 1, 1] (forget C 5 [0, 1, 0, 1, 1, 1] st0) ee ss := by
  intro st0 R κ r h
  obtain ⟨hs, h⟩ := cond_some h
  obtain ⟨hp, h⟩ := cond_some h
  rw [canon (ls := f5_l0_ls) (rs := f5_l0_rs) (by kernel_rfl) st0 hs]
  obtain ⟨n, hn⟩ := f5_s0_eq _ _ _ _ _ _ _ hp
  rw [← hn] at h
  exact f5_l0_ok n _ _ _ _ _ _ _ R κ r h

def K_f5 : CallK := kCons 13 k13 <| kCons 19 k19 <| kCons 22 k22 <| kCons 23 k23 <| kNil
theorem K_f5_ok : KOK C prim K_f5 := KOK.cons k13_ok <| KOK.cons k19_ok <| KOK.cons k22_ok <| KOK.cons k23_ok <| KOK.nil
def T_f5 : Tab := tCons [0, 1, 0, 1, 1, 1] t_f5_l0 <| tNil
theorem T_f5_ok : TOK C prim 5 T_f5 := TOK.cons t_f5_l0_ok <| TOK.nil
def f5 (l : List V) : Option (V × List Rg) :=
  bif ((okPs l && decide (l.length ≤ 1000000000) && decide ((markB l).size ≤ 100000000000)) && true) then
    bif (((((lenE 5 l.length) : Nat) : Int) == ((lenE 5 l.length : Nat) : Int)) && ((0 : Int) == 0) && okPs l && decide (l.length ≤ 1000000000)) then
      bif ((okPs l && decide (l.length ≤ 1000000000) && decide ((markB l).size ≤ 100000000000)) && true) then
        some (.sc (.bool (outc (markS l) (errPs l) (markB l) (bif (0 : Int) != 0 then (0 : Int) else errPs l))), [])
      else none
    else none
  else none
theorem f5_run (l : List V) (x : V × List Rg) (h : f5 l = some x) : CallR C prim 5 [.sl 5 l] [] x := by
  refine call_fn (K := K_f5) (T := T_f5) K_f5_ok T_f5_ok (by kernel_rfl) ?_
  refine Eq.trans ?_ h
  kernel_rfl

theorem f5_eq (l : List V) (hp : (okPs l && decide (l.length ≤ 1000000000) && decide ((markB l).size ≤ 100000000000)) = true) : f5 l = some (.sc (.bool true), []) := by
  simp only [Bool.and_eq_true, decide_eq_true_eq] at hp
  have h0 : ((0 : Int) != 0) = false := rfl
  unfold f5 outc markS
  rw [hp.1.1, dec_true hp.1.2, dec_true hp.2, h0, cond_false]
  simp only [beq_self_eq_true, Bool.and_true, cond_true]
  cases h1 : errPs l != 0 with
  | true => rw [cond_true, cond_true, strEq_self]
  | false =>
    have h2 : errPs l = 0 := by simpa using h1
    rw [cond_false, cond_false, strEq_self, h2]
    rfl
def k5 : PrimT := fun vs gs => match vs, gs with
  | [.sl 5 l], [] => ((okPs l && decide (l.length ≤ 1000000000) && decide ((markB l).size ≤ 100000000000)), .sc (.bool true), [])
  | _, _ => (false, .bad, [])
theorem k5_ok : ∀ vs gs x, k5 vs gs = (true, x) → CallR C prim 5 vs gs x := by
  intro vs gs x h
  unfold k5 at h
  split at h
  · simp only [Prod.mk.injEq] at h
    obtain ⟨hp, rfl⟩ := h
    exact f5_run _ _ (f5_eq _ hp)
  · cases h
end Go.Ab
