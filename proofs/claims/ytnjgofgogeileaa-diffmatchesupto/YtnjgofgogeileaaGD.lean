/- Functions of the difference of two lists, as the machine runs them. -/
import Derived.Test.YtnjgofgogeileaaDD
import Derived.Test.YtnjgofgogeileaaZE
namespace Go.Ab
open Go Go.Proofs Go.RowKit
set_option linter.unusedSimpArgs false
set_option linter.unusedVariables false

def K_f123 : CallK := kCons 90 k90 <| kNil
theorem K_f123_ok : KOK C prim K_f123 := KOK.cons k90_ok <| KOK.nil
def T_f123 : Tab := tNil
theorem T_f123_ok : TOK C prim 123 T_f123 := TOK.nil
def f123 (s : ByteArray) : Option (V × List Rg) :=
  bif (strEq (⟨#[10]⟩ : ByteArray) s) then
    some (.sc (.int .i64 0), [])
  else
    some (.sc (.int .i64 (idxB s 10)), [])
theorem f123_run (s : ByteArray) (z9 : V × List Rg) (h : f123 s = some z9) : CallR C prim 123 [.sc (.string s), .sc (.string ⟨#[10]⟩)] [] z9 := by
  refine call_fn (K := K_f123) (T := T_f123) K_f123_ok T_f123_ok (by kernel_rfl) ?_
  refine Eq.trans ?_ h
  kernel_rfl

theorem f123_eq (s : ByteArray) : f123 s = some (.sc (.int .i64 (idxB s 10)), []) := by
  unfold f123
  cases h : strEq (⟨#[10]⟩ : ByteArray) s with
  | false => rfl
  | true =>
    obtain rfl := (strEq_iff _ _).1 h
    rfl
def k123 : PrimT := fun vs gs => match vs, gs with
  | [.sc (.string s), .sc (.string q1)], [] => ((strEq q1 (⟨#[10]⟩ : ByteArray) && true), .sc (.int .i64 (idxB s 10)), [])
  | _, _ => (false, .bad, [])
theorem k123_ok : ∀ vs gs x, k123 vs gs = (true, x) → CallR C prim 123 vs gs x := by
  intro vs gs x h
  unfold k123 at h
  split at h
  · simp only [Prod.mk.injEq] at h
    obtain ⟨hp, rfl⟩ := h
    rw [Bool.and_eq_true] at hp
    obtain ⟨hq, hp⟩ := hp
    obtain rfl := (strEq_iff _ _).1 hq
    exact f123_run _ _ (f123_eq _)
  · cases h

def K_f108 : CallK := kCons 123 k123 <| kNil
theorem K_f108_ok : KOK C prim K_f108 := KOK.cons k123_ok <| KOK.nil
def T_f108 : Tab := tNil
theorem T_f108_ok : TOK C prim 108 T_f108 := TOK.nil
def f108 (s : ByteArray) : Option (V × List Rg) :=
  some (.sc (.int .i64 (idxB s 10)), [])
theorem f108_run (s : ByteArray) (z9 : V × List Rg) (h : f108 s = some z9) : CallR C prim 108 [.sc (.string s), .sc (.string ⟨#[10]⟩)] [] z9 := by
  refine call_fn (K := K_f108) (T := T_f108) K_f108_ok T_f108_ok (by kernel_rfl) ?_
  refine Eq.trans ?_ h
  kernel_rfl

theorem f108_eq (s : ByteArray) : f108 s = some (.sc (.int .i64 (idxB s 10)), []) := by rfl
def k108 : PrimT := fun vs gs => match vs, gs with
  | [.sc (.string s), .sc (.string q1)], [] => ((strEq q1 (⟨#[10]⟩ : ByteArray) && true), .sc (.int .i64 (idxB s 10)), [])
  | _, _ => (false, .bad, [])
theorem k108_ok : ∀ vs gs x, k108 vs gs = (true, x) → CallR C prim 108 vs gs x := by
  intro vs gs x h
  unfold k108 at h
  split at h
  · simp only [Prod.mk.injEq] at h
    obtain ⟨hp, rfl⟩ := h
    rw [Bool.and_eq_true] at hp
    obtain ⟨hq, hp⟩ := hp
    obtain rfl := (strEq_iff _ _).1 hq
    exact f108_run _ _ (f108_eq _)
  · cases h

def K_f85 : CallK := kCons 108 k108 <| kNil
theorem K_f85_ok : KOK C prim K_f85 := KOK.cons k108_ok <| KOK.nil
def T_f85 : Tab := tNil
theorem T_f85_ok : TOK C prim 85 T_f85 := TOK.nil
def f85 (s : ByteArray) : Option (V × List Rg) :=
  some (.sc (.bool (decide ((idxB s 10) ≥ 0))), [])
theorem f85_run (s : ByteArray) (z9 : V × List Rg) (h : f85 s = some z9) : CallR C prim 85 [.sc (.string s), .sc (.string ⟨#[10]⟩)] [] z9 := by
  refine call_fn (K := K_f85) (T := T_f85) K_f85_ok T_f85_ok (by kernel_rfl) ?_
  refine Eq.trans ?_ h
  kernel_rfl

theorem f85_eq (s : ByteArray) : f85 s = some (.sc (.bool (hasB s 10)), []) := by
  unfold f85
  rw [hasNl]
def k85 : PrimT := fun vs gs => match vs, gs with
  | [.sc (.string s), .sc (.string q1)], [] => ((strEq q1 (⟨#[10]⟩ : ByteArray) && true), .sc (.bool (hasB s 10)), [])
  | _, _ => (false, .bad, [])
theorem k85_ok : ∀ vs gs x, k85 vs gs = (true, x) → CallR C prim 85 vs gs x := by
  intro vs gs x h
  unfold k85 at h
  split at h
  · simp only [Prod.mk.injEq] at h
    obtain ⟨hp, rfl⟩ := h
    rw [Bool.and_eq_true] at hp
    obtain ⟨hq, hp⟩ := hp
    obtain rfl := (strEq_iff _ _).1 hq
    exact f85_run _ _ (f85_eq _)
  · cases h

def K_f88_l0 : CallK := kNil
theorem K_f88_l0_ok : KOK C prim K_f88_l0 := KOK.nil
def T_f88_l0 : Tab := tNil
theorem T_f88_l0_ok : TOK C prim 88 T_f88_l0 := TOK.nil
def f88_l0 : Nat → ByteArray → Int → Int → Int → (R : Type) → (Ex → St → Option R) → Option R
  | 0, _, _, _, _, _, _ => none
  | n + 1, s, c, v7, v8, R, κ =>
    bif (decide (v8 < v7)) then
      bif (((decide ((0 : Int) ≤ v8)) && (decide (v8 < ((s.size : Nat) : Int)))) && true) then
        bif (((s.data.getD (v8).toNat 0).toNat : Int) == c) then
          κ .rt (mkS [(4, .sc (.bool true))] [])
        else
          f88_l0 n s c v7 (IntKind.wrap .i64 (v8 + 1)) R κ
      else none
    else
      κ (.ex 0) (mkS [(4, .bad)] [])
def f88_l0_ls : List (Nat × Pat) := [(0, .s), (1, .i .u8), (7, .i .i64), (8, .i .i64)]
def f88_l0_rs : List RPat := []
theorem f88_l0_ok (n : Nat) : ∀ (s : ByteArray) (c : Int) (v7 : Int) (v8 : Int) (R : Type) (κ : Ex → St → Option R) (r : R), f88_l0 n s c v7 v8 R κ = some r → ∃ ee ss, κ ee ss = some r ∧ RunP C prim 88 [0, 1, 0, 1] (mkS [(0, .sc (.string s)), (1, .sc (.int .u8 c)), (7, .sc (.int .i64 v7)), (8, .sc (.int .i64 v8))] []) ee ss := by
  induction n with
  | zero => intro s c v7 v8 R κ r h; cases h
  | succ n ih =>
    intro s c v7 v8 R κ r h
    refine loop_round (K := K_f88_l0) (T := T_f88_l0) K_f88_l0_ok T_f88_l0_ok (p := [0, 1, 0, 1]) (by kernel_rfl) (fun st => bif ckS f88_l0_ls f88_l0_rs st then f88_l0 n ((st.env 0).strOf) ((st.env 1).intOf) ((st.env 7).intOf) ((st.env 8).intOf) R κ else none) (fun st0 h0 => ?_) ?_
    · obtain ⟨hs, h0⟩ := cond_some h0
      rw [canon (ls := f88_l0_ls) (rs := f88_l0_rs) (by kernel_rfl) st0 hs]
      exact ih _ _ _ _ R κ r h0
    · refine Eq.trans ?_ h
      kernel_rfl

def f88_s0 (s : ByteArray) (c : Int) (v7 : Int) (v8 : Int) (R : Type) (κ : Ex → St → Option R) : Option R :=
  bif (hasB s c) then
    κ .rt (mkS [(4, .sc (.bool true))] [])
  else
    κ (.ex 0) (mkS [(4, .bad)] [])
theorem f88_l0_c (s : ByteArray) (c : Int) (h : s.size ≤ 1000000000) : ∀ (m k : Nat), k + m = s.size → ∀ n, m < n → ∀ (R : Type) (κ : Ex → St → Option R), f88_l0 n s c ((s.size : Nat) : Int) (k : Int) R κ = bif ((s.data.toList.drop k).any fun b => ((b.toNat : Int) == c)) then κ .rt (mkS [(4, .sc (.bool true))] []) else κ (.ex 0) (mkS [(4, .bad)] []) := by
  intro m
  induction m with
  | zero =>
    intro k hk n hn R κ
    obtain ⟨n, rfl⟩ : ∃ j, n = j + 1 := ⟨n - 1, by omega⟩
    rw [List.drop_of_length_le (by rw [ba_size]; omega), f88_l0, dec_false (by omega)]
    rfl
  | succ m ih =>
    intro k hk n hn R κ
    obtain ⟨n, rfl⟩ : ∃ j, n = j + 1 := ⟨n - 1, by omega⟩
    have hlt : k < s.data.toList.length := by rw [ba_size]; omega
    rw [f88_l0, dec_true (show (k : Int) < ((s.size : Nat) : Int) by omega), dec_true (show (0 : Int) ≤ (k : Int) by omega), Int.toNat_natCast, getD_list' s k hlt, wrap_succ (by omega), ih (k + 1) (by omega) n (by omega) R κ, List.drop_eq_getElem_cons hlt, List.any_cons]
    cases ((s.data.toList[k].toNat : Int) == c) <;> rfl
theorem f88_s0_eq (s : ByteArray) (c : Int) (v7 : Int) (v8 : Int) (hp : ((v7 == ((s.size : Nat) : Int)) && (v8 == 0) && decide (0 ≤ c) && decide (s.size ≤ 1000000000)) = true) : ∃ n, ∀ (R : Type) (κ : Ex → St → Option R), f88_l0 n s c v7 v8 R κ = f88_s0 s c v7 v8 R κ := by
  simp only [Bool.and_eq_true, decide_eq_true_eq, beq_iff_eq] at hp
  obtain ⟨⟨⟨rfl, rfl⟩, h3⟩, h4⟩ := hp
  exact ⟨s.size + 1, fun R κ => f88_l0_c s c h4 s.size 0 (by omega) _ (by omega) R κ⟩
def t_f88_l0 (st : St) (R : Type) (κ : Ex → St → Option R) : Option R := bif ckS f88_l0_ls f88_l0_rs st then (bif ((((st.env 7).intOf) == ((((st.env 0).strOf).size : Nat) : Int)) && (((st.env 8).intOf) == 0) && decide (0 ≤ ((st.env 1).intOf)) && decide (((st.env 0).strOf).size ≤ 1000000000)) then f88_s0 ((st.env 0).strOf) ((st.env 1).intOf) ((st.env 7).intOf) ((st.env 8).intOf) R κ else none) else none
theorem t_f88_l0_ok : ∀ st0 R κ r, t_f88_l0 (forget C 88 [0, 1, 0, 1] st0) R κ = some r → ∃ ee ss, κ ee ss = some r ∧ RunP C prim 88 [0, 1, 0, 1] (forget C 88 [0, 1, 0, 1] st0) ee ss := by
  intro st0 R κ r h
  obtain ⟨hs, h⟩ := cond_some h
  obtain ⟨hp, h⟩ := cond_some h
  rw [canon (ls := f88_l0_ls) (rs := f88_l0_rs) (by kernel_rfl) st0 hs]
  obtain ⟨n, hn⟩ := f88_s0_eq _ _ _ _ hp
  rw [← hn] at h
  exact f88_l0_ok n _ _ _ _ R κ r h

def K_f88 : CallK := kNil
theorem K_f88_ok : KOK C prim K_f88 := KOK.nil
def T_f88 : Tab := tCons [0, 1, 0, 1] t_f88_l0 <| tNil
theorem T_f88_ok : TOK C prim 88 T_f88 := TOK.cons t_f88_l0_ok <| TOK.nil
def f88 (s : ByteArray) (c : Int) : Option (V × List Rg) :=
  bif ((((s.size : Nat) : Int) == ((s.size : Nat) : Int)) && ((0 : Int) == 0) && decide (0 ≤ c) && decide (s.size ≤ 1000000000)) then
    bif (hasB s c) then
      some (.sc (.bool true), [])
    else
      some (.sc (.bool false), [])
  else none
theorem f88_run (s : ByteArray) (c : Int) (z9 : V × List Rg) (h : f88 s c = some z9) : CallR C prim 88 [.sc (.string s), .sc (.int .u8 c)] [] z9 := by
  refine call_fn (K := K_f88) (T := T_f88) K_f88_ok T_f88_ok (by kernel_rfl) ?_
  refine Eq.trans ?_ h
  kernel_rfl

theorem f88_eq (s : ByteArray) (c : Int) (hp : (decide (0 ≤ c) && decide (s.size ≤ 1000000000)) = true) : f88 s c = some (.sc (.bool (hasB s c)), []) := by
  simp only [Bool.and_eq_true, decide_eq_true_eq] at hp
  unfold f88
  rw [dec_true hp.1, dec_true hp.2]
  simp only [beq_self_eq_true, Bool.and_true, cond_true]
  cases hasB s c <;> rfl
def k88 : PrimT := fun vs gs => match vs, gs with
  | [.sc (.string s), .sc (.int .u8 c)], [] => ((decide (0 ≤ c) && decide (s.size ≤ 1000000000)), .sc (.bool (hasB s c)), [])
  | _, _ => (false, .bad, [])
theorem k88_ok : ∀ vs gs x, k88 vs gs = (true, x) → CallR C prim 88 vs gs x := by
  intro vs gs x h
  unfold k88 at h
  split at h
  · simp only [Prod.mk.injEq] at h
    obtain ⟨hp, rfl⟩ := h
    exact f88_run _ _ _ (f88_eq _ _ hp)
  · cases h

def K_f45_l1 : CallK := kCons 85 k85 <| kNil
theorem K_f45_l1_ok : KOK C prim K_f45_l1 := KOK.cons k85_ok <| KOK.nil
def T_f45_l1 : Tab := tNil
theorem T_f45_l1_ok : TOK C prim 45 T_f45_l1 := TOK.nil
def f45_l1 : Nat → List V → Int → Int → List V → Int → Int → (R : Type) → (Ex → St → Option R) → Option R
  | 0, _, _, _, _, _, _, _, _ => none
  | n + 1, v7, v8, v9, v16, v17, v18, R, κ =>
    bif (decide (v18 < v17)) then
      bif (((decide ((0 : Int) ≤ v18)) && (decide (v18 < ((v16.length : Nat) : Int)))) && true) then
        bif (((V.isStr (nthV v16 (((v18).toNat * 1) + 0))) && true) && true) then
          bif (decide ((((V.strOf (nthV v16 (((v18).toNat * 1) + 0))).size : Nat) : Int) > 4096)) then
            κ .rt (mkS [(2, .sc (.int .i64 2)), (7, .sl 1 v7), (8, .sc (.int .i64 v8)), (9, .sc (.int .i64 v9))] [])
          else
            bif (hasB (V.strOf (nthV v16 (((v18).toNat * 1) + 0))) 10) then
              κ .rt (mkS [(2, .sc (.int .i64 5)), (7, .sl 1 v7), (8, .sc (.int .i64 v8)), (9, .sc (.int .i64 v9))] [])
            else
              f45_l1 n v7 v8 v9 v16 v17 (IntKind.wrap .i64 (v18 + 1)) R κ
        else none
      else none
    else
      κ (.ex 2) (mkS [(2, .bad), (7, .sl 1 v7), (8, .sc (.int .i64 v8)), (9, .sc (.int .i64 v9))] [])
def f45_l1_ls : List (Nat × Pat) := [(7, .sl 1), (8, .i .i64), (9, .i .i64), (16, .sl 1), (17, .i .i64), (18, .i .i64)]
def f45_l1_rs : List RPat := []
theorem f45_l1_ok (n : Nat) : ∀ (v7 : List V) (v8 : Int) (v9 : Int) (v16 : List V) (v17 : Int) (v18 : Int) (R : Type) (κ : Ex → St → Option R) (r : R), f45_l1 n v7 v8 v9 v16 v17 v18 R κ = some r → ∃ ee ss, κ ee ss = some r ∧ RunP C prim 45 [0, 1, 1, 1, 0, 0, 1, 1, 0, 0, 1, 0, 1] (mkS [(7, .sl 1 v7), (8, .sc (.int .i64 v8)), (9, .sc (.int .i64 v9)), (16, .sl 1 v16), (17, .sc (.int .i64 v17)), (18, .sc (.int .i64 v18))] []) ee ss := by
  induction n with
  | zero => intro v7 v8 v9 v16 v17 v18 R κ r h; cases h
  | succ n ih =>
    intro v7 v8 v9 v16 v17 v18 R κ r h
    refine loop_round (K := K_f45_l1) (T := T_f45_l1) K_f45_l1_ok T_f45_l1_ok (p := [0, 1, 1, 1, 0, 0, 1, 1, 0, 0, 1, 0, 1]) (by kernel_rfl) (fun st => bif ckS f45_l1_ls f45_l1_rs st then f45_l1 n ((st.env 7).cellsOf) ((st.env 8).intOf) ((st.env 9).intOf) ((st.env 16).cellsOf) ((st.env 17).intOf) ((st.env 18).intOf) R κ else none) (fun st0 h0 => ?_) ?_
    · obtain ⟨hs, h0⟩ := cond_some h0
      rw [canon (ls := f45_l1_ls) (rs := f45_l1_rs) (by kernel_rfl) st0 hs]
      exact ih _ _ _ _ _ _ R κ r h0
    · refine Eq.trans ?_ h
      kernel_rfl

def f45_s1 (v7 : List V) (v8 : Int) (v9 : Int) (v16 : List V) (v17 : Int) (v18 : Int) (R : Type) (κ : Ex → St → Option R) : Option R :=
  bif (listE v16 != 0) then
    κ .rt (mkS [(2, .sc (.int .i64 (listE v16))), (7, .sl 1 v7), (8, .sc (.int .i64 v8)), (9, .sc (.int .i64 v9))] [])
  else
    κ (.ex 2) (mkS [(2, .bad), (7, .sl 1 v7), (8, .sc (.int .i64 v8)), (9, .sc (.int .i64 v9))] [])
theorem f45_s1_eq (v7 : List V) (v8 : Int) (v9 : Int) (v16 : List V) (v17 : Int) (v18 : Int) (hp : ((v17 == ((v16.length : Nat) : Int)) && (v18 == 0) && v16.all V.isStr && decide (v16.length ≤ 1000000000)) = true) : ∃ n, ∀ (R : Type) (κ : Ex → St → Option R), f45_l1 n v7 v8 v9 v16 v17 v18 R κ = f45_s1 v7 v8 v9 v16 v17 v18 R κ := by
  simp only [Bool.and_eq_true, decide_eq_true_eq, beq_iff_eq] at hp
  obtain ⟨⟨⟨rfl, rfl⟩, h3⟩, h4⟩ := hp
  refine ⟨v16.length + 1, fun R κ => ?_⟩
  refine errLoop (fun n k => f45_l1 n v7 v8 v9 v16 ((v16.length : Nat) : Int) k R κ) v16 lineE (fun e => κ .rt (mkS [(2, .sc (.int .i64 e)), (7, .sl 1 v7), (8, .sc (.int .i64 v8)), (9, .sc (.int .i64 v9))] [])) (κ (.ex 2) (mkS [(2, .bad), (7, .sl 1 v7), (8, .sc (.int .i64 v8)), (9, .sc (.int .i64 v9))] [])) ?_ ?_ v16.length 0 (by omega) _ (by omega)
  · intro n k hk
    have hs : V.isStr v16[k] = true := List.all_eq_true.1 h3 _ (List.getElem_mem hk)
    show f45_l1 (n + 1) v7 v8 v9 v16 ((v16.length : Nat) : Int) (k : Int) R κ = _
    rw [f45_l1, dec_true (show (k : Int) < ((v16.length : Nat) : Int) by omega), dec_true (show (0 : Int) ≤ (k : Int) by omega), nth_at hk, hs, wrap_succ (by omega)]
    simp only [Bool.and_true, cond_true]
    unfold lineE
    cases decide (((v16[k].strOf.size : Nat) : Int) > 4096)
    · cases hasB v16[k].strOf 10 <;> rfl
    · rfl
  · intro n
    show f45_l1 (n + 1) v7 v8 v9 v16 ((v16.length : Nat) : Int) ((v16.length : Nat) : Int) R κ = _
    rw [f45_l1, dec_false (by omega)]
    rfl
def t_f45_l1 (st : St) (R : Type) (κ : Ex → St → Option R) : Option R := bif ckS f45_l1_ls f45_l1_rs st then (bif ((((st.env 17).intOf) == ((((st.env 16).cellsOf).length : Nat) : Int)) && (((st.env 18).intOf) == 0) && ((st.env 16).cellsOf).all V.isStr && decide (((st.env 16).cellsOf).length ≤ 1000000000)) then f45_s1 ((st.env 7).cellsOf) ((st.env 8).intOf) ((st.env 9).intOf) ((st.env 16).cellsOf) ((st.env 17).intOf) ((st.env 18).intOf) R κ else none) else none
theorem t_f45_l1_ok : ∀ st0 R κ r, t_f45_l1 (forget C 45 [0, 1, 1, 1, 0, 0, 1, 1, 0, 0, 1, 0, 1] st0) R κ = some r → ∃ ee ss, κ ee ss = some r ∧ RunP C prim 45 [0, 1, 1, 1, 0, 0, 1, 1, 0, 0, 1, 0, 1] (forget C 45 [0, 1, 1, 1, 0, 0, 1, 1, 0, 0, 1, 0, 1] st0) ee ss := by
  intro st0 R κ r h
  obtain ⟨hs, h⟩ := cond_some h
  obtain ⟨hp, h⟩ := cond_some h
  rw [canon (ls := f45_l1_ls) (rs := f45_l1_rs) (by kernel_rfl) st0 hs]
  obtain ⟨n, hn⟩ := f45_s1_eq _ _ _ _ _ _ hp
  rw [← hn] at h
  exact f45_l1_ok n _ _ _ _ _ _ R κ r h

def K_f45_l0 : CallK := kNil
theorem K_f45_l0_ok : KOK C prim K_f45_l0 := KOK.nil
def T_f45_l0 : Tab := tCons [0, 1, 1, 1, 0, 0, 1, 1, 0, 0, 1, 0, 1] t_f45_l1 <| tNil
theorem T_f45_l0_ok : TOK C prim 45 T_f45_l0 := TOK.cons t_f45_l1_ok <| TOK.nil
def f45_l0 : Nat → List V → Int → Int → (R : Type) → (Ex → St → Option R) → Option R
  | 0, _, _, _, _, _ => none
  | n + 1, v7, v8, v9, R, κ =>
    bif (decide (v9 < v8)) then
      bif (((decide ((0 : Int) ≤ v9)) && (decide (v9 < ((v7.length : Nat) : Int)))) && true) then
        bif (((V.isSl 1 (nthV v7 (((v9).toNat * 1) + 0))) && true) && true) then
          bif (decide (((((V.cellsOf (nthV v7 (((v9).toNat * 1) + 0)))).length : Nat) : Int) > 1000)) then
            κ .rt (mkS [(2, .sc (.int .i64 2))] [])
          else
            bif ((((((V.cellsOf (nthV v7 (((v9).toNat * 1) + 0)))).length : Nat) : Int) == (((V.cellsOf (nthV v7 (((v9).toNat * 1) + 0))).length : Nat) : Int)) && ((0 : Int) == 0) && (V.cellsOf (nthV v7 (((v9).toNat * 1) + 0))).all V.isStr && decide ((V.cellsOf (nthV v7 (((v9).toNat * 1) + 0))).length ≤ 1000000000)) then
              bif (listE (V.cellsOf (nthV v7 (((v9).toNat * 1) + 0))) != 0) then
                κ .rt (mkS [(2, .sc (.int .i64 (listE (V.cellsOf (nthV v7 (((v9).toNat * 1) + 0))))))] [])
              else
                f45_l0 n v7 v8 (IntKind.wrap .i64 (v9 + 1)) R κ
            else none
        else none
      else none
    else
      κ (.ex 0) (mkS [(2, .bad)] [])
def f45_l0_ls : List (Nat × Pat) := [(7, .sl 1), (8, .i .i64), (9, .i .i64)]
def f45_l0_rs : List RPat := []
theorem f45_l0_ok (n : Nat) : ∀ (v7 : List V) (v8 : Int) (v9 : Int) (R : Type) (κ : Ex → St → Option R) (r : R), f45_l0 n v7 v8 v9 R κ = some r → ∃ ee ss, κ ee ss = some r ∧ RunP C prim 45 [0, 1, 0, 1] (mkS [(7, .sl 1 v7), (8, .sc (.int .i64 v8)), (9, .sc (.int .i64 v9))] []) ee ss := by
  induction n with
  | zero => intro v7 v8 v9 R κ r h; cases h
  | succ n ih =>
    intro v7 v8 v9 R κ r h
    refine loop_round (K := K_f45_l0) (T := T_f45_l0) K_f45_l0_ok T_f45_l0_ok (p := [0, 1, 0, 1]) (by kernel_rfl) (fun st => bif ckS f45_l0_ls f45_l0_rs st then f45_l0 n ((st.env 7).cellsOf) ((st.env 8).intOf) ((st.env 9).intOf) R κ else none) (fun st0 h0 => ?_) ?_
    · obtain ⟨hs, h0⟩ := cond_some h0
      rw [canon (ls := f45_l0_ls) (rs := f45_l0_rs) (by kernel_rfl) st0 hs]
      exact ih _ _ _ R κ r h0
    · refine Eq.trans ?_ h
      kernel_rfl

def f45_s0 (v7 : List V) (v8 : Int) (v9 : Int) (R : Type) (κ : Ex → St → Option R) : Option R :=
  bif (listsE v7 != 0) then
    κ .rt (mkS [(2, .sc (.int .i64 (listsE v7)))] [])
  else
    κ (.ex 0) (mkS [(2, .bad)] [])
theorem f45_s0_eq (v7 : List V) (v8 : Int) (v9 : Int) (hp : ((v8 == ((v7.length : Nat) : Int)) && (v9 == 0) && v7.all okStrs && decide (v7.length ≤ 1000000000)) = true) : ∃ n, ∀ (R : Type) (κ : Ex → St → Option R), f45_l0 n v7 v8 v9 R κ = f45_s0 v7 v8 v9 R κ := by
  simp only [Bool.and_eq_true, decide_eq_true_eq, beq_iff_eq] at hp
  obtain ⟨⟨⟨rfl, rfl⟩, h3⟩, h4⟩ := hp
  refine ⟨v7.length + 1, fun R κ => ?_⟩
  refine errLoop (fun n k => f45_l0 n v7 ((v7.length : Nat) : Int) k R κ) v7 (fun x => listErr x.cellsOf) (fun e => κ .rt (mkS [(2, .sc (.int .i64 e))] [])) (κ (.ex 0) (mkS [(2, .bad)] [])) ?_ ?_ v7.length 0 (by omega) _ (by omega)
  · intro n k hk
    have hs : okStrs v7[k] = true := List.all_eq_true.1 h3 _ (List.getElem_mem hk)
    unfold okStrs at hs
    simp only [Bool.and_eq_true, decide_eq_true_eq] at hs
    show f45_l0 (n + 1) v7 ((v7.length : Nat) : Int) (k : Int) R κ = _
    rw [f45_l0, dec_true (show (k : Int) < ((v7.length : Nat) : Int) by omega), dec_true (show (0 : Int) ≤ (k : Int) by omega), nth_at hk, hs.1.1, hs.1.2, dec_true hs.2, wrap_succ (by omega)]
    simp only [Bool.and_true, cond_true, beq_self_eq_true]
    unfold listErr
    cases decide (((v7[k].cellsOf.length : Nat) : Int) > 1000) <;> rfl
  · intro n
    show f45_l0 (n + 1) v7 ((v7.length : Nat) : Int) ((v7.length : Nat) : Int) R κ = _
    rw [f45_l0, dec_false (by omega)]
    rfl
def t_f45_l0 (st : St) (R : Type) (κ : Ex → St → Option R) : Option R := bif ckS f45_l0_ls f45_l0_rs st then (bif ((((st.env 8).intOf) == ((((st.env 7).cellsOf).length : Nat) : Int)) && (((st.env 9).intOf) == 0) && ((st.env 7).cellsOf).all okStrs && decide (((st.env 7).cellsOf).length ≤ 1000000000)) then f45_s0 ((st.env 7).cellsOf) ((st.env 8).intOf) ((st.env 9).intOf) R κ else none) else none
theorem t_f45_l0_ok : ∀ st0 R κ r, t_f45_l0 (forget C 45 [0, 1, 0, 1] st0) R κ = some r → ∃ ee ss, κ ee ss = some r ∧ RunP C prim 45 [0, 1, 0, 1] (forget C 45 [0, 1, 0, 1] st0) ee ss := by
  intro st0 R κ r h
  obtain ⟨hs, h⟩ := cond_some h
  obtain ⟨hp, h⟩ := cond_some h
  rw [canon (ls := f45_l0_ls) (rs := f45_l0_rs) (by kernel_rfl) st0 hs]
  obtain ⟨n, hn⟩ := f45_s0_eq _ _ _ hp
  rw [← hn] at h
  exact f45_l0_ok n _ _ _ R κ r h

def K_f45 : CallK := kNil
theorem K_f45_ok : KOK C prim K_f45 := KOK.nil
def T_f45 : Tab := tCons [0, 1, 0, 1] t_f45_l0 <| tNil
theorem T_f45_ok : TOK C prim 45 T_f45 := TOK.cons t_f45_l0_ok <| TOK.nil
def f45 (lists : List V) : Option (V × List Rg) :=
  bif ((((lists.length : Nat) : Int) == ((lists.length : Nat) : Int)) && ((0 : Int) == 0) && lists.all okStrs && decide (lists.length ≤ 1000000000)) then
    bif (listsE lists != 0) then
      some (.sc (.int .i64 (listsE lists)), [])
    else
      some (.sc (.int .i64 0), [])
  else none
theorem f45_run (lists : List V) (z9 : V × List Rg) (h : f45 lists = some z9) : CallR C prim 45 [.sl 1 lists] [] z9 := by
  refine call_fn (K := K_f45) (T := T_f45) K_f45_ok T_f45_ok (by kernel_rfl) ?_
  refine Eq.trans ?_ h
  kernel_rfl

theorem f45_eq (lists : List V) (hp : (lists.all okStrs && decide (lists.length ≤ 1000000000)) = true) : f45 lists = some (.sc (.int .i64 (listsE lists)), []) := by
  simp only [Bool.and_eq_true, decide_eq_true_eq] at hp
  unfold f45
  rw [hp.1, dec_true hp.2]
  simp only [beq_self_eq_true, Bool.and_true, cond_true]
  exact zero_or (x := listsE lists) (fun e => some (V.sc (.int .i64 e), []))
def k45 : PrimT := fun vs gs => match vs, gs with
  | [.sl 1 lists], [] => ((lists.all okStrs && decide (lists.length ≤ 1000000000)), .sc (.int .i64 (listsE lists)), [])
  | _, _ => (false, .bad, [])
theorem k45_ok : ∀ vs gs x, k45 vs gs = (true, x) → CallR C prim 45 vs gs x := by
  intro vs gs x h
  unfold k45 at h
  split at h
  · simp only [Prod.mk.injEq] at h
    obtain ⟨hp, rfl⟩ := h
    exact f45_run _ _ (f45_eq _ hp)
  · cases h

def K_f47_l0 : CallK := kCons 88 k88 <| kNil
theorem K_f47_l0_ok : KOK C prim K_f47_l0 := KOK.cons k88_ok <| KOK.nil
def T_f47_l0 : Tab := tNil
theorem T_f47_l0_ok : TOK C prim 47 T_f47_l0 := TOK.nil
def f47_l0 : Nat → List V → Int → Int → (R : Type) → (Ex → St → Option R) → Option R
  | 0, _, _, _, _, _ => none
  | n + 1, v8, v9, v10, R, κ =>
    bif (decide (v10 < v9)) then
      bif (((decide ((0 : Int) ≤ v10)) && (decide (v10 < ((v8.length : Nat) : Int)))) && true) then
        bif (((V.isStr (nthV v8 (((v10).toNat * 1) + 0))) && true) && true) then
          bif (decide ((((V.strOf (nthV v8 (((v10).toNat * 1) + 0))).size : Nat) : Int) > 4096)) then
            κ .rt (mkS [(2, .sc (.int .i64 2))] [])
          else
            bif ((decide (0 ≤ (10 : Int)) && decide ((V.strOf (nthV v8 (((v10).toNat * 1) + 0))).size ≤ 1000000000)) && true) then
              bif (hasB (V.strOf (nthV v8 (((v10).toNat * 1) + 0))) (10 : Int)) then
                κ .rt (mkS [(2, .sc (.int .i64 5))] [])
              else
                f47_l0 n v8 v9 (IntKind.wrap .i64 (v10 + 1)) R κ
            else none
        else none
      else none
    else
      κ (.ex 0) (mkS [(2, .bad)] [])
def f47_l0_ls : List (Nat × Pat) := [(8, .sl 1), (9, .i .i64), (10, .i .i64)]
def f47_l0_rs : List RPat := []
theorem f47_l0_ok (n : Nat) : ∀ (v8 : List V) (v9 : Int) (v10 : Int) (R : Type) (κ : Ex → St → Option R) (r : R), f47_l0 n v8 v9 v10 R κ = some r → ∃ ee ss, κ ee ss = some r ∧ RunP C prim 47 [0, 1, 0, 1, 1] (mkS [(8, .sl 1 v8), (9, .sc (.int .i64 v9)), (10, .sc (.int .i64 v10))] []) ee ss := by
  induction n with
  | zero => intro v8 v9 v10 R κ r h; cases h
  | succ n ih =>
    intro v8 v9 v10 R κ r h
    refine loop_round (K := K_f47_l0) (T := T_f47_l0) K_f47_l0_ok T_f47_l0_ok (p := [0, 1, 0, 1, 1]) (by kernel_rfl) (fun st => bif ckS f47_l0_ls f47_l0_rs st then f47_l0 n ((st.env 8).cellsOf) ((st.env 9).intOf) ((st.env 10).intOf) R κ else none) (fun st0 h0 => ?_) ?_
    · obtain ⟨hs, h0⟩ := cond_some h0
      rw [canon (ls := f47_l0_ls) (rs := f47_l0_rs) (by kernel_rfl) st0 hs]
      exact ih _ _ _ R κ r h0
    · refine Eq.trans ?_ h
      kernel_rfl

def f47_s0 (v8 : List V) (v9 : Int) (v10 : Int) (R : Type) (κ : Ex → St → Option R) : Option R :=
  bif (listE v8 != 0) then
    κ .rt (mkS [(2, .sc (.int .i64 (listE v8)))] [])
  else
    κ (.ex 0) (mkS [(2, .bad)] [])
theorem f47_s0_eq (v8 : List V) (v9 : Int) (v10 : Int) (hp : ((v9 == ((v8.length : Nat) : Int)) && (v10 == 0) && v8.all V.isStr && decide (v8.length ≤ 1000000000)) = true) : ∃ n, ∀ (R : Type) (κ : Ex → St → Option R), f47_l0 n v8 v9 v10 R κ = f47_s0 v8 v9 v10 R κ := by
  simp only [Bool.and_eq_true, decide_eq_true_eq, beq_iff_eq] at hp
  obtain ⟨⟨⟨rfl, rfl⟩, h3⟩, h4⟩ := hp
  refine ⟨v8.length + 1, fun R κ => ?_⟩
  refine errLoop (fun n k => f47_l0 n v8 ((v8.length : Nat) : Int) k R κ) v8 lineE (fun e => κ .rt (mkS [(2, .sc (.int .i64 e))] [])) (κ (.ex 0) (mkS [(2, .bad)] [])) ?_ ?_ v8.length 0 (by omega) _ (by omega)
  · intro n k hk
    have hs : V.isStr v8[k] = true := List.all_eq_true.1 h3 _ (List.getElem_mem hk)
    show f47_l0 (n + 1) v8 ((v8.length : Nat) : Int) (k : Int) R κ = _
    rw [f47_l0, dec_true (show (k : Int) < ((v8.length : Nat) : Int) by omega), dec_true (show (0 : Int) ≤ (k : Int) by omega), nth_at hk, hs, wrap_succ (by omega)]
    simp only [Bool.and_true, cond_true]
    unfold lineE
    by_cases hsz : ((v8[k].strOf.size : Nat) : Int) > 4096
    · rw [dec_true hsz]; rfl
    · rw [dec_false hsz, dec_true (show v8[k].strOf.size ≤ 1000000000 by omega), dec_true (show (0 : Int) ≤ 10 by omega)]
      cases hasB v8[k].strOf 10 <;> rfl
  · intro n
    show f47_l0 (n + 1) v8 ((v8.length : Nat) : Int) ((v8.length : Nat) : Int) R κ = _
    rw [f47_l0, dec_false (by omega)]
    rfl
def t_f47_l0 (st : St) (R : Type) (κ : Ex → St → Option R) : Option R := bif ckS f47_l0_ls f47_l0_rs st then (bif ((((st.env 9).intOf) == ((((st.env 8).cellsOf).length : Nat) : Int)) && (((st.env 10).intOf) == 0) && ((st.env 8).cellsOf).all V.isStr && decide (((st.env 8).cellsOf).length ≤ 1000000000)) then f47_s0 ((st.env 8).cellsOf) ((st.env 9).intOf) ((st.env 10).intOf) R κ else none) else none
theorem t_f47_l0_ok : ∀ st0 R κ r, t_f47_l0 (forget C 47 [0, 1, 0, 1, 1] st0) R κ = some r → ∃ ee ss, κ ee ss = some r ∧ RunP C prim 47 [0, 1, 0, 1, 1] (forget C 47 [0, 1, 0, 1, 1] st0) ee ss := by
  intro st0 R κ r h
  obtain ⟨hs, h⟩ := cond_some h
  obtain ⟨hp, h⟩ := cond_some h
  rw [canon (ls := f47_l0_ls) (rs := f47_l0_rs) (by kernel_rfl) st0 hs]
  obtain ⟨n, hn⟩ := f47_s0_eq _ _ _ hp
  rw [← hn] at h
  exact f47_l0_ok n _ _ _ R κ r h

def K_f47 : CallK := kNil
theorem K_f47_ok : KOK C prim K_f47 := KOK.nil
def T_f47 : Tab := tCons [0, 1, 0, 1, 1] t_f47_l0 <| tNil
theorem T_f47_ok : TOK C prim 47 T_f47 := TOK.cons t_f47_l0_ok <| TOK.nil
def f47 (l : List V) : Option (V × List Rg) :=
  bif (decide (((l.length : Nat) : Int) > 1000)) then
    some (.sc (.int .i64 2), [])
  else
    bif ((((l.length : Nat) : Int) == ((l.length : Nat) : Int)) && ((0 : Int) == 0) && l.all V.isStr && decide (l.length ≤ 1000000000)) then
      bif (listE l != 0) then
        some (.sc (.int .i64 (listE l)), [])
      else
        some (.sc (.int .i64 0), [])
    else none
theorem f47_run (l : List V) (z9 : V × List Rg) (h : f47 l = some z9) : CallR C prim 47 [.sl 1 l] [] z9 := by
  refine call_fn (K := K_f47) (T := T_f47) K_f47_ok T_f47_ok (by kernel_rfl) ?_
  refine Eq.trans ?_ h
  kernel_rfl

theorem f47_eq (l : List V) (hp : (l.all V.isStr && decide (l.length ≤ 1000000000)) = true) : f47 l = some (.sc (.int .i64 (listErr l)), []) := by
  simp only [Bool.and_eq_true, decide_eq_true_eq] at hp
  unfold f47 listErr
  rw [hp.1, dec_true hp.2]
  simp only [beq_self_eq_true, Bool.and_true, cond_true]
  cases decide (((l.length : Nat) : Int) > 1000)
  · exact zero_or (x := listE l) (fun e => some (V.sc (.int .i64 e), []))
  · rfl
def k47 : PrimT := fun vs gs => match vs, gs with
  | [.sl 1 l], [] => ((l.all V.isStr && decide (l.length ≤ 1000000000)), .sc (.int .i64 (listErr l)), [])
  | _, _ => (false, .bad, [])
theorem k47_ok : ∀ vs gs x, k47 vs gs = (true, x) → CallR C prim 47 vs gs x := by
  intro vs gs x h
  unfold k47 at h
  split at h
  · simp only [Prod.mk.injEq] at h
    obtain ⟨hp, rfl⟩ := h
    exact f47_run _ _ (f47_eq _ hp)
  · cases h

def K_f12_l0 : CallK := kCons 47 k47 <| kNil
theorem K_f12_l0_ok : KOK C prim K_f12_l0 := KOK.cons k47_ok <| KOK.nil
def T_f12_l0 : Tab := tNil
theorem T_f12_l0_ok : TOK C prim 12 T_f12_l0 := TOK.nil
def f12_l0 : Nat → List V → Int → Int → (R : Type) → (Ex → St → Option R) → Option R
  | 0, _, _, _, _, _ => none
  | n + 1, v6, v7, v8, R, κ =>
    bif (decide (v8 < v7)) then
      bif (((decide ((0 : Int) ≤ v8)) && (decide (v8 < ((v6.length : Nat) : Int)))) && true) then
        bif (((V.isSl 1 (nthV v6 (((v8).toNat * 1) + 0))) && true) && true) then
          bif (((V.cellsOf (nthV v6 (((v8).toNat * 1) + 0))).all V.isStr && decide ((V.cellsOf (nthV v6 (((v8).toNat * 1) + 0))).length ≤ 1000000000)) && true) then
            bif ((listErr (V.cellsOf (nthV v6 (((v8).toNat * 1) + 0)))) != 0) then
              κ .rt (mkS [(2, .sc (.int .i64 (listErr (V.cellsOf (nthV v6 (((v8).toNat * 1) + 0))))))] [])
            else
              f12_l0 n v6 v7 (IntKind.wrap .i64 (v8 + 1)) R κ
          else none
        else none
      else none
    else
      κ (.ex 0) (mkS [(2, .bad)] [])
def f12_l0_ls : List (Nat × Pat) := [(6, .sl 1), (7, .i .i64), (8, .i .i64)]
def f12_l0_rs : List RPat := []
theorem f12_l0_ok (n : Nat) : ∀ (v6 : List V) (v7 : Int) (v8 : Int) (R : Type) (κ : Ex → St → Option R) (r : R), f12_l0 n v6 v7 v8 R κ = some r → ∃ ee ss, κ ee ss = some r ∧ RunP C prim 12 [0, 1, 0, 1] (mkS [(6, .sl 1 v6), (7, .sc (.int .i64 v7)), (8, .sc (.int .i64 v8))] []) ee ss := by
  induction n with
  | zero => intro v6 v7 v8 R κ r h; cases h
  | succ n ih =>
    intro v6 v7 v8 R κ r h
    refine loop_round (K := K_f12_l0) (T := T_f12_l0) K_f12_l0_ok T_f12_l0_ok (p := [0, 1, 0, 1]) (by kernel_rfl) (fun st => bif ckS f12_l0_ls f12_l0_rs st then f12_l0 n ((st.env 6).cellsOf) ((st.env 7).intOf) ((st.env 8).intOf) R κ else none) (fun st0 h0 => ?_) ?_
    · obtain ⟨hs, h0⟩ := cond_some h0
      rw [canon (ls := f12_l0_ls) (rs := f12_l0_rs) (by kernel_rfl) st0 hs]
      exact ih _ _ _ R κ r h0
    · refine Eq.trans ?_ h
      kernel_rfl

def f12_s0 (v6 : List V) (v7 : Int) (v8 : Int) (R : Type) (κ : Ex → St → Option R) : Option R :=
  bif (listsE v6 != 0) then
    κ .rt (mkS [(2, .sc (.int .i64 (listsE v6)))] [])
  else
    κ (.ex 0) (mkS [(2, .bad)] [])
theorem f12_s0_eq (v6 : List V) (v7 : Int) (v8 : Int) (hp : ((v7 == ((v6.length : Nat) : Int)) && (v8 == 0) && v6.all okStrs && decide (v6.length ≤ 1000000000)) = true) : ∃ n, ∀ (R : Type) (κ : Ex → St → Option R), f12_l0 n v6 v7 v8 R κ = f12_s0 v6 v7 v8 R κ := by
  simp only [Bool.and_eq_true, decide_eq_true_eq, beq_iff_eq] at hp
  obtain ⟨⟨⟨rfl, rfl⟩, h3⟩, h4⟩ := hp
  refine ⟨v6.length + 1, fun R κ => ?_⟩
  refine errLoop (fun n k => f12_l0 n v6 ((v6.length : Nat) : Int) k R κ) v6 (fun x => listErr x.cellsOf) (fun e => κ .rt (mkS [(2, .sc (.int .i64 e))] [])) (κ (.ex 0) (mkS [(2, .bad)] [])) ?_ ?_ v6.length 0 (by omega) _ (by omega)
  · intro n k hk
    have hs : okStrs v6[k] = true := List.all_eq_true.1 h3 _ (List.getElem_mem hk)
    unfold okStrs at hs
    simp only [Bool.and_eq_true, decide_eq_true_eq] at hs
    show f12_l0 (n + 1) v6 ((v6.length : Nat) : Int) (k : Int) R κ = _
    rw [f12_l0, dec_true (show (k : Int) < ((v6.length : Nat) : Int) by omega), dec_true (show (0 : Int) ≤ (k : Int) by omega), nth_at hk, hs.1.1, hs.1.2, dec_true hs.2, wrap_succ (by omega)]
    rfl
  · intro n
    show f12_l0 (n + 1) v6 ((v6.length : Nat) : Int) ((v6.length : Nat) : Int) R κ = _
    rw [f12_l0, dec_false (by omega)]
    rfl
def t_f12_l0 (st : St) (R : Type) (κ : Ex → St → Option R) : Option R := bif ckS f12_l0_ls f12_l0_rs st then (bif ((((st.env 7).intOf) == ((((st.env 6).cellsOf).length : Nat) : Int)) && (((st.env 8).intOf) == 0) && ((st.env 6).cellsOf).all okStrs && decide (((st.env 6).cellsOf).length ≤ 1000000000)) then f12_s0 ((st.env 6).cellsOf) ((st.env 7).intOf) ((st.env 8).intOf) R κ else none) else none
theorem t_f12_l0_ok : ∀ st0 R κ r, t_f12_l0 (forget C 12 [0, 1, 0, 1] st0) R κ = some r → ∃ ee ss, κ ee ss = some r ∧ RunP C prim 12 [0, 1, 0, 1] (forget C 12 [0, 1, 0, 1] st0) ee ss := by
  intro st0 R κ r h
  obtain ⟨hs, h⟩ := cond_some h
  obtain ⟨hp, h⟩ := cond_some h
  rw [canon (ls := f12_l0_ls) (rs := f12_l0_rs) (by kernel_rfl) st0 hs]
  obtain ⟨n, hn⟩ := f12_s0_eq _ _ _ hp
  rw [← hn] at h
  exact f12_l0_ok n _ _ _ R κ r h

def K_f12 : CallK := kNil
theorem K_f12_ok : KOK C prim K_f12 := KOK.nil
def T_f12 : Tab := tCons [0, 1, 0, 1] t_f12_l0 <| tNil
theorem T_f12_ok : TOK C prim 12 T_f12 := TOK.cons t_f12_l0_ok <| TOK.nil
def f12 (l : List V) : Option (V × List Rg) :=
  bif ((((l.length : Nat) : Int) == ((l.length : Nat) : Int)) && ((0 : Int) == 0) && l.all okStrs && decide (l.length ≤ 1000000000)) then
    bif (listsE l != 0) then
      some (.sc (.int .i64 (listsE l)), [])
    else
      some (.sc (.int .i64 0), [])
  else none
theorem f12_run (l : List V) (z9 : V × List Rg) (h : f12 l = some z9) : CallR C prim 12 [.sl 1 l] [] z9 := by
  refine call_fn (K := K_f12) (T := T_f12) K_f12_ok T_f12_ok (by kernel_rfl) ?_
  refine Eq.trans ?_ h
  kernel_rfl

theorem f12_eq (l : List V) (hp : (l.all okStrs && decide (l.length ≤ 1000000000)) = true) : f12 l = some (.sc (.int .i64 (listsE l)), []) := by
  simp only [Bool.and_eq_true, decide_eq_true_eq] at hp
  unfold f12
  rw [hp.1, dec_true hp.2]
  simp only [beq_self_eq_true, Bool.and_true, cond_true]
  exact zero_or (x := listsE l) (fun e => some (V.sc (.int .i64 e), []))
def k12 : PrimT := fun vs gs => match vs, gs with
  | [.sl 1 l], [] => ((l.all okStrs && decide (l.length ≤ 1000000000)), .sc (.int .i64 (listsE l)), [])
  | _, _ => (false, .bad, [])
theorem k12_ok : ∀ vs gs x, k12 vs gs = (true, x) → CallR C prim 12 vs gs x := by
  intro vs gs x h
  unfold k12 at h
  split at h
  · simp only [Prod.mk.injEq] at h
    obtain ⟨hp, rfl⟩ := h
    exact f12_run _ _ (f12_eq _ hp)
  · cases h

def K_f49 : CallK := kNil
theorem K_f49_ok : KOK C prim K_f49 := KOK.nil
def T_f49 : Tab := tNil
theorem T_f49_ok : TOK C prim 49 T_f49 := TOK.nil
def f49 (x : List V) : Option (V × List Rg) :=
  some (.sc (.bool (decide (((x.length : Nat) : Int) > 60))), [])
theorem f49_run (x : List V) (z9 : V × List Rg) (h : f49 x = some z9) : CallR C prim 49 [.sl 1 x] [] z9 := by
  refine call_fn (K := K_f49) (T := T_f49) K_f49_ok T_f49_ok (by kernel_rfl) ?_
  refine Eq.trans ?_ h
  kernel_rfl

theorem f49_eq (x : List V) : f49 x = some (.sc (.bool (decide (((x.length : Nat) : Int) > 60))), []) := by rfl
def k49 : PrimT := fun vs gs => match vs, gs with
  | [.sl 1 x], [] => (true, .sc (.bool (decide (((x.length : Nat) : Int) > 60))), [])
  | _, _ => (false, .bad, [])
theorem k49_ok : ∀ vs gs x, k49 vs gs = (true, x) → CallR C prim 49 vs gs x := by
  intro vs gs x h
  unfold k49 at h
  split at h
  · simp only [Prod.mk.injEq, true_and] at h
    subst h
    exact f49_run _ _ (f49_eq _)
  · cases h

def K_f89_l0 : CallK := kCons 49 k49 <| kNil
theorem K_f89_l0_ok : KOK C prim K_f89_l0 := KOK.cons k49_ok <| KOK.nil
def T_f89_l0 : Tab := tNil
theorem T_f89_l0_ok : TOK C prim 89 T_f89_l0 := TOK.nil
def f89_l0 : Nat → List V → Int → Int → (R : Type) → (Ex → St → Option R) → Option R
  | 0, _, _, _, _, _ => none
  | n + 1, s, v7, v8, R, κ =>
    bif (decide (v8 < v7)) then
      bif (((decide ((0 : Int) ≤ v8)) && (decide (v8 < ((s.length : Nat) : Int)))) && true) then
        bif (((V.isSl 1 (nthV s (((v8).toNat * 1) + 0))) && true) && true) then
          bif (decide ((((V.cellsOf (nthV s (((v8).toNat * 1) + 0))).length : Nat) : Int) > 60)) then
            κ .rt (mkS [(4, .sc (.int .i64 v8))] [])
          else
            f89_l0 n s v7 (IntKind.wrap .i64 (v8 + 1)) R κ
        else none
      else none
    else
      κ (.ex 0) (mkS [(4, .bad)] [])
def f89_l0_ls : List (Nat × Pat) := [(0, .sl 1), (1, .is (.fn 49 [] [])), (7, .i .i64), (8, .i .i64)]
def f89_l0_rs : List RPat := []
theorem f89_l0_ok (n : Nat) : ∀ (s : List V) (v7 : Int) (v8 : Int) (R : Type) (κ : Ex → St → Option R) (r : R), f89_l0 n s v7 v8 R κ = some r → ∃ ee ss, κ ee ss = some r ∧ RunP C prim 89 [0, 1, 0, 1] (mkS [(0, .sl 1 s), (1, .fn 49 [] []), (7, .sc (.int .i64 v7)), (8, .sc (.int .i64 v8))] []) ee ss := by
  induction n with
  | zero => intro s v7 v8 R κ r h; cases h
  | succ n ih =>
    intro s v7 v8 R κ r h
    refine loop_round (K := K_f89_l0) (T := T_f89_l0) K_f89_l0_ok T_f89_l0_ok (p := [0, 1, 0, 1]) (by kernel_rfl) (fun st => bif ckS f89_l0_ls f89_l0_rs st then f89_l0 n ((st.env 0).cellsOf) ((st.env 7).intOf) ((st.env 8).intOf) R κ else none) (fun st0 h0 => ?_) ?_
    · obtain ⟨hs, h0⟩ := cond_some h0
      rw [canon (ls := f89_l0_ls) (rs := f89_l0_rs) (by kernel_rfl) st0 hs]
      exact ih _ _ _ R κ r h0
    · refine Eq.trans ?_ h
      kernel_rfl

def f89_s0 (s : List V) (v7 : Int) (v8 : Int) (R : Type) (κ : Ex → St → Option R) : Option R :=
  bif (s.any big60) then
    κ .rt (mkS [(4, .sc (.int .i64 (ixBy big60 s 0)))] [])
  else
    κ (.ex 0) (mkS [(4, .bad)] [])
theorem f89_s0_eq (s : List V) (v7 : Int) (v8 : Int) (hp : ((v7 == ((s.length : Nat) : Int)) && (v8 == 0) && s.all (V.isSl 1) && decide (s.length ≤ 1000000000)) = true) : ∃ n, ∀ (R : Type) (κ : Ex → St → Option R), f89_l0 n s v7 v8 R κ = f89_s0 s v7 v8 R κ := by
  simp only [Bool.and_eq_true, decide_eq_true_eq, beq_iff_eq] at hp
  obtain ⟨⟨⟨rfl, rfl⟩, h3⟩, h4⟩ := hp
  refine ⟨s.length + 1, fun R κ => ?_⟩
  refine findLoop (fun n k => f89_l0 n s ((s.length : Nat) : Int) k R κ) s big60 (fun k => κ .rt (mkS [(4, .sc (.int .i64 k))] [])) (κ (.ex 0) (mkS [(4, .bad)] [])) ?_ ?_ s.length 0 (by omega) _ (by omega)
  · intro n k hk
    have hs : V.isSl 1 s[k] = true := List.all_eq_true.1 h3 _ (List.getElem_mem hk)
    show f89_l0 (n + 1) s ((s.length : Nat) : Int) (k : Int) R κ = _
    rw [f89_l0, dec_true (show (k : Int) < ((s.length : Nat) : Int) by omega), dec_true (show (0 : Int) ≤ (k : Int) by omega), nth_at hk, hs, wrap_succ (by omega)]
    rfl
  · intro n
    show f89_l0 (n + 1) s ((s.length : Nat) : Int) ((s.length : Nat) : Int) R κ = _
    rw [f89_l0, dec_false (by omega)]
    rfl
def t_f89_l0 (st : St) (R : Type) (κ : Ex → St → Option R) : Option R := bif ckS f89_l0_ls f89_l0_rs st then (bif ((((st.env 7).intOf) == ((((st.env 0).cellsOf).length : Nat) : Int)) && (((st.env 8).intOf) == 0) && ((st.env 0).cellsOf).all (V.isSl 1) && decide (((st.env 0).cellsOf).length ≤ 1000000000)) then f89_s0 ((st.env 0).cellsOf) ((st.env 7).intOf) ((st.env 8).intOf) R κ else none) else none
theorem t_f89_l0_ok : ∀ st0 R κ r, t_f89_l0 (forget C 89 [0, 1, 0, 1] st0) R κ = some r → ∃ ee ss, κ ee ss = some r ∧ RunP C prim 89 [0, 1, 0, 1] (forget C 89 [0, 1, 0, 1] st0) ee ss := by
  intro st0 R κ r h
  obtain ⟨hs, h⟩ := cond_some h
  obtain ⟨hp, h⟩ := cond_some h
  rw [canon (ls := f89_l0_ls) (rs := f89_l0_rs) (by kernel_rfl) st0 hs]
  obtain ⟨n, hn⟩ := f89_s0_eq _ _ _ hp
  rw [← hn] at h
  exact f89_l0_ok n _ _ _ R κ r h

def K_f89 : CallK := kNil
theorem K_f89_ok : KOK C prim K_f89 := KOK.nil
def T_f89 : Tab := tCons [0, 1, 0, 1] t_f89_l0 <| tNil
theorem T_f89_ok : TOK C prim 89 T_f89 := TOK.cons t_f89_l0_ok <| TOK.nil
def f89 (s : List V) : Option (V × List Rg) :=
  bif ((((s.length : Nat) : Int) == ((s.length : Nat) : Int)) && ((0 : Int) == 0) && s.all (V.isSl 1) && decide (s.length ≤ 1000000000)) then
    bif (s.any big60) then
      some (.sc (.int .i64 (ixBy big60 s 0)), [])
    else
      some (.sc (.int .i64 (-1)), [])
  else none
theorem f89_run (s : List V) (z9 : V × List Rg) (h : f89 s = some z9) : CallR C prim 89 [.sl 1 s, .fn 49 [] []] [] z9 := by
  refine call_fn (K := K_f89) (T := T_f89) K_f89_ok T_f89_ok (by kernel_rfl) ?_
  refine Eq.trans ?_ h
  kernel_rfl

theorem f89_eq (s : List V) (hp : (s.all (V.isSl 1) && decide (s.length ≤ 1000000000)) = true) : f89 s = some (.sc (.int .i64 (ixBy big60 s 0)), []) := by
  simp only [Bool.and_eq_true, decide_eq_true_eq] at hp
  unfold f89
  rw [hp.1, dec_true hp.2, beq_self_eq_true]
  have h := (ixBy_any big60 s 0).2
  cases ha : s.any big60 with
  | true => rfl
  | false => rw [show ixBy big60 s 0 = -1 from h ha]; rfl
def k89 : PrimT := fun vs gs => match vs, gs with
  | [.sl 1 s, .fn 49 [] []], [] => ((s.all (V.isSl 1) && decide (s.length ≤ 1000000000)), .sc (.int .i64 (ixBy big60 s 0)), [])
  | _, _ => (false, .bad, [])
theorem k89_ok : ∀ vs gs x, k89 vs gs = (true, x) → CallR C prim 89 vs gs x := by
  intro vs gs x h
  unfold k89 at h
  split at h
  · simp only [Prod.mk.injEq] at h
    obtain ⟨hp, rfl⟩ := h
    exact f89_run _ _ (f89_eq _ hp)
  · cases h

def K_f48 : CallK := kCons 89 k89 <| kNil
theorem K_f48_ok : KOK C prim K_f48 := KOK.cons k89_ok <| KOK.nil
def T_f48 : Tab := tNil
theorem T_f48_ok : TOK C prim 48 T_f48 := TOK.nil
def f48 (s : List V) : Option (V × List Rg) :=
  bif ((s.all (V.isSl 1) && decide (s.length ≤ 1000000000)) && true) then
    some (.sc (.bool (decide ((ixBy big60 s 0) ≥ 0))), [])
  else none
theorem f48_run (s : List V) (z9 : V × List Rg) (h : f48 s = some z9) : CallR C prim 48 [.sl 1 s, .fn 49 [] []] [] z9 := by
  refine call_fn (K := K_f48) (T := T_f48) K_f48_ok T_f48_ok (by kernel_rfl) ?_
  refine Eq.trans ?_ h
  kernel_rfl

theorem f48_eq (s : List V) (hp : (s.all (V.isSl 1) && decide (s.length ≤ 1000000000)) = true) : f48 s = some (.sc (.bool (s.any big60)), []) := by
  unfold f48
  rw [hp, (ixBy_any big60 s 0).1]
  rfl
def k48 : PrimT := fun vs gs => match vs, gs with
  | [.sl 1 s, .fn 49 [] []], [] => ((s.all (V.isSl 1) && decide (s.length ≤ 1000000000)), .sc (.bool (s.any big60)), [])
  | _, _ => (false, .bad, [])
theorem k48_ok : ∀ vs gs x, k48 vs gs = (true, x) → CallR C prim 48 vs gs x := by
  intro vs gs x h
  unfold k48 at h
  split at h
  · simp only [Prod.mk.injEq] at h
    obtain ⟨hp, rfl⟩ := h
    exact f48_run _ _ (f48_eq _ hp)
  · cases h

def K_f14 : CallK := kCons 48 k48 <| kNil
theorem K_f14_ok : KOK C prim K_f14 := KOK.cons k48_ok <| KOK.nil
def T_f14 : Tab := tNil
theorem T_f14_ok : TOK C prim 14 T_f14 := TOK.nil
def f14 (l : List V) : Option (V × List Rg) :=
  bif ((l.all (V.isSl 1) && decide (l.length ≤ 1000000000)) && true) then
    some (.sc (.bool (!(l.any big60))), [])
  else none
theorem f14_run (l : List V) (z9 : V × List Rg) (h : f14 l = some z9) : CallR C prim 14 [.sl 1 l] [] z9 := by
  refine call_fn (K := K_f14) (T := T_f14) K_f14_ok T_f14_ok (by kernel_rfl) ?_
  refine Eq.trans ?_ h
  kernel_rfl

theorem f14_eq (l : List V) (hp : (l.all (V.isSl 1) && decide (l.length ≤ 1000000000)) = true) : f14 l = some (.sc (.bool (!(l.any big60))), []) := by
  unfold f14
  rw [hp]
  rfl
def k14 : PrimT := fun vs gs => match vs, gs with
  | [.sl 1 l], [] => ((l.all (V.isSl 1) && decide (l.length ≤ 1000000000)), .sc (.bool (!(l.any big60))), [])
  | _, _ => (false, .bad, [])
theorem k14_ok : ∀ vs gs x, k14 vs gs = (true, x) → CallR C prim 14 vs gs x := by
  intro vs gs x h
  unfold k14 at h
  split at h
  · simp only [Prod.mk.injEq] at h
    obtain ⟨hp, rfl⟩ := h
    exact f14_run _ _ (f14_eq _ hp)
  · cases h

def K_f29_l0 : CallK := kNil
theorem K_f29_l0_ok : KOK C prim K_f29_l0 := KOK.nil
def T_f29_l0 : Tab := tNil
theorem T_f29_l0_ok : TOK C prim 29 T_f29_l0 := TOK.nil
def f29_l0 : Nat → List V → List V → Int → Int → (R : Type) → (Ex → St → Option R) → Option R
  | 0, _, _, _, _, _, _ => none
  | n + 1, s1, s2, v12, v13, R, κ =>
    bif (decide (v13 < v12)) then
      bif (((decide ((0 : Int) ≤ v13)) && (decide (v13 < ((s1.length : Nat) : Int)))) && true) then
        bif (((V.isStr (nthV s1 (((v13).toNat * 1) + 0))) && true) && true) then
          bif (((decide ((0 : Int) ≤ v13)) && (decide (v13 < ((s2.length : Nat) : Int)))) && true) then
            bif (((V.isStr (nthV s2 (((v13).toNat * 1) + 0))) && true) && true) then
              bif (!(strEq (V.strOf (nthV s1 (((v13).toNat * 1) + 0))) (V.strOf (nthV s2 (((v13).toNat * 1) + 0))))) then
                κ .rt (mkS [(4, .sc (.bool false))] [])
              else
                f29_l0 n s1 s2 v12 (IntKind.wrap .i64 (v13 + 1)) R κ
            else none
          else none
        else none
      else none
    else
      κ (.ex 0) (mkS [(4, .bad)] [])
def f29_l0_ls : List (Nat × Pat) := [(0, .sl 1), (1, .sl 1), (12, .i .i64), (13, .i .i64)]
def f29_l0_rs : List RPat := []
theorem f29_l0_ok (n : Nat) : ∀ (s1 : List V) (s2 : List V) (v12 : Int) (v13 : Int) (R : Type) (κ : Ex → St → Option R) (r : R), f29_l0 n s1 s2 v12 v13 R κ = some r → ∃ ee ss, κ ee ss = some r ∧ RunP C prim 29 [0, 1, 0, 1, 1] (mkS [(0, .sl 1 s1), (1, .sl 1 s2), (12, .sc (.int .i64 v12)), (13, .sc (.int .i64 v13))] []) ee ss := by
  induction n with
  | zero => intro s1 s2 v12 v13 R κ r h; cases h
  | succ n ih =>
    intro s1 s2 v12 v13 R κ r h
    refine loop_round (K := K_f29_l0) (T := T_f29_l0) K_f29_l0_ok T_f29_l0_ok (p := [0, 1, 0, 1, 1]) (by kernel_rfl) (fun st => bif ckS f29_l0_ls f29_l0_rs st then f29_l0 n ((st.env 0).cellsOf) ((st.env 1).cellsOf) ((st.env 12).intOf) ((st.env 13).intOf) R κ else none) (fun st0 h0 => ?_) ?_
    · obtain ⟨hs, h0⟩ := cond_some h0
      rw [canon (ls := f29_l0_ls) (rs := f29_l0_rs) (by kernel_rfl) st0 hs]
      exact ih _ _ _ _ R κ r h0
    · refine Eq.trans ?_ h
      kernel_rfl

def f29_s0 (s1 : List V) (s2 : List V) (v12 : Int) (v13 : Int) (R : Type) (κ : Ex → St → Option R) : Option R :=
  bif (eqS s1 s2) then
    κ (.ex 0) (mkS [(4, .bad)] [])
  else
    κ .rt (mkS [(4, .sc (.bool false))] [])
theorem f29_l0_c (s1 s2 : List V) (hl : s1.length = s2.length) (h1 : s1.all V.isStr = true) (h2 : s2.all V.isStr = true) (hb : s1.length ≤ 1000000000) : ∀ (m k : Nat), k + m = s1.length → ∀ n, m < n → ∀ (R : Type) (κ : Ex → St → Option R), f29_l0 n s1 s2 ((s1.length : Nat) : Int) (k : Int) R κ = bif eqS (s1.drop k) (s2.drop k) then κ (.ex 0) (mkS [(4, .bad)] []) else κ .rt (mkS [(4, .sc (.bool false))] []) := by
  intro m
  induction m with
  | zero =>
    intro k hk n hn R κ
    obtain ⟨n, rfl⟩ : ∃ j, n = j + 1 := ⟨n - 1, by omega⟩
    rw [f29_l0, dec_false (by omega), List.drop_of_length_le (by omega), List.drop_of_length_le (by omega)]
    rfl
  | succ m ih =>
    intro k hk n hn R κ
    obtain ⟨n, rfl⟩ : ∃ j, n = j + 1 := ⟨n - 1, by omega⟩
    have k1 : k < s1.length := by omega
    have k2 : k < s2.length := by omega
    have i1 : V.isStr s1[k] = true := List.all_eq_true.1 h1 _ (List.getElem_mem k1)
    have i2 : V.isStr s2[k] = true := List.all_eq_true.1 h2 _ (List.getElem_mem k2)
    rw [f29_l0, dec_true (show (k : Int) < ((s1.length : Nat) : Int) by omega), dec_true (show (0 : Int) ≤ (k : Int) by omega), dec_true (show (k : Int) < ((s2.length : Nat) : Int) by omega), nth_at k1, nth_at k2, i1, i2, wrap_succ (by omega), ih (k + 1) (by omega) n (by omega) R κ, eqS_drop k1 k2]
    cases strEq s1[k].strOf s2[k].strOf <;> rfl
theorem f29_s0_eq (s1 : List V) (s2 : List V) (v12 : Int) (v13 : Int) (hp : ((v12 == ((s1.length : Nat) : Int)) && (v13 == 0) && (s1.length == s2.length) && s1.all V.isStr && s2.all V.isStr && decide (s1.length ≤ 1000000000)) = true) : ∃ n, ∀ (R : Type) (κ : Ex → St → Option R), f29_l0 n s1 s2 v12 v13 R κ = f29_s0 s1 s2 v12 v13 R κ := by
  simp only [Bool.and_eq_true, decide_eq_true_eq, beq_iff_eq] at hp
  obtain ⟨⟨⟨⟨⟨rfl, rfl⟩, h1⟩, h2⟩, h3⟩, h4⟩ := hp
  exact ⟨s1.length + 1, fun R κ => f29_l0_c s1 s2 h1 h2 h3 h4 s1.length 0 (by omega) _ (by omega) R κ⟩
def t_f29_l0 (st : St) (R : Type) (κ : Ex → St → Option R) : Option R := bif ckS f29_l0_ls f29_l0_rs st then (bif ((((st.env 12).intOf) == ((((st.env 0).cellsOf).length : Nat) : Int)) && (((st.env 13).intOf) == 0) && (((st.env 0).cellsOf).length == ((st.env 1).cellsOf).length) && ((st.env 0).cellsOf).all V.isStr && ((st.env 1).cellsOf).all V.isStr && decide (((st.env 0).cellsOf).length ≤ 1000000000)) then f29_s0 ((st.env 0).cellsOf) ((st.env 1).cellsOf) ((st.env 12).intOf) ((st.env 13).intOf) R κ else none) else none
theorem t_f29_l0_ok : ∀ st0 R κ r, t_f29_l0 (forget C 29 [0, 1, 0, 1, 1] st0) R κ = some r → ∃ ee ss, κ ee ss = some r ∧ RunP C prim 29 [0, 1, 0, 1, 1] (forget C 29 [0, 1, 0, 1, 1] st0) ee ss := by
  intro st0 R κ r h
  obtain ⟨hs, h⟩ := cond_some h
  obtain ⟨hp, h⟩ := cond_some h
  rw [canon (ls := f29_l0_ls) (rs := f29_l0_rs) (by kernel_rfl) st0 hs]
  obtain ⟨n, hn⟩ := f29_s0_eq _ _ _ _ hp
  rw [← hn] at h
  exact f29_l0_ok n _ _ _ _ R κ r h

def K_f29 : CallK := kNil
theorem K_f29_ok : KOK C prim K_f29 := KOK.nil
def T_f29 : Tab := tCons [0, 1, 0, 1, 1] t_f29_l0 <| tNil
theorem T_f29_ok : TOK C prim 29 T_f29 := TOK.cons t_f29_l0_ok <| TOK.nil
def f29 (s1 : List V) (s2 : List V) : Option (V × List Rg) :=
  bif (((s1.length : Nat) : Int) != ((s2.length : Nat) : Int)) then
    some (.sc (.bool false), [])
  else
    bif ((((s1.length : Nat) : Int) == ((s1.length : Nat) : Int)) && ((0 : Int) == 0) && (s1.length == s2.length) && s1.all V.isStr && s2.all V.isStr && decide (s1.length ≤ 1000000000)) then
      bif (eqS s1 s2) then
        some (.sc (.bool true), [])
      else
        some (.sc (.bool false), [])
    else none
theorem f29_run (s1 : List V) (s2 : List V) (z9 : V × List Rg) (h : f29 s1 s2 = some z9) : CallR C prim 29 [.sl 1 s1, .sl 1 s2] [] z9 := by
  refine call_fn (K := K_f29) (T := T_f29) K_f29_ok T_f29_ok (by kernel_rfl) ?_
  refine Eq.trans ?_ h
  kernel_rfl

theorem eqS_len : ∀ (a b : List V), a.length ≠ b.length → eqS a b = false
  | [], [], h => absurd rfl h
  | [], _ :: _, _ => rfl
  | _ :: _, [], _ => rfl
  | x :: a, y :: b, h => by
    unfold eqS
    rw [eqS_len a b (by simpa using h), Bool.and_false]
theorem f29_eq (s1 : List V) (s2 : List V) (hp : (s1.all V.isStr && s2.all V.isStr && decide (s1.length ≤ 1000000000) && decide (s2.length ≤ 1000000000)) = true) : f29 s1 s2 = some (.sc (.bool (eqS s1 s2)), []) := by
  simp only [Bool.and_eq_true, decide_eq_true_eq] at hp
  obtain ⟨⟨⟨h1, h2⟩, h3⟩, h4⟩ := hp
  unfold f29
  by_cases hl : s1.length = s2.length
  · have e : ((((s1.length : Nat) : Int)) != ((s2.length : Nat) : Int)) = false := by rw [hl, bne_self_eq_false]
    have e2 : (s1.length == s2.length) = true := by rw [hl]; exact beq_self_eq_true _
    rw [e, e2, h1, h2, dec_true h3, beq_self_eq_true]
    cases eqS s1 s2 <;> rfl
  · have e : ((((s1.length : Nat) : Int)) != ((s2.length : Nat) : Int)) = true := by rw [bne_iff_ne]; omega
    rw [e, eqS_len s1 s2 hl]
    rfl
def k29 : PrimT := fun vs gs => match vs, gs with
  | [.sl 1 s1, .sl 1 s2], [] => ((s1.all V.isStr && s2.all V.isStr && decide (s1.length ≤ 1000000000) && decide (s2.length ≤ 1000000000)), .sc (.bool (eqS s1 s2)), [])
  | _, _ => (false, .bad, [])
theorem k29_ok : ∀ vs gs x, k29 vs gs = (true, x) → CallR C prim 29 vs gs x := by
  intro vs gs x h
  unfold k29 at h
  split at h
  · simp only [Prod.mk.injEq] at h
    obtain ⟨hp, rfl⟩ := h
    exact f29_run _ _ _ (f29_eq _ _ hp)
  · cases h

def K_f51 : CallK := kCons 29 k29 <| kNil
theorem K_f51_ok : KOK C prim K_f51 := KOK.cons k29_ok <| KOK.nil
def T_f51 : Tab := tNil
theorem T_f51_ok : TOK C prim 51 T_f51 := TOK.nil
def f51 (x0 : Int) (x1 : Int) (x2 : List V) (x3 : List V) (y0 : Int) (y1 : Int) (y2 : List V) (y3 : List V) : Option (V × List Rg) :=
  bif (x0 == y0) then
    bif (x1 == y1) then
      bif ((x2.all V.isStr && y2.all V.isStr && decide (x2.length ≤ 1000000000) && decide (y2.length ≤ 1000000000)) && true) then
        bif (eqS x2 y2) then
          bif ((x3.all V.isStr && y3.all V.isStr && decide (x3.length ≤ 1000000000) && decide (y3.length ≤ 1000000000)) && true) then
            some (.sc (.bool (eqS x3 y3)), [])
          else none
        else
          some (.sc (.bool false), [])
      else none
    else
      some (.sc (.bool false), [])
  else
    some (.sc (.bool false), [])
theorem f51_run (x0 : Int) (x1 : Int) (x2 : List V) (x3 : List V) (y0 : Int) (y1 : Int) (y2 : List V) (y3 : List V) (z9 : V × List Rg) (h : f51 x0 x1 x2 x3 y0 y1 y2 y3 = some z9) : CallR C prim 51 [.ag [.sc (.int .i64 x0), .sc (.int .i64 x1), .sl 1 x2, .sl 1 x3], .ag [.sc (.int .i64 y0), .sc (.int .i64 y1), .sl 1 y2, .sl 1 y3]] [] z9 := by
  refine call_fn (K := K_f51) (T := T_f51) K_f51_ok T_f51_ok (by kernel_rfl) ?_
  refine Eq.trans ?_ h
  kernel_rfl

theorem f51_eq (x0 : Int) (x1 : Int) (x2 : List V) (x3 : List V) (y0 : Int) (y1 : Int) (y2 : List V) (y3 : List V) (hp : (x2.all V.isStr && decide (x2.length ≤ 1000000000) && x3.all V.isStr && decide (x3.length ≤ 1000000000) && y2.all V.isStr && decide (y2.length ≤ 1000000000) && y3.all V.isStr && decide (y3.length ≤ 1000000000)) = true) : f51 x0 x1 x2 x3 y0 y1 y2 y3 = some (.sc (.bool (hEq x0 x1 x2 x3 y0 y1 y2 y3)), []) := by
  simp only [Bool.and_eq_true, decide_eq_true_eq] at hp
  obtain ⟨⟨⟨⟨⟨⟨⟨h1, h2⟩, h3⟩, h4⟩, h5⟩, h6⟩, h7⟩, h8⟩ := hp
  unfold f51 hEq
  rw [h1, h3, h5, h7, dec_true h2, dec_true h4, dec_true h6, dec_true h8]
  cases x0 == y0 with
  | false => rfl
  | true =>
    cases x1 == y1 with
    | false => rfl
    | true => cases eqS x2 y2 <;> rfl
def k51 : PrimT := fun vs gs => match vs, gs with
  | [.ag [.sc (.int .i64 x0), .sc (.int .i64 x1), .sl 1 x2, .sl 1 x3], .ag [.sc (.int .i64 y0), .sc (.int .i64 y1), .sl 1 y2, .sl 1 y3]], [] => ((x2.all V.isStr && decide (x2.length ≤ 1000000000) && x3.all V.isStr && decide (x3.length ≤ 1000000000) && y2.all V.isStr && decide (y2.length ≤ 1000000000) && y3.all V.isStr && decide (y3.length ≤ 1000000000)), .sc (.bool (hEq x0 x1 x2 x3 y0 y1 y2 y3)), [])
  | _, _ => (false, .bad, [])
theorem k51_ok : ∀ vs gs x, k51 vs gs = (true, x) → CallR C prim 51 vs gs x := by
  intro vs gs x h
  unfold k51 at h
  split at h
  · simp only [Prod.mk.injEq] at h
    obtain ⟨hp, rfl⟩ := h
    exact f51_run _ _ _ _ _ _ _ _ _ (f51_eq _ _ _ _ _ _ _ _ hp)
  · cases h

def K_f50_l0 : CallK := kCons 51 k51 <| kNil
theorem K_f50_l0_ok : KOK C prim K_f50_l0 := KOK.cons k51_ok <| KOK.nil
def T_f50_l0 : Tab := tNil
theorem T_f50_l0_ok : TOK C prim 50 T_f50_l0 := TOK.nil
def f50_l0 : Nat → List V → List V → Int → Int → (R : Type) → (Ex → St → Option R) → Option R
  | 0, _, _, _, _, _, _ => none
  | n + 1, s2, v15, v16, v17, R, κ =>
    bif (decide (v17 < v16)) then
      bif (((decide ((0 : Int) ≤ v17)) && (decide (v17 < (((lenE 4 v15.length) : Nat) : Int)))) && true) then
        bif (((V.isInt .i64 (nthV v15 (((v17).toNat * 4) + 0))) && ((V.isInt .i64 (nthV v15 (((v17).toNat * 4) + 1))) && ((V.isSl 1 (nthV v15 (((v17).toNat * 4) + 2))) && ((V.isSl 1 (nthV v15 (((v17).toNat * 4) + 3))) && true)))) && true) then
          bif (((decide ((0 : Int) ≤ v17)) && (decide (v17 < (((lenE 4 s2.length) : Nat) : Int)))) && true) then
            bif (((V.isInt .i64 (nthV s2 (((v17).toNat * 4) + 0))) && ((V.isInt .i64 (nthV s2 (((v17).toNat * 4) + 1))) && ((V.isSl 1 (nthV s2 (((v17).toNat * 4) + 2))) && ((V.isSl 1 (nthV s2 (((v17).toNat * 4) + 3))) && true)))) && true) then
              bif (((V.cellsOf (nthV v15 (((v17).toNat * 4) + 2))).all V.isStr && decide ((V.cellsOf (nthV v15 (((v17).toNat * 4) + 2))).length ≤ 1000000000) && (V.cellsOf (nthV v15 (((v17).toNat * 4) + 3))).all V.isStr && decide ((V.cellsOf (nthV v15 (((v17).toNat * 4) + 3))).length ≤ 1000000000) && (V.cellsOf (nthV s2 (((v17).toNat * 4) + 2))).all V.isStr && decide ((V.cellsOf (nthV s2 (((v17).toNat * 4) + 2))).length ≤ 1000000000) && (V.cellsOf (nthV s2 (((v17).toNat * 4) + 3))).all V.isStr && decide ((V.cellsOf (nthV s2 (((v17).toNat * 4) + 3))).length ≤ 1000000000)) && true) then
                bif (!(hEq (V.intOf (nthV v15 (((v17).toNat * 4) + 0))) (V.intOf (nthV v15 (((v17).toNat * 4) + 1))) (V.cellsOf (nthV v15 (((v17).toNat * 4) + 2))) (V.cellsOf (nthV v15 (((v17).toNat * 4) + 3))) (V.intOf (nthV s2 (((v17).toNat * 4) + 0))) (V.intOf (nthV s2 (((v17).toNat * 4) + 1))) (V.cellsOf (nthV s2 (((v17).toNat * 4) + 2))) (V.cellsOf (nthV s2 (((v17).toNat * 4) + 3))))) then
                  κ .rt (mkS [(6, .sc (.bool false))] [])
                else
                  f50_l0 n s2 v15 v16 (IntKind.wrap .i64 (v17 + 1)) R κ
              else none
            else none
          else none
        else none
      else none
    else
      κ (.ex 0) (mkS [(6, .bad)] [])
def f50_l0_ls : List (Nat × Pat) := [(1, .sl 4), (2, .is (.fn 51 [] [])), (15, .sl 4), (16, .i .i64), (17, .i .i64)]
def f50_l0_rs : List RPat := []
theorem f50_l0_ok (n : Nat) : ∀ (s2 : List V) (v15 : List V) (v16 : Int) (v17 : Int) (R : Type) (κ : Ex → St → Option R) (r : R), f50_l0 n s2 v15 v16 v17 R κ = some r → ∃ ee ss, κ ee ss = some r ∧ RunP C prim 50 [0, 1, 0, 1, 1] (mkS [(1, .sl 4 s2), (2, .fn 51 [] []), (15, .sl 4 v15), (16, .sc (.int .i64 v16)), (17, .sc (.int .i64 v17))] []) ee ss := by
  induction n with
  | zero => intro s2 v15 v16 v17 R κ r h; cases h
  | succ n ih =>
    intro s2 v15 v16 v17 R κ r h
    refine loop_round (K := K_f50_l0) (T := T_f50_l0) K_f50_l0_ok T_f50_l0_ok (p := [0, 1, 0, 1, 1]) (by kernel_rfl) (fun st => bif ckS f50_l0_ls f50_l0_rs st then f50_l0 n ((st.env 1).cellsOf) ((st.env 15).cellsOf) ((st.env 16).intOf) ((st.env 17).intOf) R κ else none) (fun st0 h0 => ?_) ?_
    · obtain ⟨hs, h0⟩ := cond_some h0
      rw [canon (ls := f50_l0_ls) (rs := f50_l0_rs) (by kernel_rfl) st0 hs]
      exact ih _ _ _ _ R κ r h0
    · refine Eq.trans ?_ h
      kernel_rfl

def f50_s0 (s2 : List V) (v15 : List V) (v16 : Int) (v17 : Int) (R : Type) (κ : Ex → St → Option R) : Option R :=
  bif (hsEq v15 s2) then
    κ (.ex 0) (mkS [(6, .bad)] [])
  else
    κ .rt (mkS [(6, .sc (.bool false))] [])
theorem f50_l0_c (s2 v15 : List V) (q : Nat) (hq : v15.length = 4 * q) (hq2 : s2.length = 4 * q) (hl : v15.length ≤ 1000000000) : ∀ (m k : Nat), k + m = q → okHs (v15.drop (k * 4)) = true → okHs (s2.drop (k * 4)) = true → ∀ n, m < n → ∀ (R : Type) (κ : Ex → St → Option R), f50_l0 n s2 v15 ((q : Nat) : Int) (k : Int) R κ = bif hsEq (v15.drop (k * 4)) (s2.drop (k * 4)) then κ (.ex 0) (mkS [(6, .bad)] []) else κ .rt (mkS [(6, .sc (.bool false))] []) := by
  intro m
  induction m with
  | zero =>
    intro k hk o1 o2 n hn R κ
    obtain ⟨n, rfl⟩ : ∃ j, n = j + 1 := ⟨n - 1, by omega⟩
    rw [f50_l0, dec_false (by omega), List.drop_of_length_le (by omega), List.drop_of_length_le (by omega)]
    rfl
  | succ m ih =>
    intro k hk o1 o2 n hn R κ
    obtain ⟨n, rfl⟩ : ∃ j, n = j + 1 := ⟨n - 1, by omega⟩
    obtain ⟨f, t, o, w, r, hd, hok, hr⟩ := okHs_cons o1 (by intro e; have := congrArg List.length e; rw [List.length_drop] at this; simp only [List.length_nil] at this; omega)
    obtain ⟨f', t', o', w', r', hd', hok', hr'⟩ := okHs_cons o2 (by intro e; have := congrArg List.length e; rw [List.length_drop] at this; simp only [List.length_nil] at this; omega)
    obtain ⟨n0, n1, n2, n3, hd2, hk4⟩ := drop4 hd
    obtain ⟨n0', n1', n2', n3', hd2', hk4'⟩ := drop4 hd'
    obtain ⟨p0, p1, ⟨p2, p3, p4⟩, ⟨p5, p6, p7⟩⟩ := okH_spec hok
    obtain ⟨p0', p1', ⟨p2', p3', p4'⟩, ⟨p5', p6', p7'⟩⟩ := okH_spec hok'
    have IH := ih (k + 1) (by omega) (by rw [hd2]; exact hr) (by rw [hd2']; exact hr') n (by omega) R κ
    rw [hd2, hd2'] at IH
    rw [f50_l0, dec_true (show (k : Int) < ((q : Nat) : Int) by omega), dec_true (show (0 : Int) ≤ (k : Int) by omega), dec_true (show (k : Int) < ((lenE 4 v15.length : Nat) : Int) by omega), dec_true (show (k : Int) < ((lenE 4 s2.length : Nat) : Int) by omega), n0, n1, n2, n3, n0', n1', n2', n3', p0, p1, p2, p3, p5, p6, p0', p1', p2', p3', p5', p6', dec_true p4, dec_true p7, dec_true p4', dec_true p7', wrap_succ (by omega), IH, hd, hd', hsEq]
    cases hEq f.intOf t.intOf o.cellsOf w.cellsOf f'.intOf t'.intOf o'.cellsOf w'.cellsOf <;> rfl
theorem f50_s0_eq (s2 : List V) (v15 : List V) (v16 : Int) (v17 : Int) (hp : ((v16 == ((lenE 4 v15.length : Nat) : Int)) && (v17 == 0) && (v15.length == s2.length) && okHs v15 && okHs s2 && decide (v15.length ≤ 1000000000)) = true) : ∃ n, ∀ (R : Type) (κ : Ex → St → Option R), f50_l0 n s2 v15 v16 v17 R κ = f50_s0 s2 v15 v16 v17 R κ := by
  simp only [Bool.and_eq_true, decide_eq_true_eq, beq_iff_eq] at hp
  obtain ⟨⟨⟨⟨⟨rfl, rfl⟩, h1⟩, h2⟩, h3⟩, h4⟩ := hp
  obtain ⟨q, hq⟩ := okHs_len _ h2
  have e : lenE 4 v15.length = q := by show v15.length / 4 = q; omega
  rw [e]
  refine ⟨q + 1, fun R κ => ?_⟩
  have := f50_l0_c s2 v15 q hq (by omega) h4 q 0 (by omega) (by simpa using h2) (by simpa using h3) (q + 1) (by omega) R κ
  rw [Nat.zero_mul, List.drop_zero, List.drop_zero] at this
  exact this
def t_f50_l0 (st : St) (R : Type) (κ : Ex → St → Option R) : Option R := bif ckS f50_l0_ls f50_l0_rs st then (bif ((((st.env 16).intOf) == ((lenE 4 ((st.env 15).cellsOf).length : Nat) : Int)) && (((st.env 17).intOf) == 0) && (((st.env 15).cellsOf).length == ((st.env 1).cellsOf).length) && okHs ((st.env 15).cellsOf) && okHs ((st.env 1).cellsOf) && decide (((st.env 15).cellsOf).length ≤ 1000000000)) then f50_s0 ((st.env 1).cellsOf) ((st.env 15).cellsOf) ((st.env 16).intOf) ((st.env 17).intOf) R κ else none) else none
theorem t_f50_l0_ok : ∀ st0 R κ r, t_f50_l0 (forget C 50 [0, 1, 0, 1, 1] st0) R κ = some r → ∃ ee ss, κ ee ss = some r ∧ RunP C prim 50 [0, 1, 0, 1, 1] (forget C 50 [0, 1, 0, 1, 1] st0) ee ss := by
  intro st0 R κ r h
  obtain ⟨hs, h⟩ := cond_some h
  obtain ⟨hp, h⟩ := cond_some h
  rw [canon (ls := f50_l0_ls) (rs := f50_l0_rs) (by kernel_rfl) st0 hs]
  obtain ⟨n, hn⟩ := f50_s0_eq _ _ _ _ hp
  rw [← hn] at h
  exact f50_l0_ok n _ _ _ _ R κ r h

def K_f50 : CallK := kNil
theorem K_f50_ok : KOK C prim K_f50 := KOK.nil
def T_f50 : Tab := tCons [0, 1, 0, 1, 1] t_f50_l0 <| tNil
theorem T_f50_ok : TOK C prim 50 T_f50 := TOK.cons t_f50_l0_ok <| TOK.nil
def f50 (s1 : List V) (s2 : List V) : Option (V × List Rg) :=
  bif ((((lenE 4 s1.length) : Nat) : Int) != (((lenE 4 s2.length) : Nat) : Int)) then
    some (.sc (.bool false), [])
  else
    bif (((((lenE 4 s1.length) : Nat) : Int) == ((lenE 4 s1.length : Nat) : Int)) && ((0 : Int) == 0) && (s1.length == s2.length) && okHs s1 && okHs s2 && decide (s1.length ≤ 1000000000)) then
      bif (hsEq s1 s2) then
        some (.sc (.bool true), [])
      else
        some (.sc (.bool false), [])
    else none
theorem f50_run (s1 : List V) (s2 : List V) (z9 : V × List Rg) (h : f50 s1 s2 = some z9) : CallR C prim 50 [.sl 4 s1, .sl 4 s2, .fn 51 [] []] [] z9 := by
  refine call_fn (K := K_f50) (T := T_f50) K_f50_ok T_f50_ok (by kernel_rfl) ?_
  refine Eq.trans ?_ h
  kernel_rfl

theorem hsEq_len : ∀ (a b : List V), okHs a = true → okHs b = true → a.length ≠ b.length → hsEq a b = false
  | [], [], _, _, h => absurd rfl h
  | [], _ :: _, _, _, _ => rfl
  | [_], _, h, _, _ => by cases h
  | [_, _], _, h, _, _ => by cases h
  | [_, _, _], _, h, _, _ => by cases h
  | _ :: _ :: _ :: _ :: _, [], _, _, _ => rfl
  | _, [_], _, h, _ => by cases h
  | _, [_, _], _, h, _ => by cases h
  | _, [_, _, _], _, h, _ => by cases h
  | f :: t :: o :: w :: a, f' :: t' :: o' :: w' :: b, h1, h2, h => by
    unfold okHs at h1 h2
    rw [Bool.and_eq_true] at h1 h2
    unfold hsEq
    rw [hsEq_len a b h1.2 h2.2 (by simpa using h), Bool.and_false]
theorem f50_eq (s1 : List V) (s2 : List V) (hp : (okHs s1 && okHs s2 && decide (s1.length ≤ 1000000000) && decide (s2.length ≤ 1000000000)) = true) : f50 s1 s2 = some (.sc (.bool (hsEq s1 s2)), []) := by
  simp only [Bool.and_eq_true, decide_eq_true_eq] at hp
  obtain ⟨⟨⟨h1, h2⟩, h3⟩, h4⟩ := hp
  obtain ⟨q1, hq1⟩ := okHs_len _ h1
  obtain ⟨q2, hq2⟩ := okHs_len _ h2
  have e1 : lenE 4 s1.length = q1 := by show s1.length / 4 = q1; omega
  have e2 : lenE 4 s2.length = q2 := by show s2.length / 4 = q2; omega
  unfold f50
  rw [e1, e2]
  by_cases hl : s1.length = s2.length
  · have e : ((((q1 : Nat) : Int)) != ((q2 : Nat) : Int)) = false := by rw [show q1 = q2 by omega, bne_self_eq_false]
    have e2 : (s1.length == s2.length) = true := by rw [hl]; exact beq_self_eq_true _
    rw [e, e2, h1, h2, dec_true h3, beq_self_eq_true]
    cases hsEq s1 s2 <;> rfl
  · have e : ((((q1 : Nat) : Int)) != ((q2 : Nat) : Int)) = true := by rw [bne_iff_ne]; omega
    rw [e, hsEq_len s1 s2 h1 h2 hl]
    rfl
def k50 : PrimT := fun vs gs => match vs, gs with
  | [.sl 4 s1, .sl 4 s2, .fn 51 [] []], [] => ((okHs s1 && okHs s2 && decide (s1.length ≤ 1000000000) && decide (s2.length ≤ 1000000000)), .sc (.bool (hsEq s1 s2)), [])
  | _, _ => (false, .bad, [])
theorem k50_ok : ∀ vs gs x, k50 vs gs = (true, x) → CallR C prim 50 vs gs x := by
  intro vs gs x h
  unfold k50 at h
  split at h
  · simp only [Prod.mk.injEq] at h
    obtain ⟨hp, rfl⟩ := h
    exact f50_run _ _ _ (f50_eq _ _ hp)
  · cases h

def K_f15 : CallK := kCons 50 k50 <| kNil
theorem K_f15_ok : KOK C prim K_f15 := KOK.cons k50_ok <| KOK.nil
def T_f15 : Tab := tNil
theorem T_f15_ok : TOK C prim 15 T_f15 := TOK.nil
def f15 (a : List V) (b : List V) : Option (V × List Rg) :=
  bif ((okHs a && okHs b && decide (a.length ≤ 1000000000) && decide (b.length ≤ 1000000000)) && true) then
    some (.sc (.bool (hsEq a b)), [])
  else none
theorem f15_run (a : List V) (b : List V) (z9 : V × List Rg) (h : f15 a b = some z9) : CallR C prim 15 [.sl 4 a, .sl 4 b] [] z9 := by
  refine call_fn (K := K_f15) (T := T_f15) K_f15_ok T_f15_ok (by kernel_rfl) ?_
  refine Eq.trans ?_ h
  kernel_rfl

theorem f15_eq (a : List V) (b : List V) (hp : (okHs a && okHs b && decide (a.length ≤ 1000000000) && decide (b.length ≤ 1000000000)) = true) : f15 a b = some (.sc (.bool (hsEq a b)), []) := by
  unfold f15
  rw [hp]
  rfl
def k15 : PrimT := fun vs gs => match vs, gs with
  | [.sl 4 a, .sl 4 b], [] => ((okHs a && okHs b && decide (a.length ≤ 1000000000) && decide (b.length ≤ 1000000000)), .sc (.bool (hsEq a b)), [])
  | _, _ => (false, .bad, [])
theorem k15_ok : ∀ vs gs x, k15 vs gs = (true, x) → CallR C prim 15 vs gs x := by
  intro vs gs x h
  unfold k15 at h
  split at h
  · simp only [Prod.mk.injEq] at h
    obtain ⟨hp, rfl⟩ := h
    exact f15_run _ _ _ (f15_eq _ _ hp)
  · cases h

def K_f53_l0 : CallK := kNil
theorem K_f53_l0_ok : KOK C prim K_f53_l0 := KOK.nil
def T_f53_l0 : Tab := tNil
theorem T_f53_l0_ok : TOK C prim 53 T_f53_l0 := TOK.nil
def f53_l0 : Nat → List V → Int → Int → List V → (R : Type) → (Ex → St → Option R) → Option R
  | 0, _, _, _, _, _, _ => none
  | n + 1, v13, v14, v15, out, R, κ =>
    bif (decide (v15 < v14)) then
      bif (((decide ((0 : Int) ≤ v15)) && (decide (v15 < ((v13.length : Nat) : Int)))) && true) then
        bif (((V.isStr (nthV v13 (((v15).toNat * 1) + 0))) && true) && true) then
          bif (((roomy ((out.length + 1) * 16)) && (roomy (out.length + 1))) && true) then
            f53_l0 n v13 v14 (IntKind.wrap .i64 (v15 + 1)) (out ++ [.sc (.string (V.strOf (nthV v13 (((v15).toNat * 1) + 0))))]) R κ
          else none
        else none
      else none
    else
      κ (.ex 0) (mkS [(6, .bad), (7, .ref ⟨.loc 7, 0, [], 9, false⟩)] [(.loc 7, some ⟨false, [.own 9 false out]⟩)])
def f53_l0_ls : List (Nat × Pat) := [(7, .is (.ref ⟨.loc 7, 0, [], 9, false⟩)), (13, .sl 1), (14, .i .i64), (15, .i .i64)]
def f53_l0_rs : List RPat := [⟨.loc 7, false, [.own 9 false]⟩]
theorem f53_l0_ok (n : Nat) : ∀ (v13 : List V) (v14 : Int) (v15 : Int) (out : List V) (R : Type) (κ : Ex → St → Option R) (r : R), f53_l0 n v13 v14 v15 out R κ = some r → ∃ ee ss, κ ee ss = some r ∧ RunP C prim 53 [0, 1, 0, 1, 1] (mkS [(7, .ref ⟨.loc 7, 0, [], 9, false⟩), (13, .sl 1 v13), (14, .sc (.int .i64 v14)), (15, .sc (.int .i64 v15))] [(.loc 7, some ⟨false, [.own 9 false out]⟩)]) ee ss := by
  induction n with
  | zero => intro v13 v14 v15 out R κ r h; cases h
  | succ n ih =>
    intro v13 v14 v15 out R κ r h
    refine loop_round (K := K_f53_l0) (T := T_f53_l0) K_f53_l0_ok T_f53_l0_ok (p := [0, 1, 0, 1, 1]) (by kernel_rfl) (fun st => bif ckS f53_l0_ls f53_l0_rs st then f53_l0 n ((st.env 13).cellsOf) ((st.env 14).intOf) ((st.env 15).intOf) ((nthV (rowOf (st.regs (.loc 7))) 0).cellsOf) R κ else none) (fun st0 h0 => ?_) ?_
    · obtain ⟨hs, h0⟩ := cond_some h0
      rw [canon (ls := f53_l0_ls) (rs := f53_l0_rs) (by kernel_rfl) st0 hs]
      exact ih _ _ _ _ R κ r h0
    · refine Eq.trans ?_ h
      kernel_rfl

def f53_s0 (v13 : List V) (v14 : Int) (v15 : Int) (out : List V) (R : Type) (κ : Ex → St → Option R) : Option R :=
  κ (.ex 0) (mkS [(6, .bad), (7, .ref ⟨.loc 7, 0, [], 9, false⟩)] [(.loc 7, some ⟨false, [.own 9 false (out ++ v13)]⟩)])
theorem f53_l0_c (v13 : List V) (h1 : v13.all V.isStr = true) (hb : v13.length ≤ 1000000000) : ∀ (m k : Nat) (out : List V), k + m = v13.length → out.length + m ≤ 3000000000 → ∀ n, m < n → ∀ (R : Type) (κ : Ex → St → Option R), f53_l0 n v13 ((v13.length : Nat) : Int) (k : Int) out R κ = κ (.ex 0) (mkS [(6, .bad), (7, .ref ⟨.loc 7, 0, [], 9, false⟩)] [(.loc 7, some ⟨false, [.own 9 false (out ++ v13.drop k)]⟩)]) := by
  intro m
  induction m with
  | zero =>
    intro k out hk ho n hn R κ
    obtain ⟨n, rfl⟩ : ∃ j, n = j + 1 := ⟨n - 1, by omega⟩
    rw [f53_l0, dec_false (by omega), List.drop_of_length_le (by omega), List.append_nil]
    rfl
  | succ m ih =>
    intro k out hk ho n hn R κ
    obtain ⟨n, rfl⟩ : ∃ j, n = j + 1 := ⟨n - 1, by omega⟩
    have k1 : k < v13.length := by omega
    have i1 : V.isStr v13[k] = true := List.all_eq_true.1 h1 _ (List.getElem_mem k1)
    have hr : (roomy ((out.length + 1) * 16) && roomy (out.length + 1)) = true := by
      unfold roomy
      rw [dec_true (by omega), dec_true (by omega)]; rfl
    rw [f53_l0, dec_true (show (k : Int) < ((v13.length : Nat) : Int) by omega), dec_true (show (0 : Int) ≤ (k : Int) by omega), nth_at k1, i1, hr, wrap_succ (by omega), ← isStr_eq i1]
    simp only [Bool.and_true, cond_true]
    rw [ih (k + 1) _ (by omega) (by rw [List.length_append, List.length_singleton]; omega) n (by omega) R κ, List.drop_eq_getElem_cons k1, List.append_assoc]
    rfl
theorem f53_s0_eq (v13 : List V) (v14 : Int) (v15 : Int) (out : List V) (hp : ((v14 == ((v13.length : Nat) : Int)) && (v15 == 0) && v13.all V.isStr && decide (v13.length ≤ 1000000000) && decide (out.length ≤ 1000000000)) = true) : ∃ n, ∀ (R : Type) (κ : Ex → St → Option R), f53_l0 n v13 v14 v15 out R κ = f53_s0 v13 v14 v15 out R κ := by
  simp only [Bool.and_eq_true, decide_eq_true_eq, beq_iff_eq] at hp
  obtain ⟨⟨⟨⟨rfl, rfl⟩, h1⟩, h2⟩, h3⟩ := hp
  exact ⟨v13.length + 1, fun R κ => f53_l0_c v13 h1 h2 v13.length 0 out (by omega) (by omega) _ (by omega) R κ⟩
def t_f53_l0 (st : St) (R : Type) (κ : Ex → St → Option R) : Option R := bif ckS f53_l0_ls f53_l0_rs st then (bif ((((st.env 14).intOf) == ((((st.env 13).cellsOf).length : Nat) : Int)) && (((st.env 15).intOf) == 0) && ((st.env 13).cellsOf).all V.isStr && decide (((st.env 13).cellsOf).length ≤ 1000000000) && decide (((nthV (rowOf (st.regs (.loc 7))) 0).cellsOf).length ≤ 1000000000)) then f53_s0 ((st.env 13).cellsOf) ((st.env 14).intOf) ((st.env 15).intOf) ((nthV (rowOf (st.regs (.loc 7))) 0).cellsOf) R κ else none) else none
theorem t_f53_l0_ok : ∀ st0 R κ r, t_f53_l0 (forget C 53 [0, 1, 0, 1, 1] st0) R κ = some r → ∃ ee ss, κ ee ss = some r ∧ RunP C prim 53 [0, 1, 0, 1, 1] (forget C 53 [0, 1, 0, 1, 1] st0) ee ss := by
  intro st0 R κ r h
  obtain ⟨hs, h⟩ := cond_some h
  obtain ⟨hp, h⟩ := cond_some h
  rw [canon (ls := f53_l0_ls) (rs := f53_l0_rs) (by kernel_rfl) st0 hs]
  obtain ⟨n, hn⟩ := f53_s0_eq _ _ _ _ hp
  rw [← hn] at h
  exact f53_l0_ok n _ _ _ _ R κ r h

def K_f53 : CallK := kNil
theorem K_f53_ok : KOK C prim K_f53 := KOK.nil
def T_f53 : Tab := tCons [0, 1, 0, 1, 1] t_f53_l0 <| tNil
theorem T_f53_ok : TOK C prim 53 T_f53 := TOK.cons t_f53_l0_ok <| TOK.nil
def f53 (l : List V) (from' : Int) (to' : Int) : Option (V × List Rg) :=
  bif ((((((decide ((0 : Int) ≤ from')) && (decide (from' ≤ to'))) && (decide (to' ≤ ((l.length : Nat) : Int)))) && true) && true) && true) then
    bif (((((((l.drop ((from').toNat * 1)).take (((to').toNat - (from').toNat) * 1))).length : Nat) : Int) == ((((l.drop ((from').toNat * 1)).take (((to').toNat - (from').toNat) * 1)).length : Nat) : Int)) && ((0 : Int) == 0) && ((l.drop ((from').toNat * 1)).take (((to').toNat - (from').toNat) * 1)).all V.isStr && decide (((l.drop ((from').toNat * 1)).take (((to').toNat - (from').toNat) * 1)).length ≤ 1000000000) && decide (([] : List V).length ≤ 1000000000)) then
      some (.own 9 false (([] : List V) ++ ((l.drop ((from').toNat * 1)).take (((to').toNat - (from').toNat) * 1))), [])
    else none
  else none
theorem f53_run (l : List V) (from' : Int) (to' : Int) (z9 : V × List Rg) (h : f53 l from' to' = some z9) : CallR C prim 53 [.sl 1 l, .sc (.int .i64 from'), .sc (.int .i64 to')] [] z9 := by
  refine call_fn (K := K_f53) (T := T_f53) K_f53_ok T_f53_ok (by kernel_rfl) ?_
  refine Eq.trans ?_ h
  kernel_rfl

theorem f53_eq (l : List V) (from' : Int) (to' : Int) (hp : (decide (0 ≤ from') && decide (from' ≤ to') && decide (to' ≤ ((l.length : Nat) : Int)) && l.all V.isStr && decide (l.length ≤ 1000000000)) = true) : f53 l from' to' = some (.own 9 false ((l.drop from'.toNat).take (to'.toNat - from'.toNat)), []) := by
  simp only [Bool.and_eq_true, decide_eq_true_eq] at hp
  obtain ⟨⟨⟨⟨h1, h2⟩, h3⟩, h4⟩, h5⟩ := hp
  have hl := len_sub l from'.toNat (to'.toNat - from'.toNat)
  unfold f53
  rw [Nat.mul_one, Nat.mul_one, dec_true h1, dec_true h2, dec_true h3, all_sub h4, dec_true (show ((l.drop from'.toNat).take (to'.toNat - from'.toNat)).length ≤ 1000000000 by omega), beq_self_eq_true]
  rfl
def k53 : PrimT := fun vs gs => match vs, gs with
  | [.sl 1 l, .sc (.int .i64 from'), .sc (.int .i64 to')], [] => ((decide (0 ≤ from') && decide (from' ≤ to') && decide (to' ≤ ((l.length : Nat) : Int)) && l.all V.isStr && decide (l.length ≤ 1000000000)), .own 9 false ((l.drop from'.toNat).take (to'.toNat - from'.toNat)), [])
  | _, _ => (false, .bad, [])
theorem k53_ok : ∀ vs gs x, k53 vs gs = (true, x) → CallR C prim 53 vs gs x := by
  intro vs gs x h
  unfold k53 at h
  split at h
  · simp only [Prod.mk.injEq] at h
    obtain ⟨hp, rfl⟩ := h
    exact f53_run _ _ _ _ (f53_eq _ _ _ hp)
  · cases h

def K_f52_l0 : CallK := kNil
theorem K_f52_l0_ok : KOK C prim K_f52_l0 := KOK.nil
def T_f52_l0 : Tab := tNil
theorem T_f52_l0_ok : TOK C prim 52 T_f52_l0 := TOK.nil
def f52_l0 : Nat → List V → List V → Int → Int → List V → (R : Type) → (Ex → St → Option R) → Option R
  | 0, _, _, _, _, _, _, _ => none
  | n + 1, a, b, v14, v15, n', R, κ =>
    bif (decide (v15 < v14)) then
      bif ((((((((((decide ((0 : Int) ≤ (IntKind.wrap .i64 (((b.length : Nat) : Int) + 1)))) && (decide ((IntKind.wrap .i64 (((b.length : Nat) : Int) + 1)) ≤ (IntKind.wrap .i64 (((b.length : Nat) : Int) + 1))))) && true) && true) && true) && true) && true) && (roomy (((IntKind.wrap .i64 (((b.length : Nat) : Int) + 1))).toNat * 8))) && (roomy ((IntKind.wrap .i64 (((b.length : Nat) : Int) + 1))).toNat)) && true) then
        bif (((decide ((0 : Int) ≤ v15)) && (decide (v15 < ((n'.length : Nat) : Int)))) && true) then
          f52_l0 n a b v14 (IntKind.wrap .i64 (v15 + 1)) (n'.set (((v15).toNat * 1) + 0) (.own 3 false ((List.replicate ((IntKind.wrap .i64 (((b.length : Nat) : Int) + 1))).toNat ([.sc (.int .i64 0)] : List V)).flatten))) R κ
        else none
      else none
    else
      κ (.ex 0) (mkS [(0, .sl 1 a), (1, .sl 1 b), (4, .bad), (5, .ref ⟨.loc 5, 0, [], 48, true⟩)] [(.loc 5, some ⟨false, [.own 48 true n']⟩)])
def f52_l0_ls : List (Nat × Pat) := [(0, .sl 1), (1, .sl 1), (5, .is (.ref ⟨.loc 5, 0, [], 48, true⟩)), (14, .i .i64), (15, .i .i64)]
def f52_l0_rs : List RPat := [⟨.loc 5, false, [.own 48 true]⟩]
theorem f52_l0_ok (n : Nat) : ∀ (a : List V) (b : List V) (v14 : Int) (v15 : Int) (n' : List V) (R : Type) (κ : Ex → St → Option R) (r : R), f52_l0 n a b v14 v15 n' R κ = some r → ∃ ee ss, κ ee ss = some r ∧ RunP C prim 52 [0, 1, 0, 1, 1] (mkS [(0, .sl 1 a), (1, .sl 1 b), (5, .ref ⟨.loc 5, 0, [], 48, true⟩), (14, .sc (.int .i64 v14)), (15, .sc (.int .i64 v15))] [(.loc 5, some ⟨false, [.own 48 true n']⟩)]) ee ss := by
  induction n with
  | zero => intro a b v14 v15 n' R κ r h; cases h
  | succ n ih =>
    intro a b v14 v15 n' R κ r h
    refine loop_round (K := K_f52_l0) (T := T_f52_l0) K_f52_l0_ok T_f52_l0_ok (p := [0, 1, 0, 1, 1]) (by kernel_rfl) (fun st => bif ckS f52_l0_ls f52_l0_rs st then f52_l0 n ((st.env 0).cellsOf) ((st.env 1).cellsOf) ((st.env 14).intOf) ((st.env 15).intOf) ((nthV (rowOf (st.regs (.loc 5))) 0).cellsOf) R κ else none) (fun st0 h0 => ?_) ?_
    · obtain ⟨hs, h0⟩ := cond_some h0
      rw [canon (ls := f52_l0_ls) (rs := f52_l0_rs) (by kernel_rfl) st0 hs]
      exact ih _ _ _ _ _ R κ r h0
    · refine Eq.trans ?_ h
      kernel_rfl

def f52_s0 (a : List V) (b : List V) (v14 : Int) (v15 : Int) (n' : List V) (R : Type) (κ : Ex → St → Option R) : Option R :=
  κ (.ex 0) (mkS [(0, .sl 1 a), (1, .sl 1 b), (4, .bad), (5, .ref ⟨.loc 5, 0, [], 48, true⟩)] [(.loc 5, some ⟨false, [.own 48 true (List.replicate n'.length (zrow b))]⟩)])
theorem f52_l0_c (a b : List V) (z : Nat) (hb : b.length ≤ 2000000) (hz : z ≤ 2000001) : ∀ (m k : Nat) (r : List V), k + m = z → r.length = m → ∀ n, m < n → ∀ (R : Type) (κ : Ex → St → Option R), f52_l0 n a b ((z : Nat) : Int) (k : Int) (List.replicate k (zrow b) ++ r) R κ = κ (.ex 0) (mkS [(0, .sl 1 a), (1, .sl 1 b), (4, .bad), (5, .ref ⟨.loc 5, 0, [], 48, true⟩)] [(.loc 5, some ⟨false, [.own 48 true (List.replicate z (zrow b))]⟩)]) := by
  have hw : IntKind.wrap .i64 (((b.length : Nat) : Int) + 1) = ((b.length + 1 : Nat) : Int) := wrap_succ (by omega)
  intro m
  induction m with
  | zero =>
    intro k r hk hr n hn R κ
    obtain ⟨n, rfl⟩ : ∃ j, n = j + 1 := ⟨n - 1, by omega⟩
    obtain rfl := List.eq_nil_of_length_eq_zero hr
    obtain rfl : k = z := by omega
    rw [f52_l0, dec_false (by omega), List.append_nil]
    rfl
  | succ m ih =>
    intro k r hk hr n hn R κ
    obtain ⟨n, rfl⟩ : ∃ j, n = j + 1 := ⟨n - 1, by omega⟩
    obtain ⟨x, r, rfl⟩ : ∃ x r', r = x :: r' := by cases r with | nil => simp at hr | cons x r => exact ⟨x, r, rfl⟩
    have hlen : (List.replicate k (zrow b) ++ x :: r).length = z := by simp only [List.length_append, List.length_replicate, List.length_cons] at hr ⊢; omega
    have h1 : roomy ((b.length + 1) * 8) = true := by unfold roomy; exact dec_true (by omega)
    have h2 : roomy (b.length + 1) = true := by unfold roomy; exact dec_true (by omega)
    rw [f52_l0, dec_true (show (k : Int) < ((z : Nat) : Int) by omega), hw, hlen, Int.toNat_natCast, Int.toNat_natCast, h1, h2, dec_true (show (0 : Int) ≤ ((b.length + 1 : Nat) : Int) by omega), dec_true (show ((b.length + 1 : Nat) : Int) ≤ ((b.length + 1 : Nat) : Int) by omega), dec_true (show (0 : Int) ≤ (k : Int) by omega), dec_true (show (k : Int) < ((z : Nat) : Int) by omega), flatten_rep, Nat.mul_one, Nat.add_zero, set_rep, wrap_succ (by omega)]
    have := ih (k + 1) r (by omega) (by simpa using hr) n (by omega) R κ
    rw [rep_more] at this
    exact this
theorem f52_s0_eq (a : List V) (b : List V) (v14 : Int) (v15 : Int) (n' : List V) (hp : ((v14 == ((n'.length : Nat) : Int)) && (v15 == 0) && decide (b.length ≤ 2000000) && decide (n'.length ≤ 2000001)) = true) : ∃ n, ∀ (R : Type) (κ : Ex → St → Option R), f52_l0 n a b v14 v15 n' R κ = f52_s0 a b v14 v15 n' R κ := by
  simp only [Bool.and_eq_true, decide_eq_true_eq, beq_iff_eq] at hp
  obtain ⟨⟨⟨rfl, rfl⟩, h1⟩, h2⟩ := hp
  exact ⟨n'.length + 1, fun R κ => f52_l0_c a b n'.length h1 h2 n'.length 0 n' (by omega) rfl _ (by omega) R κ⟩
def t_f52_l0 (st : St) (R : Type) (κ : Ex → St → Option R) : Option R := bif ckS f52_l0_ls f52_l0_rs st then (bif ((((st.env 14).intOf) == ((((nthV (rowOf (st.regs (.loc 5))) 0).cellsOf).length : Nat) : Int)) && (((st.env 15).intOf) == 0) && decide (((st.env 1).cellsOf).length ≤ 2000000) && decide (((nthV (rowOf (st.regs (.loc 5))) 0).cellsOf).length ≤ 2000001)) then f52_s0 ((st.env 0).cellsOf) ((st.env 1).cellsOf) ((st.env 14).intOf) ((st.env 15).intOf) ((nthV (rowOf (st.regs (.loc 5))) 0).cellsOf) R κ else none) else none
theorem t_f52_l0_ok : ∀ st0 R κ r, t_f52_l0 (forget C 52 [0, 1, 0, 1, 1] st0) R κ = some r → ∃ ee ss, κ ee ss = some r ∧ RunP C prim 52 [0, 1, 0, 1, 1] (forget C 52 [0, 1, 0, 1, 1] st0) ee ss := by
  intro st0 R κ r h
  obtain ⟨hs, h⟩ := cond_some h
  obtain ⟨hp, h⟩ := cond_some h
  rw [canon (ls := f52_l0_ls) (rs := f52_l0_rs) (by kernel_rfl) st0 hs]
  obtain ⟨n, hn⟩ := f52_s0_eq _ _ _ _ _ hp
  rw [← hn] at h
  exact f52_l0_ok n _ _ _ _ _ R κ r h

def K_f52_l2 : CallK := kNil
theorem K_f52_l2_ok : KOK C prim K_f52_l2 := KOK.nil
def T_f52_l2 : Tab := tNil
theorem T_f52_l2_ok : TOK C prim 52 T_f52_l2 := TOK.nil
def f52_l2 : Nat → List V → List V → Int → Int → List V → (R : Type) → (Ex → St → Option R) → Option R
  | 0, _, _, _, _, _, _, _ => none
  | n + 1, a, b, i, k, n', R, κ =>
    bif (decide (k ≥ 0)) then
      bif (((decide ((0 : Int) ≤ i)) && (decide (i < ((n'.length : Nat) : Int)))) && true) then
        bif (((V.isOwnD 3 false (nthV n' (((i).toNat * 1) + 0))) && true) && true) then
          bif (((decide ((0 : Int) ≤ (IntKind.wrap .i64 (i + 1)))) && (decide ((IntKind.wrap .i64 (i + 1)) < ((n'.length : Nat) : Int)))) && true) then
            bif (((V.isOwnD 3 false (nthV n' ((((IntKind.wrap .i64 (i + 1))).toNat * 1) + 0))) && true) && true) then
              bif (((((V.isOwnD 3 false (nthV n' ((((IntKind.wrap .i64 (i + 1))).toNat * 1) + 0))) && true) && (decide ((0 : Int) ≤ k))) && (decide (k < ((((V.cellsOf (nthV n' ((((IntKind.wrap .i64 (i + 1))).toNat * 1) + 0)))).length : Nat) : Int)))) && true) then
                bif (((V.isOwnD 3 false (nthV n' ((((IntKind.wrap .i64 (i + 1))).toNat * 1) + 0))) && true) && (((V.isInt .i64 (nthV (V.cellsOf (nthV n' ((((IntKind.wrap .i64 (i + 1))).toNat * 1) + 0))) (((k).toNat * 1) + 0))) && true) && true)) then
                  bif (((decide ((0 : Int) ≤ i)) && (decide (i < ((n'.length : Nat) : Int)))) && true) then
                    bif (((V.isOwnD 3 false (nthV n' (((i).toNat * 1) + 0))) && true) && true) then
                      bif (((((V.isOwnD 3 false (nthV n' (((i).toNat * 1) + 0))) && true) && (decide ((0 : Int) ≤ (IntKind.wrap .i64 (k + 1))))) && (decide ((IntKind.wrap .i64 (k + 1)) < ((((V.cellsOf (nthV n' (((i).toNat * 1) + 0)))).length : Nat) : Int)))) && true) then
                        bif (((V.isOwnD 3 false (nthV n' (((i).toNat * 1) + 0))) && true) && (((V.isInt .i64 (nthV (V.cellsOf (nthV n' (((i).toNat * 1) + 0))) ((((IntKind.wrap .i64 (k + 1))).toNat * 1) + 0))) && true) && true)) then
                          bif (((((V.isOwnD 3 false (nthV n' (((i).toNat * 1) + 0))) && true) && (decide ((0 : Int) ≤ k))) && (decide (k < ((((V.cellsOf (nthV n' (((i).toNat * 1) + 0)))).length : Nat) : Int)))) && true) then
                            bif (((((((V.isOwnD 3 false (nthV n' (((i).toNat * 1) + 0))) && true) && (V.isOwnD 3 false (nthV n' (((i).toNat * 1) + 0)))) && true) && true) && true) && true) then
                              bif (((decide ((0 : Int) ≤ i)) && (decide (i < ((a.length : Nat) : Int)))) && true) then
                                bif (((V.isStr (nthV a (((i).toNat * 1) + 0))) && true) && true) then
                                  bif (((decide ((0 : Int) ≤ k)) && (decide (k < ((b.length : Nat) : Int)))) && true) then
                                    bif (((V.isStr (nthV b (((k).toNat * 1) + 0))) && true) && true) then
                                      bif (strEq (V.strOf (nthV a (((i).toNat * 1) + 0))) (V.strOf (nthV b (((k).toNat * 1) + 0)))) then
                                        bif (((decide ((0 : Int) ≤ i)) && (decide (i < ((((n'.set (((i).toNat * 1) + 0) (setOwn (fun xs => (xs.set (((k).toNat * 1) + 0) (.sc (.int .i64 (bif (decide ((V.intOf (nthV (V.cellsOf (nthV n' (((i).toNat * 1) + 0))) ((((IntKind.wrap .i64 (k + 1))).toNat * 1) + 0))) > (V.intOf (nthV (V.cellsOf (nthV n' ((((IntKind.wrap .i64 (i + 1))).toNat * 1) + 0))) (((k).toNat * 1) + 0))))) then (V.intOf (nthV (V.cellsOf (nthV n' (((i).toNat * 1) + 0))) ((((IntKind.wrap .i64 (k + 1))).toNat * 1) + 0))) else (V.intOf (nthV (V.cellsOf (nthV n' ((((IntKind.wrap .i64 (i + 1))).toNat * 1) + 0))) (((k).toNat * 1) + 0)))))))) (nthV n' (((i).toNat * 1) + 0))))).length : Nat) : Int)))) && true) then
                                          bif (((V.isOwnD 3 false (nthV (n'.set (((i).toNat * 1) + 0) (setOwn (fun xs => (xs.set (((k).toNat * 1) + 0) (.sc (.int .i64 (bif (decide ((V.intOf (nthV (V.cellsOf (nthV n' (((i).toNat * 1) + 0))) ((((IntKind.wrap .i64 (k + 1))).toNat * 1) + 0))) > (V.intOf (nthV (V.cellsOf (nthV n' ((((IntKind.wrap .i64 (i + 1))).toNat * 1) + 0))) (((k).toNat * 1) + 0))))) then (V.intOf (nthV (V.cellsOf (nthV n' (((i).toNat * 1) + 0))) ((((IntKind.wrap .i64 (k + 1))).toNat * 1) + 0))) else (V.intOf (nthV (V.cellsOf (nthV n' ((((IntKind.wrap .i64 (i + 1))).toNat * 1) + 0))) (((k).toNat * 1) + 0)))))))) (nthV n' (((i).toNat * 1) + 0)))) (((i).toNat * 1) + 0))) && true) && true) then
                                            bif (((decide ((0 : Int) ≤ i)) && (decide (i < ((((n'.set (((i).toNat * 1) + 0) (setOwn (fun xs => (xs.set (((k).toNat * 1) + 0) (.sc (.int .i64 (bif (decide ((V.intOf (nthV (V.cellsOf (nthV n' (((i).toNat * 1) + 0))) ((((IntKind.wrap .i64 (k + 1))).toNat * 1) + 0))) > (V.intOf (nthV (V.cellsOf (nthV n' ((((IntKind.wrap .i64 (i + 1))).toNat * 1) + 0))) (((k).toNat * 1) + 0))))) then (V.intOf (nthV (V.cellsOf (nthV n' (((i).toNat * 1) + 0))) ((((IntKind.wrap .i64 (k + 1))).toNat * 1) + 0))) else (V.intOf (nthV (V.cellsOf (nthV n' ((((IntKind.wrap .i64 (i + 1))).toNat * 1) + 0))) (((k).toNat * 1) + 0)))))))) (nthV n' (((i).toNat * 1) + 0))))).length : Nat) : Int)))) && true) then
                                              bif (((V.isOwnD 3 false (nthV (n'.set (((i).toNat * 1) + 0) (setOwn (fun xs => (xs.set (((k).toNat * 1) + 0) (.sc (.int .i64 (bif (decide ((V.intOf (nthV (V.cellsOf (nthV n' (((i).toNat * 1) + 0))) ((((IntKind.wrap .i64 (k + 1))).toNat * 1) + 0))) > (V.intOf (nthV (V.cellsOf (nthV n' ((((IntKind.wrap .i64 (i + 1))).toNat * 1) + 0))) (((k).toNat * 1) + 0))))) then (V.intOf (nthV (V.cellsOf (nthV n' (((i).toNat * 1) + 0))) ((((IntKind.wrap .i64 (k + 1))).toNat * 1) + 0))) else (V.intOf (nthV (V.cellsOf (nthV n' ((((IntKind.wrap .i64 (i + 1))).toNat * 1) + 0))) (((k).toNat * 1) + 0)))))))) (nthV n' (((i).toNat * 1) + 0)))) (((i).toNat * 1) + 0))) && true) && true) then
                                                bif (((((V.isOwnD 3 false (nthV (n'.set (((i).toNat * 1) + 0) (setOwn (fun xs => (xs.set (((k).toNat * 1) + 0) (.sc (.int .i64 (bif (decide ((V.intOf (nthV (V.cellsOf (nthV n' (((i).toNat * 1) + 0))) ((((IntKind.wrap .i64 (k + 1))).toNat * 1) + 0))) > (V.intOf (nthV (V.cellsOf (nthV n' ((((IntKind.wrap .i64 (i + 1))).toNat * 1) + 0))) (((k).toNat * 1) + 0))))) then (V.intOf (nthV (V.cellsOf (nthV n' (((i).toNat * 1) + 0))) ((((IntKind.wrap .i64 (k + 1))).toNat * 1) + 0))) else (V.intOf (nthV (V.cellsOf (nthV n' ((((IntKind.wrap .i64 (i + 1))).toNat * 1) + 0))) (((k).toNat * 1) + 0)))))))) (nthV n' (((i).toNat * 1) + 0)))) (((i).toNat * 1) + 0))) && true) && (decide ((0 : Int) ≤ k))) && (decide (k < ((((V.cellsOf (nthV (n'.set (((i).toNat * 1) + 0) (setOwn (fun xs => (xs.set (((k).toNat * 1) + 0) (.sc (.int .i64 (bif (decide ((V.intOf (nthV (V.cellsOf (nthV n' (((i).toNat * 1) + 0))) ((((IntKind.wrap .i64 (k + 1))).toNat * 1) + 0))) > (V.intOf (nthV (V.cellsOf (nthV n' ((((IntKind.wrap .i64 (i + 1))).toNat * 1) + 0))) (((k).toNat * 1) + 0))))) then (V.intOf (nthV (V.cellsOf (nthV n' (((i).toNat * 1) + 0))) ((((IntKind.wrap .i64 (k + 1))).toNat * 1) + 0))) else (V.intOf (nthV (V.cellsOf (nthV n' ((((IntKind.wrap .i64 (i + 1))).toNat * 1) + 0))) (((k).toNat * 1) + 0)))))))) (nthV n' (((i).toNat * 1) + 0)))) (((i).toNat * 1) + 0)))).length : Nat) : Int)))) && true) then
                                                  bif (((V.isOwnD 3 false (nthV (n'.set (((i).toNat * 1) + 0) (setOwn (fun xs => (xs.set (((k).toNat * 1) + 0) (.sc (.int .i64 (bif (decide ((V.intOf (nthV (V.cellsOf (nthV n' (((i).toNat * 1) + 0))) ((((IntKind.wrap .i64 (k + 1))).toNat * 1) + 0))) > (V.intOf (nthV (V.cellsOf (nthV n' ((((IntKind.wrap .i64 (i + 1))).toNat * 1) + 0))) (((k).toNat * 1) + 0))))) then (V.intOf (nthV (V.cellsOf (nthV n' (((i).toNat * 1) + 0))) ((((IntKind.wrap .i64 (k + 1))).toNat * 1) + 0))) else (V.intOf (nthV (V.cellsOf (nthV n' ((((IntKind.wrap .i64 (i + 1))).toNat * 1) + 0))) (((k).toNat * 1) + 0)))))))) (nthV n' (((i).toNat * 1) + 0)))) (((i).toNat * 1) + 0))) && true) && (((V.isInt .i64 (nthV (V.cellsOf (nthV (n'.set (((i).toNat * 1) + 0) (setOwn (fun xs => (xs.set (((k).toNat * 1) + 0) (.sc (.int .i64 (bif (decide ((V.intOf (nthV (V.cellsOf (nthV n' (((i).toNat * 1) + 0))) ((((IntKind.wrap .i64 (k + 1))).toNat * 1) + 0))) > (V.intOf (nthV (V.cellsOf (nthV n' ((((IntKind.wrap .i64 (i + 1))).toNat * 1) + 0))) (((k).toNat * 1) + 0))))) then (V.intOf (nthV (V.cellsOf (nthV n' (((i).toNat * 1) + 0))) ((((IntKind.wrap .i64 (k + 1))).toNat * 1) + 0))) else (V.intOf (nthV (V.cellsOf (nthV n' ((((IntKind.wrap .i64 (i + 1))).toNat * 1) + 0))) (((k).toNat * 1) + 0)))))))) (nthV n' (((i).toNat * 1) + 0)))) (((i).toNat * 1) + 0))) (((k).toNat * 1) + 0))) && true) && true)) then
                                                    bif (((decide ((0 : Int) ≤ (IntKind.wrap .i64 (i + 1)))) && (decide ((IntKind.wrap .i64 (i + 1)) < ((((n'.set (((i).toNat * 1) + 0) (setOwn (fun xs => (xs.set (((k).toNat * 1) + 0) (.sc (.int .i64 (bif (decide ((V.intOf (nthV (V.cellsOf (nthV n' (((i).toNat * 1) + 0))) ((((IntKind.wrap .i64 (k + 1))).toNat * 1) + 0))) > (V.intOf (nthV (V.cellsOf (nthV n' ((((IntKind.wrap .i64 (i + 1))).toNat * 1) + 0))) (((k).toNat * 1) + 0))))) then (V.intOf (nthV (V.cellsOf (nthV n' (((i).toNat * 1) + 0))) ((((IntKind.wrap .i64 (k + 1))).toNat * 1) + 0))) else (V.intOf (nthV (V.cellsOf (nthV n' ((((IntKind.wrap .i64 (i + 1))).toNat * 1) + 0))) (((k).toNat * 1) + 0)))))))) (nthV n' (((i).toNat * 1) + 0))))).length : Nat) : Int)))) && true) then
                                                      bif (((V.isOwnD 3 false (nthV (n'.set (((i).toNat * 1) + 0) (setOwn (fun xs => (xs.set (((k).toNat * 1) + 0) (.sc (.int .i64 (bif (decide ((V.intOf (nthV (V.cellsOf (nthV n' (((i).toNat * 1) + 0))) ((((IntKind.wrap .i64 (k + 1))).toNat * 1) + 0))) > (V.intOf (nthV (V.cellsOf (nthV n' ((((IntKind.wrap .i64 (i + 1))).toNat * 1) + 0))) (((k).toNat * 1) + 0))))) then (V.intOf (nthV (V.cellsOf (nthV n' (((i).toNat * 1) + 0))) ((((IntKind.wrap .i64 (k + 1))).toNat * 1) + 0))) else (V.intOf (nthV (V.cellsOf (nthV n' ((((IntKind.wrap .i64 (i + 1))).toNat * 1) + 0))) (((k).toNat * 1) + 0)))))))) (nthV n' (((i).toNat * 1) + 0)))) ((((IntKind.wrap .i64 (i + 1))).toNat * 1) + 0))) && true) && true) then
                                                        bif (((((V.isOwnD 3 false (nthV (n'.set (((i).toNat * 1) + 0) (setOwn (fun xs => (xs.set (((k).toNat * 1) + 0) (.sc (.int .i64 (bif (decide ((V.intOf (nthV (V.cellsOf (nthV n' (((i).toNat * 1) + 0))) ((((IntKind.wrap .i64 (k + 1))).toNat * 1) + 0))) > (V.intOf (nthV (V.cellsOf (nthV n' ((((IntKind.wrap .i64 (i + 1))).toNat * 1) + 0))) (((k).toNat * 1) + 0))))) then (V.intOf (nthV (V.cellsOf (nthV n' (((i).toNat * 1) + 0))) ((((IntKind.wrap .i64 (k + 1))).toNat * 1) + 0))) else (V.intOf (nthV (V.cellsOf (nthV n' ((((IntKind.wrap .i64 (i + 1))).toNat * 1) + 0))) (((k).toNat * 1) + 0)))))))) (nthV n' (((i).toNat * 1) + 0)))) ((((IntKind.wrap .i64 (i + 1))).toNat * 1) + 0))) && true) && (decide ((0 : Int) ≤ (IntKind.wrap .i64 (k + 1))))) && (decide ((IntKind.wrap .i64 (k + 1)) < ((((V.cellsOf (nthV (n'.set (((i).toNat * 1) + 0) (setOwn (fun xs => (xs.set (((k).toNat * 1) + 0) (.sc (.int .i64 (bif (decide ((V.intOf (nthV (V.cellsOf (nthV n' (((i).toNat * 1) + 0))) ((((IntKind.wrap .i64 (k + 1))).toNat * 1) + 0))) > (V.intOf (nthV (V.cellsOf (nthV n' ((((IntKind.wrap .i64 (i + 1))).toNat * 1) + 0))) (((k).toNat * 1) + 0))))) then (V.intOf (nthV (V.cellsOf (nthV n' (((i).toNat * 1) + 0))) ((((IntKind.wrap .i64 (k + 1))).toNat * 1) + 0))) else (V.intOf (nthV (V.cellsOf (nthV n' ((((IntKind.wrap .i64 (i + 1))).toNat * 1) + 0))) (((k).toNat * 1) + 0)))))))) (nthV n' (((i).toNat * 1) + 0)))) ((((IntKind.wrap .i64 (i + 1))).toNat * 1) + 0)))).length : Nat) : Int)))) && true) then
                                                          bif (((V.isOwnD 3 false (nthV (n'.set (((i).toNat * 1) + 0) (setOwn (fun xs => (xs.set (((k).toNat * 1) + 0) (.sc (.int .i64 (bif (decide ((V.intOf (nthV (V.cellsOf (nthV n' (((i).toNat * 1) + 0))) ((((IntKind.wrap .i64 (k + 1))).toNat * 1) + 0))) > (V.intOf (nthV (V.cellsOf (nthV n' ((((IntKind.wrap .i64 (i + 1))).toNat * 1) + 0))) (((k).toNat * 1) + 0))))) then (V.intOf (nthV (V.cellsOf (nthV n' (((i).toNat * 1) + 0))) ((((IntKind.wrap .i64 (k + 1))).toNat * 1) + 0))) else (V.intOf (nthV (V.cellsOf (nthV n' ((((IntKind.wrap .i64 (i + 1))).toNat * 1) + 0))) (((k).toNat * 1) + 0)))))))) (nthV n' (((i).toNat * 1) + 0)))) ((((IntKind.wrap .i64 (i + 1))).toNat * 1) + 0))) && true) && (((V.isInt .i64 (nthV (V.cellsOf (nthV (n'.set (((i).toNat * 1) + 0) (setOwn (fun xs => (xs.set (((k).toNat * 1) + 0) (.sc (.int .i64 (bif (decide ((V.intOf (nthV (V.cellsOf (nthV n' (((i).toNat * 1) + 0))) ((((IntKind.wrap .i64 (k + 1))).toNat * 1) + 0))) > (V.intOf (nthV (V.cellsOf (nthV n' ((((IntKind.wrap .i64 (i + 1))).toNat * 1) + 0))) (((k).toNat * 1) + 0))))) then (V.intOf (nthV (V.cellsOf (nthV n' (((i).toNat * 1) + 0))) ((((IntKind.wrap .i64 (k + 1))).toNat * 1) + 0))) else (V.intOf (nthV (V.cellsOf (nthV n' ((((IntKind.wrap .i64 (i + 1))).toNat * 1) + 0))) (((k).toNat * 1) + 0)))))))) (nthV n' (((i).toNat * 1) + 0)))) ((((IntKind.wrap .i64 (i + 1))).toNat * 1) + 0))) ((((IntKind.wrap .i64 (k + 1))).toNat * 1) + 0))) && true) && true)) then
                                                            bif (((((V.isOwnD 3 false (nthV (n'.set (((i).toNat * 1) + 0) (setOwn (fun xs => (xs.set (((k).toNat * 1) + 0) (.sc (.int .i64 (bif (decide ((V.intOf (nthV (V.cellsOf (nthV n' (((i).toNat * 1) + 0))) ((((IntKind.wrap .i64 (k + 1))).toNat * 1) + 0))) > (V.intOf (nthV (V.cellsOf (nthV n' ((((IntKind.wrap .i64 (i + 1))).toNat * 1) + 0))) (((k).toNat * 1) + 0))))) then (V.intOf (nthV (V.cellsOf (nthV n' (((i).toNat * 1) + 0))) ((((IntKind.wrap .i64 (k + 1))).toNat * 1) + 0))) else (V.intOf (nthV (V.cellsOf (nthV n' ((((IntKind.wrap .i64 (i + 1))).toNat * 1) + 0))) (((k).toNat * 1) + 0)))))))) (nthV n' (((i).toNat * 1) + 0)))) (((i).toNat * 1) + 0))) && true) && (decide ((0 : Int) ≤ k))) && (decide (k < ((((V.cellsOf (nthV (n'.set (((i).toNat * 1) + 0) (setOwn (fun xs => (xs.set (((k).toNat * 1) + 0) (.sc (.int .i64 (bif (decide ((V.intOf (nthV (V.cellsOf (nthV n' (((i).toNat * 1) + 0))) ((((IntKind.wrap .i64 (k + 1))).toNat * 1) + 0))) > (V.intOf (nthV (V.cellsOf (nthV n' ((((IntKind.wrap .i64 (i + 1))).toNat * 1) + 0))) (((k).toNat * 1) + 0))))) then (V.intOf (nthV (V.cellsOf (nthV n' (((i).toNat * 1) + 0))) ((((IntKind.wrap .i64 (k + 1))).toNat * 1) + 0))) else (V.intOf (nthV (V.cellsOf (nthV n' ((((IntKind.wrap .i64 (i + 1))).toNat * 1) + 0))) (((k).toNat * 1) + 0)))))))) (nthV n' (((i).toNat * 1) + 0)))) (((i).toNat * 1) + 0)))).length : Nat) : Int)))) && true) then
                                                              bif (((((((V.isOwnD 3 false (nthV (n'.set (((i).toNat * 1) + 0) (setOwn (fun xs => (xs.set (((k).toNat * 1) + 0) (.sc (.int .i64 (bif (decide ((V.intOf (nthV (V.cellsOf (nthV n' (((i).toNat * 1) + 0))) ((((IntKind.wrap .i64 (k + 1))).toNat * 1) + 0))) > (V.intOf (nthV (V.cellsOf (nthV n' ((((IntKind.wrap .i64 (i + 1))).toNat * 1) + 0))) (((k).toNat * 1) + 0))))) then (V.intOf (nthV (V.cellsOf (nthV n' (((i).toNat * 1) + 0))) ((((IntKind.wrap .i64 (k + 1))).toNat * 1) + 0))) else (V.intOf (nthV (V.cellsOf (nthV n' ((((IntKind.wrap .i64 (i + 1))).toNat * 1) + 0))) (((k).toNat * 1) + 0)))))))) (nthV n' (((i).toNat * 1) + 0)))) (((i).toNat * 1) + 0))) && true) && (V.isOwnD 3 false (nthV (n'.set (((i).toNat * 1) + 0) (setOwn (fun xs => (xs.set (((k).toNat * 1) + 0) (.sc (.int .i64 (bif (decide ((V.intOf (nthV (V.cellsOf (nthV n' (((i).toNat * 1) + 0))) ((((IntKind.wrap .i64 (k + 1))).toNat * 1) + 0))) > (V.intOf (nthV (V.cellsOf (nthV n' ((((IntKind.wrap .i64 (i + 1))).toNat * 1) + 0))) (((k).toNat * 1) + 0))))) then (V.intOf (nthV (V.cellsOf (nthV n' (((i).toNat * 1) + 0))) ((((IntKind.wrap .i64 (k + 1))).toNat * 1) + 0))) else (V.intOf (nthV (V.cellsOf (nthV n' ((((IntKind.wrap .i64 (i + 1))).toNat * 1) + 0))) (((k).toNat * 1) + 0)))))))) (nthV n' (((i).toNat * 1) + 0)))) (((i).toNat * 1) + 0)))) && true) && true) && true) && true) then
                                                                f52_l2 n a b i (IntKind.wrap .i64 (k - 1)) ((n'.set (((i).toNat * 1) + 0) (setOwn (fun xs => (xs.set (((k).toNat * 1) + 0) (.sc (.int .i64 (bif (decide ((V.intOf (nthV (V.cellsOf (nthV n' (((i).toNat * 1) + 0))) ((((IntKind.wrap .i64 (k + 1))).toNat * 1) + 0))) > (V.intOf (nthV (V.cellsOf (nthV n' ((((IntKind.wrap .i64 (i + 1))).toNat * 1) + 0))) (((k).toNat * 1) + 0))))) then (V.intOf (nthV (V.cellsOf (nthV n' (((i).toNat * 1) + 0))) ((((IntKind.wrap .i64 (k + 1))).toNat * 1) + 0))) else (V.intOf (nthV (V.cellsOf (nthV n' ((((IntKind.wrap .i64 (i + 1))).toNat * 1) + 0))) (((k).toNat * 1) + 0)))))))) (nthV n' (((i).toNat * 1) + 0)))).set (((i).toNat * 1) + 0) (setOwn (fun xs => (xs.set (((k).toNat * 1) + 0) (.sc (.int .i64 (bif (decide ((IntKind.wrap .i64 ((V.intOf (nthV (V.cellsOf (nthV (n'.set (((i).toNat * 1) + 0) (setOwn (fun xs => (xs.set (((k).toNat * 1) + 0) (.sc (.int .i64 (bif (decide ((V.intOf (nthV (V.cellsOf (nthV n' (((i).toNat * 1) + 0))) ((((IntKind.wrap .i64 (k + 1))).toNat * 1) + 0))) > (V.intOf (nthV (V.cellsOf (nthV n' ((((IntKind.wrap .i64 (i + 1))).toNat * 1) + 0))) (((k).toNat * 1) + 0))))) then (V.intOf (nthV (V.cellsOf (nthV n' (((i).toNat * 1) + 0))) ((((IntKind.wrap .i64 (k + 1))).toNat * 1) + 0))) else (V.intOf (nthV (V.cellsOf (nthV n' ((((IntKind.wrap .i64 (i + 1))).toNat * 1) + 0))) (((k).toNat * 1) + 0)))))))) (nthV n' (((i).toNat * 1) + 0)))) ((((IntKind.wrap .i64 (i + 1))).toNat * 1) + 0))) ((((IntKind.wrap .i64 (k + 1))).toNat * 1) + 0))) + 1)) > (V.intOf (nthV (V.cellsOf (nthV (n'.set (((i).toNat * 1) + 0) (setOwn (fun xs => (xs.set (((k).toNat * 1) + 0) (.sc (.int .i64 (bif (decide ((V.intOf (nthV (V.cellsOf (nthV n' (((i).toNat * 1) + 0))) ((((IntKind.wrap .i64 (k + 1))).toNat * 1) + 0))) > (V.intOf (nthV (V.cellsOf (nthV n' ((((IntKind.wrap .i64 (i + 1))).toNat * 1) + 0))) (((k).toNat * 1) + 0))))) then (V.intOf (nthV (V.cellsOf (nthV n' (((i).toNat * 1) + 0))) ((((IntKind.wrap .i64 (k + 1))).toNat * 1) + 0))) else (V.intOf (nthV (V.cellsOf (nthV n' ((((IntKind.wrap .i64 (i + 1))).toNat * 1) + 0))) (((k).toNat * 1) + 0)))))))) (nthV n' (((i).toNat * 1) + 0)))) (((i).toNat * 1) + 0))) (((k).toNat * 1) + 0))))) then (IntKind.wrap .i64 ((V.intOf (nthV (V.cellsOf (nthV (n'.set (((i).toNat * 1) + 0) (setOwn (fun xs => (xs.set (((k).toNat * 1) + 0) (.sc (.int .i64 (bif (decide ((V.intOf (nthV (V.cellsOf (nthV n' (((i).toNat * 1) + 0))) ((((IntKind.wrap .i64 (k + 1))).toNat * 1) + 0))) > (V.intOf (nthV (V.cellsOf (nthV n' ((((IntKind.wrap .i64 (i + 1))).toNat * 1) + 0))) (((k).toNat * 1) + 0))))) then (V.intOf (nthV (V.cellsOf (nthV n' (((i).toNat * 1) + 0))) ((((IntKind.wrap .i64 (k + 1))).toNat * 1) + 0))) else (V.intOf (nthV (V.cellsOf (nthV n' ((((IntKind.wrap .i64 (i + 1))).toNat * 1) + 0))) (((k).toNat * 1) + 0)))))))) (nthV n' (((i).toNat * 1) + 0)))) ((((IntKind.wrap .i64 (i + 1))).toNat * 1) + 0))) ((((IntKind.wrap .i64 (k + 1))).toNat * 1) + 0))) + 1)) else (V.intOf (nthV (V.cellsOf (nthV (n'.set (((i).toNat * 1) + 0) (setOwn (fun xs => (xs.set (((k).toNat * 1) + 0) (.sc (.int .i64 (bif (decide ((V.intOf (nthV (V.cellsOf (nthV n' (((i).toNat * 1) + 0))) ((((IntKind.wrap .i64 (k + 1))).toNat * 1) + 0))) > (V.intOf (nthV (V.cellsOf (nthV n' ((((IntKind.wrap .i64 (i + 1))).toNat * 1) + 0))) (((k).toNat * 1) + 0))))) then (V.intOf (nthV (V.cellsOf (nthV n' (((i).toNat * 1) + 0))) ((((IntKind.wrap .i64 (k + 1))).toNat * 1) + 0))) else (V.intOf (nthV (V.cellsOf (nthV n' ((((IntKind.wrap .i64 (i + 1))).toNat * 1) + 0))) (((k).toNat * 1) + 0)))))))) (nthV n' (((i).toNat * 1) + 0)))) (((i).toNat * 1) + 0))) (((k).toNat * 1) + 0)))))))) (nthV (n'.set (((i).toNat * 1) + 0) (setOwn (fun xs => (xs.set (((k).toNat * 1) + 0) (.sc (.int .i64 (bif (decide ((V.intOf (nthV (V.cellsOf (nthV n' (((i).toNat * 1) + 0))) ((((IntKind.wrap .i64 (k + 1))).toNat * 1) + 0))) > (V.intOf (nthV (V.cellsOf (nthV n' ((((IntKind.wrap .i64 (i + 1))).toNat * 1) + 0))) (((k).toNat * 1) + 0))))) then (V.intOf (nthV (V.cellsOf (nthV n' (((i).toNat * 1) + 0))) ((((IntKind.wrap .i64 (k + 1))).toNat * 1) + 0))) else (V.intOf (nthV (V.cellsOf (nthV n' ((((IntKind.wrap .i64 (i + 1))).toNat * 1) + 0))) (((k).toNat * 1) + 0)))))))) (nthV n' (((i).toNat * 1) + 0)))) (((i).toNat * 1) + 0)))) R κ
                                                              else none
                                                            else none
                                                          else none
                                                        else none
                                                      else none
                                                    else none
                                                  else none
                                                else none
                                              else none
                                            else none
                                          else none
                                        else none
                                      else
                                        f52_l2 n a b i (IntKind.wrap .i64 (k - 1)) (n'.set (((i).toNat * 1) + 0) (setOwn (fun xs => (xs.set (((k).toNat * 1) + 0) (.sc (.int .i64 (bif (decide ((V.intOf (nthV (V.cellsOf (nthV n' (((i).toNat * 1) + 0))) ((((IntKind.wrap .i64 (k + 1))).toNat * 1) + 0))) > (V.intOf (nthV (V.cellsOf (nthV n' ((((IntKind.wrap .i64 (i + 1))).toNat * 1) + 0))) (((k).toNat * 1) + 0))))) then (V.intOf (nthV (V.cellsOf (nthV n' (((i).toNat * 1) + 0))) ((((IntKind.wrap .i64 (k + 1))).toNat * 1) + 0))) else (V.intOf (nthV (V.cellsOf (nthV n' ((((IntKind.wrap .i64 (i + 1))).toNat * 1) + 0))) (((k).toNat * 1) + 0)))))))) (nthV n' (((i).toNat * 1) + 0)))) R κ
                                    else none
                                  else none
                                else none
                              else none
                            else none
                          else none
                        else none
                      else none
                    else none
                  else none
                else none
              else none
            else none
          else none
        else none
      else none
    else
      κ (.ex 4) (mkS [(0, .sl 1 a), (1, .sl 1 b), (4, .bad), (5, .ref ⟨.loc 5, 0, [], 48, true⟩), (7, .sc (.int .i64 i))] [(.loc 5, some ⟨false, [.own 48 true n']⟩)])
def f52_l2_ls : List (Nat × Pat) := [(0, .sl 1), (1, .sl 1), (5, .is (.ref ⟨.loc 5, 0, [], 48, true⟩)), (7, .i .i64), (8, .i .i64)]
def f52_l2_rs : List RPat := [⟨.loc 5, false, [.own 48 true]⟩]
theorem f52_l2_ok (n : Nat) : ∀ (a : List V) (b : List V) (i : Int) (k : Int) (n' : List V) (R : Type) (κ : Ex → St → Option R) (r : R), f52_l2 n a b i k n' R κ = some r → ∃ ee ss, κ ee ss = some r ∧ RunP C prim 52 [0, 1, 0, 0, 1, 0, 0, 1, 0, 1, 1, 1] (mkS [(0, .sl 1 a), (1, .sl 1 b), (5, .ref ⟨.loc 5, 0, [], 48, true⟩), (7, .sc (.int .i64 i)), (8, .sc (.int .i64 k))] [(.loc 5, some ⟨false, [.own 48 true n']⟩)]) ee ss := by
  induction n with
  | zero => intro a b i k n' R κ r h; cases h
  | succ n ih =>
    intro a b i k n' R κ r h
    refine loop_round (K := K_f52_l2) (T := T_f52_l2) K_f52_l2_ok T_f52_l2_ok (p := [0, 1, 0, 0, 1, 0, 0, 1, 0, 1, 1, 1]) (by kernel_rfl) (fun st => bif ckS f52_l2_ls f52_l2_rs st then f52_l2 n ((st.env 0).cellsOf) ((st.env 1).cellsOf) ((st.env 7).intOf) ((st.env 8).intOf) ((nthV (rowOf (st.regs (.loc 5))) 0).cellsOf) R κ else none) (fun st0 h0 => ?_) ?_
    · obtain ⟨hs, h0⟩ := cond_some h0
      rw [canon (ls := f52_l2_ls) (rs := f52_l2_rs) (by kernel_rfl) st0 hs]
      exact ih _ _ _ _ _ R κ r h0
    · refine Eq.trans ?_ h
      kernel_rfl

def f52_s2 (a : List V) (b : List V) (i : Int) (k : Int) (n' : List V) (R : Type) (κ : Ex → St → Option R) : Option R :=
  κ (.ex 4) (mkS [(0, .sl 1 a), (1, .sl 1 b), (4, .bad), (5, .ref ⟨.loc 5, 0, [], 48, true⟩), (7, .sc (.int .i64 i))] [(.loc 5, some ⟨false, [.own 48 true (n'.set i.toNat (rowO (a.drop i.toNat) b))]⟩)])
theorem f52_r2 (n : Nat) (a b T cur nxt : List V) (i k p q r : Nat) (ha : a.all V.isStr = true) (hb : b.all V.isStr = true) (la : a.length ≤ 2000000) (lb : b.length ≤ 2000000)
    (hi : i < a.length) (hk : k < b.length) (hT : T.length = a.length + 1) (h0 : nthV T i = .own 3 false cur) (h1 : nthV T (i + 1) = .own 3 false nxt) (lc : cur.length = b.length + 1) (ln : nxt.length = b.length + 1)
    (e1 : nthV nxt k = cellN p) (e2 : nthV cur (k + 1) = cellN q) (e3 : nthV nxt (k + 1) = cellN r) (hr : r ≤ 2000000) (R : Type) (κ : Ex → St → Option R) :
    f52_l2 (n + 1) a b (i : Int) (k : Int) T R κ = f52_l2 n a b (i : Int) ((k : Int) - 1) (T.set i (.own 3 false (cur.set k (cellN (bif strEq a[i].strOf b[k].strOf then max (max p q) (r + 1) else max p q))))) R κ := by
  have ia : V.isStr a[i] = true := List.all_eq_true.1 ha _ (List.getElem_mem hi)
  have ib : V.isStr b[k] = true := List.all_eq_true.1 hb _ (List.getElem_mem hk)
  have w1 : IntKind.wrap .i64 ((i : Int) + 1) = ((i + 1 : Nat) : Int) := wrap_succ (by omega)
  have w2 : IntKind.wrap .i64 ((k : Int) + 1) = ((k + 1 : Nat) : Int) := wrap_succ (by omega)
  have w3 : IntKind.wrap .i64 ((k : Int) - 1) = (k : Int) - 1 := wrap_pred (by omega)
  have w4 : IntKind.wrap .i64 ((r : Int) + 1) = ((r + 1 : Nat) : Int) := wrap_succ (by omega)
  have s0 : ∀ x : V, nthV (T.set i x) i = x := fun x => nthV_set (by omega)
  have s1 : ∀ x : V, nthV (T.set i x) (i + 1) = nthV T (i + 1) := fun x => nthV_set_ne2 (by omega)
  have c0 : ∀ x : V, nthV (cur.set k x) k = x := fun x => nthV_set (by omega)
  have d1 : decide ((k : Int) ≥ 0) = true := dec_true (by omega)
  have d2 : decide ((0 : Int) ≤ (i : Int)) = true := dec_true (by omega)
  have d3 : decide ((i : Int) < ((a.length + 1 : Nat) : Int)) = true := dec_true (by omega)
  have d4 : decide ((0 : Int) ≤ ((i + 1 : Nat) : Int)) = true := dec_true (by omega)
  have d5 : decide (((i + 1 : Nat) : Int) < ((a.length + 1 : Nat) : Int)) = true := dec_true (by omega)
  have d6 : decide ((0 : Int) ≤ (k : Int)) = true := dec_true (by omega)
  have d7 : decide ((k : Int) < ((b.length + 1 : Nat) : Int)) = true := dec_true (by omega)
  have d8 : decide ((0 : Int) ≤ ((k + 1 : Nat) : Int)) = true := dec_true (by omega)
  have d9 : decide (((k + 1 : Nat) : Int) < ((b.length + 1 : Nat) : Int)) = true := dec_true (by omega)
  have d10 : decide ((i : Int) < ((a.length : Nat) : Int)) = true := dec_true (by omega)
  have d11 : decide ((k : Int) < ((b.length : Nat) : Int)) = true := dec_true (by omega)
  rw [f52_l2]
  simp only [w1, w2, w3, Int.toNat_natCast, Nat.mul_one, Nat.add_zero, h0, h1, isOwnD_own, cellsOf_own, setOwn_own, List.length_set, hT, lc, ln, e1, e2, e3, isInt_cellN, intOf_cellN, maxI, cellN_fold, s0, s1, c0, List.set_set, w4,
    nthV_lt hi, nthV_lt hk, ia, ib, d1, d2, d3, d4, d5, d6, d7, d8, d9, d10, d11, Bool.and_true, Bool.true_and, cond_true]
  cases strEq a[i].strOf b[k].strOf <;> rfl
theorem f52_l2_c (a b T : List V) (i : Nat) (ha : a.all V.isStr = true) (hb : b.all V.isStr = true) (la : a.length ≤ 2000000) (lb : b.length ≤ 2000000)
    (hi : i < a.length) (hT : T.length = a.length + 1) (h1 : nthV T (i + 1) = rowO (a.drop (i + 1)) b) : ∀ m, m ≤ b.length → ∀ n, m < n → ∀ (R : Type) (κ : Ex → St → Option R),
    f52_l2 n a b (i : Int) ((m : Int) - 1) (T.set i (.own 3 false (List.replicate m (.sc (.int .i64 0)) ++ rowV (a.drop i) (b.drop m)))) R κ =
      κ (.ex 4) (mkS [(0, .sl 1 a), (1, .sl 1 b), (4, .bad), (5, .ref ⟨.loc 5, 0, [], 48, true⟩), (7, .sc (.int .i64 (i : Int)))] [(.loc 5, some ⟨false, [.own 48 true (T.set i (rowO (a.drop i) b))]⟩)]) := by
  intro m
  induction m with
  | zero =>
    intro _ n hn R κ
    obtain ⟨n, rfl⟩ : ∃ j, n = j + 1 := ⟨n - 1, by omega⟩
    rw [f52_l2, dec_false (by omega)]
    rfl
  | succ m ih =>
    intro hm n hn R κ
    obtain ⟨n, rfl⟩ : ∃ j, n = j + 1 := ⟨n - 1, by omega⟩
    have hk : m < b.length := by omega
    have hl1 := lcs_le (a.drop (i + 1)) (b.drop (m + 1))
    rw [List.length_drop] at hl1
    have hd : (b.drop (m + 1)).length = b.length - (m + 1) := List.length_drop ..
    have hq : nthV (List.replicate (m + 1) (V.sc (.int .i64 0)) ++ rowV (a.drop i) (b.drop (m + 1))) (m + 1) = cellN (lcs (a.drop i) (b.drop (m + 1))) := by
      have := nthV_rep (V.sc (.int .i64 0)) (rowV (a.drop i) (b.drop (m + 1))) 0 (m + 1)
      rw [Nat.add_zero] at this
      rw [this, rowV_nth _ _ 0 (Nat.zero_le _), List.drop_zero]
    rw [show (((m + 1 : Nat) : Int) - 1) = (m : Int) by omega]
    rw [f52_r2 n a b _ _ (rowV (a.drop (i + 1)) b) i m (lcs (a.drop (i + 1)) (b.drop m)) (lcs (a.drop i) (b.drop (m + 1))) (lcs (a.drop (i + 1)) (b.drop (m + 1))) ha hb la lb hi hk
      (by rw [List.length_set, hT]) (nthV_set (by omega)) (by rw [nthV_set_ne2 (by omega), h1]; rfl) (by rw [List.length_append, List.length_replicate, rowV_len, hd]; omega) (rowV_len _ _) (rowV_nth _ _ _ (by omega)) hq (rowV_nth _ _ _ (by omega)) (by omega) R κ, List.set_set, rep_more, set_rep]
    have hv : (bif strEq a[i].strOf b[m].strOf then max (max (lcs (a.drop (i + 1)) (b.drop m)) (lcs (a.drop i) (b.drop (m + 1)))) (lcs (a.drop (i + 1)) (b.drop (m + 1)) + 1) else max (lcs (a.drop (i + 1)) (b.drop m)) (lcs (a.drop i) (b.drop (m + 1)))) = lcs (a.drop i) (b.drop m) := by
      rw [List.drop_eq_getElem_cons hi, List.drop_eq_getElem_cons hk]
      exact lcs_kept _ _ _ _
    have hrow : cellN (lcs (a.drop i) (b.drop m)) :: rowV (a.drop i) (b.drop (m + 1)) = rowV (a.drop i) (b.drop m) := by
      rw [List.drop_eq_getElem_cons hk]; rfl
    rw [hv, hrow]
    exact ih (by omega) n (by omega) R κ
theorem start_row {T : List V} {i : Nat} {a b : List V} (hi : i < T.length) (h : ownRow (nthV T i) (zeros b) = true) : T.set i (.own 3 false (List.replicate b.length (.sc (.int .i64 0)) ++ rowV a (b.drop b.length))) = T := by
  refine set_same2 hi ?_
  rw [ownRow_eq h, List.drop_length, rowV, zeros, List.replicate_succ']
theorem f52_s2_eq (a : List V) (b : List V) (i : Int) (k : Int) (n' : List V) (hp : (decide (0 ≤ i) && decide (i < ((a.length : Nat) : Int)) && (n'.length == a.length + 1) && a.all V.isStr && b.all V.isStr && decide (a.length ≤ 2000000) && decide (b.length ≤ 2000000) && (k + 1 == ((b.length : Nat) : Int)) && ownRow (nthV n' i.toNat) (zeros b) && ownRow (nthV n' (i.toNat + 1)) (rowV (a.drop (i.toNat + 1)) b)) = true) : ∃ n, ∀ (R : Type) (κ : Ex → St → Option R), f52_l2 n a b i k n' R κ = f52_s2 a b i k n' R κ := by
  simp only [Bool.and_eq_true, decide_eq_true_eq, beq_iff_eq] at hp
  obtain ⟨⟨⟨⟨⟨⟨⟨⟨⟨h1, h2⟩, h3⟩, h4⟩, h5⟩, h6⟩, h7⟩, h8⟩, h9⟩, h10⟩ := hp
  obtain ⟨i, rfl⟩ : ∃ j : Nat, i = (j : Int) := ⟨i.toNat, by omega⟩
  rw [Int.toNat_natCast] at h9 h10
  obtain rfl : k = (b.length : Int) - 1 := by omega
  refine ⟨b.length + 1, fun R κ => ?_⟩
  have := f52_l2_c a b n' i h4 h5 h6 h7 (by omega) h3 (ownRow_eq h10) b.length (Nat.le_refl _) (b.length + 1) (by omega) R κ
  rw [start_row (by omega) h9] at this
  exact this
def t_f52_l2 (st : St) (R : Type) (κ : Ex → St → Option R) : Option R := bif ckS f52_l2_ls f52_l2_rs st then (bif (decide (0 ≤ ((st.env 7).intOf)) && decide (((st.env 7).intOf) < ((((st.env 0).cellsOf).length : Nat) : Int)) && (((nthV (rowOf (st.regs (.loc 5))) 0).cellsOf).length == ((st.env 0).cellsOf).length + 1) && ((st.env 0).cellsOf).all V.isStr && ((st.env 1).cellsOf).all V.isStr && decide (((st.env 0).cellsOf).length ≤ 2000000) && decide (((st.env 1).cellsOf).length ≤ 2000000) && (((st.env 8).intOf) + 1 == ((((st.env 1).cellsOf).length : Nat) : Int)) && ownRow (nthV ((nthV (rowOf (st.regs (.loc 5))) 0).cellsOf) ((st.env 7).intOf).toNat) (zeros ((st.env 1).cellsOf)) && ownRow (nthV ((nthV (rowOf (st.regs (.loc 5))) 0).cellsOf) (((st.env 7).intOf).toNat + 1)) (rowV (((st.env 0).cellsOf).drop (((st.env 7).intOf).toNat + 1)) ((st.env 1).cellsOf))) then f52_s2 ((st.env 0).cellsOf) ((st.env 1).cellsOf) ((st.env 7).intOf) ((st.env 8).intOf) ((nthV (rowOf (st.regs (.loc 5))) 0).cellsOf) R κ else none) else none
theorem t_f52_l2_ok : ∀ st0 R κ r, t_f52_l2 (forget C 52 [0, 1, 0, 0, 1, 0, 0, 1, 0, 1, 1, 1] st0) R κ = some r → ∃ ee ss, κ ee ss = some r ∧ RunP C prim 52 [0, 1, 0, 0, 1, 0, 0, 1, 0, 1, 1, 1] (forget C 52 [0, 1, 0, 0, 1, 0, 0, 1, 0, 1, 1, 1] st0) ee ss := by
  intro st0 R κ r h
  obtain ⟨hs, h⟩ := cond_some h
  obtain ⟨hp, h⟩ := cond_some h
  rw [canon (ls := f52_l2_ls) (rs := f52_l2_rs) (by kernel_rfl) st0 hs]
  obtain ⟨n, hn⟩ := f52_s2_eq _ _ _ _ _ hp
  rw [← hn] at h
  exact f52_l2_ok n _ _ _ _ _ R κ r h

def K_f52_l1 : CallK := kNil
theorem K_f52_l1_ok : KOK C prim K_f52_l1 := KOK.nil
def T_f52_l1 : Tab := tCons [0, 1, 0, 0, 1, 0, 0, 1, 0, 1, 1, 1] t_f52_l2 <| tNil
theorem T_f52_l1_ok : TOK C prim 52 T_f52_l1 := TOK.cons t_f52_l2_ok <| TOK.nil
def f52_l1 : Nat → List V → List V → Int → List V → (R : Type) → (Ex → St → Option R) → Option R
  | 0, _, _, _, _, _, _ => none
  | n + 1, a, b, i, n', R, κ =>
    bif (decide (i ≥ 0)) then
      bif (decide (0 ≤ i) && decide (i < ((a.length : Nat) : Int)) && (n'.length == a.length + 1) && a.all V.isStr && b.all V.isStr && decide (a.length ≤ 2000000) && decide (b.length ≤ 2000000) && ((IntKind.wrap .i64 (((b.length : Nat) : Int) - 1)) + 1 == ((b.length : Nat) : Int)) && ownRow (nthV n' i.toNat) (zeros b) && ownRow (nthV n' (i.toNat + 1)) (rowV (a.drop (i.toNat + 1)) b)) then
        f52_l1 n a b (IntKind.wrap .i64 (i - 1)) (n'.set i.toNat (rowO (a.drop i.toNat) b)) R κ
      else none
    else
      κ (.ex 2) (mkS [(4, .bad), (5, .ref ⟨.loc 5, 0, [], 48, true⟩)] [(.loc 5, some ⟨false, [.own 48 true n']⟩)])
def f52_l1_ls : List (Nat × Pat) := [(0, .sl 1), (1, .sl 1), (5, .is (.ref ⟨.loc 5, 0, [], 48, true⟩)), (7, .i .i64)]
def f52_l1_rs : List RPat := [⟨.loc 5, false, [.own 48 true]⟩]
theorem f52_l1_ok (n : Nat) : ∀ (a : List V) (b : List V) (i : Int) (n' : List V) (R : Type) (κ : Ex → St → Option R) (r : R), f52_l1 n a b i n' R κ = some r → ∃ ee ss, κ ee ss = some r ∧ RunP C prim 52 [0, 1, 0, 1, 1, 1] (mkS [(0, .sl 1 a), (1, .sl 1 b), (5, .ref ⟨.loc 5, 0, [], 48, true⟩), (7, .sc (.int .i64 i))] [(.loc 5, some ⟨false, [.own 48 true n']⟩)]) ee ss := by
  induction n with
  | zero => intro a b i n' R κ r h; cases h
  | succ n ih =>
    intro a b i n' R κ r h
    refine loop_round (K := K_f52_l1) (T := T_f52_l1) K_f52_l1_ok T_f52_l1_ok (p := [0, 1, 0, 1, 1, 1]) (by kernel_rfl) (fun st => bif ckS f52_l1_ls f52_l1_rs st then f52_l1 n ((st.env 0).cellsOf) ((st.env 1).cellsOf) ((st.env 7).intOf) ((nthV (rowOf (st.regs (.loc 5))) 0).cellsOf) R κ else none) (fun st0 h0 => ?_) ?_
    · obtain ⟨hs, h0⟩ := cond_some h0
      rw [canon (ls := f52_l1_ls) (rs := f52_l1_rs) (by kernel_rfl) st0 hs]
      exact ih _ _ _ _ R κ r h0
    · refine Eq.trans ?_ h
      kernel_rfl

def f52_s1 (a : List V) (b : List V) (i : Int) (n' : List V) (R : Type) (κ : Ex → St → Option R) : Option R :=
  κ (.ex 2) (mkS [(4, .bad), (5, .ref ⟨.loc 5, 0, [], 48, true⟩)] [(.loc 5, some ⟨false, [.own 48 true (tabO a b)]⟩)])
theorem f52_l1_c (a b : List V) (ha : a.all V.isStr = true) (hb : b.all V.isStr = true) (la : a.length ≤ 2000000) (lb : b.length ≤ 2000000) : ∀ m, m ≤ a.length → ∀ n, m < n → ∀ (R : Type) (κ : Ex → St → Option R),
    f52_l1 n a b ((m : Int) - 1) (List.replicate m (zrow b) ++ tabO (a.drop m) b) R κ = κ (.ex 2) (mkS [(4, .bad), (5, .ref ⟨.loc 5, 0, [], 48, true⟩)] [(.loc 5, some ⟨false, [.own 48 true (tabO a b)]⟩)]) := by
  intro m
  induction m with
  | zero =>
    intro _ n hn R κ
    obtain ⟨n, rfl⟩ : ∃ j, n = j + 1 := ⟨n - 1, by omega⟩
    rw [f52_l1, dec_false (by omega)]
    rfl
  | succ m ih =>
    intro hm n hn R κ
    obtain ⟨n, rfl⟩ : ∃ j, n = j + 1 := ⟨n - 1, by omega⟩
    have hk : m < a.length := by omega
    have hlen : (List.replicate m (zrow b) ++ zrow b :: tabO (a.drop (m + 1)) b).length = a.length + 1 := by
      rw [List.length_append, List.length_replicate, List.length_cons, tabO_len, List.length_drop]; omega
    have q0 : nthV (List.replicate m (zrow b) ++ zrow b :: tabO (a.drop (m + 1)) b) m = zrow b := nthV_rep _ _ 0 m
    have q1 : nthV (List.replicate m (zrow b) ++ zrow b :: tabO (a.drop (m + 1)) b) (m + 1) = rowO (a.drop (m + 1)) b := by
      rw [nthV_rep]
      show nthV (tabO (a.drop (m + 1)) b) 0 = _
      rw [tabO_nth b _ 0 (Nat.zero_le _), List.drop_zero]
    have z0 : ownRow (zrow b) (zeros b) = true := ownRow_refl (zeros_int b)
    have z1 : ownRow (rowO (a.drop (m + 1)) b) (rowV (a.drop (m + 1)) b) = true := ownRow_refl (rowV_int _ b)
    have hrow : rowO (a.drop m) b :: tabO (a.drop (m + 1)) b = tabO (a.drop m) b := by
      rw [List.drop_eq_getElem_cons hk]; rfl
    rw [show (((m + 1 : Nat) : Int) - 1) = (m : Int) by omega, rep_more, f52_l1]
    simp only [Int.toNat_natCast, hlen, q0, q1, z0, z1, set_rep, hrow, ha, hb, wrap_pred (show m < 9223372036854775807 by omega), wrap_pred (show b.length < 9223372036854775807 by omega), Int.sub_add_cancel, beq_self_eq_true, dec_true la, dec_true lb, dec_true (show (m : Int) ≥ 0 by omega), dec_true (show (0 : Int) ≤ (m : Int) by omega), dec_true (show (m : Int) < ((a.length : Nat) : Int) by omega), Bool.and_true, cond_true]
    exact ih (by omega) n (by omega) R κ
theorem f52_s1_eq (a : List V) (b : List V) (i : Int) (n' : List V) (hp : ((i + 1 == ((a.length : Nat) : Int)) && (n'.length == a.length + 1) && a.all V.isStr && b.all V.isStr && decide (a.length ≤ 2000000) && decide (b.length ≤ 2000000) && n'.all (fun x => ownRow x (zeros b))) = true) : ∃ n, ∀ (R : Type) (κ : Ex → St → Option R), f52_l1 n a b i n' R κ = f52_s1 a b i n' R κ := by
  simp only [Bool.and_eq_true, decide_eq_true_eq, beq_iff_eq] at hp
  obtain ⟨⟨⟨⟨⟨⟨h1, h2⟩, h3⟩, h4⟩, h5⟩, h6⟩, h7⟩ := hp
  obtain rfl : i = (a.length : Int) - 1 := by omega
  refine ⟨a.length + 1, fun R κ => ?_⟩
  have := f52_l1_c a b h3 h4 h5 h6 a.length (Nat.le_refl _) (a.length + 1) (by omega) R κ
  have e : List.replicate a.length (zrow b) ++ tabO (a.drop a.length) b = n' := by
    rw [rows_zero b n' h7, h2, List.drop_length, List.replicate_succ']
    show _ ++ [rowO [] b] = _
    rw [show rowO [] b = zrow b by unfold rowO zrow; rw [rowV_nil]]
  rw [e] at this
  exact this
def t_f52_l1 (st : St) (R : Type) (κ : Ex → St → Option R) : Option R := bif ckS f52_l1_ls f52_l1_rs st then (bif ((((st.env 7).intOf) + 1 == ((((st.env 0).cellsOf).length : Nat) : Int)) && (((nthV (rowOf (st.regs (.loc 5))) 0).cellsOf).length == ((st.env 0).cellsOf).length + 1) && ((st.env 0).cellsOf).all V.isStr && ((st.env 1).cellsOf).all V.isStr && decide (((st.env 0).cellsOf).length ≤ 2000000) && decide (((st.env 1).cellsOf).length ≤ 2000000) && ((nthV (rowOf (st.regs (.loc 5))) 0).cellsOf).all (fun x => ownRow x (zeros ((st.env 1).cellsOf)))) then f52_s1 ((st.env 0).cellsOf) ((st.env 1).cellsOf) ((st.env 7).intOf) ((nthV (rowOf (st.regs (.loc 5))) 0).cellsOf) R κ else none) else none
theorem t_f52_l1_ok : ∀ st0 R κ r, t_f52_l1 (forget C 52 [0, 1, 0, 1, 1, 1] st0) R κ = some r → ∃ ee ss, κ ee ss = some r ∧ RunP C prim 52 [0, 1, 0, 1, 1, 1] (forget C 52 [0, 1, 0, 1, 1, 1] st0) ee ss := by
  intro st0 R κ r h
  obtain ⟨hs, h⟩ := cond_some h
  obtain ⟨hp, h⟩ := cond_some h
  rw [canon (ls := f52_l1_ls) (rs := f52_l1_rs) (by kernel_rfl) st0 hs]
  obtain ⟨n, hn⟩ := f52_s1_eq _ _ _ _ hp
  rw [← hn] at h
  exact f52_l1_ok n _ _ _ _ R κ r h

def K_f52 : CallK := kNil
theorem K_f52_ok : KOK C prim K_f52 := KOK.nil
def T_f52 : Tab := tCons [0, 1, 0, 1, 1] t_f52_l0 <| tCons [0, 1, 0, 1, 1, 1] t_f52_l1 <| tNil
theorem T_f52_ok : TOK C prim 52 T_f52 := TOK.cons t_f52_l0_ok <| TOK.cons t_f52_l1_ok <| TOK.nil
noncomputable def f52 (a : List V) (b : List V) : Option (V × List Rg) :=
  bif ((((((((((decide ((0 : Int) ≤ (IntKind.wrap .i64 (((a.length : Nat) : Int) + 1)))) && (decide ((IntKind.wrap .i64 (((a.length : Nat) : Int) + 1)) ≤ (IntKind.wrap .i64 (((a.length : Nat) : Int) + 1))))) && true) && true) && true) && true) && true) && (roomy (((IntKind.wrap .i64 (((a.length : Nat) : Int) + 1))).toNat * 24))) && (roomy ((IntKind.wrap .i64 (((a.length : Nat) : Int) + 1))).toNat)) && true) then
    bif (((((((List.replicate ((IntKind.wrap .i64 (((a.length : Nat) : Int) + 1))).toNat ([.own 3 false []] : List V)).flatten)).length : Nat) : Int) == ((((List.replicate ((IntKind.wrap .i64 (((a.length : Nat) : Int) + 1))).toNat ([.own 3 false []] : List V)).flatten).length : Nat) : Int)) && ((0 : Int) == 0) && decide (b.length ≤ 2000000) && decide (((List.replicate ((IntKind.wrap .i64 (((a.length : Nat) : Int) + 1))).toNat ([.own 3 false []] : List V)).flatten).length ≤ 2000001)) then
      bif (((IntKind.wrap .i64 (((a.length : Nat) : Int) - 1)) + 1 == ((a.length : Nat) : Int)) && ((List.replicate ((List.replicate ((IntKind.wrap .i64 (((a.length : Nat) : Int) + 1))).toNat ([.own 3 false []] : List V)).flatten).length (zrow b)).length == a.length + 1) && a.all V.isStr && b.all V.isStr && decide (a.length ≤ 2000000) && decide (b.length ≤ 2000000) && (List.replicate ((List.replicate ((IntKind.wrap .i64 (((a.length : Nat) : Int) + 1))).toNat ([.own 3 false []] : List V)).flatten).length (zrow b)).all (fun x => ownRow x (zeros b))) then
        some (.sl 1 (frzL C.P (tabO a b)), [])
      else none
    else none
  else none
theorem f52_run (a : List V) (b : List V) (z9 : V × List Rg) (h : f52 a b = some z9) : CallR C prim 52 [.sl 1 a, .sl 1 b] [] z9 := by
  refine call_fn (K := K_f52) (T := T_f52) K_f52_ok T_f52_ok (by kernel_rfl) ?_
  refine Eq.trans ?_ h
  kernel_rfl

theorem frz_tab (P : Program) (h : szT P 3 = 1) (b : List V) : ∀ a : List V, frzL P (tabO a b) = tabS a b
  | [] => by
    show [V.sl (szT P 3) (rowV [] b)] = _
    rw [h]; rfl
  | x :: a => by
    show V.sl (szT P 3) (rowV (x :: a) b) :: frzL P (tabO a b) = _
    rw [h, frz_tab P h b a]; rfl
theorem f52_eq (a : List V) (b : List V) (hp : (a.all V.isStr && b.all V.isStr && decide (a.length ≤ 2000000) && decide (b.length ≤ 2000000)) = true) : f52 a b = some (.sl 1 (tabS a b), []) := by
  simp only [Bool.and_eq_true, decide_eq_true_eq] at hp
  obtain ⟨⟨⟨h1, h2⟩, h3⟩, h4⟩ := hp
  have hw : IntKind.wrap .i64 (((a.length : Nat) : Int) + 1) = ((a.length + 1 : Nat) : Int) := wrap_succ (by omega)
  have r1 : roomy ((a.length + 1) * 24) = true := by unfold roomy; exact dec_true (by omega)
  have r2 : roomy (a.length + 1) = true := by unfold roomy; exact dec_true (by omega)
  unfold f52
  rw [frz_tab C.P (by kernel_rfl) b a]
  simp only [hw, Int.toNat_natCast, flatten_rep, List.length_replicate, r1, r2, h1, h2, dec_true h3, dec_true h4, zrow_own, wrap_pred (show a.length < 9223372036854775807 by omega), Int.sub_add_cancel, beq_self_eq_true, dec_true (show (0 : Int) ≤ ((a.length + 1 : Nat) : Int) by omega), dec_true (show ((a.length + 1 : Nat) : Int) ≤ ((a.length + 1 : Nat) : Int) by omega), dec_true (show a.length + 1 ≤ 2000001 by omega), Bool.and_true, cond_true]
def k52 : PrimT := fun vs gs => match vs, gs with
  | [.sl 1 a, .sl 1 b], [] => ((a.all V.isStr && b.all V.isStr && decide (a.length ≤ 2000000) && decide (b.length ≤ 2000000)), .sl 1 (tabS a b), [])
  | _, _ => (false, .bad, [])
theorem k52_ok : ∀ vs gs x, k52 vs gs = (true, x) → CallR C prim 52 vs gs x := by
  intro vs gs x h
  unfold k52 at h
  split at h
  · simp only [Prod.mk.injEq] at h
    obtain ⟨hp, rfl⟩ := h
    exact f52_run _ _ _ (f52_eq _ _ hp)
  · cases h

def K_f16_l2 : CallK := kNil
theorem K_f16_l2_ok : KOK C prim K_f16_l2 := KOK.nil
def T_f16_l2 : Tab := tNil
theorem T_f16_l2_ok : TOK C prim 16 T_f16_l2 := TOK.nil
def f16_l2 : Nat → List V → List V → List V → Int → Int → Int → Int → Int → Int → List V → (R : Type) → (Ex → St → Option R) → Option R
  | 0, _, _, _, _, _, _, _, _, _, _, _, _ => none
  | n + 1, a, b, n', i, k, x, y, p, q, out, R, κ =>
    bif (decide (q ≥ k)) then
      bif (((decide ((0 : Int) ≤ p)) && (decide (p < ((a.length : Nat) : Int)))) && true) then
        bif (((V.isStr (nthV a (((p).toNat * 1) + 0))) && true) && true) then
          bif (((decide ((0 : Int) ≤ q)) && (decide (q < ((b.length : Nat) : Int)))) && true) then
            bif (((V.isStr (nthV b (((q).toNat * 1) + 0))) && true) && true) then
              bif (strEq (V.strOf (nthV a (((p).toNat * 1) + 0))) (V.strOf (nthV b (((q).toNat * 1) + 0)))) then
                bif (((decide ((0 : Int) ≤ (IntKind.wrap .i64 (p + 1)))) && (decide ((IntKind.wrap .i64 (p + 1)) < ((n'.length : Nat) : Int)))) && true) then
                  bif (((V.isSl 1 (nthV n' ((((IntKind.wrap .i64 (p + 1))).toNat * 1) + 0))) && true) && true) then
                    bif (((decide ((0 : Int) ≤ (IntKind.wrap .i64 (q + 1)))) && (decide ((IntKind.wrap .i64 (q + 1)) < ((((V.cellsOf (nthV n' ((((IntKind.wrap .i64 (p + 1))).toNat * 1) + 0)))).length : Nat) : Int)))) && true) then
                      bif (((V.isInt .i64 (nthV (V.cellsOf (nthV n' ((((IntKind.wrap .i64 (p + 1))).toNat * 1) + 0))) ((((IntKind.wrap .i64 (q + 1))).toNat * 1) + 0))) && true) && true) then
                        bif (((decide ((0 : Int) ≤ i)) && (decide (i < ((n'.length : Nat) : Int)))) && true) then
                          bif (((V.isSl 1 (nthV n' (((i).toNat * 1) + 0))) && true) && true) then
                            bif (((decide ((0 : Int) ≤ k)) && (decide (k < ((((V.cellsOf (nthV n' (((i).toNat * 1) + 0)))).length : Nat) : Int)))) && true) then
                              bif (((V.isInt .i64 (nthV (V.cellsOf (nthV n' (((i).toNat * 1) + 0))) (((k).toNat * 1) + 0))) && true) && true) then
                                bif ((IntKind.wrap .i64 ((V.intOf (nthV (V.cellsOf (nthV n' ((((IntKind.wrap .i64 (p + 1))).toNat * 1) + 0))) ((((IntKind.wrap .i64 (q + 1))).toNat * 1) + 0))) + 1)) == (V.intOf (nthV (V.cellsOf (nthV n' (((i).toNat * 1) + 0))) (((k).toNat * 1) + 0)))) then
                                  f16_l2 n a b n' i k p q p (IntKind.wrap .i64 (q - 1)) out R κ
                                else
                                  f16_l2 n a b n' i k x y p (IntKind.wrap .i64 (q - 1)) out R κ
                              else none
                            else none
                          else none
                        else none
                      else none
                    else none
                  else none
                else none
              else
                f16_l2 n a b n' i k x y p (IntKind.wrap .i64 (q - 1)) out R κ
            else none
          else none
        else none
      else none
    else
      κ (.ex 4) (mkS [(0, .sl 1 a), (1, .sl 1 b), (4, .bad), (5, .sl 1 n'), (6, .ref ⟨.loc 6, 0, [], 57, false⟩), (7, .sc (.int .i64 i)), (8, .sc (.int .i64 k)), (9, .sc (.int .i64 x)), (10, .sc (.int .i64 y)), (11, .sc (.int .i64 p))] [(.loc 6, some ⟨false, [.own 57 false out]⟩)])
def f16_l2_ls : List (Nat × Pat) := [(0, .sl 1), (1, .sl 1), (5, .sl 1), (6, .is (.ref ⟨.loc 6, 0, [], 57, false⟩)), (7, .i .i64), (8, .i .i64), (9, .i .i64), (10, .i .i64), (11, .i .i64), (12, .i .i64)]
def f16_l2_rs : List RPat := [⟨.loc 6, false, [.own 57 false]⟩]
theorem f16_l2_ok (n : Nat) : ∀ (a : List V) (b : List V) (n' : List V) (i : Int) (k : Int) (x : Int) (y : Int) (p : Int) (q : Int) (out : List V) (R : Type) (κ : Ex → St → Option R) (r : R), f16_l2 n a b n' i k x y p q out R κ = some r → ∃ ee ss, κ ee ss = some r ∧ RunP C prim 16 [0, 1, 0, 0, 1, 0, 0, 1, 0, 1, 0, 0, 0, 1, 1, 1, 1] (mkS [(0, .sl 1 a), (1, .sl 1 b), (5, .sl 1 n'), (6, .ref ⟨.loc 6, 0, [], 57, false⟩), (7, .sc (.int .i64 i)), (8, .sc (.int .i64 k)), (9, .sc (.int .i64 x)), (10, .sc (.int .i64 y)), (11, .sc (.int .i64 p)), (12, .sc (.int .i64 q))] [(.loc 6, some ⟨false, [.own 57 false out]⟩)]) ee ss := by
  induction n with
  | zero => intro a b n' i k x y p q out R κ r h; cases h
  | succ n ih =>
    intro a b n' i k x y p q out R κ r h
    refine loop_round (K := K_f16_l2) (T := T_f16_l2) K_f16_l2_ok T_f16_l2_ok (p := [0, 1, 0, 0, 1, 0, 0, 1, 0, 1, 0, 0, 0, 1, 1, 1, 1]) (by kernel_rfl) (fun st => bif ckS f16_l2_ls f16_l2_rs st then f16_l2 n ((st.env 0).cellsOf) ((st.env 1).cellsOf) ((st.env 5).cellsOf) ((st.env 7).intOf) ((st.env 8).intOf) ((st.env 9).intOf) ((st.env 10).intOf) ((st.env 11).intOf) ((st.env 12).intOf) ((nthV (rowOf (st.regs (.loc 6))) 0).cellsOf) R κ else none) (fun st0 h0 => ?_) ?_
    · obtain ⟨hs, h0⟩ := cond_some h0
      rw [canon (ls := f16_l2_ls) (rs := f16_l2_rs) (by kernel_rfl) st0 hs]
      exact ih _ _ _ _ _ _ _ _ _ _ R κ r h0
    · refine Eq.trans ?_ h
      kernel_rfl

def f16_s2 (a : List V) (b : List V) (n' : List V) (i : Int) (k : Int) (x : Int) (y : Int) (p : Int) (q : Int) (out : List V) (R : Type) (κ : Ex → St → Option R) : Option R :=
  κ (.ex 4) (mkS [(0, .sl 1 a), (1, .sl 1 b), (4, .bad), (5, .sl 1 n'), (6, .ref ⟨.loc 6, 0, [], 57, false⟩), (7, .sc (.int .i64 i)), (8, .sc (.int .i64 k)), (9, .sc (.int .i64 (bif decide (0 ≤ (qOf (nthV a p.toNat) (lcs (a.drop (p.toNat + 1))) (lcs (a.drop i.toNat) (b.drop k.toNat)) (b.drop k.toNat) k.toNat)) then p else x))), (10, .sc (.int .i64 (bif decide (0 ≤ (qOf (nthV a p.toNat) (lcs (a.drop (p.toNat + 1))) (lcs (a.drop i.toNat) (b.drop k.toNat)) (b.drop k.toNat) k.toNat)) then (qOf (nthV a p.toNat) (lcs (a.drop (p.toNat + 1))) (lcs (a.drop i.toNat) (b.drop k.toNat)) (b.drop k.toNat) k.toNat) else y))), (11, .sc (.int .i64 p))] [(.loc 6, some ⟨false, [.own 57 false out]⟩)])
def qAt (a b : List V) (i k p m : Nat) : Int := qOf (nthV a p) (lcs (a.drop (p + 1))) (lcs (a.drop i) (b.drop k)) (b.drop m) m
theorem qAt_step (a b : List V) (i k p m : Nat) (h : m < b.length) : qAt a b i k p m = bif strEq (nthV a p).strOf b[m].strOf && Nat.beq (lcs (a.drop (p + 1)) (b.drop (m + 1)) + 1) (lcs (a.drop i) (b.drop k)) then (m : Int) else qAt a b i k p (m + 1) := by
  unfold qAt
  rw [List.drop_eq_getElem_cons h]
  rfl
theorem qAt_end (a b : List V) (i k p m : Nat) (h : b.length ≤ m) : qAt a b i k p m = -1 := by
  unfold qAt
  rw [List.drop_of_length_le h]
  rfl
theorem beq_cast (r N : Nat) : (((r : Nat) : Int) == (N : Int)) = Nat.beq r N := by
  by_cases h : r = N
  · rw [h, beq_self_eq_true]; exact (Nat.beq_refl N).symm
  · rw [nbeq_false h, beq_eq_false_iff_ne]; omega
theorem f16_l2_c (a b out : List V) (i k p : Nat) (x0 y0 : Int) (ha : a.all V.isStr = true) (hb : b.all V.isStr = true) (la : a.length ≤ 2000000) (lb : b.length ≤ 2000000) (hip : i ≤ p) (hp : p < a.length) (hk : k ≤ b.length) :
    ∀ d m, m = k + d → m ≤ b.length → ∀ n, d < n → ∀ (R : Type) (κ : Ex → St → Option R),
    f16_l2 n a b (tabS a b) (i : Int) (k : Int) (bif decide (0 ≤ qAt a b i k p m) then (p : Int) else x0) (bif decide (0 ≤ qAt a b i k p m) then qAt a b i k p m else y0) (p : Int) ((m : Int) - 1) out R κ =
      κ (.ex 4) (mkS [(0, .sl 1 a), (1, .sl 1 b), (4, .bad), (5, .sl 1 (tabS a b)), (6, .ref ⟨.loc 6, 0, [], 57, false⟩), (7, .sc (.int .i64 (i : Int))), (8, .sc (.int .i64 (k : Int))), (9, .sc (.int .i64 (bif decide (0 ≤ qAt a b i k p k) then (p : Int) else x0))), (10, .sc (.int .i64 (bif decide (0 ≤ qAt a b i k p k) then qAt a b i k p k else y0))), (11, .sc (.int .i64 (p : Int)))] [(.loc 6, some ⟨false, [.own 57 false out]⟩)]) := by
  intro d
  induction d with
  | zero =>
    intro m hm _ n hn R κ
    obtain ⟨n, rfl⟩ : ∃ j, n = j + 1 := ⟨n - 1, by omega⟩
    obtain rfl : m = k := by omega
    rw [f16_l2, dec_false (by omega)]
    rfl
  | succ d ih =>
    intro m hm hmb n hn R κ
    obtain ⟨n, rfl⟩ : ∃ j, n = j + 1 := ⟨n - 1, by omega⟩
    obtain ⟨j, rfl⟩ : ∃ j, m = j + 1 := ⟨m - 1, by omega⟩
    have hj : j < b.length := by omega
    have ia : V.isStr a[p] = true := List.all_eq_true.1 ha _ (List.getElem_mem hp)
    have ib : V.isStr b[j] = true := List.all_eq_true.1 hb _ (List.getElem_mem hj)
    have w1 : IntKind.wrap .i64 ((p : Int) + 1) = ((p + 1 : Nat) : Int) := wrap_succ (by omega)
    have w2 : IntKind.wrap .i64 ((j : Int) + 1) = ((j + 1 : Nat) : Int) := wrap_succ (by omega)
    have w3 : IntKind.wrap .i64 ((j : Int) - 1) = (j : Int) - 1 := wrap_pred (by omega)
    have hl1 := lcs_le (a.drop (p + 1)) (b.drop (j + 1))
    rw [List.length_drop] at hl1
    have w4 : IntKind.wrap .i64 ((lcs (a.drop (p + 1)) (b.drop (j + 1)) : Int) + 1) = ((lcs (a.drop (p + 1)) (b.drop (j + 1)) + 1 : Nat) : Int) := wrap_succ (by omega)
    have t1 : nthV (tabS a b) (p + 1) = rowS (a.drop (p + 1)) b := tabS_nth b a _ (by omega)
    have t2 : nthV (tabS a b) i = rowS (a.drop i) b := tabS_nth b a _ (by omega)
    have v1 : nthV (rowV (a.drop (p + 1)) b) (j + 1) = cellN (lcs (a.drop (p + 1)) (b.drop (j + 1))) := rowV_nth _ _ _ (by omega)
    have v2 : nthV (rowV (a.drop i) b) k = cellN (lcs (a.drop i) (b.drop k)) := rowV_nth _ _ _ hk
    have IH := ih j (by omega) (by omega) n (by omega) R κ
    rw [show (((j + 1 : Nat) : Int) - 1) = (j : Int) by omega, f16_l2]
    simp only [Int.toNat_natCast, Nat.mul_one, Nat.add_zero, nthV_lt hp, nthV_lt hj, ia, ib, w1, w2, w3, w4, tabS_len, t1, t2, rowS, isSl_sl, cellsOf_sl, rowV_len, v1, v2, isInt_cellN, intOf_cellN, beq_cast,
      dec_true (show (j : Int) ≥ (k : Int) by omega), dec_true (show (0 : Int) ≤ (p : Int) by omega), dec_true (show (p : Int) < ((a.length : Nat) : Int) by omega), dec_true (show (0 : Int) ≤ (j : Int) by omega), dec_true (show (j : Int) < ((b.length : Nat) : Int) by omega),
      dec_true (show (0 : Int) ≤ ((p + 1 : Nat) : Int) by omega), dec_true (show ((p + 1 : Nat) : Int) < ((a.length + 1 : Nat) : Int) by omega), dec_true (show (0 : Int) ≤ ((j + 1 : Nat) : Int) by omega), dec_true (show ((j + 1 : Nat) : Int) < ((b.length + 1 : Nat) : Int) by omega),
      dec_true (show (0 : Int) ≤ (i : Int) by omega), dec_true (show (i : Int) < ((a.length + 1 : Nat) : Int) by omega), dec_true (show (0 : Int) ≤ (k : Int) by omega), dec_true (show (k : Int) < ((b.length + 1 : Nat) : Int) by omega), Bool.and_true, cond_true]
    rw [qAt_step a b i k p j hj, nthV_lt hp] at IH
    rw [← IH]
    cases strEq a[p].strOf b[j].strOf with
    | false => rfl
    | true =>
      cases Nat.beq (lcs (a.drop (p + 1)) (b.drop (j + 1)) + 1) (lcs (a.drop i) (b.drop k)) with
      | false => rfl
      | true =>
        simp only [Bool.true_and, cond_true, dec_true (show (0 : Int) ≤ (j : Int) by omega)]
theorem f16_s2_eq (a : List V) (b : List V) (n' : List V) (i : Int) (k : Int) (x : Int) (y : Int) (p : Int) (q : Int) (out : List V) (hp : (a.all V.isStr && b.all V.isStr && decide (a.length ≤ 2000000) && decide (b.length ≤ 2000000) && eqTab n' (tabS a b) && decide (0 ≤ i) && decide (i ≤ p) && decide (p < ((a.length : Nat) : Int)) && decide (0 ≤ k) && decide (k ≤ ((b.length : Nat) : Int)) && (q + 1 == ((b.length : Nat) : Int))) = true) : ∃ n, ∀ (R : Type) (κ : Ex → St → Option R), f16_l2 n a b n' i k x y p q out R κ = f16_s2 a b n' i k x y p q out R κ := by
  simp only [Bool.and_eq_true, decide_eq_true_eq, beq_iff_eq] at hp
  obtain ⟨⟨⟨⟨⟨⟨⟨⟨⟨⟨h1, h2⟩, h3⟩, h4⟩, h5⟩, h6⟩, h7⟩, h8⟩, h9⟩, h10⟩, h11⟩ := hp
  obtain rfl := eqTab_eq b a n' h5
  obtain ⟨i, rfl⟩ : ∃ j : Nat, i = (j : Int) := ⟨i.toNat, by omega⟩
  obtain ⟨k, rfl⟩ : ∃ j : Nat, k = (j : Int) := ⟨k.toNat, by omega⟩
  obtain ⟨p, rfl⟩ : ∃ j : Nat, p = (j : Int) := ⟨p.toNat, by omega⟩
  obtain rfl : q = (b.length : Int) - 1 := by omega
  refine ⟨b.length + 1, fun R κ => ?_⟩
  have := f16_l2_c a b out i k p x y h1 h2 h3 h4 (by omega) (by omega) (by omega) (b.length - k) b.length (by omega) (Nat.le_refl _) (b.length + 1) (by omega) R κ
  rw [qAt_end a b i k p b.length (Nat.le_refl _), dec_false (by omega), cond_false, cond_false] at this
  rw [this]
  unfold f16_s2
  rw [Int.toNat_natCast, Int.toNat_natCast, Int.toNat_natCast]
  rfl
def t_f16_l2 (st : St) (R : Type) (κ : Ex → St → Option R) : Option R := bif ckS f16_l2_ls f16_l2_rs st then (bif (((st.env 0).cellsOf).all V.isStr && ((st.env 1).cellsOf).all V.isStr && decide (((st.env 0).cellsOf).length ≤ 2000000) && decide (((st.env 1).cellsOf).length ≤ 2000000) && eqTab ((st.env 5).cellsOf) (tabS ((st.env 0).cellsOf) ((st.env 1).cellsOf)) && decide (0 ≤ ((st.env 7).intOf)) && decide (((st.env 7).intOf) ≤ ((st.env 11).intOf)) && decide (((st.env 11).intOf) < ((((st.env 0).cellsOf).length : Nat) : Int)) && decide (0 ≤ ((st.env 8).intOf)) && decide (((st.env 8).intOf) ≤ ((((st.env 1).cellsOf).length : Nat) : Int)) && (((st.env 12).intOf) + 1 == ((((st.env 1).cellsOf).length : Nat) : Int))) then f16_s2 ((st.env 0).cellsOf) ((st.env 1).cellsOf) ((st.env 5).cellsOf) ((st.env 7).intOf) ((st.env 8).intOf) ((st.env 9).intOf) ((st.env 10).intOf) ((st.env 11).intOf) ((st.env 12).intOf) ((nthV (rowOf (st.regs (.loc 6))) 0).cellsOf) R κ else none) else none
theorem t_f16_l2_ok : ∀ st0 R κ r, t_f16_l2 (forget C 16 [0, 1, 0, 0, 1, 0, 0, 1, 0, 1, 0, 0, 0, 1, 1, 1, 1] st0) R κ = some r → ∃ ee ss, κ ee ss = some r ∧ RunP C prim 16 [0, 1, 0, 0, 1, 0, 0, 1, 0, 1, 0, 0, 0, 1, 1, 1, 1] (forget C 16 [0, 1, 0, 0, 1, 0, 0, 1, 0, 1, 0, 0, 0, 1, 1, 1, 1] st0) ee ss := by
  intro st0 R κ r h
  obtain ⟨hs, h⟩ := cond_some h
  obtain ⟨hp, h⟩ := cond_some h
  rw [canon (ls := f16_l2_ls) (rs := f16_l2_rs) (by kernel_rfl) st0 hs]
  obtain ⟨n, hn⟩ := f16_s2_eq _ _ _ _ _ _ _ _ _ _ hp
  rw [← hn] at h
  exact f16_l2_ok n _ _ _ _ _ _ _ _ _ _ R κ r h

def K_f16_l1 : CallK := kNil
theorem K_f16_l1_ok : KOK C prim K_f16_l1 := KOK.nil
def T_f16_l1 : Tab := tCons [0, 1, 0, 0, 1, 0, 0, 1, 0, 1, 0, 0, 0, 1, 1, 1, 1] t_f16_l2 <| tNil
theorem T_f16_l1_ok : TOK C prim 16 T_f16_l1 := TOK.cons t_f16_l2_ok <| TOK.nil
def f16_l1 : Nat → List V → List V → List V → Int → Int → Int → Int → Int → List V → (R : Type) → (Ex → St → Option R) → Option R
  | 0, _, _, _, _, _, _, _, _, _, _, _ => none
  | n + 1, a, b, n', i, k, x, y, p, out, R, κ =>
    bif (decide (p ≥ i)) then
      bif (a.all V.isStr && b.all V.isStr && decide (a.length ≤ 2000000) && decide (b.length ≤ 2000000) && eqTab n' (tabS a b) && decide (0 ≤ i) && decide (i ≤ p) && decide (p < ((a.length : Nat) : Int)) && decide (0 ≤ k) && decide (k ≤ ((b.length : Nat) : Int)) && ((IntKind.wrap .i64 (((b.length : Nat) : Int) - 1)) + 1 == ((b.length : Nat) : Int))) then
        f16_l1 n a b n' i k (bif decide (0 ≤ (qOf (nthV a p.toNat) (lcs (a.drop (p.toNat + 1))) (lcs (a.drop i.toNat) (b.drop k.toNat)) (b.drop k.toNat) k.toNat)) then p else x) (bif decide (0 ≤ (qOf (nthV a p.toNat) (lcs (a.drop (p.toNat + 1))) (lcs (a.drop i.toNat) (b.drop k.toNat)) (b.drop k.toNat) k.toNat)) then (qOf (nthV a p.toNat) (lcs (a.drop (p.toNat + 1))) (lcs (a.drop i.toNat) (b.drop k.toNat)) (b.drop k.toNat) k.toNat) else y) (IntKind.wrap .i64 (p - 1)) out R κ
      else none
    else
      κ (.ex 2) (mkS [(0, .sl 1 a), (1, .sl 1 b), (4, .bad), (5, .sl 1 n'), (6, .ref ⟨.loc 6, 0, [], 57, false⟩), (7, .sc (.int .i64 i)), (8, .sc (.int .i64 k)), (9, .sc (.int .i64 x)), (10, .sc (.int .i64 y))] [(.loc 6, some ⟨false, [.own 57 false out]⟩)])
def f16_l1_ls : List (Nat × Pat) := [(0, .sl 1), (1, .sl 1), (5, .sl 1), (6, .is (.ref ⟨.loc 6, 0, [], 57, false⟩)), (7, .i .i64), (8, .i .i64), (9, .i .i64), (10, .i .i64), (11, .i .i64)]
def f16_l1_rs : List RPat := [⟨.loc 6, false, [.own 57 false]⟩]
theorem f16_l1_ok (n : Nat) : ∀ (a : List V) (b : List V) (n' : List V) (i : Int) (k : Int) (x : Int) (y : Int) (p : Int) (out : List V) (R : Type) (κ : Ex → St → Option R) (r : R), f16_l1 n a b n' i k x y p out R κ = some r → ∃ ee ss, κ ee ss = some r ∧ RunP C prim 16 [0, 1, 0, 1, 0, 0, 0, 1, 1, 1, 1] (mkS [(0, .sl 1 a), (1, .sl 1 b), (5, .sl 1 n'), (6, .ref ⟨.loc 6, 0, [], 57, false⟩), (7, .sc (.int .i64 i)), (8, .sc (.int .i64 k)), (9, .sc (.int .i64 x)), (10, .sc (.int .i64 y)), (11, .sc (.int .i64 p))] [(.loc 6, some ⟨false, [.own 57 false out]⟩)]) ee ss := by
  induction n with
  | zero => intro a b n' i k x y p out R κ r h; cases h
  | succ n ih =>
    intro a b n' i k x y p out R κ r h
    refine loop_round (K := K_f16_l1) (T := T_f16_l1) K_f16_l1_ok T_f16_l1_ok (p := [0, 1, 0, 1, 0, 0, 0, 1, 1, 1, 1]) (by kernel_rfl) (fun st => bif ckS f16_l1_ls f16_l1_rs st then f16_l1 n ((st.env 0).cellsOf) ((st.env 1).cellsOf) ((st.env 5).cellsOf) ((st.env 7).intOf) ((st.env 8).intOf) ((st.env 9).intOf) ((st.env 10).intOf) ((st.env 11).intOf) ((nthV (rowOf (st.regs (.loc 6))) 0).cellsOf) R κ else none) (fun st0 h0 => ?_) ?_
    · obtain ⟨hs, h0⟩ := cond_some h0
      rw [canon (ls := f16_l1_ls) (rs := f16_l1_rs) (by kernel_rfl) st0 hs]
      exact ih _ _ _ _ _ _ _ _ _ R κ r h0
    · refine Eq.trans ?_ h
      kernel_rfl

def f16_s1 (a : List V) (b : List V) (n' : List V) (i : Int) (k : Int) (x : Int) (y : Int) (p : Int) (out : List V) (R : Type) (κ : Ex → St → Option R) : Option R :=
  κ (.ex 2) (mkS [(0, .sl 1 a), (1, .sl 1 b), (4, .bad), (5, .sl 1 n'), (6, .ref ⟨.loc 6, 0, [], 57, false⟩), (7, .sc (.int .i64 i)), (8, .sc (.int .i64 k)), (9, .sc (.int .i64 (pOf x y (lcs (a.drop i.toNat) (b.drop k.toNat)) (b.drop k.toNat) k.toNat (a.drop i.toNat) i.toNat).1)), (10, .sc (.int .i64 (pOf x y (lcs (a.drop i.toNat) (b.drop k.toNat)) (b.drop k.toNat) k.toNat (a.drop i.toNat) i.toNat).2))] [(.loc 6, some ⟨false, [.own 57 false out]⟩)])
def pAt (a b : List V) (i k : Nat) (x0 y0 : Int) (m : Nat) : Int × Int := pOf x0 y0 (lcs (a.drop i) (b.drop k)) (b.drop k) k (a.drop m) m
theorem pAt_step (a b : List V) (i k : Nat) (x0 y0 : Int) (m : Nat) (h : m < a.length) : pAt a b i k x0 y0 m = bif decide (0 ≤ qAt a b i k m k) then ((m : Int), qAt a b i k m k) else pAt a b i k x0 y0 (m + 1) := by
  unfold pAt qAt
  rw [List.drop_eq_getElem_cons h, nthV_lt h]
  rfl
theorem pAt_end (a b : List V) (i k : Nat) (x0 y0 : Int) (m : Nat) (h : a.length ≤ m) : pAt a b i k x0 y0 m = (x0, y0) := by
  unfold pAt
  rw [List.drop_of_length_le h]
  rfl
theorem f16_l1_c (a b out : List V) (i k : Nat) (x0 y0 : Int) (ha : a.all V.isStr = true) (hb : b.all V.isStr = true) (la : a.length ≤ 2000000) (lb : b.length ≤ 2000000) (hi : i ≤ a.length) (hk : k ≤ b.length) :
    ∀ d m, m = i + d → m ≤ a.length → ∀ n, d < n → ∀ (R : Type) (κ : Ex → St → Option R),
    f16_l1 n a b (tabS a b) (i : Int) (k : Int) (pAt a b i k x0 y0 m).1 (pAt a b i k x0 y0 m).2 ((m : Int) - 1) out R κ =
      κ (.ex 2) (mkS [(0, .sl 1 a), (1, .sl 1 b), (4, .bad), (5, .sl 1 (tabS a b)), (6, .ref ⟨.loc 6, 0, [], 57, false⟩), (7, .sc (.int .i64 (i : Int))), (8, .sc (.int .i64 (k : Int))), (9, .sc (.int .i64 (pAt a b i k x0 y0 i).1)), (10, .sc (.int .i64 (pAt a b i k x0 y0 i).2))] [(.loc 6, some ⟨false, [.own 57 false out]⟩)]) := by
  intro d
  induction d with
  | zero =>
    intro m hm _ n hn R κ
    obtain ⟨n, rfl⟩ : ∃ j, n = j + 1 := ⟨n - 1, by omega⟩
    obtain rfl : m = i := by omega
    rw [f16_l1, dec_false (by omega)]
    rfl
  | succ d ih =>
    intro m hm hmb n hn R κ
    obtain ⟨n, rfl⟩ : ∃ j, n = j + 1 := ⟨n - 1, by omega⟩
    obtain ⟨j, rfl⟩ : ∃ j, m = j + 1 := ⟨m - 1, by omega⟩
    have hj : j < a.length := by omega
    have IH := ih j (by omega) (by omega) n (by omega) R κ
    rw [show (((j + 1 : Nat) : Int) - 1) = (j : Int) by omega, f16_l1]
    have eq : qOf (nthV a j) (lcs (a.drop (j + 1))) (lcs (a.drop i) (b.drop k)) (b.drop k) k = qAt a b i k j k := rfl
    simp only [Int.toNat_natCast, eq, ha, hb, dec_true la, dec_true lb, eqTab_refl, wrap_pred (show b.length < 9223372036854775807 by omega), wrap_pred (show j < 9223372036854775807 by omega), Int.sub_add_cancel, beq_self_eq_true,
      dec_true (show (j : Int) ≥ (i : Int) by omega), dec_true (show (0 : Int) ≤ (i : Int) by omega), dec_true (show (i : Int) ≤ (j : Int) by omega), dec_true (show (j : Int) < ((a.length : Nat) : Int) by omega), dec_true (show (0 : Int) ≤ (k : Int) by omega), dec_true (show (k : Int) ≤ ((b.length : Nat) : Int) by omega), Bool.and_true, cond_true]
    rw [← IH, pAt_step a b i k x0 y0 j hj]
    cases decide (0 ≤ qAt a b i k j k) <;> rfl
theorem f16_s1_eq (a : List V) (b : List V) (n' : List V) (i : Int) (k : Int) (x : Int) (y : Int) (p : Int) (out : List V) (hp : (a.all V.isStr && b.all V.isStr && decide (a.length ≤ 2000000) && decide (b.length ≤ 2000000) && eqTab n' (tabS a b) && decide (0 ≤ i) && decide (i ≤ ((a.length : Nat) : Int)) && (p + 1 == ((a.length : Nat) : Int)) && decide (0 ≤ k) && decide (k ≤ ((b.length : Nat) : Int))) = true) : ∃ n, ∀ (R : Type) (κ : Ex → St → Option R), f16_l1 n a b n' i k x y p out R κ = f16_s1 a b n' i k x y p out R κ := by
  simp only [Bool.and_eq_true, decide_eq_true_eq, beq_iff_eq] at hp
  obtain ⟨⟨⟨⟨⟨⟨⟨⟨⟨h1, h2⟩, h3⟩, h4⟩, h5⟩, h6⟩, h7⟩, h8⟩, h9⟩, h10⟩ := hp
  obtain rfl := eqTab_eq b a n' h5
  obtain ⟨i, rfl⟩ : ∃ j : Nat, i = (j : Int) := ⟨i.toNat, by omega⟩
  obtain ⟨k, rfl⟩ : ∃ j : Nat, k = (j : Int) := ⟨k.toNat, by omega⟩
  obtain rfl : p = (a.length : Int) - 1 := by omega
  refine ⟨a.length + 1, fun R κ => ?_⟩
  have := f16_l1_c a b out i k x y h1 h2 h3 h4 (by omega) (by omega) (a.length - i) a.length (by omega) (Nat.le_refl _) (a.length + 1) (by omega) R κ
  rw [pAt_end a b i k x y a.length (Nat.le_refl _)] at this
  rw [this]
  unfold f16_s1
  rw [Int.toNat_natCast, Int.toNat_natCast]
  rfl
def t_f16_l1 (st : St) (R : Type) (κ : Ex → St → Option R) : Option R := bif ckS f16_l1_ls f16_l1_rs st then (bif (((st.env 0).cellsOf).all V.isStr && ((st.env 1).cellsOf).all V.isStr && decide (((st.env 0).cellsOf).length ≤ 2000000) && decide (((st.env 1).cellsOf).length ≤ 2000000) && eqTab ((st.env 5).cellsOf) (tabS ((st.env 0).cellsOf) ((st.env 1).cellsOf)) && decide (0 ≤ ((st.env 7).intOf)) && decide (((st.env 7).intOf) ≤ ((((st.env 0).cellsOf).length : Nat) : Int)) && (((st.env 11).intOf) + 1 == ((((st.env 0).cellsOf).length : Nat) : Int)) && decide (0 ≤ ((st.env 8).intOf)) && decide (((st.env 8).intOf) ≤ ((((st.env 1).cellsOf).length : Nat) : Int))) then f16_s1 ((st.env 0).cellsOf) ((st.env 1).cellsOf) ((st.env 5).cellsOf) ((st.env 7).intOf) ((st.env 8).intOf) ((st.env 9).intOf) ((st.env 10).intOf) ((st.env 11).intOf) ((nthV (rowOf (st.regs (.loc 6))) 0).cellsOf) R κ else none) else none
theorem t_f16_l1_ok : ∀ st0 R κ r, t_f16_l1 (forget C 16 [0, 1, 0, 1, 0, 0, 0, 1, 1, 1, 1] st0) R κ = some r → ∃ ee ss, κ ee ss = some r ∧ RunP C prim 16 [0, 1, 0, 1, 0, 0, 0, 1, 1, 1, 1] (forget C 16 [0, 1, 0, 1, 0, 0, 0, 1, 1, 1, 1] st0) ee ss := by
  intro st0 R κ r h
  obtain ⟨hs, h⟩ := cond_some h
  obtain ⟨hp, h⟩ := cond_some h
  rw [canon (ls := f16_l1_ls) (rs := f16_l1_rs) (by kernel_rfl) st0 hs]
  obtain ⟨n, hn⟩ := f16_s1_eq _ _ _ _ _ _ _ _ _ hp
  rw [← hn] at h
  exact f16_l1_ok n _ _ _ _ _ _ _ _ _ R κ r h

def K_f16_l0 : CallK := kCons 53 k53 <| kNil
theorem K_f16_l0_ok : KOK C prim K_f16_l0 := KOK.cons k53_ok <| KOK.nil
def T_f16_l0 : Tab := tCons [0, 1, 0, 1, 0, 0, 0, 1, 1, 1, 1] t_f16_l1 <| tNil
theorem T_f16_l0_ok : TOK C prim 16 T_f16_l0 := TOK.cons t_f16_l1_ok <| TOK.nil
def f16_l0 : Nat → List V → List V → List V → Int → Int → List V → (R : Type) → (Ex → St → Option R) → Option R
  | 0, _, _, _, _, _, _, _, _ => none
  | n + 1, a, b, n', i, k, out, R, κ =>
    bif (a.all V.isStr && b.all V.isStr && decide (a.length ≤ 2000000) && decide (b.length ≤ 2000000) && eqTab n' (tabS a b) && decide (0 ≤ i) && decide (i ≤ ((a.length : Nat) : Int)) && ((IntKind.wrap .i64 (((a.length : Nat) : Int) - 1)) + 1 == ((a.length : Nat) : Int)) && decide (0 ≤ k) && decide (k ≤ ((b.length : Nat) : Int))) then
      bif (decide ((pOf ((a.length : Nat) : Int) ((b.length : Nat) : Int) (lcs (a.drop i.toNat) (b.drop k.toNat)) (b.drop k.toNat) k.toNat (a.drop i.toNat) i.toNat).1 > i)) then
        bif ((decide (0 ≤ i) && decide (i ≤ ((pOf ((a.length : Nat) : Int) ((b.length : Nat) : Int) (lcs (a.drop i.toNat) (b.drop k.toNat)) (b.drop k.toNat) k.toNat (a.drop i.toNat) i.toNat).1)) && decide (((pOf ((a.length : Nat) : Int) ((b.length : Nat) : Int) (lcs (a.drop i.toNat) (b.drop k.toNat)) (b.drop k.toNat) k.toNat (a.drop i.toNat) i.toNat).1) ≤ ((a.length : Nat) : Int)) && a.all V.isStr && decide (a.length ≤ 1000000000)) && true) then
          bif ((decide (0 ≤ k) && decide (k ≤ ((pOf ((a.length : Nat) : Int) ((b.length : Nat) : Int) (lcs (a.drop i.toNat) (b.drop k.toNat)) (b.drop k.toNat) k.toNat (a.drop i.toNat) i.toNat).2)) && decide (((pOf ((a.length : Nat) : Int) ((b.length : Nat) : Int) (lcs (a.drop i.toNat) (b.drop k.toNat)) (b.drop k.toNat) k.toNat (a.drop i.toNat) i.toNat).2) ≤ ((b.length : Nat) : Int)) && b.all V.isStr && decide (b.length ≤ 1000000000)) && true) then
            bif (((roomy (((lenE 4 out.length) + 1) * 64)) && (roomy ((lenE 4 out.length) + 1))) && true) then
              bif ((pOf ((a.length : Nat) : Int) ((b.length : Nat) : Int) (lcs (a.drop i.toNat) (b.drop k.toNat)) (b.drop k.toNat) k.toNat (a.drop i.toNat) i.toNat).1 == ((a.length : Nat) : Int)) then
                κ .rt (mkS [(4, .ref ⟨.loc 4, 0, [], 57, false⟩)] [(.loc 4, some ⟨false, [.own 57 false (out ++ [.sc (.int .i64 i), .sc (.int .i64 k), .sl 1 ((a.drop i.toNat).take (((pOf ((a.length : Nat) : Int) ((b.length : Nat) : Int) (lcs (a.drop i.toNat) (b.drop k.toNat)) (b.drop k.toNat) k.toNat (a.drop i.toNat) i.toNat).1).toNat - i.toNat)), .sl 1 ((b.drop k.toNat).take (((pOf ((a.length : Nat) : Int) ((b.length : Nat) : Int) (lcs (a.drop i.toNat) (b.drop k.toNat)) (b.drop k.toNat) k.toNat (a.drop i.toNat) i.toNat).2).toNat - k.toNat))])]⟩)])
              else
                bif (((decide ((0 : Int) ≤ i)) && (decide (i < ((n'.length : Nat) : Int)))) && true) then
                  bif (((V.isSl 1 (nthV n' (((i).toNat * 1) + 0))) && true) && true) then
                    bif (((decide ((0 : Int) ≤ k)) && (decide (k < ((((V.cellsOf (nthV n' (((i).toNat * 1) + 0)))).length : Nat) : Int)))) && true) then
                      bif (((V.isInt .i64 (nthV (V.cellsOf (nthV n' (((i).toNat * 1) + 0))) (((k).toNat * 1) + 0))) && true) && true) then
                        bif ((V.intOf (nthV (V.cellsOf (nthV n' (((i).toNat * 1) + 0))) (((k).toNat * 1) + 0))) == 0) then
                          κ .rt (mkS [(4, .ref ⟨.loc 4, 0, [], 57, false⟩)] [(.loc 4, some ⟨false, [.own 57 false (out ++ [.sc (.int .i64 i), .sc (.int .i64 k), .sl 1 ((a.drop i.toNat).take (((pOf ((a.length : Nat) : Int) ((b.length : Nat) : Int) (lcs (a.drop i.toNat) (b.drop k.toNat)) (b.drop k.toNat) k.toNat (a.drop i.toNat) i.toNat).1).toNat - i.toNat)), .sl 1 ((b.drop k.toNat).take (((pOf ((a.length : Nat) : Int) ((b.length : Nat) : Int) (lcs (a.drop i.toNat) (b.drop k.toNat)) (b.drop k.toNat) k.toNat (a.drop i.toNat) i.toNat).2).toNat - k.toNat))])]⟩)])
                        else
                          f16_l0 n a b n' (IntKind.wrap .i64 ((pOf ((a.length : Nat) : Int) ((b.length : Nat) : Int) (lcs (a.drop i.toNat) (b.drop k.toNat)) (b.drop k.toNat) k.toNat (a.drop i.toNat) i.toNat).1 + 1)) (IntKind.wrap .i64 ((pOf ((a.length : Nat) : Int) ((b.length : Nat) : Int) (lcs (a.drop i.toNat) (b.drop k.toNat)) (b.drop k.toNat) k.toNat (a.drop i.toNat) i.toNat).2 + 1)) (out ++ [.sc (.int .i64 i), .sc (.int .i64 k), .sl 1 ((a.drop i.toNat).take (((pOf ((a.length : Nat) : Int) ((b.length : Nat) : Int) (lcs (a.drop i.toNat) (b.drop k.toNat)) (b.drop k.toNat) k.toNat (a.drop i.toNat) i.toNat).1).toNat - i.toNat)), .sl 1 ((b.drop k.toNat).take (((pOf ((a.length : Nat) : Int) ((b.length : Nat) : Int) (lcs (a.drop i.toNat) (b.drop k.toNat)) (b.drop k.toNat) k.toNat (a.drop i.toNat) i.toNat).2).toNat - k.toNat))]) R κ
                      else none
                    else none
                  else none
                else none
            else none
          else none
        else none
      else
        bif (decide ((pOf ((a.length : Nat) : Int) ((b.length : Nat) : Int) (lcs (a.drop i.toNat) (b.drop k.toNat)) (b.drop k.toNat) k.toNat (a.drop i.toNat) i.toNat).2 > k)) then
          bif ((decide (0 ≤ i) && decide (i ≤ ((pOf ((a.length : Nat) : Int) ((b.length : Nat) : Int) (lcs (a.drop i.toNat) (b.drop k.toNat)) (b.drop k.toNat) k.toNat (a.drop i.toNat) i.toNat).1)) && decide (((pOf ((a.length : Nat) : Int) ((b.length : Nat) : Int) (lcs (a.drop i.toNat) (b.drop k.toNat)) (b.drop k.toNat) k.toNat (a.drop i.toNat) i.toNat).1) ≤ ((a.length : Nat) : Int)) && a.all V.isStr && decide (a.length ≤ 1000000000)) && true) then
            bif ((decide (0 ≤ k) && decide (k ≤ ((pOf ((a.length : Nat) : Int) ((b.length : Nat) : Int) (lcs (a.drop i.toNat) (b.drop k.toNat)) (b.drop k.toNat) k.toNat (a.drop i.toNat) i.toNat).2)) && decide (((pOf ((a.length : Nat) : Int) ((b.length : Nat) : Int) (lcs (a.drop i.toNat) (b.drop k.toNat)) (b.drop k.toNat) k.toNat (a.drop i.toNat) i.toNat).2) ≤ ((b.length : Nat) : Int)) && b.all V.isStr && decide (b.length ≤ 1000000000)) && true) then
              bif (((roomy (((lenE 4 out.length) + 1) * 64)) && (roomy ((lenE 4 out.length) + 1))) && true) then
                bif ((pOf ((a.length : Nat) : Int) ((b.length : Nat) : Int) (lcs (a.drop i.toNat) (b.drop k.toNat)) (b.drop k.toNat) k.toNat (a.drop i.toNat) i.toNat).1 == ((a.length : Nat) : Int)) then
                  κ .rt (mkS [(4, .ref ⟨.loc 4, 0, [], 57, false⟩)] [(.loc 4, some ⟨false, [.own 57 false (out ++ [.sc (.int .i64 i), .sc (.int .i64 k), .sl 1 ((a.drop i.toNat).take (((pOf ((a.length : Nat) : Int) ((b.length : Nat) : Int) (lcs (a.drop i.toNat) (b.drop k.toNat)) (b.drop k.toNat) k.toNat (a.drop i.toNat) i.toNat).1).toNat - i.toNat)), .sl 1 ((b.drop k.toNat).take (((pOf ((a.length : Nat) : Int) ((b.length : Nat) : Int) (lcs (a.drop i.toNat) (b.drop k.toNat)) (b.drop k.toNat) k.toNat (a.drop i.toNat) i.toNat).2).toNat - k.toNat))])]⟩)])
                else
                  bif (((decide ((0 : Int) ≤ i)) && (decide (i < ((n'.length : Nat) : Int)))) && true) then
                    bif (((V.isSl 1 (nthV n' (((i).toNat * 1) + 0))) && true) && true) then
                      bif (((decide ((0 : Int) ≤ k)) && (decide (k < ((((V.cellsOf (nthV n' (((i).toNat * 1) + 0)))).length : Nat) : Int)))) && true) then
                        bif (((V.isInt .i64 (nthV (V.cellsOf (nthV n' (((i).toNat * 1) + 0))) (((k).toNat * 1) + 0))) && true) && true) then
                          bif ((V.intOf (nthV (V.cellsOf (nthV n' (((i).toNat * 1) + 0))) (((k).toNat * 1) + 0))) == 0) then
                            κ .rt (mkS [(4, .ref ⟨.loc 4, 0, [], 57, false⟩)] [(.loc 4, some ⟨false, [.own 57 false (out ++ [.sc (.int .i64 i), .sc (.int .i64 k), .sl 1 ((a.drop i.toNat).take (((pOf ((a.length : Nat) : Int) ((b.length : Nat) : Int) (lcs (a.drop i.toNat) (b.drop k.toNat)) (b.drop k.toNat) k.toNat (a.drop i.toNat) i.toNat).1).toNat - i.toNat)), .sl 1 ((b.drop k.toNat).take (((pOf ((a.length : Nat) : Int) ((b.length : Nat) : Int) (lcs (a.drop i.toNat) (b.drop k.toNat)) (b.drop k.toNat) k.toNat (a.drop i.toNat) i.toNat).2).toNat - k.toNat))])]⟩)])
                          else
                            f16_l0 n a b n' (IntKind.wrap .i64 ((pOf ((a.length : Nat) : Int) ((b.length : Nat) : Int) (lcs (a.drop i.toNat) (b.drop k.toNat)) (b.drop k.toNat) k.toNat (a.drop i.toNat) i.toNat).1 + 1)) (IntKind.wrap .i64 ((pOf ((a.length : Nat) : Int) ((b.length : Nat) : Int) (lcs (a.drop i.toNat) (b.drop k.toNat)) (b.drop k.toNat) k.toNat (a.drop i.toNat) i.toNat).2 + 1)) (out ++ [.sc (.int .i64 i), .sc (.int .i64 k), .sl 1 ((a.drop i.toNat).take (((pOf ((a.length : Nat) : Int) ((b.length : Nat) : Int) (lcs (a.drop i.toNat) (b.drop k.toNat)) (b.drop k.toNat) k.toNat (a.drop i.toNat) i.toNat).1).toNat - i.toNat)), .sl 1 ((b.drop k.toNat).take (((pOf ((a.length : Nat) : Int) ((b.length : Nat) : Int) (lcs (a.drop i.toNat) (b.drop k.toNat)) (b.drop k.toNat) k.toNat (a.drop i.toNat) i.toNat).2).toNat - k.toNat))]) R κ
                        else none
                      else none
                    else none
                  else none
              else none
            else none
          else none
        else
          bif ((pOf ((a.length : Nat) : Int) ((b.length : Nat) : Int) (lcs (a.drop i.toNat) (b.drop k.toNat)) (b.drop k.toNat) k.toNat (a.drop i.toNat) i.toNat).1 == ((a.length : Nat) : Int)) then
            κ .rt (mkS [(4, .ref ⟨.loc 4, 0, [], 57, false⟩)] [(.loc 4, some ⟨false, [.own 57 false out]⟩)])
          else
            bif (((decide ((0 : Int) ≤ i)) && (decide (i < ((n'.length : Nat) : Int)))) && true) then
              bif (((V.isSl 1 (nthV n' (((i).toNat * 1) + 0))) && true) && true) then
                bif (((decide ((0 : Int) ≤ k)) && (decide (k < ((((V.cellsOf (nthV n' (((i).toNat * 1) + 0)))).length : Nat) : Int)))) && true) then
                  bif (((V.isInt .i64 (nthV (V.cellsOf (nthV n' (((i).toNat * 1) + 0))) (((k).toNat * 1) + 0))) && true) && true) then
                    bif ((V.intOf (nthV (V.cellsOf (nthV n' (((i).toNat * 1) + 0))) (((k).toNat * 1) + 0))) == 0) then
                      κ .rt (mkS [(4, .ref ⟨.loc 4, 0, [], 57, false⟩)] [(.loc 4, some ⟨false, [.own 57 false out]⟩)])
                    else
                      f16_l0 n a b n' (IntKind.wrap .i64 ((pOf ((a.length : Nat) : Int) ((b.length : Nat) : Int) (lcs (a.drop i.toNat) (b.drop k.toNat)) (b.drop k.toNat) k.toNat (a.drop i.toNat) i.toNat).1 + 1)) (IntKind.wrap .i64 ((pOf ((a.length : Nat) : Int) ((b.length : Nat) : Int) (lcs (a.drop i.toNat) (b.drop k.toNat)) (b.drop k.toNat) k.toNat (a.drop i.toNat) i.toNat).2 + 1)) out R κ
                  else none
                else none
              else none
            else none
    else none
def f16_l0_ls : List (Nat × Pat) := [(0, .sl 1), (1, .sl 1), (5, .sl 1), (6, .is (.ref ⟨.loc 6, 0, [], 57, false⟩)), (7, .i .i64), (8, .i .i64)]
def f16_l0_rs : List RPat := [⟨.loc 6, false, [.own 57 false]⟩]
theorem f16_l0_ok (n : Nat) : ∀ (a : List V) (b : List V) (n' : List V) (i : Int) (k : Int) (out : List V) (R : Type) (κ : Ex → St → Option R) (r : R), f16_l0 n a b n' i k out R κ = some r → ∃ ee ss, κ ee ss = some r ∧ RunP C prim 16 [0, 1, 1, 1, 1] (mkS [(0, .sl 1 a), (1, .sl 1 b), (5, .sl 1 n'), (6, .ref ⟨.loc 6, 0, [], 57, false⟩), (7, .sc (.int .i64 i)), (8, .sc (.int .i64 k))] [(.loc 6, some ⟨false, [.own 57 false out]⟩)]) ee ss := by
  induction n with
  | zero => intro a b n' i k out R κ r h; cases h
  | succ n ih =>
    intro a b n' i k out R κ r h
    refine loop_round (K := K_f16_l0) (T := T_f16_l0) K_f16_l0_ok T_f16_l0_ok (p := [0, 1, 1, 1, 1]) (by kernel_rfl) (fun st => bif ckS f16_l0_ls f16_l0_rs st then f16_l0 n ((st.env 0).cellsOf) ((st.env 1).cellsOf) ((st.env 5).cellsOf) ((st.env 7).intOf) ((st.env 8).intOf) ((nthV (rowOf (st.regs (.loc 6))) 0).cellsOf) R κ else none) (fun st0 h0 => ?_) ?_
    · obtain ⟨hs, h0⟩ := cond_some h0
      rw [canon (ls := f16_l0_ls) (rs := f16_l0_rs) (by kernel_rfl) st0 hs]
      exact ih _ _ _ _ _ _ R κ r h0
    · refine Eq.trans ?_ h
      kernel_rfl

def f16_s0 (a : List V) (b : List V) (n' : List V) (i : Int) (k : Int) (out : List V) (R : Type) (κ : Ex → St → Option R) : Option R :=
  κ .rt (mkS [(4, .ref ⟨.loc 4, 0, [], 57, false⟩)] [(.loc 4, some ⟨false, [.own 57 false (out ++ hunksP a b (stayP (a.drop i.toNat) i.toNat (b.drop k.toNat) k.toNat) i k)]⟩)])
theorem f16_l0_c (a b : List V) (ha : a.all V.isStr = true) (hb : b.all V.isStr = true) (la : a.length ≤ 2000000) (lb : b.length ≤ 2000000) :
    ∀ d i k out, a.length ≤ i + d → i ≤ a.length → k ≤ b.length → out.length + 4 * d ≤ 1100000000 → ∀ n, d < n → ∀ (R : Type) (κ : Ex → St → Option R),
    f16_l0 n a b (tabS a b) (i : Int) (k : Int) out R κ = κ .rt (mkS [(4, .ref ⟨.loc 4, 0, [], 57, false⟩)] [(.loc 4, some ⟨false, [.own 57 false (out ++ hunksP a b (stayP (a.drop i) i (b.drop k) k) (i : Int) (k : Int))]⟩)]) := by
  intro d
  induction d with
  | zero =>
    intro i k out h1 h2 h3 ho n hn R κ
    obtain ⟨n, rfl⟩ : ∃ j, n = j + 1 := ⟨n - 1, by omega⟩
    obtain rfl : i = a.length := by omega
    have hs : stayP (a.drop a.length) a.length (b.drop k) k = [] := by rw [List.drop_length]; rfl
    have hr : (roomy ((lenE 4 out.length + 1) * 64) && roomy (lenE 4 out.length + 1)) = true := by
      have : lenE 4 out.length = out.length / 4 := rfl
      unfold roomy
      rw [this, dec_true (by omega), dec_true (by omega)]; rfl
    rw [f16_l0]
    simp only [Int.toNat_natCast, pOf_stay, hs, headP, hunksP, hkI, ha, hb, hr, eqTab_refl, dec_true la, dec_true lb, wrap_pred (show a.length < 9223372036854775807 by omega), Int.sub_add_cancel, beq_self_eq_true,
      dec_true (show a.length ≤ 1000000000 by omega), dec_true (show b.length ≤ 1000000000 by omega), dec_true (show (0 : Int) ≤ ((a.length : Nat) : Int) by omega), dec_true (show ((a.length : Nat) : Int) ≤ ((a.length : Nat) : Int) by omega), dec_true (show (0 : Int) ≤ (k : Int) by omega), dec_true (show (k : Int) ≤ ((b.length : Nat) : Int) by omega), dec_true (show ((b.length : Nat) : Int) ≤ ((b.length : Nat) : Int) by omega), Bool.and_true, cond_true]
    cases decide (((a.length : Nat) : Int) > ((a.length : Nat) : Int)) <;> cases decide (((b.length : Nat) : Int) > (k : Int)) <;> simp only [cond_true, cond_false, Bool.or_true, Bool.true_or, Bool.or_false, Bool.false_or, List.append_nil]
  | succ d ih =>
    intro i k out h1 h2 h3 ho n hn R κ
    obtain ⟨n, rfl⟩ : ∃ j, n = j + 1 := ⟨n - 1, by omega⟩
    have hr : (roomy ((lenE 4 out.length + 1) * 64) && roomy (lenE 4 out.length + 1)) = true := by
      have : lenE 4 out.length = out.length / 4 := rfl
      unfold roomy
      rw [this, dec_true (by omega), dec_true (by omega)]; rfl
    have t2 : nthV (tabS a b) i = rowS (a.drop i) b := tabS_nth b a _ h2
    have v2 : nthV (rowV (a.drop i) b) k = cellN (lcs (a.drop i) (b.drop k)) := rowV_nth _ _ _ h3
    cases hs : stayP (a.drop i) i (b.drop k) k with
    | nil =>
      rw [f16_l0]
      simp only [Int.toNat_natCast, pOf_stay, hs, headP, hunksP, hkI, ha, hb, hr, eqTab_refl, dec_true la, dec_true lb, wrap_pred (show a.length < 9223372036854775807 by omega), Int.sub_add_cancel, beq_self_eq_true,
        dec_true (show a.length ≤ 1000000000 by omega), dec_true (show b.length ≤ 1000000000 by omega), dec_true (show (0 : Int) ≤ (i : Int) by omega), dec_true (show (i : Int) ≤ ((a.length : Nat) : Int) by omega), dec_true (show ((a.length : Nat) : Int) ≤ ((a.length : Nat) : Int) by omega), dec_true (show (0 : Int) ≤ (k : Int) by omega), dec_true (show (k : Int) ≤ ((b.length : Nat) : Int) by omega), dec_true (show ((b.length : Nat) : Int) ≤ ((b.length : Nat) : Int) by omega), Bool.and_true, cond_true]
      cases decide (((a.length : Nat) : Int) > (i : Int)) <;> cases decide (((b.length : Nat) : Int) > (k : Int)) <;> simp only [cond_true, cond_false, Bool.or_true, Bool.true_or, Bool.or_false, Bool.false_or, List.append_nil]
    | cons z l =>
      obtain ⟨p, q⟩ := z
      obtain ⟨hN, m', n', rfl, rfl, hm, hnn, rfl⟩ := stay_head _ _ _ _ _ _ _ hs
      rw [List.length_drop] at hm hnn
      have e1 : ((((i + m' : Nat) : Int)) == ((a.length : Nat) : Int)) = false := by rw [beq_eq_false_iff_ne]; omega
      have e2 : (((lcs (a.drop i) (b.drop k) : Nat) : Int) == 0) = false := by rw [beq_eq_false_iff_ne]; omega
      have w1 : IntKind.wrap .i64 (((i + m' : Nat) : Int) + 1) = ((i + m' + 1 : Nat) : Int) := wrap_succ (by omega)
      have w2 : IntKind.wrap .i64 (((k + n' : Nat) : Int) + 1) = ((k + n' + 1 : Nat) : Int) := wrap_succ (by omega)
      have IH : ∀ out', out'.length ≤ out.length + 4 → f16_l0 n a b (tabS a b) ((i + m' + 1 : Nat) : Int) ((k + n' + 1 : Nat) : Int) out' R κ = κ .rt (mkS [(4, .ref ⟨.loc 4, 0, [], 57, false⟩)] [(.loc 4, some ⟨false, [.own 57 false (out' ++ hunksP a b (stayP ((a.drop i).drop (m' + 1)) (i + m' + 1) ((b.drop k).drop (n' + 1)) (k + n' + 1)) (((i + m' : Nat) : Int) + 1) (((k + n' : Nat) : Int) + 1))]⟩)]) := by
        intro out' ho'
        have := ih (i + m' + 1) (k + n' + 1) out' (by omega) (by omega) (by omega) (by omega) n (by omega) R κ
        rw [List.drop_drop, List.drop_drop]
        exact this
      rw [f16_l0]
      simp only [Int.toNat_natCast, pOf_stay, hs, headP, hunksP, hkI, ha, hb, hr, eqTab_refl, dec_true la, dec_true lb, wrap_pred (show a.length < 9223372036854775807 by omega), Int.sub_add_cancel, beq_self_eq_true, e1, e2, w1, w2, Nat.mul_one, Nat.add_zero, t2, rowS, isSl_sl, cellsOf_sl, tabS_len, rowV_len, v2, isInt_cellN, intOf_cellN,
        dec_true (show a.length ≤ 1000000000 by omega), dec_true (show b.length ≤ 1000000000 by omega), dec_true (show (0 : Int) ≤ (i : Int) by omega), dec_true (show (i : Int) ≤ ((a.length : Nat) : Int) by omega), dec_true (show (0 : Int) ≤ (k : Int) by omega), dec_true (show (k : Int) ≤ ((b.length : Nat) : Int) by omega),
        dec_true (show (i : Int) ≤ ((i + m' : Nat) : Int) by omega), dec_true (show ((i + m' : Nat) : Int) ≤ ((a.length : Nat) : Int) by omega), dec_true (show (k : Int) ≤ ((k + n' : Nat) : Int) by omega), dec_true (show ((k + n' : Nat) : Int) ≤ ((b.length : Nat) : Int) by omega), dec_true (show (i : Int) < ((a.length + 1 : Nat) : Int) by omega), dec_true (show (k : Int) < ((b.length + 1 : Nat) : Int) by omega), Bool.and_true, cond_true, cond_false]
      cases decide (((i + m' : Nat) : Int) > (i : Int)) <;> cases decide (((k + n' : Nat) : Int) > (k : Int))
      · simp only [cond_false, Bool.or_false, List.nil_append]
        rw [IH out (by omega)]
      all_goals
        simp only [cond_true, cond_false, Bool.or_true, Bool.true_or]
        rw [IH _ (by simp only [List.length_append, List.length_cons, List.length_nil]; omega), List.append_assoc]
theorem f16_s0_eq (a : List V) (b : List V) (n' : List V) (i : Int) (k : Int) (out : List V) (hp : (a.all V.isStr && b.all V.isStr && decide (a.length ≤ 2000000) && decide (b.length ≤ 2000000) && eqTab n' (tabS a b) && decide (0 ≤ i) && decide (i ≤ ((a.length : Nat) : Int)) && decide (0 ≤ k) && decide (k ≤ ((b.length : Nat) : Int)) && decide (out.length ≤ 1000000000)) = true) : ∃ n, ∀ (R : Type) (κ : Ex → St → Option R), f16_l0 n a b n' i k out R κ = f16_s0 a b n' i k out R κ := by
  simp only [Bool.and_eq_true, decide_eq_true_eq, beq_iff_eq] at hp
  obtain ⟨⟨⟨⟨⟨⟨⟨⟨⟨h1, h2⟩, h3⟩, h4⟩, h5⟩, h6⟩, h7⟩, h8⟩, h9⟩, h10⟩ := hp
  obtain rfl := eqTab_eq b a n' h5
  obtain ⟨i, rfl⟩ : ∃ j : Nat, i = (j : Int) := ⟨i.toNat, by omega⟩
  obtain ⟨k, rfl⟩ : ∃ j : Nat, k = (j : Int) := ⟨k.toNat, by omega⟩
  refine ⟨a.length + 1, fun R κ => ?_⟩
  have := f16_l0_c a b h1 h2 h3 h4 a.length i k out (by omega) (by omega) (by omega) (by omega) (a.length + 1) (by omega) R κ
  rw [this]
  unfold f16_s0
  rw [Int.toNat_natCast, Int.toNat_natCast]
def t_f16_l0 (st : St) (R : Type) (κ : Ex → St → Option R) : Option R := bif ckS f16_l0_ls f16_l0_rs st then (bif (((st.env 0).cellsOf).all V.isStr && ((st.env 1).cellsOf).all V.isStr && decide (((st.env 0).cellsOf).length ≤ 2000000) && decide (((st.env 1).cellsOf).length ≤ 2000000) && eqTab ((st.env 5).cellsOf) (tabS ((st.env 0).cellsOf) ((st.env 1).cellsOf)) && decide (0 ≤ ((st.env 7).intOf)) && decide (((st.env 7).intOf) ≤ ((((st.env 0).cellsOf).length : Nat) : Int)) && decide (0 ≤ ((st.env 8).intOf)) && decide (((st.env 8).intOf) ≤ ((((st.env 1).cellsOf).length : Nat) : Int)) && decide (((nthV (rowOf (st.regs (.loc 6))) 0).cellsOf).length ≤ 1000000000)) then f16_s0 ((st.env 0).cellsOf) ((st.env 1).cellsOf) ((st.env 5).cellsOf) ((st.env 7).intOf) ((st.env 8).intOf) ((nthV (rowOf (st.regs (.loc 6))) 0).cellsOf) R κ else none) else none
theorem t_f16_l0_ok : ∀ st0 R κ r, t_f16_l0 (forget C 16 [0, 1, 1, 1, 1] st0) R κ = some r → ∃ ee ss, κ ee ss = some r ∧ RunP C prim 16 [0, 1, 1, 1, 1] (forget C 16 [0, 1, 1, 1, 1] st0) ee ss := by
  intro st0 R κ r h
  obtain ⟨hs, h⟩ := cond_some h
  obtain ⟨hp, h⟩ := cond_some h
  rw [canon (ls := f16_l0_ls) (rs := f16_l0_rs) (by kernel_rfl) st0 hs]
  obtain ⟨n, hn⟩ := f16_s0_eq _ _ _ _ _ _ hp
  rw [← hn] at h
  exact f16_l0_ok n _ _ _ _ _ _ R κ r h

def K_f16 : CallK := kCons 52 k52 <| kNil
theorem K_f16_ok : KOK C prim K_f16 := KOK.cons k52_ok <| KOK.nil
def T_f16 : Tab := tCons [0, 1, 1, 1, 1] t_f16_l0 <| tNil
theorem T_f16_ok : TOK C prim 16 T_f16 := TOK.cons t_f16_l0_ok <| TOK.nil
def f16 (a : List V) (b : List V) : Option (V × List Rg) :=
  bif ((a.all V.isStr && b.all V.isStr && decide (a.length ≤ 2000000) && decide (b.length ≤ 2000000)) && true) then
    bif (a.all V.isStr && b.all V.isStr && decide (a.length ≤ 2000000) && decide (b.length ≤ 2000000) && eqTab (tabS a b) (tabS a b) && decide (0 ≤ (0 : Int)) && decide ((0 : Int) ≤ ((a.length : Nat) : Int)) && decide (0 ≤ (0 : Int)) && decide ((0 : Int) ≤ ((b.length : Nat) : Int)) && decide (([] : List V).length ≤ 1000000000)) then
      some (.own 57 false (([] : List V) ++ hunksP a b (stayP (a.drop (0 : Int).toNat) (0 : Int).toNat (b.drop (0 : Int).toNat) (0 : Int).toNat) (0 : Int) (0 : Int)), [])
    else none
  else none
theorem f16_run (a : List V) (b : List V) (z9 : V × List Rg) (h : f16 a b = some z9) : CallR C prim 16 [.sl 1 a, .sl 1 b] [] z9 := by
  refine call_fn (K := K_f16) (T := T_f16) K_f16_ok T_f16_ok (by kernel_rfl) ?_
  refine Eq.trans ?_ h
  kernel_rfl

theorem f16_eq (a : List V) (b : List V) (hp : (a.all V.isStr && b.all V.isStr && decide (a.length ≤ 2000000) && decide (b.length ≤ 2000000)) = true) : f16 a b = some (.own 57 false (difL a b), []) := by
  simp only [Bool.and_eq_true, decide_eq_true_eq] at hp
  obtain ⟨⟨⟨h1, h2⟩, h3⟩, h4⟩ := hp
  unfold f16
  rw [h1, h2, dec_true h3, dec_true h4, eqTab_refl, dec_true (show (0 : Int) ≤ ((a.length : Nat) : Int) by omega), dec_true (show (0 : Int) ≤ ((b.length : Nat) : Int) by omega)]
  rfl
def k16 : PrimT := fun vs gs => match vs, gs with
  | [.sl 1 a, .sl 1 b], [] => ((a.all V.isStr && b.all V.isStr && decide (a.length ≤ 2000000) && decide (b.length ≤ 2000000)), .own 57 false (difL a b), [])
  | _, _ => (false, .bad, [])
theorem k16_ok : ∀ vs gs x, k16 vs gs = (true, x) → CallR C prim 16 vs gs x := by
  intro vs gs x h
  unfold k16 at h
  split at h
  · simp only [Prod.mk.injEq] at h
    obtain ⟨hp, rfl⟩ := h
    exact f16_run _ _ _ (f16_eq _ _ hp)
  · cases h

def K_f109_l0 : CallK := kNil
theorem K_f109_l0_ok : KOK C prim K_f109_l0 := KOK.nil
def T_f109_l0 : Tab := tNil
theorem T_f109_l0_ok : TOK C prim 109 T_f109_l0 := TOK.nil
def f109_l0 : Nat → List V → ByteArray → Int → Int → (R : Type) → (Ex → St → Option R) → Option R
  | 0, _, _, _, _, _, _ => none
  | n + 1, s, v, v7, v8, R, κ =>
    bif (decide (v8 < v7)) then
      bif (((decide ((0 : Int) ≤ v8)) && (decide (v8 < ((s.length : Nat) : Int)))) && true) then
        bif (((V.isStr (nthV s (((v8).toNat * 1) + 0))) && true) && true) then
          bif (strEq v (V.strOf (nthV s (((v8).toNat * 1) + 0)))) then
            κ .rt (mkS [(4, .sc (.int .i64 v8))] [])
          else
            f109_l0 n s v v7 (IntKind.wrap .i64 (v8 + 1)) R κ
        else none
      else none
    else
      κ (.ex 0) (mkS [(4, .bad)] [])
def f109_l0_ls : List (Nat × Pat) := [(0, .sl 1), (1, .s), (7, .i .i64), (8, .i .i64)]
def f109_l0_rs : List RPat := []
theorem f109_l0_ok (n : Nat) : ∀ (s : List V) (v : ByteArray) (v7 : Int) (v8 : Int) (R : Type) (κ : Ex → St → Option R) (r : R), f109_l0 n s v v7 v8 R κ = some r → ∃ ee ss, κ ee ss = some r ∧ RunP C prim 109 [0, 1, 0, 1] (mkS [(0, .sl 1 s), (1, .sc (.string v)), (7, .sc (.int .i64 v7)), (8, .sc (.int .i64 v8))] []) ee ss := by
  induction n with
  | zero => intro s v v7 v8 R κ r h; cases h
  | succ n ih =>
    intro s v v7 v8 R κ r h
    refine loop_round (K := K_f109_l0) (T := T_f109_l0) K_f109_l0_ok T_f109_l0_ok (p := [0, 1, 0, 1]) (by kernel_rfl) (fun st => bif ckS f109_l0_ls f109_l0_rs st then f109_l0 n ((st.env 0).cellsOf) ((st.env 1).strOf) ((st.env 7).intOf) ((st.env 8).intOf) R κ else none) (fun st0 h0 => ?_) ?_
    · obtain ⟨hs, h0⟩ := cond_some h0
      rw [canon (ls := f109_l0_ls) (rs := f109_l0_rs) (by kernel_rfl) st0 hs]
      exact ih _ _ _ _ R κ r h0
    · refine Eq.trans ?_ h
      kernel_rfl

def f109_s0 (s : List V) (v : ByteArray) (v7 : Int) (v8 : Int) (R : Type) (κ : Ex → St → Option R) : Option R :=
  bif (decide (0 ≤ ixV v s 0)) then
    κ .rt (mkS [(4, .sc (.int .i64 (ixV v s 0)))] [])
  else
    κ (.ex 0) (mkS [(4, .bad)] [])
theorem f109_s0_eq (s : List V) (v : ByteArray) (v7 : Int) (v8 : Int) (hp : ((v7 == ((s.length : Nat) : Int)) && (v8 == 0) && s.all V.isStr && decide (s.length ≤ 1000000000)) = true) : ∃ n, ∀ (R : Type) (κ : Ex → St → Option R), f109_l0 n s v v7 v8 R κ = f109_s0 s v v7 v8 R κ := by
  simp only [Bool.and_eq_true, decide_eq_true_eq, beq_iff_eq] at hp
  obtain ⟨⟨⟨rfl, rfl⟩, h3⟩, h4⟩ := hp
  refine ⟨s.length + 1, fun R κ => ?_⟩
  have := findLoop (fun n k => f109_l0 n s v ((s.length : Nat) : Int) k R κ) s (fun x => strEq v x.strOf) (fun k => κ .rt (mkS [(4, .sc (.int .i64 k))] [])) (κ (.ex 0) (mkS [(4, .bad)] [])) ?_ ?_ s.length 0 (by omega) (s.length + 1) (by omega)
  · rw [List.drop_zero, (ixBy_any _ s 0).1, ← ixV_by] at this
    exact this
  · intro n k hk
    have hs : V.isStr s[k] = true := List.all_eq_true.1 h3 _ (List.getElem_mem hk)
    show f109_l0 (n + 1) s v ((s.length : Nat) : Int) (k : Int) R κ = _
    rw [f109_l0, dec_true (show (k : Int) < ((s.length : Nat) : Int) by omega), dec_true (show (0 : Int) ≤ (k : Int) by omega), nth_at hk, hs, wrap_succ (by omega)]
    rfl
  · intro n
    show f109_l0 (n + 1) s v ((s.length : Nat) : Int) ((s.length : Nat) : Int) R κ = _
    rw [f109_l0, dec_false (by omega)]
    rfl
def t_f109_l0 (st : St) (R : Type) (κ : Ex → St → Option R) : Option R := bif ckS f109_l0_ls f109_l0_rs st then (bif ((((st.env 7).intOf) == ((((st.env 0).cellsOf).length : Nat) : Int)) && (((st.env 8).intOf) == 0) && ((st.env 0).cellsOf).all V.isStr && decide (((st.env 0).cellsOf).length ≤ 1000000000)) then f109_s0 ((st.env 0).cellsOf) ((st.env 1).strOf) ((st.env 7).intOf) ((st.env 8).intOf) R κ else none) else none
theorem t_f109_l0_ok : ∀ st0 R κ r, t_f109_l0 (forget C 109 [0, 1, 0, 1] st0) R κ = some r → ∃ ee ss, κ ee ss = some r ∧ RunP C prim 109 [0, 1, 0, 1] (forget C 109 [0, 1, 0, 1] st0) ee ss := by
  intro st0 R κ r h
  obtain ⟨hs, h⟩ := cond_some h
  obtain ⟨hp, h⟩ := cond_some h
  rw [canon (ls := f109_l0_ls) (rs := f109_l0_rs) (by kernel_rfl) st0 hs]
  obtain ⟨n, hn⟩ := f109_s0_eq _ _ _ _ hp
  rw [← hn] at h
  exact f109_l0_ok n _ _ _ _ R κ r h

def K_f109 : CallK := kNil
theorem K_f109_ok : KOK C prim K_f109 := KOK.nil
def T_f109 : Tab := tCons [0, 1, 0, 1] t_f109_l0 <| tNil
theorem T_f109_ok : TOK C prim 109 T_f109 := TOK.cons t_f109_l0_ok <| TOK.nil
def f109 (s : List V) (v : ByteArray) : Option (V × List Rg) :=
  bif ((((s.length : Nat) : Int) == ((s.length : Nat) : Int)) && ((0 : Int) == 0) && s.all V.isStr && decide (s.length ≤ 1000000000)) then
    bif (decide (0 ≤ ixV v s 0)) then
      some (.sc (.int .i64 (ixV v s 0)), [])
    else
      some (.sc (.int .i64 (-1)), [])
  else none
theorem f109_run (s : List V) (v : ByteArray) (z9 : V × List Rg) (h : f109 s v = some z9) : CallR C prim 109 [.sl 1 s, .sc (.string v)] [] z9 := by
  refine call_fn (K := K_f109) (T := T_f109) K_f109_ok T_f109_ok (by kernel_rfl) ?_
  refine Eq.trans ?_ h
  kernel_rfl

theorem f109_eq (s : List V) (v : ByteArray) (hp : (s.all V.isStr && decide (s.length ≤ 1000000000)) = true) : f109 s v = some (.sc (.int .i64 (ixV v s 0)), []) := by
  simp only [Bool.and_eq_true, decide_eq_true_eq] at hp
  unfold f109
  rw [hp.1, dec_true hp.2, beq_self_eq_true]
  rcases (ixV_from v s 0).2.2 with h | h
  · rw [h]; rfl
  · rw [dec_true h]; rfl
def k109 : PrimT := fun vs gs => match vs, gs with
  | [.sl 1 s, .sc (.string v)], [] => ((s.all V.isStr && decide (s.length ≤ 1000000000)), .sc (.int .i64 (ixV v s 0)), [])
  | _, _ => (false, .bad, [])
theorem k109_ok : ∀ vs gs x, k109 vs gs = (true, x) → CallR C prim 109 vs gs x := by
  intro vs gs x h
  unfold k109 at h
  split at h
  · simp only [Prod.mk.injEq] at h
    obtain ⟨hp, rfl⟩ := h
    exact f109_run _ _ _ (f109_eq _ _ hp)
  · cases h

def K_f87_l0 : CallK := kNil
theorem K_f87_l0_ok : KOK C prim K_f87_l0 := KOK.nil
def T_f87_l0 : Tab := tNil
theorem T_f87_l0_ok : TOK C prim 87 T_f87_l0 := TOK.nil
def f87_l0 : Nat → List V → List V → Int → Int → List V → (R : Type) → (Ex → St → Option R) → Option R
  | 0, _, _, _, _, _, _, _ => none
  | n + 1, a, b, v18, v19, rest, R, κ =>
    bif (decide (v19 < v18)) then
      bif ((((((((((decide ((0 : Int) ≤ (IntKind.wrap .i64 (((b.length : Nat) : Int) + 1)))) && (decide ((IntKind.wrap .i64 (((b.length : Nat) : Int) + 1)) ≤ (IntKind.wrap .i64 (((b.length : Nat) : Int) + 1))))) && true) && true) && true) && true) && true) && (roomy (((IntKind.wrap .i64 (((b.length : Nat) : Int) + 1))).toNat * 8))) && (roomy ((IntKind.wrap .i64 (((b.length : Nat) : Int) + 1))).toNat)) && true) then
        bif (((decide ((0 : Int) ≤ v19)) && (decide (v19 < ((rest.length : Nat) : Int)))) && true) then
          f87_l0 n a b v18 (IntKind.wrap .i64 (v19 + 1)) (rest.set (((v19).toNat * 1) + 0) (.own 3 false ((List.replicate ((IntKind.wrap .i64 (((b.length : Nat) : Int) + 1))).toNat ([.sc (.int .i64 0)] : List V)).flatten))) R κ
        else none
      else none
    else
      κ (.ex 0) (mkS [(0, .sl 1 a), (1, .sl 1 b), (4, .bad), (5, .ref ⟨.loc 5, 0, [], 48, true⟩)] [(.loc 5, some ⟨false, [.own 48 true rest]⟩)])
def f87_l0_ls : List (Nat × Pat) := [(0, .sl 1), (1, .sl 1), (5, .is (.ref ⟨.loc 5, 0, [], 48, true⟩)), (18, .i .i64), (19, .i .i64)]
def f87_l0_rs : List RPat := [⟨.loc 5, false, [.own 48 true]⟩]
theorem f87_l0_ok (n : Nat) : ∀ (a : List V) (b : List V) (v18 : Int) (v19 : Int) (rest : List V) (R : Type) (κ : Ex → St → Option R) (r : R), f87_l0 n a b v18 v19 rest R κ = some r → ∃ ee ss, κ ee ss = some r ∧ RunP C prim 87 [0, 1, 0, 1, 1] (mkS [(0, .sl 1 a), (1, .sl 1 b), (5, .ref ⟨.loc 5, 0, [], 48, true⟩), (18, .sc (.int .i64 v18)), (19, .sc (.int .i64 v19))] [(.loc 5, some ⟨false, [.own 48 true rest]⟩)]) ee ss := by
  induction n with
  | zero => intro a b v18 v19 rest R κ r h; cases h
  | succ n ih =>
    intro a b v18 v19 rest R κ r h
    refine loop_round (K := K_f87_l0) (T := T_f87_l0) K_f87_l0_ok T_f87_l0_ok (p := [0, 1, 0, 1, 1]) (by kernel_rfl) (fun st => bif ckS f87_l0_ls f87_l0_rs st then f87_l0 n ((st.env 0).cellsOf) ((st.env 1).cellsOf) ((st.env 18).intOf) ((st.env 19).intOf) ((nthV (rowOf (st.regs (.loc 5))) 0).cellsOf) R κ else none) (fun st0 h0 => ?_) ?_
    · obtain ⟨hs, h0⟩ := cond_some h0
      rw [canon (ls := f87_l0_ls) (rs := f87_l0_rs) (by kernel_rfl) st0 hs]
      exact ih _ _ _ _ _ R κ r h0
    · refine Eq.trans ?_ h
      kernel_rfl

def f87_s0 (a : List V) (b : List V) (v18 : Int) (v19 : Int) (rest : List V) (R : Type) (κ : Ex → St → Option R) : Option R :=
  κ (.ex 0) (mkS [(0, .sl 1 a), (1, .sl 1 b), (4, .bad), (5, .ref ⟨.loc 5, 0, [], 48, true⟩)] [(.loc 5, some ⟨false, [.own 48 true (List.replicate rest.length (zrow b))]⟩)])
theorem f87_l0_c (a b : List V) (z : Nat) (hb : b.length ≤ 2000000) (hz : z ≤ 2000001) : ∀ (m k : Nat) (r : List V), k + m = z → r.length = m → ∀ n, m < n → ∀ (R : Type) (κ : Ex → St → Option R), f87_l0 n a b ((z : Nat) : Int) (k : Int) (List.replicate k (zrow b) ++ r) R κ = κ (.ex 0) (mkS [(0, .sl 1 a), (1, .sl 1 b), (4, .bad), (5, .ref ⟨.loc 5, 0, [], 48, true⟩)] [(.loc 5, some ⟨false, [.own 48 true (List.replicate z (zrow b))]⟩)]) := by
  have hw : IntKind.wrap .i64 (((b.length : Nat) : Int) + 1) = ((b.length + 1 : Nat) : Int) := wrap_succ (by omega)
  intro m
  induction m with
  | zero =>
    intro k r hk hr n hn R κ
    obtain ⟨n, rfl⟩ : ∃ j, n = j + 1 := ⟨n - 1, by omega⟩
    obtain rfl := List.eq_nil_of_length_eq_zero hr
    obtain rfl : k = z := by omega
    rw [f87_l0, dec_false (by omega), List.append_nil]
    rfl
  | succ m ih =>
    intro k r hk hr n hn R κ
    obtain ⟨n, rfl⟩ : ∃ j, n = j + 1 := ⟨n - 1, by omega⟩
    obtain ⟨x, r, rfl⟩ : ∃ x r', r = x :: r' := by cases r with | nil => simp at hr | cons x r => exact ⟨x, r, rfl⟩
    have hlen : (List.replicate k (zrow b) ++ x :: r).length = z := by simp only [List.length_append, List.length_replicate, List.length_cons] at hr ⊢; omega
    have h1 : roomy ((b.length + 1) * 8) = true := by unfold roomy; exact dec_true (by omega)
    have h2 : roomy (b.length + 1) = true := by unfold roomy; exact dec_true (by omega)
    rw [f87_l0, dec_true (show (k : Int) < ((z : Nat) : Int) by omega), hw, hlen, Int.toNat_natCast, Int.toNat_natCast, h1, h2, dec_true (show (0 : Int) ≤ ((b.length + 1 : Nat) : Int) by omega), dec_true (show ((b.length + 1 : Nat) : Int) ≤ ((b.length + 1 : Nat) : Int) by omega), dec_true (show (0 : Int) ≤ (k : Int) by omega), dec_true (show (k : Int) < ((z : Nat) : Int) by omega), flatten_rep, Nat.mul_one, Nat.add_zero, set_rep, wrap_succ (by omega)]
    have := ih (k + 1) r (by omega) (by simpa using hr) n (by omega) R κ
    rw [rep_more] at this
    exact this
theorem f87_s0_eq (a : List V) (b : List V) (v18 : Int) (v19 : Int) (rest : List V) (hp : ((v18 == ((rest.length : Nat) : Int)) && (v19 == 0) && decide (b.length ≤ 2000000) && decide (rest.length ≤ 2000001)) = true) : ∃ n, ∀ (R : Type) (κ : Ex → St → Option R), f87_l0 n a b v18 v19 rest R κ = f87_s0 a b v18 v19 rest R κ := by
  simp only [Bool.and_eq_true, decide_eq_true_eq, beq_iff_eq] at hp
  obtain ⟨⟨⟨rfl, rfl⟩, h1⟩, h2⟩ := hp
  exact ⟨rest.length + 1, fun R κ => f87_l0_c a b rest.length h1 h2 rest.length 0 rest (by omega) rfl _ (by omega) R κ⟩
def t_f87_l0 (st : St) (R : Type) (κ : Ex → St → Option R) : Option R := bif ckS f87_l0_ls f87_l0_rs st then (bif ((((st.env 18).intOf) == ((((nthV (rowOf (st.regs (.loc 5))) 0).cellsOf).length : Nat) : Int)) && (((st.env 19).intOf) == 0) && decide (((st.env 1).cellsOf).length ≤ 2000000) && decide (((nthV (rowOf (st.regs (.loc 5))) 0).cellsOf).length ≤ 2000001)) then f87_s0 ((st.env 0).cellsOf) ((st.env 1).cellsOf) ((st.env 18).intOf) ((st.env 19).intOf) ((nthV (rowOf (st.regs (.loc 5))) 0).cellsOf) R κ else none) else none
theorem t_f87_l0_ok : ∀ st0 R κ r, t_f87_l0 (forget C 87 [0, 1, 0, 1, 1] st0) R κ = some r → ∃ ee ss, κ ee ss = some r ∧ RunP C prim 87 [0, 1, 0, 1, 1] (forget C 87 [0, 1, 0, 1, 1] st0) ee ss := by
  intro st0 R κ r h
  obtain ⟨hs, h⟩ := cond_some h
  obtain ⟨hp, h⟩ := cond_some h
  rw [canon (ls := f87_l0_ls) (rs := f87_l0_rs) (by kernel_rfl) st0 hs]
  obtain ⟨n, hn⟩ := f87_s0_eq _ _ _ _ _ hp
  rw [← hn] at h
  exact f87_l0_ok n _ _ _ _ _ R κ r h

def K_f87_l2 : CallK := kNil
theorem K_f87_l2_ok : KOK C prim K_f87_l2 := KOK.nil
def T_f87_l2 : Tab := tNil
theorem T_f87_l2_ok : TOK C prim 87 T_f87_l2 := TOK.nil
def f87_l2 : Nat → List V → List V → Int → Int → List V → (R : Type) → (Ex → St → Option R) → Option R
  | 0, _, _, _, _, _, _, _ => none
  | n + 1, a, b, i, k, rest, R, κ =>
    bif (decide (k ≥ 0)) then
      bif (((decide ((0 : Int) ≤ i)) && (decide (i < ((rest.length : Nat) : Int)))) && true) then
        bif (((V.isOwnD 3 false (nthV rest (((i).toNat * 1) + 0))) && true) && true) then
          bif (((decide ((0 : Int) ≤ (IntKind.wrap .i64 (i + 1)))) && (decide ((IntKind.wrap .i64 (i + 1)) < ((rest.length : Nat) : Int)))) && true) then
            bif (((V.isOwnD 3 false (nthV rest ((((IntKind.wrap .i64 (i + 1))).toNat * 1) + 0))) && true) && true) then
              bif (((((V.isOwnD 3 false (nthV rest ((((IntKind.wrap .i64 (i + 1))).toNat * 1) + 0))) && true) && (decide ((0 : Int) ≤ k))) && (decide (k < ((((V.cellsOf (nthV rest ((((IntKind.wrap .i64 (i + 1))).toNat * 1) + 0)))).length : Nat) : Int)))) && true) then
                bif (((V.isOwnD 3 false (nthV rest ((((IntKind.wrap .i64 (i + 1))).toNat * 1) + 0))) && true) && (((V.isInt .i64 (nthV (V.cellsOf (nthV rest ((((IntKind.wrap .i64 (i + 1))).toNat * 1) + 0))) (((k).toNat * 1) + 0))) && true) && true)) then
                  bif (((decide ((0 : Int) ≤ i)) && (decide (i < ((rest.length : Nat) : Int)))) && true) then
                    bif (((V.isOwnD 3 false (nthV rest (((i).toNat * 1) + 0))) && true) && true) then
                      bif (((((V.isOwnD 3 false (nthV rest (((i).toNat * 1) + 0))) && true) && (decide ((0 : Int) ≤ (IntKind.wrap .i64 (k + 1))))) && (decide ((IntKind.wrap .i64 (k + 1)) < ((((V.cellsOf (nthV rest (((i).toNat * 1) + 0)))).length : Nat) : Int)))) && true) then
                        bif (((V.isOwnD 3 false (nthV rest (((i).toNat * 1) + 0))) && true) && (((V.isInt .i64 (nthV (V.cellsOf (nthV rest (((i).toNat * 1) + 0))) ((((IntKind.wrap .i64 (k + 1))).toNat * 1) + 0))) && true) && true)) then
                          bif (((((V.isOwnD 3 false (nthV rest (((i).toNat * 1) + 0))) && true) && (decide ((0 : Int) ≤ k))) && (decide (k < ((((V.cellsOf (nthV rest (((i).toNat * 1) + 0)))).length : Nat) : Int)))) && true) then
                            bif (((((((V.isOwnD 3 false (nthV rest (((i).toNat * 1) + 0))) && true) && (V.isOwnD 3 false (nthV rest (((i).toNat * 1) + 0)))) && true) && true) && true) && true) then
                              bif (((decide ((0 : Int) ≤ i)) && (decide (i < ((a.length : Nat) : Int)))) && true) then
                                bif (((V.isStr (nthV a (((i).toNat * 1) + 0))) && true) && true) then
                                  bif (((decide ((0 : Int) ≤ k)) && (decide (k < ((b.length : Nat) : Int)))) && true) then
                                    bif (((V.isStr (nthV b (((k).toNat * 1) + 0))) && true) && true) then
                                      bif (strEq (V.strOf (nthV a (((i).toNat * 1) + 0))) (V.strOf (nthV b (((k).toNat * 1) + 0)))) then
                                        bif (((decide ((0 : Int) ≤ i)) && (decide (i < ((((rest.set (((i).toNat * 1) + 0) (setOwn (fun xs => (xs.set (((k).toNat * 1) + 0) (.sc (.int .i64 (bif (decide ((V.intOf (nthV (V.cellsOf (nthV rest (((i).toNat * 1) + 0))) ((((IntKind.wrap .i64 (k + 1))).toNat * 1) + 0))) > (V.intOf (nthV (V.cellsOf (nthV rest ((((IntKind.wrap .i64 (i + 1))).toNat * 1) + 0))) (((k).toNat * 1) + 0))))) then (V.intOf (nthV (V.cellsOf (nthV rest (((i).toNat * 1) + 0))) ((((IntKind.wrap .i64 (k + 1))).toNat * 1) + 0))) else (V.intOf (nthV (V.cellsOf (nthV rest ((((IntKind.wrap .i64 (i + 1))).toNat * 1) + 0))) (((k).toNat * 1) + 0)))))))) (nthV rest (((i).toNat * 1) + 0))))).length : Nat) : Int)))) && true) then
                                          bif (((V.isOwnD 3 false (nthV (rest.set (((i).toNat * 1) + 0) (setOwn (fun xs => (xs.set (((k).toNat * 1) + 0) (.sc (.int .i64 (bif (decide ((V.intOf (nthV (V.cellsOf (nthV rest (((i).toNat * 1) + 0))) ((((IntKind.wrap .i64 (k + 1))).toNat * 1) + 0))) > (V.intOf (nthV (V.cellsOf (nthV rest ((((IntKind.wrap .i64 (i + 1))).toNat * 1) + 0))) (((k).toNat * 1) + 0))))) then (V.intOf (nthV (V.cellsOf (nthV rest (((i).toNat * 1) + 0))) ((((IntKind.wrap .i64 (k + 1))).toNat * 1) + 0))) else (V.intOf (nthV (V.cellsOf (nthV rest ((((IntKind.wrap .i64 (i + 1))).toNat * 1) + 0))) (((k).toNat * 1) + 0)))))))) (nthV rest (((i).toNat * 1) + 0)))) (((i).toNat * 1) + 0))) && true) && true) then
                                            bif (((decide ((0 : Int) ≤ (IntKind.wrap .i64 (i + 1)))) && (decide ((IntKind.wrap .i64 (i + 1)) < ((((rest.set (((i).toNat * 1) + 0) (setOwn (fun xs => (xs.set (((k).toNat * 1) + 0) (.sc (.int .i64 (bif (decide ((V.intOf (nthV (V.cellsOf (nthV rest (((i).toNat * 1) + 0))) ((((IntKind.wrap .i64 (k + 1))).toNat * 1) + 0))) > (V.intOf (nthV (V.cellsOf (nthV rest ((((IntKind.wrap .i64 (i + 1))).toNat * 1) + 0))) (((k).toNat * 1) + 0))))) then (V.intOf (nthV (V.cellsOf (nthV rest (((i).toNat * 1) + 0))) ((((IntKind.wrap .i64 (k + 1))).toNat * 1) + 0))) else (V.intOf (nthV (V.cellsOf (nthV rest ((((IntKind.wrap .i64 (i + 1))).toNat * 1) + 0))) (((k).toNat * 1) + 0)))))))) (nthV rest (((i).toNat * 1) + 0))))).length : Nat) : Int)))) && true) then
                                              bif (((V.isOwnD 3 false (nthV (rest.set (((i).toNat * 1) + 0) (setOwn (fun xs => (xs.set (((k).toNat * 1) + 0) (.sc (.int .i64 (bif (decide ((V.intOf (nthV (V.cellsOf (nthV rest (((i).toNat * 1) + 0))) ((((IntKind.wrap .i64 (k + 1))).toNat * 1) + 0))) > (V.intOf (nthV (V.cellsOf (nthV rest ((((IntKind.wrap .i64 (i + 1))).toNat * 1) + 0))) (((k).toNat * 1) + 0))))) then (V.intOf (nthV (V.cellsOf (nthV rest (((i).toNat * 1) + 0))) ((((IntKind.wrap .i64 (k + 1))).toNat * 1) + 0))) else (V.intOf (nthV (V.cellsOf (nthV rest ((((IntKind.wrap .i64 (i + 1))).toNat * 1) + 0))) (((k).toNat * 1) + 0)))))))) (nthV rest (((i).toNat * 1) + 0)))) ((((IntKind.wrap .i64 (i + 1))).toNat * 1) + 0))) && true) && true) then
                                                bif (((((V.isOwnD 3 false (nthV (rest.set (((i).toNat * 1) + 0) (setOwn (fun xs => (xs.set (((k).toNat * 1) + 0) (.sc (.int .i64 (bif (decide ((V.intOf (nthV (V.cellsOf (nthV rest (((i).toNat * 1) + 0))) ((((IntKind.wrap .i64 (k + 1))).toNat * 1) + 0))) > (V.intOf (nthV (V.cellsOf (nthV rest ((((IntKind.wrap .i64 (i + 1))).toNat * 1) + 0))) (((k).toNat * 1) + 0))))) then (V.intOf (nthV (V.cellsOf (nthV rest (((i).toNat * 1) + 0))) ((((IntKind.wrap .i64 (k + 1))).toNat * 1) + 0))) else (V.intOf (nthV (V.cellsOf (nthV rest ((((IntKind.wrap .i64 (i + 1))).toNat * 1) + 0))) (((k).toNat * 1) + 0)))))))) (nthV rest (((i).toNat * 1) + 0)))) ((((IntKind.wrap .i64 (i + 1))).toNat * 1) + 0))) && true) && (decide ((0 : Int) ≤ (IntKind.wrap .i64 (k + 1))))) && (decide ((IntKind.wrap .i64 (k + 1)) < ((((V.cellsOf (nthV (rest.set (((i).toNat * 1) + 0) (setOwn (fun xs => (xs.set (((k).toNat * 1) + 0) (.sc (.int .i64 (bif (decide ((V.intOf (nthV (V.cellsOf (nthV rest (((i).toNat * 1) + 0))) ((((IntKind.wrap .i64 (k + 1))).toNat * 1) + 0))) > (V.intOf (nthV (V.cellsOf (nthV rest ((((IntKind.wrap .i64 (i + 1))).toNat * 1) + 0))) (((k).toNat * 1) + 0))))) then (V.intOf (nthV (V.cellsOf (nthV rest (((i).toNat * 1) + 0))) ((((IntKind.wrap .i64 (k + 1))).toNat * 1) + 0))) else (V.intOf (nthV (V.cellsOf (nthV rest ((((IntKind.wrap .i64 (i + 1))).toNat * 1) + 0))) (((k).toNat * 1) + 0)))))))) (nthV rest (((i).toNat * 1) + 0)))) ((((IntKind.wrap .i64 (i + 1))).toNat * 1) + 0)))).length : Nat) : Int)))) && true) then
                                                  bif (((V.isOwnD 3 false (nthV (rest.set (((i).toNat * 1) + 0) (setOwn (fun xs => (xs.set (((k).toNat * 1) + 0) (.sc (.int .i64 (bif (decide ((V.intOf (nthV (V.cellsOf (nthV rest (((i).toNat * 1) + 0))) ((((IntKind.wrap .i64 (k + 1))).toNat * 1) + 0))) > (V.intOf (nthV (V.cellsOf (nthV rest ((((IntKind.wrap .i64 (i + 1))).toNat * 1) + 0))) (((k).toNat * 1) + 0))))) then (V.intOf (nthV (V.cellsOf (nthV rest (((i).toNat * 1) + 0))) ((((IntKind.wrap .i64 (k + 1))).toNat * 1) + 0))) else (V.intOf (nthV (V.cellsOf (nthV rest ((((IntKind.wrap .i64 (i + 1))).toNat * 1) + 0))) (((k).toNat * 1) + 0)))))))) (nthV rest (((i).toNat * 1) + 0)))) ((((IntKind.wrap .i64 (i + 1))).toNat * 1) + 0))) && true) && (((V.isInt .i64 (nthV (V.cellsOf (nthV (rest.set (((i).toNat * 1) + 0) (setOwn (fun xs => (xs.set (((k).toNat * 1) + 0) (.sc (.int .i64 (bif (decide ((V.intOf (nthV (V.cellsOf (nthV rest (((i).toNat * 1) + 0))) ((((IntKind.wrap .i64 (k + 1))).toNat * 1) + 0))) > (V.intOf (nthV (V.cellsOf (nthV rest ((((IntKind.wrap .i64 (i + 1))).toNat * 1) + 0))) (((k).toNat * 1) + 0))))) then (V.intOf (nthV (V.cellsOf (nthV rest (((i).toNat * 1) + 0))) ((((IntKind.wrap .i64 (k + 1))).toNat * 1) + 0))) else (V.intOf (nthV (V.cellsOf (nthV rest ((((IntKind.wrap .i64 (i + 1))).toNat * 1) + 0))) (((k).toNat * 1) + 0)))))))) (nthV rest (((i).toNat * 1) + 0)))) ((((IntKind.wrap .i64 (i + 1))).toNat * 1) + 0))) ((((IntKind.wrap .i64 (k + 1))).toNat * 1) + 0))) && true) && true)) then
                                                    bif (((((V.isOwnD 3 false (nthV (rest.set (((i).toNat * 1) + 0) (setOwn (fun xs => (xs.set (((k).toNat * 1) + 0) (.sc (.int .i64 (bif (decide ((V.intOf (nthV (V.cellsOf (nthV rest (((i).toNat * 1) + 0))) ((((IntKind.wrap .i64 (k + 1))).toNat * 1) + 0))) > (V.intOf (nthV (V.cellsOf (nthV rest ((((IntKind.wrap .i64 (i + 1))).toNat * 1) + 0))) (((k).toNat * 1) + 0))))) then (V.intOf (nthV (V.cellsOf (nthV rest (((i).toNat * 1) + 0))) ((((IntKind.wrap .i64 (k + 1))).toNat * 1) + 0))) else (V.intOf (nthV (V.cellsOf (nthV rest ((((IntKind.wrap .i64 (i + 1))).toNat * 1) + 0))) (((k).toNat * 1) + 0)))))))) (nthV rest (((i).toNat * 1) + 0)))) (((i).toNat * 1) + 0))) && true) && (decide ((0 : Int) ≤ k))) && (decide (k < ((((V.cellsOf (nthV (rest.set (((i).toNat * 1) + 0) (setOwn (fun xs => (xs.set (((k).toNat * 1) + 0) (.sc (.int .i64 (bif (decide ((V.intOf (nthV (V.cellsOf (nthV rest (((i).toNat * 1) + 0))) ((((IntKind.wrap .i64 (k + 1))).toNat * 1) + 0))) > (V.intOf (nthV (V.cellsOf (nthV rest ((((IntKind.wrap .i64 (i + 1))).toNat * 1) + 0))) (((k).toNat * 1) + 0))))) then (V.intOf (nthV (V.cellsOf (nthV rest (((i).toNat * 1) + 0))) ((((IntKind.wrap .i64 (k + 1))).toNat * 1) + 0))) else (V.intOf (nthV (V.cellsOf (nthV rest ((((IntKind.wrap .i64 (i + 1))).toNat * 1) + 0))) (((k).toNat * 1) + 0)))))))) (nthV rest (((i).toNat * 1) + 0)))) (((i).toNat * 1) + 0)))).length : Nat) : Int)))) && true) then
                                                      bif (((((((V.isOwnD 3 false (nthV (rest.set (((i).toNat * 1) + 0) (setOwn (fun xs => (xs.set (((k).toNat * 1) + 0) (.sc (.int .i64 (bif (decide ((V.intOf (nthV (V.cellsOf (nthV rest (((i).toNat * 1) + 0))) ((((IntKind.wrap .i64 (k + 1))).toNat * 1) + 0))) > (V.intOf (nthV (V.cellsOf (nthV rest ((((IntKind.wrap .i64 (i + 1))).toNat * 1) + 0))) (((k).toNat * 1) + 0))))) then (V.intOf (nthV (V.cellsOf (nthV rest (((i).toNat * 1) + 0))) ((((IntKind.wrap .i64 (k + 1))).toNat * 1) + 0))) else (V.intOf (nthV (V.cellsOf (nthV rest ((((IntKind.wrap .i64 (i + 1))).toNat * 1) + 0))) (((k).toNat * 1) + 0)))))))) (nthV rest (((i).toNat * 1) + 0)))) (((i).toNat * 1) + 0))) && true) && (V.isOwnD 3 false (nthV (rest.set (((i).toNat * 1) + 0) (setOwn (fun xs => (xs.set (((k).toNat * 1) + 0) (.sc (.int .i64 (bif (decide ((V.intOf (nthV (V.cellsOf (nthV rest (((i).toNat * 1) + 0))) ((((IntKind.wrap .i64 (k + 1))).toNat * 1) + 0))) > (V.intOf (nthV (V.cellsOf (nthV rest ((((IntKind.wrap .i64 (i + 1))).toNat * 1) + 0))) (((k).toNat * 1) + 0))))) then (V.intOf (nthV (V.cellsOf (nthV rest (((i).toNat * 1) + 0))) ((((IntKind.wrap .i64 (k + 1))).toNat * 1) + 0))) else (V.intOf (nthV (V.cellsOf (nthV rest ((((IntKind.wrap .i64 (i + 1))).toNat * 1) + 0))) (((k).toNat * 1) + 0)))))))) (nthV rest (((i).toNat * 1) + 0)))) (((i).toNat * 1) + 0)))) && true) && true) && true) && true) then
                                                        f87_l2 n a b i (IntKind.wrap .i64 (k - 1)) ((rest.set (((i).toNat * 1) + 0) (setOwn (fun xs => (xs.set (((k).toNat * 1) + 0) (.sc (.int .i64 (bif (decide ((V.intOf (nthV (V.cellsOf (nthV rest (((i).toNat * 1) + 0))) ((((IntKind.wrap .i64 (k + 1))).toNat * 1) + 0))) > (V.intOf (nthV (V.cellsOf (nthV rest ((((IntKind.wrap .i64 (i + 1))).toNat * 1) + 0))) (((k).toNat * 1) + 0))))) then (V.intOf (nthV (V.cellsOf (nthV rest (((i).toNat * 1) + 0))) ((((IntKind.wrap .i64 (k + 1))).toNat * 1) + 0))) else (V.intOf (nthV (V.cellsOf (nthV rest ((((IntKind.wrap .i64 (i + 1))).toNat * 1) + 0))) (((k).toNat * 1) + 0)))))))) (nthV rest (((i).toNat * 1) + 0)))).set (((i).toNat * 1) + 0) (setOwn (fun xs => (xs.set (((k).toNat * 1) + 0) (.sc (.int .i64 (IntKind.wrap .i64 ((V.intOf (nthV (V.cellsOf (nthV (rest.set (((i).toNat * 1) + 0) (setOwn (fun xs => (xs.set (((k).toNat * 1) + 0) (.sc (.int .i64 (bif (decide ((V.intOf (nthV (V.cellsOf (nthV rest (((i).toNat * 1) + 0))) ((((IntKind.wrap .i64 (k + 1))).toNat * 1) + 0))) > (V.intOf (nthV (V.cellsOf (nthV rest ((((IntKind.wrap .i64 (i + 1))).toNat * 1) + 0))) (((k).toNat * 1) + 0))))) then (V.intOf (nthV (V.cellsOf (nthV rest (((i).toNat * 1) + 0))) ((((IntKind.wrap .i64 (k + 1))).toNat * 1) + 0))) else (V.intOf (nthV (V.cellsOf (nthV rest ((((IntKind.wrap .i64 (i + 1))).toNat * 1) + 0))) (((k).toNat * 1) + 0)))))))) (nthV rest (((i).toNat * 1) + 0)))) ((((IntKind.wrap .i64 (i + 1))).toNat * 1) + 0))) ((((IntKind.wrap .i64 (k + 1))).toNat * 1) + 0))) + 1)))))) (nthV (rest.set (((i).toNat * 1) + 0) (setOwn (fun xs => (xs.set (((k).toNat * 1) + 0) (.sc (.int .i64 (bif (decide ((V.intOf (nthV (V.cellsOf (nthV rest (((i).toNat * 1) + 0))) ((((IntKind.wrap .i64 (k + 1))).toNat * 1) + 0))) > (V.intOf (nthV (V.cellsOf (nthV rest ((((IntKind.wrap .i64 (i + 1))).toNat * 1) + 0))) (((k).toNat * 1) + 0))))) then (V.intOf (nthV (V.cellsOf (nthV rest (((i).toNat * 1) + 0))) ((((IntKind.wrap .i64 (k + 1))).toNat * 1) + 0))) else (V.intOf (nthV (V.cellsOf (nthV rest ((((IntKind.wrap .i64 (i + 1))).toNat * 1) + 0))) (((k).toNat * 1) + 0)))))))) (nthV rest (((i).toNat * 1) + 0)))) (((i).toNat * 1) + 0)))) R κ
                                                      else none
                                                    else none
                                                  else none
                                                else none
                                              else none
                                            else none
                                          else none
                                        else none
                                      else
                                        f87_l2 n a b i (IntKind.wrap .i64 (k - 1)) (rest.set (((i).toNat * 1) + 0) (setOwn (fun xs => (xs.set (((k).toNat * 1) + 0) (.sc (.int .i64 (bif (decide ((V.intOf (nthV (V.cellsOf (nthV rest (((i).toNat * 1) + 0))) ((((IntKind.wrap .i64 (k + 1))).toNat * 1) + 0))) > (V.intOf (nthV (V.cellsOf (nthV rest ((((IntKind.wrap .i64 (i + 1))).toNat * 1) + 0))) (((k).toNat * 1) + 0))))) then (V.intOf (nthV (V.cellsOf (nthV rest (((i).toNat * 1) + 0))) ((((IntKind.wrap .i64 (k + 1))).toNat * 1) + 0))) else (V.intOf (nthV (V.cellsOf (nthV rest ((((IntKind.wrap .i64 (i + 1))).toNat * 1) + 0))) (((k).toNat * 1) + 0)))))))) (nthV rest (((i).toNat * 1) + 0)))) R κ
                                    else none
                                  else none
                                else none
                              else none
                            else none
                          else none
                        else none
                      else none
                    else none
                  else none
                else none
              else none
            else none
          else none
        else none
      else none
    else
      κ (.ex 4) (mkS [(0, .sl 1 a), (1, .sl 1 b), (4, .bad), (5, .ref ⟨.loc 5, 0, [], 48, true⟩), (7, .sc (.int .i64 i))] [(.loc 5, some ⟨false, [.own 48 true rest]⟩)])
def f87_l2_ls : List (Nat × Pat) := [(0, .sl 1), (1, .sl 1), (5, .is (.ref ⟨.loc 5, 0, [], 48, true⟩)), (7, .i .i64), (8, .i .i64)]
def f87_l2_rs : List RPat := [⟨.loc 5, false, [.own 48 true]⟩]
theorem f87_l2_ok (n : Nat) : ∀ (a : List V) (b : List V) (i : Int) (k : Int) (rest : List V) (R : Type) (κ : Ex → St → Option R) (r : R), f87_l2 n a b i k rest R κ = some r → ∃ ee ss, κ ee ss = some r ∧ RunP C prim 87 [0, 1, 0, 0, 1, 0, 0, 1, 0, 1, 1, 1] (mkS [(0, .sl 1 a), (1, .sl 1 b), (5, .ref ⟨.loc 5, 0, [], 48, true⟩), (7, .sc (.int .i64 i)), (8, .sc (.int .i64 k))] [(.loc 5, some ⟨false, [.own 48 true rest]⟩)]) ee ss := by
  induction n with
  | zero => intro a b i k rest R κ r h; cases h
  | succ n ih =>
    intro a b i k rest R κ r h
    refine loop_round (K := K_f87_l2) (T := T_f87_l2) K_f87_l2_ok T_f87_l2_ok (p := [0, 1, 0, 0, 1, 0, 0, 1, 0, 1, 1, 1]) (by kernel_rfl) (fun st => bif ckS f87_l2_ls f87_l2_rs st then f87_l2 n ((st.env 0).cellsOf) ((st.env 1).cellsOf) ((st.env 7).intOf) ((st.env 8).intOf) ((nthV (rowOf (st.regs (.loc 5))) 0).cellsOf) R κ else none) (fun st0 h0 => ?_) ?_
    · obtain ⟨hs, h0⟩ := cond_some h0
      rw [canon (ls := f87_l2_ls) (rs := f87_l2_rs) (by kernel_rfl) st0 hs]
      exact ih _ _ _ _ _ R κ r h0
    · refine Eq.trans ?_ h
      kernel_rfl

def f87_s2 (a : List V) (b : List V) (i : Int) (k : Int) (rest : List V) (R : Type) (κ : Ex → St → Option R) : Option R :=
  κ (.ex 4) (mkS [(0, .sl 1 a), (1, .sl 1 b), (4, .bad), (5, .ref ⟨.loc 5, 0, [], 48, true⟩), (7, .sc (.int .i64 i))] [(.loc 5, some ⟨false, [.own 48 true (rest.set i.toNat (rowO (a.drop i.toNat) b))]⟩)])
theorem f87_r2 (n : Nat) (a b T cur nxt : List V) (i k p q r : Nat) (ha : a.all V.isStr = true) (hb : b.all V.isStr = true) (la : a.length ≤ 2000000) (lb : b.length ≤ 2000000)
    (hi : i < a.length) (hk : k < b.length) (hT : T.length = a.length + 1) (h0 : nthV T i = .own 3 false cur) (h1 : nthV T (i + 1) = .own 3 false nxt) (lc : cur.length = b.length + 1) (ln : nxt.length = b.length + 1)
    (e1 : nthV nxt k = cellN p) (e2 : nthV cur (k + 1) = cellN q) (e3 : nthV nxt (k + 1) = cellN r) (hr : r ≤ 2000000) (R : Type) (κ : Ex → St → Option R) :
    f87_l2 (n + 1) a b (i : Int) (k : Int) T R κ = f87_l2 n a b (i : Int) ((k : Int) - 1) (T.set i (.own 3 false (cur.set k (cellN (bif strEq a[i].strOf b[k].strOf then r + 1 else max p q))))) R κ := by
  have ia : V.isStr a[i] = true := List.all_eq_true.1 ha _ (List.getElem_mem hi)
  have ib : V.isStr b[k] = true := List.all_eq_true.1 hb _ (List.getElem_mem hk)
  have w1 : IntKind.wrap .i64 ((i : Int) + 1) = ((i + 1 : Nat) : Int) := wrap_succ (by omega)
  have w2 : IntKind.wrap .i64 ((k : Int) + 1) = ((k + 1 : Nat) : Int) := wrap_succ (by omega)
  have w3 : IntKind.wrap .i64 ((k : Int) - 1) = (k : Int) - 1 := wrap_pred (by omega)
  have w4 : IntKind.wrap .i64 ((r : Int) + 1) = ((r + 1 : Nat) : Int) := wrap_succ (by omega)
  have s0 : ∀ x : V, nthV (T.set i x) i = x := fun x => nthV_set (by omega)
  have s1 : ∀ x : V, nthV (T.set i x) (i + 1) = nthV T (i + 1) := fun x => nthV_set_ne2 (by omega)
  have c0 : ∀ x : V, nthV (cur.set k x) k = x := fun x => nthV_set (by omega)
  have d1 : decide ((k : Int) ≥ 0) = true := dec_true (by omega)
  have d2 : decide ((0 : Int) ≤ (i : Int)) = true := dec_true (by omega)
  have d3 : decide ((i : Int) < ((a.length + 1 : Nat) : Int)) = true := dec_true (by omega)
  have d4 : decide ((0 : Int) ≤ ((i + 1 : Nat) : Int)) = true := dec_true (by omega)
  have d5 : decide (((i + 1 : Nat) : Int) < ((a.length + 1 : Nat) : Int)) = true := dec_true (by omega)
  have d6 : decide ((0 : Int) ≤ (k : Int)) = true := dec_true (by omega)
  have d7 : decide ((k : Int) < ((b.length + 1 : Nat) : Int)) = true := dec_true (by omega)
  have d8 : decide ((0 : Int) ≤ ((k + 1 : Nat) : Int)) = true := dec_true (by omega)
  have d9 : decide (((k + 1 : Nat) : Int) < ((b.length + 1 : Nat) : Int)) = true := dec_true (by omega)
  have d10 : decide ((i : Int) < ((a.length : Nat) : Int)) = true := dec_true (by omega)
  have d11 : decide ((k : Int) < ((b.length : Nat) : Int)) = true := dec_true (by omega)
  rw [f87_l2]
  simp only [w1, w2, w3, Int.toNat_natCast, Nat.mul_one, Nat.add_zero, h0, h1, isOwnD_own, cellsOf_own, setOwn_own, List.length_set, hT, lc, ln, e1, e2, e3, isInt_cellN, intOf_cellN, maxI, cellN_fold, s0, s1, c0, List.set_set, w4,
    nthV_lt hi, nthV_lt hk, ia, ib, d1, d2, d3, d4, d5, d6, d7, d8, d9, d10, d11, Bool.and_true, Bool.true_and, cond_true]
  cases strEq a[i].strOf b[k].strOf <;> rfl
theorem f87_l2_c (a b T : List V) (i : Nat) (ha : a.all V.isStr = true) (hb : b.all V.isStr = true) (la : a.length ≤ 2000000) (lb : b.length ≤ 2000000)
    (hi : i < a.length) (hT : T.length = a.length + 1) (h1 : nthV T (i + 1) = rowO (a.drop (i + 1)) b) : ∀ m, m ≤ b.length → ∀ n, m < n → ∀ (R : Type) (κ : Ex → St → Option R),
    f87_l2 n a b (i : Int) ((m : Int) - 1) (T.set i (.own 3 false (List.replicate m (.sc (.int .i64 0)) ++ rowV (a.drop i) (b.drop m)))) R κ =
      κ (.ex 4) (mkS [(0, .sl 1 a), (1, .sl 1 b), (4, .bad), (5, .ref ⟨.loc 5, 0, [], 48, true⟩), (7, .sc (.int .i64 (i : Int)))] [(.loc 5, some ⟨false, [.own 48 true (T.set i (rowO (a.drop i) b))]⟩)]) := by
  intro m
  induction m with
  | zero =>
    intro _ n hn R κ
    obtain ⟨n, rfl⟩ : ∃ j, n = j + 1 := ⟨n - 1, by omega⟩
    rw [f87_l2, dec_false (by omega)]
    rfl
  | succ m ih =>
    intro hm n hn R κ
    obtain ⟨n, rfl⟩ : ∃ j, n = j + 1 := ⟨n - 1, by omega⟩
    have hk : m < b.length := by omega
    have hl1 := lcs_le (a.drop (i + 1)) (b.drop (m + 1))
    rw [List.length_drop] at hl1
    have hd : (b.drop (m + 1)).length = b.length - (m + 1) := List.length_drop ..
    have hq : nthV (List.replicate (m + 1) (V.sc (.int .i64 0)) ++ rowV (a.drop i) (b.drop (m + 1))) (m + 1) = cellN (lcs (a.drop i) (b.drop (m + 1))) := by
      have := nthV_rep (V.sc (.int .i64 0)) (rowV (a.drop i) (b.drop (m + 1))) 0 (m + 1)
      rw [Nat.add_zero] at this
      rw [this, rowV_nth _ _ 0 (Nat.zero_le _), List.drop_zero]
    rw [show (((m + 1 : Nat) : Int) - 1) = (m : Int) by omega]
    rw [f87_r2 n a b _ _ (rowV (a.drop (i + 1)) b) i m (lcs (a.drop (i + 1)) (b.drop m)) (lcs (a.drop i) (b.drop (m + 1))) (lcs (a.drop (i + 1)) (b.drop (m + 1))) ha hb la lb hi hk
      (by rw [List.length_set, hT]) (nthV_set (by omega)) (by rw [nthV_set_ne2 (by omega), h1]; rfl) (by rw [List.length_append, List.length_replicate, rowV_len, hd]; omega) (rowV_len _ _) (rowV_nth _ _ _ (by omega)) hq (rowV_nth _ _ _ (by omega)) (by omega) R κ, List.set_set, rep_more, set_rep]
    have hv : (bif strEq a[i].strOf b[m].strOf then lcs (a.drop (i + 1)) (b.drop (m + 1)) + 1 else max (lcs (a.drop (i + 1)) (b.drop m)) (lcs (a.drop i) (b.drop (m + 1)))) = lcs (a.drop i) (b.drop m) := by
      rw [List.drop_eq_getElem_cons hi, List.drop_eq_getElem_cons hk]
      exact (lcs_cons _ _ _ _).symm
    have hrow : cellN (lcs (a.drop i) (b.drop m)) :: rowV (a.drop i) (b.drop (m + 1)) = rowV (a.drop i) (b.drop m) := by
      rw [List.drop_eq_getElem_cons hk]; rfl
    rw [hv, hrow]
    exact ih (by omega) n (by omega) R κ
theorem start_row87 {T : List V} {i : Nat} {a b : List V} (hi : i < T.length) (h : ownRow (nthV T i) (zeros b) = true) : T.set i (.own 3 false (List.replicate b.length (.sc (.int .i64 0)) ++ rowV a (b.drop b.length))) = T := by
  refine set_same2 hi ?_
  rw [ownRow_eq h, List.drop_length, rowV, zeros, List.replicate_succ']
theorem f87_s2_eq (a : List V) (b : List V) (i : Int) (k : Int) (rest : List V) (hp : (decide (0 ≤ i) && decide (i < ((a.length : Nat) : Int)) && (rest.length == a.length + 1) && a.all V.isStr && b.all V.isStr && decide (a.length ≤ 2000000) && decide (b.length ≤ 2000000) && (k + 1 == ((b.length : Nat) : Int)) && ownRow (nthV rest i.toNat) (zeros b) && ownRow (nthV rest (i.toNat + 1)) (rowV (a.drop (i.toNat + 1)) b)) = true) : ∃ n, ∀ (R : Type) (κ : Ex → St → Option R), f87_l2 n a b i k rest R κ = f87_s2 a b i k rest R κ := by
  simp only [Bool.and_eq_true, decide_eq_true_eq, beq_iff_eq] at hp
  obtain ⟨⟨⟨⟨⟨⟨⟨⟨⟨h1, h2⟩, h3⟩, h4⟩, h5⟩, h6⟩, h7⟩, h8⟩, h9⟩, h10⟩ := hp
  obtain ⟨i, rfl⟩ : ∃ j : Nat, i = (j : Int) := ⟨i.toNat, by omega⟩
  rw [Int.toNat_natCast] at h9 h10
  obtain rfl : k = (b.length : Int) - 1 := by omega
  refine ⟨b.length + 1, fun R κ => ?_⟩
  have := f87_l2_c a b rest i h4 h5 h6 h7 (by omega) h3 (ownRow_eq h10) b.length (Nat.le_refl _) (b.length + 1) (by omega) R κ
  rw [start_row87 (by omega) h9] at this
  exact this
def t_f87_l2 (st : St) (R : Type) (κ : Ex → St → Option R) : Option R := bif ckS f87_l2_ls f87_l2_rs st then (bif (decide (0 ≤ ((st.env 7).intOf)) && decide (((st.env 7).intOf) < ((((st.env 0).cellsOf).length : Nat) : Int)) && (((nthV (rowOf (st.regs (.loc 5))) 0).cellsOf).length == ((st.env 0).cellsOf).length + 1) && ((st.env 0).cellsOf).all V.isStr && ((st.env 1).cellsOf).all V.isStr && decide (((st.env 0).cellsOf).length ≤ 2000000) && decide (((st.env 1).cellsOf).length ≤ 2000000) && (((st.env 8).intOf) + 1 == ((((st.env 1).cellsOf).length : Nat) : Int)) && ownRow (nthV ((nthV (rowOf (st.regs (.loc 5))) 0).cellsOf) ((st.env 7).intOf).toNat) (zeros ((st.env 1).cellsOf)) && ownRow (nthV ((nthV (rowOf (st.regs (.loc 5))) 0).cellsOf) (((st.env 7).intOf).toNat + 1)) (rowV (((st.env 0).cellsOf).drop (((st.env 7).intOf).toNat + 1)) ((st.env 1).cellsOf))) then f87_s2 ((st.env 0).cellsOf) ((st.env 1).cellsOf) ((st.env 7).intOf) ((st.env 8).intOf) ((nthV (rowOf (st.regs (.loc 5))) 0).cellsOf) R κ else none) else none
theorem t_f87_l2_ok : ∀ st0 R κ r, t_f87_l2 (forget C 87 [0, 1, 0, 0, 1, 0, 0, 1, 0, 1, 1, 1] st0) R κ = some r → ∃ ee ss, κ ee ss = some r ∧ RunP C prim 87 [0, 1, 0, 0, 1, 0, 0, 1, 0, 1, 1, 1] (forget C 87 [0, 1, 0, 0, 1, 0, 0, 1, 0, 1, 1, 1] st0) ee ss := by
  intro st0 R κ r h
  obtain ⟨hs, h⟩ := cond_some h
  obtain ⟨hp, h⟩ := cond_some h
  rw [canon (ls := f87_l2_ls) (rs := f87_l2_rs) (by kernel_rfl) st0 hs]
  obtain ⟨n, hn⟩ := f87_s2_eq _ _ _ _ _ hp
  rw [← hn] at h
  exact f87_l2_ok n _ _ _ _ _ R κ r h

def K_f87_l1 : CallK := kNil
theorem K_f87_l1_ok : KOK C prim K_f87_l1 := KOK.nil
def T_f87_l1 : Tab := tCons [0, 1, 0, 0, 1, 0, 0, 1, 0, 1, 1, 1] t_f87_l2 <| tNil
theorem T_f87_l1_ok : TOK C prim 87 T_f87_l1 := TOK.cons t_f87_l2_ok <| TOK.nil
def f87_l1 : Nat → List V → List V → Int → List V → (R : Type) → (Ex → St → Option R) → Option R
  | 0, _, _, _, _, _, _ => none
  | n + 1, a, b, i, rest, R, κ =>
    bif (decide (i ≥ 0)) then
      bif (decide (0 ≤ i) && decide (i < ((a.length : Nat) : Int)) && (rest.length == a.length + 1) && a.all V.isStr && b.all V.isStr && decide (a.length ≤ 2000000) && decide (b.length ≤ 2000000) && ((IntKind.wrap .i64 (((b.length : Nat) : Int) - 1)) + 1 == ((b.length : Nat) : Int)) && ownRow (nthV rest i.toNat) (zeros b) && ownRow (nthV rest (i.toNat + 1)) (rowV (a.drop (i.toNat + 1)) b)) then
        f87_l1 n a b (IntKind.wrap .i64 (i - 1)) (rest.set i.toNat (rowO (a.drop i.toNat) b)) R κ
      else none
    else
      κ (.ex 2) (mkS [(0, .sl 1 a), (1, .sl 1 b), (4, .bad), (5, .ref ⟨.loc 5, 0, [], 48, true⟩)] [(.loc 5, some ⟨false, [.own 48 true rest]⟩)])
def f87_l1_ls : List (Nat × Pat) := [(0, .sl 1), (1, .sl 1), (5, .is (.ref ⟨.loc 5, 0, [], 48, true⟩)), (7, .i .i64)]
def f87_l1_rs : List RPat := [⟨.loc 5, false, [.own 48 true]⟩]
theorem f87_l1_ok (n : Nat) : ∀ (a : List V) (b : List V) (i : Int) (rest : List V) (R : Type) (κ : Ex → St → Option R) (r : R), f87_l1 n a b i rest R κ = some r → ∃ ee ss, κ ee ss = some r ∧ RunP C prim 87 [0, 1, 0, 1, 1, 1] (mkS [(0, .sl 1 a), (1, .sl 1 b), (5, .ref ⟨.loc 5, 0, [], 48, true⟩), (7, .sc (.int .i64 i))] [(.loc 5, some ⟨false, [.own 48 true rest]⟩)]) ee ss := by
  induction n with
  | zero => intro a b i rest R κ r h; cases h
  | succ n ih =>
    intro a b i rest R κ r h
    refine loop_round (K := K_f87_l1) (T := T_f87_l1) K_f87_l1_ok T_f87_l1_ok (p := [0, 1, 0, 1, 1, 1]) (by kernel_rfl) (fun st => bif ckS f87_l1_ls f87_l1_rs st then f87_l1 n ((st.env 0).cellsOf) ((st.env 1).cellsOf) ((st.env 7).intOf) ((nthV (rowOf (st.regs (.loc 5))) 0).cellsOf) R κ else none) (fun st0 h0 => ?_) ?_
    · obtain ⟨hs, h0⟩ := cond_some h0
      rw [canon (ls := f87_l1_ls) (rs := f87_l1_rs) (by kernel_rfl) st0 hs]
      exact ih _ _ _ _ R κ r h0
    · refine Eq.trans ?_ h
      kernel_rfl

def f87_s1 (a : List V) (b : List V) (i : Int) (rest : List V) (R : Type) (κ : Ex → St → Option R) : Option R :=
  κ (.ex 2) (mkS [(0, .sl 1 a), (1, .sl 1 b), (4, .bad), (5, .ref ⟨.loc 5, 0, [], 48, true⟩)] [(.loc 5, some ⟨false, [.own 48 true (tabO a b)]⟩)])
theorem f87_l1_c (a b : List V) (ha : a.all V.isStr = true) (hb : b.all V.isStr = true) (la : a.length ≤ 2000000) (lb : b.length ≤ 2000000) : ∀ m, m ≤ a.length → ∀ n, m < n → ∀ (R : Type) (κ : Ex → St → Option R),
    f87_l1 n a b ((m : Int) - 1) (List.replicate m (zrow b) ++ tabO (a.drop m) b) R κ = κ (.ex 2) (mkS [(0, .sl 1 a), (1, .sl 1 b), (4, .bad), (5, .ref ⟨.loc 5, 0, [], 48, true⟩)] [(.loc 5, some ⟨false, [.own 48 true (tabO a b)]⟩)]) := by
  intro m
  induction m with
  | zero =>
    intro _ n hn R κ
    obtain ⟨n, rfl⟩ : ∃ j, n = j + 1 := ⟨n - 1, by omega⟩
    rw [f87_l1, dec_false (by omega)]
    rfl
  | succ m ih =>
    intro hm n hn R κ
    obtain ⟨n, rfl⟩ : ∃ j, n = j + 1 := ⟨n - 1, by omega⟩
    have hk : m < a.length := by omega
    have hlen : (List.replicate m (zrow b) ++ zrow b :: tabO (a.drop (m + 1)) b).length = a.length + 1 := by
      rw [List.length_append, List.length_replicate, List.length_cons, tabO_len, List.length_drop]; omega
    have q0 : nthV (List.replicate m (zrow b) ++ zrow b :: tabO (a.drop (m + 1)) b) m = zrow b := nthV_rep _ _ 0 m
    have q1 : nthV (List.replicate m (zrow b) ++ zrow b :: tabO (a.drop (m + 1)) b) (m + 1) = rowO (a.drop (m + 1)) b := by
      rw [nthV_rep]
      show nthV (tabO (a.drop (m + 1)) b) 0 = _
      rw [tabO_nth b _ 0 (Nat.zero_le _), List.drop_zero]
    have z0 : ownRow (zrow b) (zeros b) = true := ownRow_refl (zeros_int b)
    have z1 : ownRow (rowO (a.drop (m + 1)) b) (rowV (a.drop (m + 1)) b) = true := ownRow_refl (rowV_int _ b)
    have hrow : rowO (a.drop m) b :: tabO (a.drop (m + 1)) b = tabO (a.drop m) b := by
      rw [List.drop_eq_getElem_cons hk]; rfl
    rw [show (((m + 1 : Nat) : Int) - 1) = (m : Int) by omega, rep_more, f87_l1]
    simp only [Int.toNat_natCast, hlen, q0, q1, z0, z1, set_rep, hrow, ha, hb, wrap_pred (show m < 9223372036854775807 by omega), wrap_pred (show b.length < 9223372036854775807 by omega), Int.sub_add_cancel, beq_self_eq_true, dec_true la, dec_true lb, dec_true (show (m : Int) ≥ 0 by omega), dec_true (show (0 : Int) ≤ (m : Int) by omega), dec_true (show (m : Int) < ((a.length : Nat) : Int) by omega), Bool.and_true, cond_true]
    exact ih (by omega) n (by omega) R κ
theorem f87_s1_eq (a : List V) (b : List V) (i : Int) (rest : List V) (hp : ((i + 1 == ((a.length : Nat) : Int)) && (rest.length == a.length + 1) && a.all V.isStr && b.all V.isStr && decide (a.length ≤ 2000000) && decide (b.length ≤ 2000000) && rest.all (fun x => ownRow x (zeros b))) = true) : ∃ n, ∀ (R : Type) (κ : Ex → St → Option R), f87_l1 n a b i rest R κ = f87_s1 a b i rest R κ := by
  simp only [Bool.and_eq_true, decide_eq_true_eq, beq_iff_eq] at hp
  obtain ⟨⟨⟨⟨⟨⟨h1, h2⟩, h3⟩, h4⟩, h5⟩, h6⟩, h7⟩ := hp
  obtain rfl : i = (a.length : Int) - 1 := by omega
  refine ⟨a.length + 1, fun R κ => ?_⟩
  have := f87_l1_c a b h3 h4 h5 h6 a.length (Nat.le_refl _) (a.length + 1) (by omega) R κ
  have e : List.replicate a.length (zrow b) ++ tabO (a.drop a.length) b = rest := by
    rw [rows_zero b rest h7, h2, List.drop_length, List.replicate_succ']
    show _ ++ [rowO [] b] = _
    rw [show rowO [] b = zrow b by unfold rowO zrow; rw [rowV_nil]]
  rw [e] at this
  exact this
def t_f87_l1 (st : St) (R : Type) (κ : Ex → St → Option R) : Option R := bif ckS f87_l1_ls f87_l1_rs st then (bif ((((st.env 7).intOf) + 1 == ((((st.env 0).cellsOf).length : Nat) : Int)) && (((nthV (rowOf (st.regs (.loc 5))) 0).cellsOf).length == ((st.env 0).cellsOf).length + 1) && ((st.env 0).cellsOf).all V.isStr && ((st.env 1).cellsOf).all V.isStr && decide (((st.env 0).cellsOf).length ≤ 2000000) && decide (((st.env 1).cellsOf).length ≤ 2000000) && ((nthV (rowOf (st.regs (.loc 5))) 0).cellsOf).all (fun x => ownRow x (zeros ((st.env 1).cellsOf)))) then f87_s1 ((st.env 0).cellsOf) ((st.env 1).cellsOf) ((st.env 7).intOf) ((nthV (rowOf (st.regs (.loc 5))) 0).cellsOf) R κ else none) else none
theorem t_f87_l1_ok : ∀ st0 R κ r, t_f87_l1 (forget C 87 [0, 1, 0, 1, 1, 1] st0) R κ = some r → ∃ ee ss, κ ee ss = some r ∧ RunP C prim 87 [0, 1, 0, 1, 1, 1] (forget C 87 [0, 1, 0, 1, 1, 1] st0) ee ss := by
  intro st0 R κ r h
  obtain ⟨hs, h⟩ := cond_some h
  obtain ⟨hp, h⟩ := cond_some h
  rw [canon (ls := f87_l1_ls) (rs := f87_l1_rs) (by kernel_rfl) st0 hs]
  obtain ⟨n, hn⟩ := f87_s1_eq _ _ _ _ hp
  rw [← hn] at h
  exact f87_l1_ok n _ _ _ _ R κ r h

def K_f87_l3 : CallK := kCons 109 k109 <| kNil
theorem K_f87_l3_ok : KOK C prim K_f87_l3 := KOK.cons k109_ok <| KOK.nil
def T_f87_l3 : Tab := tNil
theorem T_f87_l3_ok : TOK C prim 87 T_f87_l3 := TOK.nil
def f87_l3 : Nat → List V → List V → Int → Int → List V → List V → (R : Type) → (Ex → St → Option R) → Option R
  | 0, _, _, _, _, _, _, _, _ => none
  | n + 1, a, b, i, k, rest, out, R, κ =>
    bif (decide (i < ((a.length : Nat) : Int))) then
      bif (((decide ((0 : Int) ≤ i)) && (decide (i < ((rest.length : Nat) : Int)))) && true) then
        bif (((V.isOwnD 3 false (nthV rest (((i).toNat * 1) + 0))) && true) && true) then
          bif (((((V.isOwnD 3 false (nthV rest (((i).toNat * 1) + 0))) && true) && (decide ((0 : Int) ≤ k))) && (decide (k < ((((V.cellsOf (nthV rest (((i).toNat * 1) + 0)))).length : Nat) : Int)))) && true) then
            bif (((V.isOwnD 3 false (nthV rest (((i).toNat * 1) + 0))) && true) && (((V.isInt .i64 (nthV (V.cellsOf (nthV rest (((i).toNat * 1) + 0))) (((k).toNat * 1) + 0))) && true) && true)) then
              bif (decide ((V.intOf (nthV (V.cellsOf (nthV rest (((i).toNat * 1) + 0))) (((k).toNat * 1) + 0))) > 0)) then
                bif (((((decide ((0 : Int) ≤ k)) && (decide (k ≤ ((b.length : Nat) : Int)))) && true) && true) && true) then
                  bif (((decide ((0 : Int) ≤ i)) && (decide (i < ((a.length : Nat) : Int)))) && true) then
                    bif (((V.isStr (nthV a (((i).toNat * 1) + 0))) && true) && true) then
                      bif (((b.drop ((k).toNat * 1)).all V.isStr && decide ((b.drop ((k).toNat * 1)).length ≤ 1000000000)) && true) then
                        bif (decide ((ixV (V.strOf (nthV a (((i).toNat * 1) + 0))) (b.drop ((k).toNat * 1)) 0) ≥ 0)) then
                          bif (((decide ((0 : Int) ≤ (IntKind.wrap .i64 (i + 1)))) && (decide ((IntKind.wrap .i64 (i + 1)) < ((rest.length : Nat) : Int)))) && true) then
                            bif (((V.isOwnD 3 false (nthV rest ((((IntKind.wrap .i64 (i + 1))).toNat * 1) + 0))) && true) && true) then
                              bif (((((V.isOwnD 3 false (nthV rest ((((IntKind.wrap .i64 (i + 1))).toNat * 1) + 0))) && true) && (decide ((0 : Int) ≤ (IntKind.wrap .i64 ((IntKind.wrap .i64 (k + (ixV (V.strOf (nthV a (((i).toNat * 1) + 0))) (b.drop ((k).toNat * 1)) 0))) + 1))))) && (decide ((IntKind.wrap .i64 ((IntKind.wrap .i64 (k + (ixV (V.strOf (nthV a (((i).toNat * 1) + 0))) (b.drop ((k).toNat * 1)) 0))) + 1)) < ((((V.cellsOf (nthV rest ((((IntKind.wrap .i64 (i + 1))).toNat * 1) + 0)))).length : Nat) : Int)))) && true) then
                                bif (((V.isOwnD 3 false (nthV rest ((((IntKind.wrap .i64 (i + 1))).toNat * 1) + 0))) && true) && (((V.isInt .i64 (nthV (V.cellsOf (nthV rest ((((IntKind.wrap .i64 (i + 1))).toNat * 1) + 0))) ((((IntKind.wrap .i64 ((IntKind.wrap .i64 (k + (ixV (V.strOf (nthV a (((i).toNat * 1) + 0))) (b.drop ((k).toNat * 1)) 0))) + 1))).toNat * 1) + 0))) && true) && true)) then
                                  bif (((decide ((0 : Int) ≤ i)) && (decide (i < ((rest.length : Nat) : Int)))) && true) then
                                    bif (((V.isOwnD 3 false (nthV rest (((i).toNat * 1) + 0))) && true) && true) then
                                      bif (((((V.isOwnD 3 false (nthV rest (((i).toNat * 1) + 0))) && true) && (decide ((0 : Int) ≤ k))) && (decide (k < ((((V.cellsOf (nthV rest (((i).toNat * 1) + 0)))).length : Nat) : Int)))) && true) then
                                        bif (((V.isOwnD 3 false (nthV rest (((i).toNat * 1) + 0))) && true) && (((V.isInt .i64 (nthV (V.cellsOf (nthV rest (((i).toNat * 1) + 0))) (((k).toNat * 1) + 0))) && true) && true)) then
                                          bif ((IntKind.wrap .i64 ((V.intOf (nthV (V.cellsOf (nthV rest ((((IntKind.wrap .i64 (i + 1))).toNat * 1) + 0))) ((((IntKind.wrap .i64 ((IntKind.wrap .i64 (k + (ixV (V.strOf (nthV a (((i).toNat * 1) + 0))) (b.drop ((k).toNat * 1)) 0))) + 1))).toNat * 1) + 0))) + 1)) == (V.intOf (nthV (V.cellsOf (nthV rest (((i).toNat * 1) + 0))) (((k).toNat * 1) + 0)))) then
                                            bif (((roomy (((lenE 2 out.length) + 1) * 16)) && (roomy ((lenE 2 out.length) + 1))) && true) then
                                              f87_l3 n a b (IntKind.wrap .i64 (i + 1)) (IntKind.wrap .i64 (k + (IntKind.wrap .i64 ((ixV (V.strOf (nthV a (((i).toNat * 1) + 0))) (b.drop ((k).toNat * 1)) 0) + 1)))) rest (out ++ [.sc (.int .i64 i), .sc (.int .i64 (IntKind.wrap .i64 (k + (ixV (V.strOf (nthV a (((i).toNat * 1) + 0))) (b.drop ((k).toNat * 1)) 0))))]) R κ
                                            else none
                                          else
                                            f87_l3 n a b (IntKind.wrap .i64 (i + 1)) k rest out R κ
                                        else none
                                      else none
                                    else none
                                  else none
                                else none
                              else none
                            else none
                          else none
                        else
                          f87_l3 n a b (IntKind.wrap .i64 (i + 1)) k rest out R κ
                      else none
                    else none
                  else none
                else none
              else
                κ (.ex 6) (mkS [(4, .bad), (9, .ref ⟨.loc 9, 0, [], 144, false⟩)] [(.loc 9, some ⟨false, [.own 144 false out]⟩)])
            else none
          else none
        else none
      else none
    else
      κ (.ex 6) (mkS [(4, .bad), (9, .ref ⟨.loc 9, 0, [], 144, false⟩)] [(.loc 9, some ⟨false, [.own 144 false out]⟩)])
def f87_l3_ls : List (Nat × Pat) := [(0, .sl 1), (1, .sl 1), (5, .is (.ref ⟨.loc 5, 0, [], 48, true⟩)), (9, .is (.ref ⟨.loc 9, 0, [], 144, false⟩)), (10, .i .i64), (11, .i .i64)]
def f87_l3_rs : List RPat := [⟨.loc 5, false, [.own 48 true]⟩, ⟨.loc 9, false, [.own 144 false]⟩]
theorem f87_l3_ok (n : Nat) : ∀ (a : List V) (b : List V) (i : Int) (k : Int) (rest : List V) (out : List V) (R : Type) (κ : Ex → St → Option R) (r : R), f87_l3 n a b i k rest out R κ = some r → ∃ ee ss, κ ee ss = some r ∧ RunP C prim 87 [0, 1, 0, 1, 1, 1, 1, 1] (mkS [(0, .sl 1 a), (1, .sl 1 b), (5, .ref ⟨.loc 5, 0, [], 48, true⟩), (9, .ref ⟨.loc 9, 0, [], 144, false⟩), (10, .sc (.int .i64 i)), (11, .sc (.int .i64 k))] [(.loc 5, some ⟨false, [.own 48 true rest]⟩), (.loc 9, some ⟨false, [.own 144 false out]⟩)]) ee ss := by
  induction n with
  | zero => intro a b i k rest out R κ r h; cases h
  | succ n ih =>
    intro a b i k rest out R κ r h
    refine loop_round (K := K_f87_l3) (T := T_f87_l3) K_f87_l3_ok T_f87_l3_ok (p := [0, 1, 0, 1, 1, 1, 1, 1]) (by kernel_rfl) (fun st => bif ckS f87_l3_ls f87_l3_rs st then f87_l3 n ((st.env 0).cellsOf) ((st.env 1).cellsOf) ((st.env 10).intOf) ((st.env 11).intOf) ((nthV (rowOf (st.regs (.loc 5))) 0).cellsOf) ((nthV (rowOf (st.regs (.loc 9))) 0).cellsOf) R κ else none) (fun st0 h0 => ?_) ?_
    · obtain ⟨hs, h0⟩ := cond_some h0
      rw [canon (ls := f87_l3_ls) (rs := f87_l3_rs) (by kernel_rfl) st0 hs]
      exact ih _ _ _ _ _ _ R κ r h0
    · refine Eq.trans ?_ h
      kernel_rfl

def f87_s3 (a : List V) (b : List V) (i : Int) (k : Int) (rest : List V) (out : List V) (R : Type) (κ : Ex → St → Option R) : Option R :=
  κ (.ex 6) (mkS [(4, .bad), (9, .ref ⟨.loc 9, 0, [], 144, false⟩)] [(.loc 9, some ⟨false, [.own 144 false (out ++ pairsV (stayP (a.drop i.toNat) i.toNat (b.drop k.toNat) k.toNat))]⟩)])
theorem f87_l3_c (a b : List V) (ha : a.all V.isStr = true) (hb : b.all V.isStr = true) (la : a.length ≤ 2000000) (lb : b.length ≤ 2000000) :
    ∀ d i k out, a.length = i + d → k ≤ b.length → out.length + 2 * d ≤ 1100000000 → ∀ n, d < n → ∀ (R : Type) (κ : Ex → St → Option R),
    f87_l3 n a b (i : Int) (k : Int) (tabO a b) out R κ = κ (.ex 6) (mkS [(4, .bad), (9, .ref ⟨.loc 9, 0, [], 144, false⟩)] [(.loc 9, some ⟨false, [.own 144 false (out ++ pairsV (stayP (a.drop i) i (b.drop k) k))]⟩)]) := by
  intro d
  induction d with
  | zero =>
    intro i k out h1 h3 ho n hn R κ
    obtain ⟨n, rfl⟩ : ∃ j, n = j + 1 := ⟨n - 1, by omega⟩
    rw [List.drop_of_length_le (by omega), f87_l3, dec_false (by omega)]
    show κ _ _ = κ _ (mkS _ [(_, some ⟨false, [.own 144 false (out ++ [])]⟩)])
    rw [List.append_nil]
  | succ d ih =>
    intro i k out h1 h3 ho n hn R κ
    obtain ⟨n, rfl⟩ : ∃ j, n = j + 1 := ⟨n - 1, by omega⟩
    have hi : i < a.length := by omega
    have ia : V.isStr a[i] = true := List.all_eq_true.1 ha _ (List.getElem_mem hi)
    have hr : (roomy ((lenE 2 out.length + 1) * 16) && roomy (lenE 2 out.length + 1)) = true := by
      have : lenE 2 out.length = out.length / 2 := rfl
      unfold roomy
      rw [this, dec_true (by omega), dec_true (by omega)]; rfl
    have t1 : nthV (tabO a b) (i + 1) = rowO (a.drop (i + 1)) b := tabO_nth b a _ (by omega)
    have t2 : nthV (tabO a b) i = rowO (a.drop i) b := tabO_nth b a _ (by omega)
    have v2 : nthV (rowV (a.drop i) b) k = cellN (lcs (a.drop i) (b.drop k)) := rowV_nth _ _ _ h3
    have w1 : IntKind.wrap .i64 ((i : Int) + 1) = ((i + 1 : Nat) : Int) := wrap_succ (by omega)
    have hdl : (b.drop k).length ≤ 1000000000 := by rw [List.length_drop]; omega
    have base : f87_l3 (n + 1) a b (i : Int) (k : Int) (tabO a b) out R κ = _ := rfl
    rw [List.drop_eq_getElem_cons hi] at t2 v2
    rw [List.drop_eq_getElem_cons hi]
    have IH : ∀ k' out', k' ≤ b.length → out'.length ≤ out.length + 2 → f87_l3 n a b ((i + 1 : Nat) : Int) (k' : Int) (tabO a b) out' R κ = κ (.ex 6) (mkS [(4, .bad), (9, .ref ⟨.loc 9, 0, [], 144, false⟩)] [(.loc 9, some ⟨false, [.own 144 false (out' ++ pairsV (stayP (a.drop (i + 1)) (i + 1) (b.drop k') k'))]⟩)]) := fun k' out' g1 g2 => ih (i + 1) k' out' (by omega) g1 (by omega) n (by omega) R κ
    rcases stay_cases a[i] (a.drop (i + 1)) (b.drop k) i k with ⟨h0, hs⟩ | ⟨h0, g1, g2, hs⟩ | ⟨h0, g1, g2, hs⟩
    · rw [hs, f87_l3]
      simp only [Int.toNat_natCast, Nat.mul_one, Nat.add_zero, t2, rowO, isOwnD_own, cellsOf_own, tabO_len, rowV_len, v2, isInt_cellN, intOf_cellN, h0,
        dec_true (show (i : Int) < ((a.length : Nat) : Int) by omega), dec_true (show (0 : Int) ≤ (i : Int) by omega), dec_true (show (i : Int) < ((a.length + 1 : Nat) : Int) by omega), dec_true (show (0 : Int) ≤ (k : Int) by omega), dec_true (show (k : Int) < ((b.length + 1 : Nat) : Int) by omega), dec_false (show ¬ ((0 : Nat) : Int) > 0 by omega), Bool.and_true, cond_true, cond_false]
      show κ _ _ = κ _ (mkS _ [(_, some ⟨false, [.own 144 false (out ++ [])]⟩)])
      rw [List.append_nil]
    · have hlt := ixV_lt _ _ g1
      rw [List.length_drop] at hlt
      obtain ⟨j, hj⟩ : ∃ j : Nat, ixV a[i].strOf (b.drop k) 0 = (j : Int) := ⟨_, (Int.toNat_of_nonneg g1).symm⟩
      rw [hj, Int.toNat_natCast] at hlt g2 hs
      have w2 : IntKind.wrap .i64 ((k : Int) + (j : Int)) = ((k + j : Nat) : Int) := by rw [wrap_id (by omega) (by omega)]; simp
      have w3 : IntKind.wrap .i64 (((k + j : Nat) : Int) + 1) = ((k + j + 1 : Nat) : Int) := wrap_succ (by omega)
      have w4 : IntKind.wrap .i64 ((j : Int) + 1) = ((j + 1 : Nat) : Int) := wrap_succ (by omega)
      have w5 : IntKind.wrap .i64 ((k : Int) + ((j + 1 : Nat) : Int)) = ((k + j + 1 : Nat) : Int) := by rw [wrap_id (by omega) (by omega)]; omega
      have v1 : nthV (rowV (a.drop (i + 1)) b) (k + j + 1) = cellN (lcs (a.drop (i + 1)) (b.drop (k + j + 1))) := rowV_nth _ _ _ (by omega)
      rw [List.drop_drop, show k + (j + 1) = k + j + 1 by omega] at g2 hs
      have hl1 := lcs_le (a.drop (i + 1)) (b.drop (k + j + 1))
      rw [List.length_drop] at hl1
      have w6 : IntKind.wrap .i64 ((lcs (a.drop (i + 1)) (b.drop (k + j + 1)) : Int) + 1) = ((lcs (a.drop (i + 1)) (b.drop (k + j + 1)) + 1 : Nat) : Int) := wrap_succ (by omega)
      rw [hs, f87_l3]
      simp only [Int.toNat_natCast, Nat.mul_one, Nat.add_zero, t1, t2, rowO, isOwnD_own, cellsOf_own, tabO_len, rowV_len, v1, v2, isInt_cellN, intOf_cellN, nthV_lt hi, ia, hj, w1, w2, w3, w4, w5, w6, g2, hr, drop_str hb k, dec_true hdl, beq_self_eq_true,
        dec_true (show (i : Int) < ((a.length : Nat) : Int) by omega), dec_true (show (0 : Int) ≤ (i : Int) by omega), dec_true (show (i : Int) < ((a.length + 1 : Nat) : Int) by omega), dec_true (show (0 : Int) ≤ (k : Int) by omega), dec_true (show (k : Int) < ((b.length + 1 : Nat) : Int) by omega), dec_true (show (k : Int) ≤ ((b.length : Nat) : Int) by omega),
        dec_true (show ((lcs (a[i] :: a.drop (i + 1)) (b.drop k) : Nat) : Int) > 0 by omega), dec_true (show (j : Int) ≥ 0 by omega), dec_true (show (0 : Int) ≤ ((i + 1 : Nat) : Int) by omega), dec_true (show ((i + 1 : Nat) : Int) < ((a.length + 1 : Nat) : Int) by omega), dec_true (show (0 : Int) ≤ ((k + j + 1 : Nat) : Int) by omega), dec_true (show ((k + j + 1 : Nat) : Int) < ((b.length + 1 : Nat) : Int) by omega), Bool.and_true, cond_true, cond_false]
      rw [IH (k + j + 1) _ (by omega) (by simp only [List.length_append, List.length_cons, List.length_nil]; omega), List.append_assoc]
      rfl
    · have IH2 := IH k out h3 (by omega)
      rw [hs]
      by_cases hx : 0 ≤ ixV a[i].strOf (b.drop k) 0
      · have hlt := ixV_lt _ _ hx
        rw [List.length_drop] at hlt
        have g2 := g2 hx
        obtain ⟨j, hj⟩ : ∃ j : Nat, ixV a[i].strOf (b.drop k) 0 = (j : Int) := ⟨_, (Int.toNat_of_nonneg hx).symm⟩
        rw [hj, Int.toNat_natCast] at hlt g2
        have w2 : IntKind.wrap .i64 ((k : Int) + (j : Int)) = ((k + j : Nat) : Int) := by rw [wrap_id (by omega) (by omega)]; simp
        have w3 : IntKind.wrap .i64 (((k + j : Nat) : Int) + 1) = ((k + j + 1 : Nat) : Int) := wrap_succ (by omega)
        have v1 : nthV (rowV (a.drop (i + 1)) b) (k + j + 1) = cellN (lcs (a.drop (i + 1)) (b.drop (k + j + 1))) := rowV_nth _ _ _ (by omega)
        rw [List.drop_drop, show k + (j + 1) = k + j + 1 by omega] at g2
        have hl1 := lcs_le (a.drop (i + 1)) (b.drop (k + j + 1))
        rw [List.length_drop] at hl1
        have w6 : IntKind.wrap .i64 ((lcs (a.drop (i + 1)) (b.drop (k + j + 1)) : Int) + 1) = ((lcs (a.drop (i + 1)) (b.drop (k + j + 1)) + 1 : Nat) : Int) := wrap_succ (by omega)
        have e2 : (((lcs (a.drop (i + 1)) (b.drop (k + j + 1)) + 1 : Nat) : Int) == ((lcs (a[i] :: a.drop (i + 1)) (b.drop k) : Nat) : Int)) = false := by rw [beq_eq_false_iff_ne]; omega
        rw [f87_l3]
        simp only [Int.toNat_natCast, Nat.mul_one, Nat.add_zero, t1, t2, rowO, isOwnD_own, cellsOf_own, tabO_len, rowV_len, v1, v2, isInt_cellN, intOf_cellN, nthV_lt hi, ia, hj, w1, w2, w3, w6, e2, drop_str hb k, dec_true hdl,
          dec_true (show (i : Int) < ((a.length : Nat) : Int) by omega), dec_true (show (0 : Int) ≤ (i : Int) by omega), dec_true (show (i : Int) < ((a.length + 1 : Nat) : Int) by omega), dec_true (show (0 : Int) ≤ (k : Int) by omega), dec_true (show (k : Int) < ((b.length + 1 : Nat) : Int) by omega), dec_true (show (k : Int) ≤ ((b.length : Nat) : Int) by omega),
          dec_true (show ((lcs (a[i] :: a.drop (i + 1)) (b.drop k) : Nat) : Int) > 0 by omega), dec_true (show (j : Int) ≥ 0 by omega), dec_true (show (0 : Int) ≤ ((i + 1 : Nat) : Int) by omega), dec_true (show ((i + 1 : Nat) : Int) < ((a.length + 1 : Nat) : Int) by omega), dec_true (show (0 : Int) ≤ ((k + j + 1 : Nat) : Int) by omega), dec_true (show ((k + j + 1 : Nat) : Int) < ((b.length + 1 : Nat) : Int) by omega), Bool.and_true, cond_true, cond_false]
        exact IH2
      · rw [f87_l3]
        simp only [Int.toNat_natCast, Nat.mul_one, Nat.add_zero, t2, rowO, isOwnD_own, cellsOf_own, tabO_len, rowV_len, v2, isInt_cellN, intOf_cellN, nthV_lt hi, ia, w1, drop_str hb k, dec_true hdl,
          dec_true (show (i : Int) < ((a.length : Nat) : Int) by omega), dec_true (show (0 : Int) ≤ (i : Int) by omega), dec_true (show (i : Int) < ((a.length + 1 : Nat) : Int) by omega), dec_true (show (0 : Int) ≤ (k : Int) by omega), dec_true (show (k : Int) < ((b.length + 1 : Nat) : Int) by omega), dec_true (show (k : Int) ≤ ((b.length : Nat) : Int) by omega),
          dec_true (show ((lcs (a[i] :: a.drop (i + 1)) (b.drop k) : Nat) : Int) > 0 by omega), dec_false (show ¬ ixV a[i].strOf (b.drop k) 0 ≥ 0 from hx), Bool.and_true, cond_true, cond_false]
        exact IH2
theorem f87_s3_eq (a : List V) (b : List V) (i : Int) (k : Int) (rest : List V) (out : List V) (hp : (a.all V.isStr && b.all V.isStr && decide (a.length ≤ 2000000) && decide (b.length ≤ 2000000) && eqTabO rest (tabO a b) && decide (0 ≤ i) && decide (i ≤ ((a.length : Nat) : Int)) && decide (0 ≤ k) && decide (k ≤ ((b.length : Nat) : Int)) && decide (out.length ≤ 1000000000)) = true) : ∃ n, ∀ (R : Type) (κ : Ex → St → Option R), f87_l3 n a b i k rest out R κ = f87_s3 a b i k rest out R κ := by
  simp only [Bool.and_eq_true, decide_eq_true_eq, beq_iff_eq] at hp
  obtain ⟨⟨⟨⟨⟨⟨⟨⟨⟨h1, h2⟩, h3⟩, h4⟩, h5⟩, h6⟩, h7⟩, h8⟩, h9⟩, h10⟩ := hp
  obtain rfl := eqTabO_eq b a rest h5
  obtain ⟨i, rfl⟩ : ∃ j : Nat, i = (j : Int) := ⟨i.toNat, by omega⟩
  obtain ⟨k, rfl⟩ : ∃ j : Nat, k = (j : Int) := ⟨k.toNat, by omega⟩
  refine ⟨a.length + 1, fun R κ => ?_⟩
  have := f87_l3_c a b h1 h2 h3 h4 (a.length - i) i k out (by omega) (by omega) (by omega) (a.length + 1) (by omega) R κ
  rw [this]
  unfold f87_s3
  rw [Int.toNat_natCast, Int.toNat_natCast]
def t_f87_l3 (st : St) (R : Type) (κ : Ex → St → Option R) : Option R := bif ckS f87_l3_ls f87_l3_rs st then (bif (((st.env 0).cellsOf).all V.isStr && ((st.env 1).cellsOf).all V.isStr && decide (((st.env 0).cellsOf).length ≤ 2000000) && decide (((st.env 1).cellsOf).length ≤ 2000000) && eqTabO ((nthV (rowOf (st.regs (.loc 5))) 0).cellsOf) (tabO ((st.env 0).cellsOf) ((st.env 1).cellsOf)) && decide (0 ≤ ((st.env 10).intOf)) && decide (((st.env 10).intOf) ≤ ((((st.env 0).cellsOf).length : Nat) : Int)) && decide (0 ≤ ((st.env 11).intOf)) && decide (((st.env 11).intOf) ≤ ((((st.env 1).cellsOf).length : Nat) : Int)) && decide (((nthV (rowOf (st.regs (.loc 9))) 0).cellsOf).length ≤ 1000000000)) then f87_s3 ((st.env 0).cellsOf) ((st.env 1).cellsOf) ((st.env 10).intOf) ((st.env 11).intOf) ((nthV (rowOf (st.regs (.loc 5))) 0).cellsOf) ((nthV (rowOf (st.regs (.loc 9))) 0).cellsOf) R κ else none) else none
theorem t_f87_l3_ok : ∀ st0 R κ r, t_f87_l3 (forget C 87 [0, 1, 0, 1, 1, 1, 1, 1] st0) R κ = some r → ∃ ee ss, κ ee ss = some r ∧ RunP C prim 87 [0, 1, 0, 1, 1, 1, 1, 1] (forget C 87 [0, 1, 0, 1, 1, 1, 1, 1] st0) ee ss := by
  intro st0 R κ r h
  obtain ⟨hs, h⟩ := cond_some h
  obtain ⟨hp, h⟩ := cond_some h
  rw [canon (ls := f87_l3_ls) (rs := f87_l3_rs) (by kernel_rfl) st0 hs]
  obtain ⟨n, hn⟩ := f87_s3_eq _ _ _ _ _ _ hp
  rw [← hn] at h
  exact f87_l3_ok n _ _ _ _ _ _ R κ r h

def K_f87 : CallK := kNil
theorem K_f87_ok : KOK C prim K_f87 := KOK.nil
def T_f87 : Tab := tCons [0, 1, 0, 1, 1] t_f87_l0 <| tCons [0, 1, 0, 1, 1, 1] t_f87_l1 <| tCons [0, 1, 0, 1, 1, 1, 1, 1] t_f87_l3 <| tNil
theorem T_f87_ok : TOK C prim 87 T_f87 := TOK.cons t_f87_l0_ok <| TOK.cons t_f87_l1_ok <| TOK.cons t_f87_l3_ok <| TOK.nil
def f87 (a : List V) (b : List V) : Option (V × List Rg) :=
  bif ((((((((((decide ((0 : Int) ≤ (IntKind.wrap .i64 (((a.length : Nat) : Int) + 1)))) && (decide ((IntKind.wrap .i64 (((a.length : Nat) : Int) + 1)) ≤ (IntKind.wrap .i64 (((a.length : Nat) : Int) + 1))))) && true) && true) && true) && true) && true) && (roomy (((IntKind.wrap .i64 (((a.length : Nat) : Int) + 1))).toNat * 24))) && (roomy ((IntKind.wrap .i64 (((a.length : Nat) : Int) + 1))).toNat)) && true) then
    bif (((((((List.replicate ((IntKind.wrap .i64 (((a.length : Nat) : Int) + 1))).toNat ([.own 3 false []] : List V)).flatten)).length : Nat) : Int) == ((((List.replicate ((IntKind.wrap .i64 (((a.length : Nat) : Int) + 1))).toNat ([.own 3 false []] : List V)).flatten).length : Nat) : Int)) && ((0 : Int) == 0) && decide (b.length ≤ 2000000) && decide (((List.replicate ((IntKind.wrap .i64 (((a.length : Nat) : Int) + 1))).toNat ([.own 3 false []] : List V)).flatten).length ≤ 2000001)) then
      bif (((IntKind.wrap .i64 (((a.length : Nat) : Int) - 1)) + 1 == ((a.length : Nat) : Int)) && ((List.replicate ((List.replicate ((IntKind.wrap .i64 (((a.length : Nat) : Int) + 1))).toNat ([.own 3 false []] : List V)).flatten).length (zrow b)).length == a.length + 1) && a.all V.isStr && b.all V.isStr && decide (a.length ≤ 2000000) && decide (b.length ≤ 2000000) && (List.replicate ((List.replicate ((IntKind.wrap .i64 (((a.length : Nat) : Int) + 1))).toNat ([.own 3 false []] : List V)).flatten).length (zrow b)).all (fun x => ownRow x (zeros b))) then
        bif (a.all V.isStr && b.all V.isStr && decide (a.length ≤ 2000000) && decide (b.length ≤ 2000000) && eqTabO (tabO a b) (tabO a b) && decide (0 ≤ (0 : Int)) && decide ((0 : Int) ≤ ((a.length : Nat) : Int)) && decide (0 ≤ (0 : Int)) && decide ((0 : Int) ≤ ((b.length : Nat) : Int)) && decide (([] : List V).length ≤ 1000000000)) then
          some (.own 144 false (([] : List V) ++ pairsV (stayP (a.drop (0 : Int).toNat) (0 : Int).toNat (b.drop (0 : Int).toNat) (0 : Int).toNat)), [])
        else none
      else none
    else none
  else none
theorem f87_run (a : List V) (b : List V) (z9 : V × List Rg) (h : f87 a b = some z9) : CallR C prim 87 [.sl 1 a, .sl 1 b] [] z9 := by
  refine call_fn (K := K_f87) (T := T_f87) K_f87_ok T_f87_ok (by kernel_rfl) ?_
  refine Eq.trans ?_ h
  kernel_rfl

theorem f87_eq (a : List V) (b : List V) (hp : (a.all V.isStr && b.all V.isStr && decide (a.length ≤ 2000000) && decide (b.length ≤ 2000000)) = true) : f87 a b = some (.own 144 false (pairsV (stayP a 0 b 0)), []) := by
  simp only [Bool.and_eq_true, decide_eq_true_eq] at hp
  obtain ⟨⟨⟨h1, h2⟩, h3⟩, h4⟩ := hp
  have hw : IntKind.wrap .i64 (((a.length : Nat) : Int) + 1) = ((a.length + 1 : Nat) : Int) := wrap_succ (by omega)
  have r1 : roomy ((a.length + 1) * 24) = true := by unfold roomy; exact dec_true (by omega)
  have r2 : roomy (a.length + 1) = true := by unfold roomy; exact dec_true (by omega)
  unfold f87
  simp only [hw, Int.toNat_natCast, flatten_rep, List.length_replicate, r1, r2, h1, h2, dec_true h3, dec_true h4, zrow_own, eqTabO_refl, wrap_pred (show a.length < 9223372036854775807 by omega), Int.sub_add_cancel, beq_self_eq_true, dec_true (show (0 : Int) ≤ ((a.length + 1 : Nat) : Int) by omega), dec_true (show ((a.length + 1 : Nat) : Int) ≤ ((a.length + 1 : Nat) : Int) by omega), dec_true (show a.length + 1 ≤ 2000001 by omega), dec_true (show (0 : Int) ≤ ((a.length : Nat) : Int) by omega), dec_true (show (0 : Int) ≤ ((b.length : Nat) : Int) by omega), Bool.and_true, cond_true]
  rfl
def k87 : PrimT := fun vs gs => match vs, gs with
  | [.sl 1 a, .sl 1 b], [] => ((a.all V.isStr && b.all V.isStr && decide (a.length ≤ 2000000) && decide (b.length ≤ 2000000)), .own 144 false (pairsV (stayP a 0 b 0)), [])
  | _, _ => (false, .bad, [])
theorem k87_ok : ∀ vs gs x, k87 vs gs = (true, x) → CallR C prim 87 vs gs x := by
  intro vs gs x h
  unfold k87 at h
  split at h
  · simp only [Prod.mk.injEq] at h
    obtain ⟨hp, rfl⟩ := h
    exact f87_run _ _ _ (f87_eq _ _ hp)
  · cases h

def K_f86 : CallK := kCons 65 k65 <| kNil
theorem K_f86_ok : KOK C prim K_f86 := KOK.cons k65_ok <| KOK.nil
def T_f86 : Tab := tNil
theorem T_f86_ok : TOK C prim 86 T_f86 := TOK.nil
def f86 (p0 : Int) (p1 : Int) (r0 : Int) (r1 : Int) (r2 : List V) (r3 : List V) (r4 : List V) : Option (V × List Rg) :=
  bif (decide (p0 > r0)) then
    bif ((((((decide ((0 : Int) ≤ r0)) && (decide (r0 ≤ p0))) && (decide (p0 ≤ ((r3.length : Nat) : Int)))) && true) && true) && true) then
      bif ((decide ((((r3.drop ((r0).toNat * 1)).take (((p0).toNat - (r0).toNat) * 1))).length * 16 ≤ 140737488355328) && ((r3.drop ((r0).toNat * 1)).take (((p0).toNat - (r0).toNat) * 1)).all V.isStr) && true) then
        bif ((((((decide ((0 : Int) ≤ r1)) && (decide (r1 ≤ p1))) && (decide (p1 ≤ ((r4.length : Nat) : Int)))) && true) && true) && true) then
          bif ((decide ((((r4.drop ((r1).toNat * 1)).take (((p1).toNat - (r1).toNat) * 1))).length * 16 ≤ 140737488355328) && ((r4.drop ((r1).toNat * 1)).take (((p1).toNat - (r1).toNat) * 1)).all V.isStr) && true) then
            bif (((roomy (((lenE 4 r2.length) + 1) * 64)) && (roomy ((lenE 4 r2.length) + 1))) && true) then
              some (.tp [], [⟨true, [.sc (.int .i64 (IntKind.wrap .i64 (p0 + 1)))]⟩, ⟨true, [.sc (.int .i64 (IntKind.wrap .i64 (p1 + 1)))]⟩, ⟨true, [.own 57 false (r2 ++ [.sc (.int .i64 r0), .sc (.int .i64 r1), .sl 1 ((r3.drop ((r0).toNat * 1)).take (((p0).toNat - (r0).toNat) * 1)), .sl 1 ((r4.drop ((r1).toNat * 1)).take (((p1).toNat - (r1).toNat) * 1))])]⟩, ⟨true, [.sl 1 r3]⟩, ⟨true, [.sl 1 r4]⟩])
            else none
          else none
        else none
      else none
    else none
  else
    bif (decide (p1 > r1)) then
      bif ((((((decide ((0 : Int) ≤ r0)) && (decide (r0 ≤ p0))) && (decide (p0 ≤ ((r3.length : Nat) : Int)))) && true) && true) && true) then
        bif ((decide ((((r3.drop ((r0).toNat * 1)).take (((p0).toNat - (r0).toNat) * 1))).length * 16 ≤ 140737488355328) && ((r3.drop ((r0).toNat * 1)).take (((p0).toNat - (r0).toNat) * 1)).all V.isStr) && true) then
          bif ((((((decide ((0 : Int) ≤ r1)) && (decide (r1 ≤ p1))) && (decide (p1 ≤ ((r4.length : Nat) : Int)))) && true) && true) && true) then
            bif ((decide ((((r4.drop ((r1).toNat * 1)).take (((p1).toNat - (r1).toNat) * 1))).length * 16 ≤ 140737488355328) && ((r4.drop ((r1).toNat * 1)).take (((p1).toNat - (r1).toNat) * 1)).all V.isStr) && true) then
              bif (((roomy (((lenE 4 r2.length) + 1) * 64)) && (roomy ((lenE 4 r2.length) + 1))) && true) then
                some (.tp [], [⟨true, [.sc (.int .i64 (IntKind.wrap .i64 (p0 + 1)))]⟩, ⟨true, [.sc (.int .i64 (IntKind.wrap .i64 (p1 + 1)))]⟩, ⟨true, [.own 57 false (r2 ++ [.sc (.int .i64 r0), .sc (.int .i64 r1), .sl 1 ((r3.drop ((r0).toNat * 1)).take (((p0).toNat - (r0).toNat) * 1)), .sl 1 ((r4.drop ((r1).toNat * 1)).take (((p1).toNat - (r1).toNat) * 1))])]⟩, ⟨true, [.sl 1 r3]⟩, ⟨true, [.sl 1 r4]⟩])
              else none
            else none
          else none
        else none
      else none
    else
      some (.tp [], [⟨true, [.sc (.int .i64 (IntKind.wrap .i64 (p0 + 1)))]⟩, ⟨true, [.sc (.int .i64 (IntKind.wrap .i64 (p1 + 1)))]⟩, ⟨true, [.own 57 false r2]⟩, ⟨true, [.sl 1 r3]⟩, ⟨true, [.sl 1 r4]⟩])
theorem f86_run (p0 : Int) (p1 : Int) (r0 : Int) (r1 : Int) (r2 : List V) (r3 : List V) (r4 : List V) (z9 : V × List Rg) (h : f86 p0 p1 r0 r1 r2 r3 r4 = some z9) : CallR C prim 86 [.ag [.sc (.int .i64 p0), .sc (.int .i64 p1)], .ptrB (.par 0) 0, .ptrB (.par 1) 0, .ptrB (.par 2) 0, .ptrB (.par 3) 0, .ptrB (.par 4) 0] [⟨true, [.sc (.int .i64 r0)]⟩, ⟨true, [.sc (.int .i64 r1)]⟩, ⟨true, [.own 57 false r2]⟩, ⟨true, [.sl 1 r3]⟩, ⟨true, [.sl 1 r4]⟩] z9 := by
  refine call_fn (K := K_f86) (T := T_f86) K_f86_ok T_f86_ok (by kernel_rfl) ?_
  refine Eq.trans ?_ h
  kernel_rfl

theorem f86_eq (p0 : Int) (p1 : Int) (r0 : Int) (r1 : Int) (r2 : List V) (r3 : List V) (r4 : List V) (hp : (decide (0 ≤ r0) && decide (r0 ≤ p0) && decide (p0 ≤ ((r3.length : Nat) : Int)) && decide (0 ≤ r1) && decide (r1 ≤ p1) && decide (p1 ≤ ((r4.length : Nat) : Int)) && r3.all V.isStr && r4.all V.isStr && decide (r3.length ≤ 2000000) && decide (r4.length ≤ 2000000) && decide (r2.length ≤ 2000000000)) = true) : f86 p0 p1 r0 r1 r2 r3 r4 = some (.tp [], [⟨true, [.sc (.int .i64 (IntKind.wrap .i64 (p0 + 1)))]⟩, ⟨true, [.sc (.int .i64 (IntKind.wrap .i64 (p1 + 1)))]⟩, ⟨true, [.own 57 false (r2 ++ hkI r3 r4 r0 r1 p0 p1)]⟩, ⟨true, [.sl 1 r3]⟩, ⟨true, [.sl 1 r4]⟩]) := by
  simp only [Bool.and_eq_true, decide_eq_true_eq] at hp
  obtain ⟨⟨⟨⟨⟨⟨⟨⟨⟨⟨h1, h2⟩, h3⟩, h4⟩, h5⟩, h6⟩, h7⟩, h8⟩, h9⟩, h10⟩, h11⟩ := hp
  have l1 := len_sub r3 r0.toNat (p0.toNat - r0.toNat)
  have l2 := len_sub r4 r1.toNat (p1.toNat - r1.toNat)
  have rr : (roomy ((lenE 4 r2.length + 1) * 64) && roomy (lenE 4 r2.length + 1)) = true := by
    have : lenE 4 r2.length = r2.length / 4 := rfl
    unfold roomy
    rw [this, dec_true (by omega), dec_true (by omega)]; rfl
  unfold f86 hkI
  simp only [Nat.mul_one, dec_true h1, dec_true h2, dec_true h3, dec_true h4, dec_true h5, dec_true h6, all_sub h7, all_sub h8, rr, dec_true (show ((r3.drop r0.toNat).take (p0.toNat - r0.toNat)).length * 16 ≤ 140737488355328 by omega), dec_true (show ((r4.drop r1.toNat).take (p1.toNat - r1.toNat)).length * 16 ≤ 140737488355328 by omega), Bool.and_true, cond_true]
  cases decide (p0 > r0) <;> cases decide (p1 > r1) <;> simp only [cond_true, cond_false, Bool.or_true, Bool.true_or, Bool.or_false, List.append_nil]
def k86 : PrimT := fun vs gs => match vs, gs with
  | [.ag [.sc (.int .i64 p0), .sc (.int .i64 p1)], .ptrB (.par 0) 0, .ptrB (.par 1) 0, .ptrB (.par 2) 0, .ptrB (.par 3) 0, .ptrB (.par 4) 0], [⟨true, [.sc (.int .i64 r0)]⟩, ⟨true, [.sc (.int .i64 r1)]⟩, ⟨true, [.own 57 false r2]⟩, ⟨true, [.sl 1 r3]⟩, ⟨true, [.sl 1 r4]⟩] => ((decide (0 ≤ r0) && decide (r0 ≤ p0) && decide (p0 ≤ ((r3.length : Nat) : Int)) && decide (0 ≤ r1) && decide (r1 ≤ p1) && decide (p1 ≤ ((r4.length : Nat) : Int)) && r3.all V.isStr && r4.all V.isStr && decide (r3.length ≤ 2000000) && decide (r4.length ≤ 2000000) && decide (r2.length ≤ 2000000000)), .tp [], [⟨true, [.sc (.int .i64 (IntKind.wrap .i64 (p0 + 1)))]⟩, ⟨true, [.sc (.int .i64 (IntKind.wrap .i64 (p1 + 1)))]⟩, ⟨true, [.own 57 false (r2 ++ hkI r3 r4 r0 r1 p0 p1)]⟩, ⟨true, [.sl 1 r3]⟩, ⟨true, [.sl 1 r4]⟩])
  | _, _ => (false, .bad, [])
theorem k86_ok : ∀ vs gs x, k86 vs gs = (true, x) → CallR C prim 86 vs gs x := by
  intro vs gs x h
  unfold k86 at h
  split at h
  · simp only [Prod.mk.injEq] at h
    obtain ⟨hp, rfl⟩ := h
    exact f86_run _ _ _ _ _ _ _ _ (f86_eq _ _ _ _ _ _ _ hp)
  · cases h

def K_f46_l0 : CallK := kCons 86 k86 <| kNil
theorem K_f46_l0_ok : KOK C prim K_f46_l0 := KOK.cons k86_ok <| KOK.nil
def T_f46_l0 : Tab := tNil
theorem T_f46_l0_ok : TOK C prim 46 T_f46_l0 := TOK.nil
def f46_l0 : Nat → Int → Int → List V → List V → List V → Int → Int → List V → (R : Type) → (Ex → St → Option R) → Option R
  | 0, _, _, _, _, _, _, _, _, _, _ => none
  | n + 1, v15, v16, a, b, out, from', to', r14, R, κ =>
    bif (decide (v16 < v15)) then
      bif (((decide ((0 : Int) ≤ v16)) && (decide (v16 < (((lenE 2 r14.length) : Nat) : Int)))) && true) then
        bif (((V.isInt .i64 (nthV r14 (((v16).toNat * 2) + 0))) && ((V.isInt .i64 (nthV r14 ((((v16).toNat * 2) + 0) + 1))) && true)) && true) then
          bif ((decide (0 ≤ from') && decide (from' ≤ (V.intOf (nthV r14 (((v16).toNat * 2) + 0)))) && decide ((V.intOf (nthV r14 (((v16).toNat * 2) + 0))) ≤ ((a.length : Nat) : Int)) && decide (0 ≤ to') && decide (to' ≤ (V.intOf (nthV r14 ((((v16).toNat * 2) + 0) + 1)))) && decide ((V.intOf (nthV r14 ((((v16).toNat * 2) + 0) + 1))) ≤ ((b.length : Nat) : Int)) && a.all V.isStr && b.all V.isStr && decide (a.length ≤ 2000000) && decide (b.length ≤ 2000000) && decide (out.length ≤ 2000000000)) && true) then
            f46_l0 n v15 (IntKind.wrap .i64 (v16 + 1)) a b (out ++ hkI a b from' to' (V.intOf (nthV r14 (((v16).toNat * 2) + 0))) (V.intOf (nthV r14 ((((v16).toNat * 2) + 0) + 1)))) (IntKind.wrap .i64 ((V.intOf (nthV r14 (((v16).toNat * 2) + 0))) + 1)) (IntKind.wrap .i64 ((V.intOf (nthV r14 ((((v16).toNat * 2) + 0) + 1))) + 1)) r14 R κ
          else none
        else none
      else none
    else
      κ (.ex 0) (mkS [(2, .ptrB (.loc 2) 0), (3, .ptrB (.loc 3) 0), (4, .bad), (5, .ptrB (.loc 5) 0), (8, .fn 86 [] [.ptrB (.loc 6) 0, .ptrB (.loc 7) 0, .ptrB (.loc 5) 0, .ptrB (.loc 2) 0, .ptrB (.loc 3) 0])] [(.loc 2, some ⟨true, [.sl 1 a]⟩), (.loc 3, some ⟨true, [.sl 1 b]⟩), (.loc 5, some ⟨true, [.own 57 false out]⟩), (.loc 6, some ⟨true, [.sc (.int .i64 from')]⟩), (.loc 7, some ⟨true, [.sc (.int .i64 to')]⟩)])
def f46_l0_ls : List (Nat × Pat) := [(2, .is (.ptrB (.loc 2) 0)), (3, .is (.ptrB (.loc 3) 0)), (5, .is (.ptrB (.loc 5) 0)), (8, .is (.fn 86 [] [.ptrB (.loc 6) 0, .ptrB (.loc 7) 0, .ptrB (.loc 5) 0, .ptrB (.loc 2) 0, .ptrB (.loc 3) 0])), (14, .is (.ref ⟨.loc 14, 0, [], 144, false⟩)), (15, .i .i64), (16, .i .i64)]
def f46_l0_rs : List RPat := [⟨.loc 2, true, [.sl 1]⟩, ⟨.loc 3, true, [.sl 1]⟩, ⟨.loc 5, true, [.own 57 false]⟩, ⟨.loc 6, true, [.i .i64]⟩, ⟨.loc 7, true, [.i .i64]⟩, ⟨.loc 14, false, [.own 144 false]⟩]
theorem f46_l0_ok (n : Nat) : ∀ (v15 : Int) (v16 : Int) (a : List V) (b : List V) (out : List V) (from' : Int) (to' : Int) (r14 : List V) (R : Type) (κ : Ex → St → Option R) (r : R), f46_l0 n v15 v16 a b out from' to' r14 R κ = some r → ∃ ee ss, κ ee ss = some r ∧ RunP C prim 46 [0, 1, 0, 1, 1, 1, 1] (mkS [(2, .ptrB (.loc 2) 0), (3, .ptrB (.loc 3) 0), (5, .ptrB (.loc 5) 0), (8, .fn 86 [] [.ptrB (.loc 6) 0, .ptrB (.loc 7) 0, .ptrB (.loc 5) 0, .ptrB (.loc 2) 0, .ptrB (.loc 3) 0]), (14, .ref ⟨.loc 14, 0, [], 144, false⟩), (15, .sc (.int .i64 v15)), (16, .sc (.int .i64 v16))] [(.loc 2, some ⟨true, [.sl 1 a]⟩), (.loc 3, some ⟨true, [.sl 1 b]⟩), (.loc 5, some ⟨true, [.own 57 false out]⟩), (.loc 6, some ⟨true, [.sc (.int .i64 from')]⟩), (.loc 7, some ⟨true, [.sc (.int .i64 to')]⟩), (.loc 14, some ⟨false, [.own 144 false r14]⟩)]) ee ss := by
  induction n with
  | zero => intro v15 v16 a b out from' to' r14 R κ r h; cases h
  | succ n ih =>
    intro v15 v16 a b out from' to' r14 R κ r h
    refine loop_round (K := K_f46_l0) (T := T_f46_l0) K_f46_l0_ok T_f46_l0_ok (p := [0, 1, 0, 1, 1, 1, 1]) (by kernel_rfl) (fun st => bif ckS f46_l0_ls f46_l0_rs st then f46_l0 n ((st.env 15).intOf) ((st.env 16).intOf) ((nthV (rowOf (st.regs (.loc 2))) 0).cellsOf) ((nthV (rowOf (st.regs (.loc 3))) 0).cellsOf) ((nthV (rowOf (st.regs (.loc 5))) 0).cellsOf) ((nthV (rowOf (st.regs (.loc 6))) 0).intOf) ((nthV (rowOf (st.regs (.loc 7))) 0).intOf) ((nthV (rowOf (st.regs (.loc 14))) 0).cellsOf) R κ else none) (fun st0 h0 => ?_) ?_
    · obtain ⟨hs, h0⟩ := cond_some h0
      rw [canon (ls := f46_l0_ls) (rs := f46_l0_rs) (by kernel_rfl) st0 hs]
      exact ih _ _ _ _ _ _ _ _ R κ r h0
    · refine Eq.trans ?_ h
      kernel_rfl

def f46_s0 (v15 : Int) (v16 : Int) (a : List V) (b : List V) (out : List V) (from' : Int) (to' : Int) (r14 : List V) (R : Type) (κ : Ex → St → Option R) : Option R :=
  κ (.ex 0) (mkS [(2, .ptrB (.loc 2) 0), (3, .ptrB (.loc 3) 0), (4, .bad), (5, .ptrB (.loc 5) 0), (8, .fn 86 [] [.ptrB (.loc 6) 0, .ptrB (.loc 7) 0, .ptrB (.loc 5) 0, .ptrB (.loc 2) 0, .ptrB (.loc 3) 0])] [(.loc 2, some ⟨true, [.sl 1 a]⟩), (.loc 3, some ⟨true, [.sl 1 b]⟩), (.loc 5, some ⟨true, [.own 57 false (out ++ hksP a b from' to' r14)]⟩), (.loc 6, some ⟨true, [.sc (.int .i64 ((endP from' to' r14).1))]⟩), (.loc 7, some ⟨true, [.sc (.int .i64 ((endP from' to' r14).2))]⟩)])
theorem okPr_cons {la lb f t : Int} {l : List V} (h : okPr la lb f t l = true) (hn : l ≠ []) : ∃ p q r, l = p :: q :: r ∧ p.isInt .i64 = true ∧ q.isInt .i64 = true ∧ f ≤ p.intOf ∧ p.intOf < la ∧ t ≤ q.intOf ∧ q.intOf < lb ∧ okPr la lb (p.intOf + 1) (q.intOf + 1) r = true := by
  match l, h with
  | [], _ => exact absurd rfl hn
  | [_], h => cases h
  | p :: q :: r, h =>
    unfold okPr at h
    simp only [Bool.and_eq_true, decide_eq_true_eq] at h
    obtain ⟨⟨⟨⟨⟨⟨h1, h2⟩, h3⟩, h4⟩, h5⟩, h6⟩, h7⟩ := h
    exact ⟨p, q, r, rfl, h1, h2, h3, h4, h5, h6, h7⟩
theorem okPr_len {la lb : Int} : ∀ (l : List V) (f t : Int), okPr la lb f t l = true → ∃ q, l.length = 2 * q
  | [], _, _, _ => ⟨0, rfl⟩
  | [_], _, _, h => by cases h
  | p :: q :: l, f, t, h => by
    unfold okPr at h
    rw [Bool.and_eq_true] at h
    obtain ⟨j, hj⟩ := okPr_len l _ _ h.2
    exact ⟨j + 1, by simp only [List.length_cons, hj]; omega⟩
theorem f46_l0_c (a b r14 : List V) (q : Nat) (ha : a.all V.isStr = true) (hb : b.all V.isStr = true) (la : a.length ≤ 2000000) (lb : b.length ≤ 2000000) (hq : r14.length = 2 * q) (hl : r14.length ≤ 10000000) : ∀ (m k : Nat) (f t : Int) (out : List V), k + m = q → okPr ((a.length : Nat) : Int) ((b.length : Nat) : Int) f t (r14.drop (k * 2)) = true → 0 ≤ f → 0 ≤ t → out.length + 4 * m ≤ 1500000000 → ∀ n, m < n → ∀ (R : Type) (κ : Ex → St → Option R),
    f46_l0 n ((q : Nat) : Int) (k : Int) a b out f t r14 R κ = κ (.ex 0) (mkS [(2, .ptrB (.loc 2) 0), (3, .ptrB (.loc 3) 0), (4, .bad), (5, .ptrB (.loc 5) 0), (8, .fn 86 [] [.ptrB (.loc 6) 0, .ptrB (.loc 7) 0, .ptrB (.loc 5) 0, .ptrB (.loc 2) 0, .ptrB (.loc 3) 0])] [(.loc 2, some ⟨true, [.sl 1 a]⟩), (.loc 3, some ⟨true, [.sl 1 b]⟩), (.loc 5, some ⟨true, [.own 57 false (out ++ hksP a b f t (r14.drop (k * 2)))]⟩), (.loc 6, some ⟨true, [.sc (.int .i64 (endP f t (r14.drop (k * 2))).1)]⟩), (.loc 7, some ⟨true, [.sc (.int .i64 (endP f t (r14.drop (k * 2))).2)]⟩)]) := by
  have hlen : lenE 2 r14.length = q := by show r14.length / 2 = q; omega
  intro m
  induction m with
  | zero =>
    intro k f t out hk ho hf ht hs n hn R κ
    obtain ⟨n, rfl⟩ : ∃ j, n = j + 1 := ⟨n - 1, by omega⟩
    rw [List.drop_of_length_le (by omega), f46_l0, dec_false (by omega)]
    show κ _ _ = κ _ (mkS _ [_, _, (_, some ⟨true, [.own 57 false (out ++ [])]⟩), _, _])
    rw [List.append_nil]
    rfl
  | succ m ih =>
    intro k f t out hk ho hf ht hs n hn R κ
    obtain ⟨n, rfl⟩ : ∃ j, n = j + 1 := ⟨n - 1, by omega⟩
    obtain ⟨p, y, r, hd, g1, g2, g3, g4, g5, g6, g7⟩ := okPr_cons ho (by intro e; have := congrArg List.length e; rw [List.length_drop] at this; simp only [List.length_nil] at this; omega)
    obtain ⟨n0, n1, hd2, hk2⟩ := drop2 hd
    have w1 : IntKind.wrap .i64 (p.intOf + 1) = p.intOf + 1 := wrap_id (by omega) (by omega)
    have w2 : IntKind.wrap .i64 (y.intOf + 1) = y.intOf + 1 := wrap_id (by omega) (by omega)
    have hl4 := hkI_len a b f t p.intOf y.intOf
    have IH := ih (k + 1) (p.intOf + 1) (y.intOf + 1) (out ++ hkI a b f t p.intOf y.intOf) (by omega) (by rw [hd2]; exact g7) (by omega) (by omega) (by rw [List.length_append]; omega) n (by omega) R κ
    rw [hd2] at IH
    rw [hd, f46_l0]
    simp only [hlen, n0, n1, g1, g2, ha, hb, w1, w2, dec_true la, dec_true lb, dec_true hf, dec_true ht, dec_true g3, dec_true g5, dec_true (show p.intOf ≤ ((a.length : Nat) : Int) by omega), dec_true (show y.intOf ≤ ((b.length : Nat) : Int) by omega), dec_true (show out.length ≤ 2000000000 by omega), dec_true (show (k : Int) < ((q : Nat) : Int) by omega), dec_true (show (0 : Int) ≤ (k : Int) by omega), wrap_succ (show k < 9223372036854775807 by omega), Bool.and_true, cond_true]
    rw [IH, List.append_assoc]
    rfl
theorem f46_s0_eq (v15 : Int) (v16 : Int) (a : List V) (b : List V) (out : List V) (from' : Int) (to' : Int) (r14 : List V) (hp : ((v15 == ((lenE 2 r14.length : Nat) : Int)) && (v16 == 0) && a.all V.isStr && b.all V.isStr && decide (a.length ≤ 2000000) && decide (b.length ≤ 2000000) && decide (out.length ≤ 1000000000) && decide (r14.length ≤ 10000000) && decide (0 ≤ from') && decide (0 ≤ to') && okPr ((a.length : Nat) : Int) ((b.length : Nat) : Int) from' to' r14) = true) : ∃ n, ∀ (R : Type) (κ : Ex → St → Option R), f46_l0 n v15 v16 a b out from' to' r14 R κ = f46_s0 v15 v16 a b out from' to' r14 R κ := by
  simp only [Bool.and_eq_true, decide_eq_true_eq, beq_iff_eq] at hp
  obtain ⟨⟨⟨⟨⟨⟨⟨⟨⟨⟨rfl, rfl⟩, h1⟩, h2⟩, h3⟩, h4⟩, h5⟩, h6⟩, h7⟩, h8⟩, h9⟩ := hp
  obtain ⟨q, hq⟩ := okPr_len _ _ _ h9
  have e : lenE 2 r14.length = q := by show r14.length / 2 = q; omega
  rw [e]
  refine ⟨q + 1, fun R κ => ?_⟩
  have := f46_l0_c a b r14 q h1 h2 h3 h4 hq h6 q 0 from' to' out (by omega) (by simpa using h9) h7 h8 (by omega) (q + 1) (by omega) R κ
  rw [Nat.zero_mul, List.drop_zero] at this
  exact this
def t_f46_l0 (st : St) (R : Type) (κ : Ex → St → Option R) : Option R := bif ckS f46_l0_ls f46_l0_rs st then (bif ((((st.env 15).intOf) == ((lenE 2 ((nthV (rowOf (st.regs (.loc 14))) 0).cellsOf).length : Nat) : Int)) && (((st.env 16).intOf) == 0) && ((nthV (rowOf (st.regs (.loc 2))) 0).cellsOf).all V.isStr && ((nthV (rowOf (st.regs (.loc 3))) 0).cellsOf).all V.isStr && decide (((nthV (rowOf (st.regs (.loc 2))) 0).cellsOf).length ≤ 2000000) && decide (((nthV (rowOf (st.regs (.loc 3))) 0).cellsOf).length ≤ 2000000) && decide (((nthV (rowOf (st.regs (.loc 5))) 0).cellsOf).length ≤ 1000000000) && decide (((nthV (rowOf (st.regs (.loc 14))) 0).cellsOf).length ≤ 10000000) && decide (0 ≤ ((nthV (rowOf (st.regs (.loc 6))) 0).intOf)) && decide (0 ≤ ((nthV (rowOf (st.regs (.loc 7))) 0).intOf)) && okPr ((((nthV (rowOf (st.regs (.loc 2))) 0).cellsOf).length : Nat) : Int) ((((nthV (rowOf (st.regs (.loc 3))) 0).cellsOf).length : Nat) : Int) ((nthV (rowOf (st.regs (.loc 6))) 0).intOf) ((nthV (rowOf (st.regs (.loc 7))) 0).intOf) ((nthV (rowOf (st.regs (.loc 14))) 0).cellsOf)) then f46_s0 ((st.env 15).intOf) ((st.env 16).intOf) ((nthV (rowOf (st.regs (.loc 2))) 0).cellsOf) ((nthV (rowOf (st.regs (.loc 3))) 0).cellsOf) ((nthV (rowOf (st.regs (.loc 5))) 0).cellsOf) ((nthV (rowOf (st.regs (.loc 6))) 0).intOf) ((nthV (rowOf (st.regs (.loc 7))) 0).intOf) ((nthV (rowOf (st.regs (.loc 14))) 0).cellsOf) R κ else none) else none
theorem t_f46_l0_ok : ∀ st0 R κ r, t_f46_l0 (forget C 46 [0, 1, 0, 1, 1, 1, 1] st0) R κ = some r → ∃ ee ss, κ ee ss = some r ∧ RunP C prim 46 [0, 1, 0, 1, 1, 1, 1] (forget C 46 [0, 1, 0, 1, 1, 1, 1] st0) ee ss := by
  intro st0 R κ r h
  obtain ⟨hs, h⟩ := cond_some h
  obtain ⟨hp, h⟩ := cond_some h
  rw [canon (ls := f46_l0_ls) (rs := f46_l0_rs) (by kernel_rfl) st0 hs]
  obtain ⟨n, hn⟩ := f46_s0_eq _ _ _ _ _ _ _ _ hp
  rw [← hn] at h
  exact f46_l0_ok n _ _ _ _ _ _ _ _ R κ r h

def K_f46 : CallK := kCons 86 k86 <| kCons 87 k87 <| kNil
theorem K_f46_ok : KOK C prim K_f46 := KOK.cons k86_ok <| KOK.cons k87_ok <| KOK.nil
def T_f46 : Tab := tCons [0, 1, 0, 1, 1, 1, 1] t_f46_l0 <| tNil
theorem T_f46_ok : TOK C prim 46 T_f46 := TOK.cons t_f46_l0_ok <| TOK.nil
def f46 (a : List V) (b : List V) : Option (V × List Rg) :=
  bif ((a.all V.isStr && b.all V.isStr && decide (a.length ≤ 2000000) && decide (b.length ≤ 2000000)) && true) then
    bif (((((lenE 2 ((pairsV (stayP a 0 b 0))).length) : Nat) : Int) == ((lenE 2 (pairsV (stayP a 0 b 0)).length : Nat) : Int)) && ((0 : Int) == 0) && a.all V.isStr && b.all V.isStr && decide (a.length ≤ 2000000) && decide (b.length ≤ 2000000) && decide (([] : List V).length ≤ 1000000000) && decide ((pairsV (stayP a 0 b 0)).length ≤ 10000000) && decide (0 ≤ (0 : Int)) && decide (0 ≤ (0 : Int)) && okPr ((a.length : Nat) : Int) ((b.length : Nat) : Int) (0 : Int) (0 : Int) (pairsV (stayP a 0 b 0))) then
      bif ((decide (0 ≤ ((endP (0 : Int) (0 : Int) (pairsV (stayP a 0 b 0))).1)) && decide (((endP (0 : Int) (0 : Int) (pairsV (stayP a 0 b 0))).1) ≤ ((a.length : Nat) : Int)) && decide (((a.length : Nat) : Int) ≤ ((a.length : Nat) : Int)) && decide (0 ≤ ((endP (0 : Int) (0 : Int) (pairsV (stayP a 0 b 0))).2)) && decide (((endP (0 : Int) (0 : Int) (pairsV (stayP a 0 b 0))).2) ≤ ((b.length : Nat) : Int)) && decide (((b.length : Nat) : Int) ≤ ((b.length : Nat) : Int)) && a.all V.isStr && b.all V.isStr && decide (a.length ≤ 2000000) && decide (b.length ≤ 2000000) && decide ((([] : List V) ++ hksP a b (0 : Int) (0 : Int) (pairsV (stayP a 0 b 0))).length ≤ 2000000000)) && true) then
        some (.own 57 false ((([] : List V) ++ hksP a b (0 : Int) (0 : Int) (pairsV (stayP a 0 b 0))) ++ hkI a b ((endP (0 : Int) (0 : Int) (pairsV (stayP a 0 b 0))).1) ((endP (0 : Int) (0 : Int) (pairsV (stayP a 0 b 0))).2) ((a.length : Nat) : Int) ((b.length : Nat) : Int)), [])
      else none
    else none
  else none
theorem f46_run (a : List V) (b : List V) (z9 : V × List Rg) (h : f46 a b = some z9) : CallR C prim 46 [.sl 1 a, .sl 1 b] [] z9 := by
  refine call_fn (K := K_f46) (T := T_f46) K_f46_ok T_f46_ok (by kernel_rfl) ?_
  refine Eq.trans ?_ h
  kernel_rfl

theorem f46_eq (a : List V) (b : List V) (hp : (a.all V.isStr && b.all V.isStr && decide (a.length ≤ 2000000) && decide (b.length ≤ 2000000)) = true) : f46 a b = some (.own 57 false (difL a b), []) := by
  simp only [Bool.and_eq_true, decide_eq_true_eq] at hp
  obtain ⟨⟨⟨h1, h2⟩, h3⟩, h4⟩ := hp
  have ho := stay_okPr ((a.length : Nat) : Int) ((b.length : Nat) : Int) a b 0 0 0 0 (by omega) (by omega) (by omega) (by omega)
  obtain ⟨e1, e2, e3, e4⟩ := endP_ok _ _ _ _ _ ho (by omega) (by omega) (by omega) (by omega)
  have hs := stay_len a b 0 0
  have hp2 := pairsV_len (stayP a 0 b 0)
  have hh := hksP_len a b (stayP a 0 b 0) 0 0
  unfold f46
  rw [List.nil_append, h1, h2, dec_true h3, dec_true h4, ho, dec_true e1, dec_true e2, dec_true e3, dec_true e4, dec_true (show (pairsV (stayP a 0 b 0)).length ≤ 10000000 by omega), dec_true (show (hksP a b (0 : Int) (0 : Int) (pairsV (stayP a 0 b 0))).length ≤ 2000000000 by omega), dec_true (show ((a.length : Nat) : Int) ≤ ((a.length : Nat) : Int) by omega), dec_true (show ((b.length : Nat) : Int) ≤ ((b.length : Nat) : Int) by omega), hunks_pairs, beq_self_eq_true]
  rfl
def k46 : PrimT := fun vs gs => match vs, gs with
  | [.sl 1 a, .sl 1 b], [] => ((a.all V.isStr && b.all V.isStr && decide (a.length ≤ 2000000) && decide (b.length ≤ 2000000)), .own 57 false (difL a b), [])
  | _, _ => (false, .bad, [])
theorem k46_ok : ∀ vs gs x, k46 vs gs = (true, x) → CallR C prim 46 vs gs x := by
  intro vs gs x h
  unfold k46 at h
  split at h
  · simp only [Prod.mk.injEq] at h
    obtain ⟨hp, rfl⟩ := h
    exact f46_run _ _ _ (f46_eq _ _ hp)
  · cases h

def K_f11 : CallK := kCons 45 k45 <| kCons 46 k46 <| kNil
theorem K_f11_ok : KOK C prim K_f11 := KOK.cons k45_ok <| KOK.cons k46_ok <| KOK.nil
def T_f11 : Tab := tNil
theorem T_f11_ok : TOK C prim 11 T_f11 := TOK.nil
def f11 (a : List V) (b : List V) : Option (V × List Rg) :=
  bif ((([.sl 1 a, .sl 1 b] : List V).all okStrs && decide (([.sl 1 a, .sl 1 b] : List V).length ≤ 1000000000)) && true) then
    bif ((listsE ([.sl 1 a, .sl 1 b] : List V)) != 0) then
      some (.tp [.own 57 false [], .sc (.int .i64 (listsE ([.sl 1 a, .sl 1 b] : List V)))], [])
    else
      bif ((a.all V.isStr && b.all V.isStr && decide (a.length ≤ 2000000) && decide (b.length ≤ 2000000)) && true) then
        some (.tp [.own 57 false (difL a b), .sc (.int .i64 0)], [])
      else none
  else none
theorem f11_run (a : List V) (b : List V) (z9 : V × List Rg) (h : f11 a b = some z9) : CallR C prim 11 [.sl 1 a, .sl 1 b] [] z9 := by
  refine call_fn (K := K_f11) (T := T_f11) K_f11_ok T_f11_ok (by kernel_rfl) ?_
  refine Eq.trans ?_ h
  kernel_rfl

theorem f11_eq (a : List V) (b : List V) (hp : (a.all V.isStr && b.all V.isStr && decide (a.length ≤ 2000000) && decide (b.length ≤ 2000000)) = true) : f11 a b = some (.tp [.own 57 false (diffL a b), .sc (.int .i64 (listsE [.sl 1 a, .sl 1 b]))], []) := by
  simp only [Bool.and_eq_true, decide_eq_true_eq] at hp
  obtain ⟨⟨⟨h1, h2⟩, h3⟩, h4⟩ := hp
  have ho : ([.sl 1 a, .sl 1 b] : List V).all okStrs = true := by
    show (okStrs _ && (okStrs _ && true)) = true
    rw [okStrs_sl h1 (by omega), okStrs_sl h2 (by omega)]; rfl
  unfold f11 diffL
  rw [ho, h1, h2, dec_true h3, dec_true h4]
  cases hl : listsE [.sl 1 a, .sl 1 b] != 0 with
  | true => rfl
  | false =>
    have : listsE [.sl 1 a, .sl 1 b] = 0 := by simpa using hl
    rw [this]
    rfl
def k11 : PrimT := fun vs gs => match vs, gs with
  | [.sl 1 a, .sl 1 b], [] => ((a.all V.isStr && b.all V.isStr && decide (a.length ≤ 2000000) && decide (b.length ≤ 2000000)), .tp [.own 57 false (diffL a b), .sc (.int .i64 (listsE [.sl 1 a, .sl 1 b]))], [])
  | _, _ => (false, .bad, [])
theorem k11_ok : ∀ vs gs x, k11 vs gs = (true, x) → CallR C prim 11 vs gs x := by
  intro vs gs x h
  unfold k11 at h
  split at h
  · simp only [Prod.mk.injEq] at h
    obtain ⟨hp, rfl⟩ := h
    exact f11_run _ _ _ (f11_eq _ _ hp)
  · cases h

def K_f3 : CallK := kCons 11 k11 <| kCons 12 k12 <| kCons 13 k13 <| kCons 14 k14 <| kCons 15 k15 <| kCons 16 k16 <| kNil
theorem K_f3_ok : KOK C prim K_f3 := KOK.cons k11_ok <| KOK.cons k12_ok <| KOK.cons k13_ok <| KOK.cons k14_ok <| KOK.cons k15_ok <| KOK.cons k16_ok <| KOK.nil
def T_f3 : Tab := tNil
theorem T_f3_ok : TOK C prim 3 T_f3 := TOK.nil
def f3 (a : List V) (b : List V) : Option (V × List Rg) :=
  bif ((a.all V.isStr && b.all V.isStr && decide (a.length ≤ 2000000) && decide (b.length ≤ 2000000)) && true) then
    bif ((([.sl 1 a, .sl 1 b] : List V).all okStrs && decide (([.sl 1 a, .sl 1 b] : List V).length ≤ 1000000000)) && true) then
      bif ((listsE ([.sl 1 a, .sl 1 b] : List V)) != 0) then
        bif ((((lenE 4 ((diffL a b)).length) : Nat) : Int) == 0) then
          some (.sc (.bool ((listsE [.sl 1 a, .sl 1 b]) == (listsE ([.sl 1 a, .sl 1 b] : List V)))), [])
        else
          some (.sc (.bool false), [])
      else
        bif ((listsE [.sl 1 a, .sl 1 b]) == 0) then
          bif ((([.sl 1 a, .sl 1 b] : List V).all (V.isSl 1) && decide (([.sl 1 a, .sl 1 b] : List V).length ≤ 1000000000)) && true) then
            bif (!(!(([.sl 1 a, .sl 1 b] : List V).any big60))) then
              some (.sc (.bool true), [])
            else
              bif ((a.all V.isStr && b.all V.isStr && decide (a.length ≤ 2000000) && decide (b.length ≤ 2000000)) && true) then
                bif ((okHs (diffL a b) && okHs (difL a b) && decide ((diffL a b).length ≤ 1000000000) && decide ((difL a b).length ≤ 1000000000)) && true) then
                  some (.sc (.bool (hsEq (diffL a b) (difL a b))), [])
                else none
              else none
          else none
        else
          some (.sc (.bool false), [])
    else none
  else none
theorem f3_run (a : List V) (b : List V) (z9 : V × List Rg) (h : f3 a b = some z9) : CallR C prim 3 [.sl 1 a, .sl 1 b] [] z9 := by
  refine call_fn (K := K_f3) (T := T_f3) K_f3_ok T_f3_ok (by kernel_rfl) ?_
  refine Eq.trans ?_ h
  kernel_rfl

theorem f3_eq (a : List V) (b : List V) (hp : (a.all V.isStr && b.all V.isStr && decide (a.length ≤ 1048576) && decide (b.length ≤ 1048576)) = true) : f3 a b = some (.sc (.bool true), []) := by
  simp only [Bool.and_eq_true, decide_eq_true_eq] at hp
  obtain ⟨⟨⟨h1, h2⟩, h3⟩, h4⟩ := hp
  have ho : ([.sl 1 a, .sl 1 b] : List V).all okStrs = true := by
    show (okStrs _ && (okStrs _ && true)) = true
    rw [okStrs_sl h1 (by omega), okStrs_sl h2 (by omega)]; rfl
  have hd := okHs_dif h1 h2 (by omega) (by omega)
  have hl := difL_len a b
  unfold f3 diffL
  rw [ho, h1, h2, dec_true (show a.length ≤ 2000000 by omega), dec_true (show b.length ≤ 2000000 by omega)]
  cases he : listsE [.sl 1 a, .sl 1 b] != 0 with
  | true =>
    simp only [cond_true]
    rw [beq_self_eq_true]
    rfl
  | false =>
    have e0 : listsE [.sl 1 a, .sl 1 b] = 0 := by simpa using he
    simp only [cond_false]
    rw [e0, hd, hsEq_refl _ hd, dec_true (show (difL a b).length ≤ 1000000000 by omega)]
    cases ([.sl 1 a, .sl 1 b] : List V).any big60 <;> rfl
def k3 : PrimT := fun vs gs => match vs, gs with
  | [.sl 1 a, .sl 1 b], [] => ((a.all V.isStr && b.all V.isStr && decide (a.length ≤ 1048576) && decide (b.length ≤ 1048576)), .sc (.bool true), [])
  | _, _ => (false, .bad, [])
theorem k3_ok : ∀ vs gs x, k3 vs gs = (true, x) → CallR C prim 3 vs gs x := by
  intro vs gs x h
  unfold k3 at h
  split at h
  · simp only [Prod.mk.injEq] at h
    obtain ⟨hp, rfl⟩ := h
    exact f3_run _ _ _ (f3_eq _ _ hp)
  · cases h
end Go.Ab
