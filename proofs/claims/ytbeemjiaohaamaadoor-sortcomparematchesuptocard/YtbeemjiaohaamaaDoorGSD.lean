/- Functions of a law, as the machine runs them: the last ones. -/
import Derived.Test.YtbeemjiaohaamaaDoorGSC
namespace Go.Ab
open Go Go.Proofs Go.RowKit
set_option linter.unusedSimpArgs false
set_option linter.unusedVariables false

def K_f93_l0 : CallK := kCons 70 k70 <| kNil
theorem K_f93_l0_ok : KOK C prim K_f93_l0 := KOK.cons k70_ok <| KOK.nil
def T_f93_l0 : Tab := tNil
theorem T_f93_l0_ok : TOK C prim 93 T_f93_l0 := TOK.nil
def f93_l0 : Nat → ByteArray → Bool → ByteArray → Int → (R : Type) → (Ex → St → Option R) → Option R
  | 0, _, _, _, _, _, _ => none
  | n + 1, s, neg, part, i, R, κ =>
    bif (decide (i < ((s.size : Nat) : Int))) then
      bif (((decide ((0 : Int) ≤ i)) && (decide (i < ((s.size : Nat) : Int)))) && true) then
        bif (blankI ((s.data.getD (i).toNat 0).toNat : Int)) then
          f93_l0 n s neg part (IntKind.wrap .i64 (i + 1)) R κ
        else
          κ (.ex 0) (mkS [(0, .sc (.string s)), (2, .sc (.bool neg)), (3, .bad), (4, .sc (.string part)), (5, .sc (.int .i64 i))] [])
      else none
    else
      κ (.ex 0) (mkS [(0, .sc (.string s)), (2, .sc (.bool neg)), (3, .bad), (4, .sc (.string part)), (5, .sc (.int .i64 i))] [])
def f93_l0_ls : List (Nat × Pat) := [(0, .s), (2, .b), (4, .s), (5, .i .i64)]
def f93_l0_rs : List RPat := []
theorem f93_l0_ok (n : Nat) : ∀ (s : ByteArray) (neg : Bool) (part : ByteArray) (i : Int) (R : Type) (κ : Ex → St → Option R) (r : R), f93_l0 n s neg part i R κ = some r → ∃ ee ss, κ ee ss = some r ∧ RunP C prim 93 [0, 0, 1, 1] (mkS [(0, .sc (.string s)), (2, .sc (.bool neg)), (4, .sc (.string part)), (5, .sc (.int .i64 i))] []) ee ss := by
  induction n with
  | zero => intro s neg part i R κ r h; cases h
  | succ n ih =>
    intro s neg part i R κ r h
    refine loop_round (K := K_f93_l0) (T := T_f93_l0) K_f93_l0_ok T_f93_l0_ok (p := [0, 0, 1, 1]) (by kernel_rfl) (fun st => bif ckS f93_l0_ls f93_l0_rs st then f93_l0 n ((st.env 0).strOf) ((st.env 2).boolOf) ((st.env 4).strOf) ((st.env 5).intOf) R κ else none) (fun st0 h0 => ?_) ?_
    · obtain ⟨hs, h0⟩ := cond_some h0
      rw [canon (ls := f93_l0_ls) (rs := f93_l0_rs) (by kernel_rfl) st0 hs]
      exact ih _ _ _ _ R κ r h0
    · refine Eq.trans ?_ h
      kernel_rfl

def f93_s0 (s : ByteArray) (neg : Bool) (part : ByteArray) (i : Int) (R : Type) (κ : Ex → St → Option R) : Option R :=
  κ (.ex 0) (mkS [(0, .sc (.string s)), (2, .sc (.bool neg)), (3, .bad), (4, .sc (.string part)), (5, .sc (.int .i64 ((blkN s : Nat) : Int)))] [])
theorem f93_loop0 (s : ByteArray) (neg : Bool) (part : ByteArray) (hs : s.size ≤ 1000000000) (R : Type) (κ : Ex → St → Option R) : ∀ (k i : Nat), i + k = s.size →
    f93_l0 (k + 1) s neg part ((i : Nat) : Int) R κ = κ (.ex 0) (mkS [(0, .sc (.string s)), (2, .sc (.bool neg)), (3, .bad), (4, .sc (.string part)), (5, .sc (.int .i64 ((i + leadN blankU (s.data.toList.drop i) : Nat) : Int)))] [])
  | 0, i, h => by
    have hl := bl_size s
    rw [f93_l0, dec_false (by omega), List.drop_of_length_le (by omega)]
    rfl
  | k + 1, i, h => by
    have hl := bl_size s
    have hlt : i < s.data.toList.length := by omega
    have e2 : blankI (((s.data.toList[i]).toNat : Nat) : Int) = blankU s.data.toList[i] := rfl
    rw [f93_l0, dec_true (show ((i : Nat) : Int) < ((s.size : Nat) : Int) by omega), dec_true (show (0 : Int) ≤ ((i : Nat) : Int) by omega), Int.toNat_natCast, dig_byte s hlt, e2, wrap_succ (by omega), f93_loop0 s neg part hs R κ k (i + 1) (by omega), List.drop_eq_getElem_cons hlt, leadN]
    cases blankU s.data.toList[i] with
    | false => rfl
    | true =>
      simp only [Bool.and_self, cond_true]
      rw [Nat.add_assoc, Nat.add_comm 1]
theorem f93_s0_eq (s : ByteArray) (neg : Bool) (part : ByteArray) (i : Int) (hp : ((i == 0) && decide (s.size ≤ 1000000000)) = true) : ∃ n, ∀ (R : Type) (κ : Ex → St → Option R), f93_l0 n s neg part i R κ = f93_s0 s neg part i R κ := by
  simp only [Bool.and_eq_true, decide_eq_true_eq, beq_iff_eq] at hp
  obtain ⟨rfl, h2⟩ := hp
  refine ⟨s.size + 1, fun R κ => ?_⟩
  have := f93_loop0 s neg part h2 R κ s.size 0 (by omega)
  rw [Nat.zero_add] at this
  exact this
def t_f93_l0 (st : St) (R : Type) (κ : Ex → St → Option R) : Option R := bif ckS f93_l0_ls f93_l0_rs st then (bif ((((st.env 5).intOf) == 0) && decide (((st.env 0).strOf).size ≤ 1000000000)) then f93_s0 ((st.env 0).strOf) ((st.env 2).boolOf) ((st.env 4).strOf) ((st.env 5).intOf) R κ else none) else none
theorem t_f93_l0_ok : ∀ st0 R κ r, t_f93_l0 (forget C 93 [0, 0, 1, 1] st0) R κ = some r → ∃ ee ss, κ ee ss = some r ∧ RunP C prim 93 [0, 0, 1, 1] (forget C 93 [0, 0, 1, 1] st0) ee ss := by
  intro st0 R κ r h
  obtain ⟨hs, h⟩ := cond_some h
  obtain ⟨hp, h⟩ := cond_some h
  rw [canon (ls := f93_l0_ls) (rs := f93_l0_rs) (by kernel_rfl) st0 hs]
  obtain ⟨n, hn⟩ := f93_s0_eq _ _ _ _ hp
  rw [← hn] at h
  exact f93_l0_ok n _ _ _ _ R κ r h

def K_f93_l1 : CallK := kCons 129 k129 <| kNil
theorem K_f93_l1_ok : KOK C prim K_f93_l1 := KOK.cons k129_ok <| KOK.nil
def T_f93_l1 : Tab := tNil
theorem T_f93_l1_ok : TOK C prim 93 T_f93_l1 := TOK.nil
def f93_l1 : Nat → ByteArray → Bool → ByteArray → Int → Int → (R : Type) → (Ex → St → Option R) → Option R
  | 0, _, _, _, _, _, _, _ => none
  | n + 1, s, neg, part, i, from', R, κ =>
    bif (decide (i < ((s.size : Nat) : Int))) then
      bif (((decide ((0 : Int) ≤ i)) && (decide (i < ((s.size : Nat) : Int)))) && true) then
        bif (digI ((s.data.getD (i).toNat 0).toNat : Int)) then
          f93_l1 n s neg part (IntKind.wrap .i64 (i + 1)) from' R κ
        else
          κ (.ex 2) (mkS [(0, .sc (.string s)), (2, .sc (.bool neg)), (3, .bad), (4, .sc (.string part)), (5, .sc (.int .i64 i)), (6, .sc (.int .i64 from'))] [])
      else none
    else
      κ (.ex 2) (mkS [(0, .sc (.string s)), (2, .sc (.bool neg)), (3, .bad), (4, .sc (.string part)), (5, .sc (.int .i64 i)), (6, .sc (.int .i64 from'))] [])
def f93_l1_ls : List (Nat × Pat) := [(0, .s), (2, .b), (4, .s), (5, .i .i64), (6, .i .i64)]
def f93_l1_rs : List RPat := []
theorem f93_l1_ok (n : Nat) : ∀ (s : ByteArray) (neg : Bool) (part : ByteArray) (i : Int) (from' : Int) (R : Type) (κ : Ex → St → Option R) (r : R), f93_l1 n s neg part i from' R κ = some r → ∃ ee ss, κ ee ss = some r ∧ RunP C prim 93 [0, 0, 1, 1, 1, 1, 1] (mkS [(0, .sc (.string s)), (2, .sc (.bool neg)), (4, .sc (.string part)), (5, .sc (.int .i64 i)), (6, .sc (.int .i64 from'))] []) ee ss := by
  induction n with
  | zero => intro s neg part i from' R κ r h; cases h
  | succ n ih =>
    intro s neg part i from' R κ r h
    refine loop_round (K := K_f93_l1) (T := T_f93_l1) K_f93_l1_ok T_f93_l1_ok (p := [0, 0, 1, 1, 1, 1, 1]) (by kernel_rfl) (fun st => bif ckS f93_l1_ls f93_l1_rs st then f93_l1 n ((st.env 0).strOf) ((st.env 2).boolOf) ((st.env 4).strOf) ((st.env 5).intOf) ((st.env 6).intOf) R κ else none) (fun st0 h0 => ?_) ?_
    · obtain ⟨hs, h0⟩ := cond_some h0
      rw [canon (ls := f93_l1_ls) (rs := f93_l1_rs) (by kernel_rfl) st0 hs]
      exact ih _ _ _ _ _ R κ r h0
    · refine Eq.trans ?_ h
      kernel_rfl

def f93_s1 (s : ByteArray) (neg : Bool) (part : ByteArray) (i : Int) (from' : Int) (R : Type) (κ : Ex → St → Option R) : Option R :=
  κ (.ex 2) (mkS [(0, .sc (.string s)), (2, .sc (.bool neg)), (3, .bad), (4, .sc (.string part)), (5, .sc (.int .i64 (scanD s i))), (6, .sc (.int .i64 from'))] [])
theorem f93_loop1 (s : ByteArray) (neg : Bool) (part : ByteArray) (fr : Int) (hs : s.size ≤ 1000000000) (R : Type) (κ : Ex → St → Option R) : ∀ (k i : Nat), i + k = s.size →
    f93_l1 (k + 1) s neg part ((i : Nat) : Int) fr R κ = f93_s1 s neg part ((i : Nat) : Int) fr R κ
  | 0, i, h => by
    have hl := bl_size s
    unfold f93_s1 scanD
    rw [f93_l1, dec_false (by omega), Int.toNat_natCast, List.drop_of_length_le (by omega)]
    rfl
  | k + 1, i, h => by
    have hl := bl_size s
    have hlt : i < s.data.toList.length := by omega
    have e2 : digI (((s.data.toList[i]).toNat : Nat) : Int) = digU s.data.toList[i] := rfl
    have IH := f93_loop1 s neg part fr hs R κ k (i + 1) (by omega)
    unfold f93_s1 scanD at *
    rw [Int.toNat_natCast] at IH
    rw [f93_l1, dec_true (show ((i : Nat) : Int) < ((s.size : Nat) : Int) by omega), dec_true (show (0 : Int) ≤ ((i : Nat) : Int) by omega), Int.toNat_natCast, dig_byte s hlt, e2, wrap_succ (by omega), IH, List.drop_eq_getElem_cons hlt, leadN]
    cases digU s.data.toList[i] with
    | false => rfl
    | true =>
      simp only [Bool.and_self, cond_true]
      rw [Nat.add_assoc, Nat.add_comm 1]
theorem f93_s1_eq (s : ByteArray) (neg : Bool) (part : ByteArray) (i : Int) (from' : Int) (hp : (decide (0 ≤ i) && decide (i ≤ ((s.size : Nat) : Int)) && decide (s.size ≤ 1000000000)) = true) : ∃ n, ∀ (R : Type) (κ : Ex → St → Option R), f93_l1 n s neg part i from' R κ = f93_s1 s neg part i from' R κ := by
  simp only [Bool.and_eq_true, decide_eq_true_eq] at hp
  obtain ⟨⟨h1, h2⟩, h3⟩ := hp
  obtain ⟨j, rfl⟩ : ∃ j : Nat, i = (j : Int) := ⟨i.toNat, by omega⟩
  exact ⟨s.size - j + 1, fun R κ => f93_loop1 s neg part from' h3 R κ (s.size - j) j (by omega)⟩
def t_f93_l1 (st : St) (R : Type) (κ : Ex → St → Option R) : Option R := bif ckS f93_l1_ls f93_l1_rs st then (bif (decide (0 ≤ ((st.env 5).intOf)) && decide (((st.env 5).intOf) ≤ ((((st.env 0).strOf).size : Nat) : Int)) && decide (((st.env 0).strOf).size ≤ 1000000000)) then f93_s1 ((st.env 0).strOf) ((st.env 2).boolOf) ((st.env 4).strOf) ((st.env 5).intOf) ((st.env 6).intOf) R κ else none) else none
theorem t_f93_l1_ok : ∀ st0 R κ r, t_f93_l1 (forget C 93 [0, 0, 1, 1, 1, 1, 1] st0) R κ = some r → ∃ ee ss, κ ee ss = some r ∧ RunP C prim 93 [0, 0, 1, 1, 1, 1, 1] (forget C 93 [0, 0, 1, 1, 1, 1, 1] st0) ee ss := by
  intro st0 R κ r h
  obtain ⟨hs, h⟩ := cond_some h
  obtain ⟨hp, h⟩ := cond_some h
  rw [canon (ls := f93_l1_ls) (rs := f93_l1_rs) (by kernel_rfl) st0 hs]
  obtain ⟨n, hn⟩ := f93_s1_eq _ _ _ _ _ hp
  rw [← hn] at h
  exact f93_l1_ok n _ _ _ _ _ R κ r h

def K_f93_l2 : CallK := kCons 129 k129 <| kNil
theorem K_f93_l2_ok : KOK C prim K_f93_l2 := KOK.cons k129_ok <| KOK.nil
def T_f93_l2 : Tab := tNil
theorem T_f93_l2_ok : TOK C prim 93 T_f93_l2 := TOK.nil
def f93_l2 : Nat → ByteArray → Bool → ByteArray → Int → Int → (R : Type) → (Ex → St → Option R) → Option R
  | 0, _, _, _, _, _, _, _ => none
  | n + 1, s, neg, whole, i, from', R, κ =>
    bif (decide (i < ((s.size : Nat) : Int))) then
      bif (((decide ((0 : Int) ≤ i)) && (decide (i < ((s.size : Nat) : Int)))) && true) then
        bif (digI ((s.data.getD (i).toNat 0).toNat : Int)) then
          f93_l2 n s neg whole (IntKind.wrap .i64 (i + 1)) from' R κ
        else
          κ (.ex 4) (mkS [(0, .sc (.string s)), (2, .sc (.bool neg)), (3, .sc (.string whole)), (4, .bad), (5, .sc (.int .i64 i)), (6, .sc (.int .i64 from'))] [])
      else none
    else
      κ (.ex 4) (mkS [(0, .sc (.string s)), (2, .sc (.bool neg)), (3, .sc (.string whole)), (4, .bad), (5, .sc (.int .i64 i)), (6, .sc (.int .i64 from'))] [])
def f93_l2_ls : List (Nat × Pat) := [(0, .s), (2, .b), (3, .s), (5, .i .i64), (6, .i .i64)]
def f93_l2_rs : List RPat := []
theorem f93_l2_ok (n : Nat) : ∀ (s : ByteArray) (neg : Bool) (whole : ByteArray) (i : Int) (from' : Int) (R : Type) (κ : Ex → St → Option R) (r : R), f93_l2 n s neg whole i from' R κ = some r → ∃ ee ss, κ ee ss = some r ∧ RunP C prim 93 [0, 0, 1, 1, 0, 1, 0, 1, 1, 1, 1, 1, 1, 1] (mkS [(0, .sc (.string s)), (2, .sc (.bool neg)), (3, .sc (.string whole)), (5, .sc (.int .i64 i)), (6, .sc (.int .i64 from'))] []) ee ss := by
  induction n with
  | zero => intro s neg whole i from' R κ r h; cases h
  | succ n ih =>
    intro s neg whole i from' R κ r h
    refine loop_round (K := K_f93_l2) (T := T_f93_l2) K_f93_l2_ok T_f93_l2_ok (p := [0, 0, 1, 1, 0, 1, 0, 1, 1, 1, 1, 1, 1, 1]) (by kernel_rfl) (fun st => bif ckS f93_l2_ls f93_l2_rs st then f93_l2 n ((st.env 0).strOf) ((st.env 2).boolOf) ((st.env 3).strOf) ((st.env 5).intOf) ((st.env 6).intOf) R κ else none) (fun st0 h0 => ?_) ?_
    · obtain ⟨hs, h0⟩ := cond_some h0
      rw [canon (ls := f93_l2_ls) (rs := f93_l2_rs) (by kernel_rfl) st0 hs]
      exact ih _ _ _ _ _ R κ r h0
    · refine Eq.trans ?_ h
      kernel_rfl

def f93_s2 (s : ByteArray) (neg : Bool) (whole : ByteArray) (i : Int) (from' : Int) (R : Type) (κ : Ex → St → Option R) : Option R :=
  κ (.ex 4) (mkS [(0, .sc (.string s)), (2, .sc (.bool neg)), (3, .sc (.string whole)), (4, .bad), (5, .sc (.int .i64 (scanD s i))), (6, .sc (.int .i64 from'))] [])
theorem f93_loop2 (s : ByteArray) (neg : Bool) (whole : ByteArray) (fr : Int) (hs : s.size ≤ 1000000000) (R : Type) (κ : Ex → St → Option R) : ∀ (k i : Nat), i + k = s.size →
    f93_l2 (k + 1) s neg whole ((i : Nat) : Int) fr R κ = f93_s2 s neg whole ((i : Nat) : Int) fr R κ
  | 0, i, h => by
    have hl := bl_size s
    unfold f93_s2 scanD
    rw [f93_l2, dec_false (by omega), Int.toNat_natCast, List.drop_of_length_le (by omega)]
    rfl
  | k + 1, i, h => by
    have hl := bl_size s
    have hlt : i < s.data.toList.length := by omega
    have e2 : digI (((s.data.toList[i]).toNat : Nat) : Int) = digU s.data.toList[i] := rfl
    have IH := f93_loop2 s neg whole fr hs R κ k (i + 1) (by omega)
    unfold f93_s2 scanD at *
    rw [Int.toNat_natCast] at IH
    rw [f93_l2, dec_true (show ((i : Nat) : Int) < ((s.size : Nat) : Int) by omega), dec_true (show (0 : Int) ≤ ((i : Nat) : Int) by omega), Int.toNat_natCast, dig_byte s hlt, e2, wrap_succ (by omega), IH, List.drop_eq_getElem_cons hlt, leadN]
    cases digU s.data.toList[i] with
    | false => rfl
    | true =>
      simp only [Bool.and_self, cond_true]
      rw [Nat.add_assoc, Nat.add_comm 1]
theorem f93_s2_eq (s : ByteArray) (neg : Bool) (whole : ByteArray) (i : Int) (from' : Int) (hp : (decide (0 ≤ i) && decide (i ≤ ((s.size : Nat) : Int)) && decide (s.size ≤ 1000000000)) = true) : ∃ n, ∀ (R : Type) (κ : Ex → St → Option R), f93_l2 n s neg whole i from' R κ = f93_s2 s neg whole i from' R κ := by
  simp only [Bool.and_eq_true, decide_eq_true_eq] at hp
  obtain ⟨⟨h1, h2⟩, h3⟩ := hp
  obtain ⟨j, rfl⟩ : ∃ j : Nat, i = (j : Int) := ⟨i.toNat, by omega⟩
  exact ⟨s.size - j + 1, fun R κ => f93_loop2 s neg whole from' h3 R κ (s.size - j) j (by omega)⟩
def t_f93_l2 (st : St) (R : Type) (κ : Ex → St → Option R) : Option R := bif ckS f93_l2_ls f93_l2_rs st then (bif (decide (0 ≤ ((st.env 5).intOf)) && decide (((st.env 5).intOf) ≤ ((((st.env 0).strOf).size : Nat) : Int)) && decide (((st.env 0).strOf).size ≤ 1000000000)) then f93_s2 ((st.env 0).strOf) ((st.env 2).boolOf) ((st.env 3).strOf) ((st.env 5).intOf) ((st.env 6).intOf) R κ else none) else none
theorem t_f93_l2_ok : ∀ st0 R κ r, t_f93_l2 (forget C 93 [0, 0, 1, 1, 0, 1, 0, 1, 1, 1, 1, 1, 1, 1] st0) R κ = some r → ∃ ee ss, κ ee ss = some r ∧ RunP C prim 93 [0, 0, 1, 1, 0, 1, 0, 1, 1, 1, 1, 1, 1, 1] (forget C 93 [0, 0, 1, 1, 0, 1, 0, 1, 1, 1, 1, 1, 1, 1] st0) ee ss := by
  intro st0 R κ r h
  obtain ⟨hs, h⟩ := cond_some h
  obtain ⟨hp, h⟩ := cond_some h
  rw [canon (ls := f93_l2_ls) (rs := f93_l2_rs) (by kernel_rfl) st0 hs]
  obtain ⟨n, hn⟩ := f93_s2_eq _ _ _ _ _ hp
  rw [← hn] at h
  exact f93_l2_ok n _ _ _ _ _ R κ r h

def K_f93_l3 : CallK := kNil
theorem K_f93_l3_ok : KOK C prim K_f93_l3 := KOK.nil
def T_f93_l3 : Tab := tNil
theorem T_f93_l3_ok : TOK C prim 93 T_f93_l3 := TOK.nil
def f93_l3 : Nat → Bool → ByteArray → ByteArray → (R : Type) → (Ex → St → Option R) → Option R
  | 0, _, _, _, _, _ => none
  | n + 1, neg, whole, part, R, κ =>
    bif (decide (((whole.size : Nat) : Int) > 0)) then
      bif ((decide ((0 : Int) < ((whole.size : Nat) : Int))) && true) then
        bif (((whole.data.getD 0 0).toNat : Int) == 48) then
          bif (((decide ((1 : Int) ≤ ((whole.size : Nat) : Int))) && true) && true) then
            f93_l3 n neg (whole.extract 1 (((whole.size : Nat) : Int)).toNat) part R κ
          else none
        else
          κ (.ex 6) (mkS [(2, .sc (.bool neg)), (3, .sc (.string whole)), (4, .sc (.string part))] [])
      else none
    else
      κ (.ex 6) (mkS [(2, .sc (.bool neg)), (3, .sc (.string whole)), (4, .sc (.string part))] [])
def f93_l3_ls : List (Nat × Pat) := [(2, .b), (3, .s), (4, .s)]
def f93_l3_rs : List RPat := []
theorem f93_l3_ok (n : Nat) : ∀ (neg : Bool) (whole : ByteArray) (part : ByteArray) (R : Type) (κ : Ex → St → Option R) (r : R), f93_l3 n neg whole part R κ = some r → ∃ ee ss, κ ee ss = some r ∧ RunP C prim 93 [0, 0, 1, 1, 1, 1, 1, 1, 1, 1] (mkS [(2, .sc (.bool neg)), (3, .sc (.string whole)), (4, .sc (.string part))] []) ee ss := by
  induction n with
  | zero => intro neg whole part R κ r h; cases h
  | succ n ih =>
    intro neg whole part R κ r h
    refine loop_round (K := K_f93_l3) (T := T_f93_l3) K_f93_l3_ok T_f93_l3_ok (p := [0, 0, 1, 1, 1, 1, 1, 1, 1, 1]) (by kernel_rfl) (fun st => bif ckS f93_l3_ls f93_l3_rs st then f93_l3 n ((st.env 2).boolOf) ((st.env 3).strOf) ((st.env 4).strOf) R κ else none) (fun st0 h0 => ?_) ?_
    · obtain ⟨hs, h0⟩ := cond_some h0
      rw [canon (ls := f93_l3_ls) (rs := f93_l3_rs) (by kernel_rfl) st0 hs]
      exact ih _ _ _ R κ r h0
    · refine Eq.trans ?_ h
      kernel_rfl

def f93_s3 (neg : Bool) (whole : ByteArray) (part : ByteArray) (R : Type) (κ : Ex → St → Option R) : Option R :=
  κ (.ex 6) (mkS [(2, .sc (.bool neg)), (3, .sc (.string (trimLB whole))), (4, .sc (.string part))] [])
theorem f93_loop3 (neg : Bool) (part : ByteArray) (R : Type) (κ : Ex → St → Option R) : ∀ (k : Nat) (s : ByteArray), s.size ≤ k → f93_l3 (k + 1) neg s part R κ = f93_s3 neg s part R κ
  | k, s, h => by
    unfold f93_s3
    rcases ba_cases s with h0 | ⟨b, r, h0⟩
    · have hz := nil_size h0
      have e : trimLB s = s := by unfold trimLB; rw [h0]; exact ba_ext h0.symm
      rw [f93_l3, dec_false (by omega), e]
      rfl
    · have hc := cons_size h0
      have e : (((s.data.getD 0 0).toNat : Nat) : Int) = ((b.toNat : Nat) : Int) := by rw [getD_head h0]
      have e2 : (((b.toNat : Nat) : Int) == 48) = zeroU b := rfl
      rw [f93_l3, dec_true (show ((s.size : Nat) : Int) > 0 by omega), dec_true (show (1 : Int) ≤ ((s.size : Nat) : Int) by omega), e, e2, trimLB_cons h0, Int.toNat_natCast]
      cases zeroU b with
      | false => rfl
      | true =>
        obtain ⟨k, rfl⟩ : ∃ j, k = j + 1 := ⟨k - 1, by omega⟩
        simp only [Bool.and_self, cond_true]
        exact f93_loop3 neg part R κ k (s.extract 1 s.size) (by rw [ext_tail, ofL_size, List.length_drop, ← bl_size]; omega)
theorem f93_s3_eq (neg : Bool) (whole : ByteArray) (part : ByteArray) (hp : (decide (whole.size ≤ 1000000000)) = true) : ∃ n, ∀ (R : Type) (κ : Ex → St → Option R), f93_l3 n neg whole part R κ = f93_s3 neg whole part R κ := ⟨whole.size + 1, fun R κ => f93_loop3 neg part R κ whole.size whole (Nat.le_refl _)⟩
def t_f93_l3 (st : St) (R : Type) (κ : Ex → St → Option R) : Option R := bif ckS f93_l3_ls f93_l3_rs st then (bif (decide (((st.env 3).strOf).size ≤ 1000000000)) then f93_s3 ((st.env 2).boolOf) ((st.env 3).strOf) ((st.env 4).strOf) R κ else none) else none
theorem t_f93_l3_ok : ∀ st0 R κ r, t_f93_l3 (forget C 93 [0, 0, 1, 1, 1, 1, 1, 1, 1, 1] st0) R κ = some r → ∃ ee ss, κ ee ss = some r ∧ RunP C prim 93 [0, 0, 1, 1, 1, 1, 1, 1, 1, 1] (forget C 93 [0, 0, 1, 1, 1, 1, 1, 1, 1, 1] st0) ee ss := by
  intro st0 R κ r h
  obtain ⟨hs, h⟩ := cond_some h
  obtain ⟨hp, h⟩ := cond_some h
  rw [canon (ls := f93_l3_ls) (rs := f93_l3_rs) (by kernel_rfl) st0 hs]
  obtain ⟨n, hn⟩ := f93_s3_eq _ _ _ hp
  rw [← hn] at h
  exact f93_l3_ok n _ _ _ R κ r h

def K_f93_l4 : CallK := kNil
theorem K_f93_l4_ok : KOK C prim K_f93_l4 := KOK.nil
def T_f93_l4 : Tab := tNil
theorem T_f93_l4_ok : TOK C prim 93 T_f93_l4 := TOK.nil
def f93_l4 : Nat → Bool → ByteArray → ByteArray → (R : Type) → (Ex → St → Option R) → Option R
  | 0, _, _, _, _, _ => none
  | n + 1, neg, whole, part, R, κ =>
    bif (decide (((part.size : Nat) : Int) > 0)) then
      bif (((decide ((0 : Int) ≤ (IntKind.wrap .i64 (((part.size : Nat) : Int) - 1)))) && (decide ((IntKind.wrap .i64 (((part.size : Nat) : Int) - 1)) < ((part.size : Nat) : Int)))) && true) then
        bif (((part.data.getD ((IntKind.wrap .i64 (((part.size : Nat) : Int) - 1))).toNat 0).toNat : Int) == 48) then
          bif ((((decide ((0 : Int) ≤ (IntKind.wrap .i64 (((part.size : Nat) : Int) - 1)))) && (decide ((IntKind.wrap .i64 (((part.size : Nat) : Int) - 1)) ≤ ((part.size : Nat) : Int)))) && true) && true) then
            f93_l4 n neg whole (part.extract 0 ((IntKind.wrap .i64 (((part.size : Nat) : Int) - 1))).toNat) R κ
          else none
        else
          κ (.ex 8) (mkS [(2, .sc (.bool neg)), (3, .sc (.string whole)), (4, .sc (.string part))] [])
      else none
    else
      κ (.ex 8) (mkS [(2, .sc (.bool neg)), (3, .sc (.string whole)), (4, .sc (.string part))] [])
def f93_l4_ls : List (Nat × Pat) := [(2, .b), (3, .s), (4, .s)]
def f93_l4_rs : List RPat := []
theorem f93_l4_ok (n : Nat) : ∀ (neg : Bool) (whole : ByteArray) (part : ByteArray) (R : Type) (κ : Ex → St → Option R) (r : R), f93_l4 n neg whole part R κ = some r → ∃ ee ss, κ ee ss = some r ∧ RunP C prim 93 [0, 0, 1, 1, 1, 1, 1, 1, 1, 1, 1] (mkS [(2, .sc (.bool neg)), (3, .sc (.string whole)), (4, .sc (.string part))] []) ee ss := by
  induction n with
  | zero => intro neg whole part R κ r h; cases h
  | succ n ih =>
    intro neg whole part R κ r h
    refine loop_round (K := K_f93_l4) (T := T_f93_l4) K_f93_l4_ok T_f93_l4_ok (p := [0, 0, 1, 1, 1, 1, 1, 1, 1, 1, 1]) (by kernel_rfl) (fun st => bif ckS f93_l4_ls f93_l4_rs st then f93_l4 n ((st.env 2).boolOf) ((st.env 3).strOf) ((st.env 4).strOf) R κ else none) (fun st0 h0 => ?_) ?_
    · obtain ⟨hs, h0⟩ := cond_some h0
      rw [canon (ls := f93_l4_ls) (rs := f93_l4_rs) (by kernel_rfl) st0 hs]
      exact ih _ _ _ R κ r h0
    · refine Eq.trans ?_ h
      kernel_rfl

def f93_s4 (neg : Bool) (whole : ByteArray) (part : ByteArray) (R : Type) (κ : Ex → St → Option R) : Option R :=
  κ (.ex 8) (mkS [(2, .sc (.bool neg)), (3, .sc (.string whole)), (4, .sc (.string (trimRB part)))] [])
theorem f93_loop4 (neg : Bool) (whole : ByteArray) (R : Type) (κ : Ex → St → Option R) : ∀ (k : Nat) (s : ByteArray), s.size ≤ k → s.size ≤ 1000000000 → f93_l4 (k + 1) neg whole s R κ = f93_s4 neg whole s R κ
  | k, s, h, hs => by
    unfold f93_s4
    rcases snoc_cases s.data.toList with h0 | ⟨t, b, h0⟩
    · have hz := nil_size h0
      have e : trimRB s = s := by unfold trimRB; rw [h0]; exact ba_ext h0.symm
      rw [f93_l4, dec_false (by omega), e]
      rfl
    · have hz : s.size = t.length + 1 := by rw [bl_size, h0]; simp
      have hw : IntKind.wrap .i64 (((s.size : Nat) : Int) - 1) = ((s.size - 1 : Nat) : Int) := by rw [wrap_id (by omega) (by omega)]; omega
      have e : (((s.data.getD (s.size - 1) 0).toNat : Nat) : Int) = ((b.toNat : Nat) : Int) := by
        rw [getD_list' s (s.size - 1) (by rw [h0, hz]; simp)]
        simp [h0, hz]
      have e2 : (((b.toNat : Nat) : Int) == 48) = zeroU b := rfl
      rw [f93_l4, dec_true (show ((s.size : Nat) : Int) > 0 by omega), hw, dec_true (show (0 : Int) ≤ ((s.size - 1 : Nat) : Int) by omega), dec_true (show ((s.size - 1 : Nat) : Int) < ((s.size : Nat) : Int) by omega), dec_true (show ((s.size - 1 : Nat) : Int) ≤ ((s.size : Nat) : Int) by omega), Int.toNat_natCast, e, e2, trimRB_snoc h0]
      cases zeroU b with
      | false => rfl
      | true =>
        obtain ⟨k, rfl⟩ : ∃ j, k = j + 1 := ⟨k - 1, by omega⟩
        have hx : (s.extract 0 (s.size - 1)).size = s.size - 1 := by rw [ext_head, ofL_size, List.length_take, ← bl_size]; omega
        simp only [Bool.and_self, cond_true]
        exact f93_loop4 neg whole R κ k (s.extract 0 (s.size - 1)) (by omega) (by omega)
theorem f93_s4_eq (neg : Bool) (whole : ByteArray) (part : ByteArray) (hp : (decide (part.size ≤ 1000000000)) = true) : ∃ n, ∀ (R : Type) (κ : Ex → St → Option R), f93_l4 n neg whole part R κ = f93_s4 neg whole part R κ := ⟨part.size + 1, fun R κ => f93_loop4 neg whole R κ part.size part (Nat.le_refl _) (of_decide_eq_true hp)⟩
def t_f93_l4 (st : St) (R : Type) (κ : Ex → St → Option R) : Option R := bif ckS f93_l4_ls f93_l4_rs st then (bif (decide (((st.env 4).strOf).size ≤ 1000000000)) then f93_s4 ((st.env 2).boolOf) ((st.env 3).strOf) ((st.env 4).strOf) R κ else none) else none
theorem t_f93_l4_ok : ∀ st0 R κ r, t_f93_l4 (forget C 93 [0, 0, 1, 1, 1, 1, 1, 1, 1, 1, 1] st0) R κ = some r → ∃ ee ss, κ ee ss = some r ∧ RunP C prim 93 [0, 0, 1, 1, 1, 1, 1, 1, 1, 1, 1] (forget C 93 [0, 0, 1, 1, 1, 1, 1, 1, 1, 1, 1] st0) ee ss := by
  intro st0 R κ r h
  obtain ⟨hs, h⟩ := cond_some h
  obtain ⟨hp, h⟩ := cond_some h
  rw [canon (ls := f93_l4_ls) (rs := f93_l4_rs) (by kernel_rfl) st0 hs]
  obtain ⟨n, hn⟩ := f93_s4_eq _ _ _ hp
  rw [← hn] at h
  exact f93_l4_ok n _ _ _ R κ r h

def K_f93 : CallK := kNil
theorem K_f93_ok : KOK C prim K_f93 := KOK.nil
def T_f93 : Tab := tCons [0, 0, 1, 1] t_f93_l0 <| tCons [0, 0, 1, 1, 1, 1, 1] t_f93_l1 <| tCons [0, 0, 1, 1, 0, 1, 0, 1, 1, 1, 1, 1, 1, 1] t_f93_l2 <| tCons [0, 0, 1, 1, 1, 1, 1, 1, 1, 1] t_f93_l3 <| tCons [0, 0, 1, 1, 1, 1, 1, 1, 1, 1, 1] t_f93_l4 <| tNil
theorem T_f93_ok : TOK C prim 93 T_f93 := TOK.cons t_f93_l0_ok <| TOK.cons t_f93_l1_ok <| TOK.cons t_f93_l2_ok <| TOK.cons t_f93_l3_ok <| TOK.cons t_f93_l4_ok <| TOK.nil
def f93 (s : ByteArray) : Option (V × List Rg) :=
  bif (((0 : Int) == 0) && decide (s.size ≤ 1000000000)) then
    bif (decide (((blkN s : Nat) : Int) < ((s.size : Nat) : Int))) then
      bif (((decide ((0 : Int) ≤ ((blkN s : Nat) : Int))) && (decide (((blkN s : Nat) : Int) < ((s.size : Nat) : Int)))) && true) then
        bif (((s.data.getD (((blkN s : Nat) : Int)).toNat 0).toNat : Int) == 45) then
          bif (decide (0 ≤ (IntKind.wrap .i64 (((blkN s : Nat) : Int) + 1))) && decide ((IntKind.wrap .i64 (((blkN s : Nat) : Int) + 1)) ≤ ((s.size : Nat) : Int)) && decide (s.size ≤ 1000000000)) then
            bif (((((decide ((0 : Int) ≤ (IntKind.wrap .i64 (((blkN s : Nat) : Int) + 1)))) && (decide ((IntKind.wrap .i64 (((blkN s : Nat) : Int) + 1)) ≤ (scanD s (IntKind.wrap .i64 (((blkN s : Nat) : Int) + 1)))))) && (decide ((scanD s (IntKind.wrap .i64 (((blkN s : Nat) : Int) + 1))) ≤ ((s.size : Nat) : Int)))) && true) && true) then
              bif (decide ((scanD s (IntKind.wrap .i64 (((blkN s : Nat) : Int) + 1))) < ((s.size : Nat) : Int))) then
                bif (((decide ((0 : Int) ≤ (scanD s (IntKind.wrap .i64 (((blkN s : Nat) : Int) + 1))))) && (decide ((scanD s (IntKind.wrap .i64 (((blkN s : Nat) : Int) + 1))) < ((s.size : Nat) : Int)))) && true) then
                  bif (((s.data.getD ((scanD s (IntKind.wrap .i64 (((blkN s : Nat) : Int) + 1)))).toNat 0).toNat : Int) == 46) then
                    bif (decide (0 ≤ (IntKind.wrap .i64 ((scanD s (IntKind.wrap .i64 (((blkN s : Nat) : Int) + 1))) + 1))) && decide ((IntKind.wrap .i64 ((scanD s (IntKind.wrap .i64 (((blkN s : Nat) : Int) + 1))) + 1)) ≤ ((s.size : Nat) : Int)) && decide (s.size ≤ 1000000000)) then
                      bif (((((decide ((0 : Int) ≤ (IntKind.wrap .i64 ((scanD s (IntKind.wrap .i64 (((blkN s : Nat) : Int) + 1))) + 1)))) && (decide ((IntKind.wrap .i64 ((scanD s (IntKind.wrap .i64 (((blkN s : Nat) : Int) + 1))) + 1)) ≤ (scanD s (IntKind.wrap .i64 ((scanD s (IntKind.wrap .i64 (((blkN s : Nat) : Int) + 1))) + 1)))))) && (decide ((scanD s (IntKind.wrap .i64 ((scanD s (IntKind.wrap .i64 (((blkN s : Nat) : Int) + 1))) + 1))) ≤ ((s.size : Nat) : Int)))) && true) && true) then
                        bif (decide ((s.extract ((IntKind.wrap .i64 (((blkN s : Nat) : Int) + 1))).toNat ((scanD s (IntKind.wrap .i64 (((blkN s : Nat) : Int) + 1)))).toNat).size ≤ 1000000000)) then
                          bif (decide ((s.extract ((IntKind.wrap .i64 ((scanD s (IntKind.wrap .i64 (((blkN s : Nat) : Int) + 1))) + 1))).toNat ((scanD s (IntKind.wrap .i64 ((scanD s (IntKind.wrap .i64 (((blkN s : Nat) : Int) + 1))) + 1)))).toNat).size ≤ 1000000000)) then
                            bif (strEq (trimLB (s.extract ((IntKind.wrap .i64 (((blkN s : Nat) : Int) + 1))).toNat ((scanD s (IntKind.wrap .i64 (((blkN s : Nat) : Int) + 1)))).toNat)) (⟨#[]⟩ : ByteArray)) then
                              bif (strEq (trimRB (s.extract ((IntKind.wrap .i64 ((scanD s (IntKind.wrap .i64 (((blkN s : Nat) : Int) + 1))) + 1))).toNat ((scanD s (IntKind.wrap .i64 ((scanD s (IntKind.wrap .i64 (((blkN s : Nat) : Int) + 1))) + 1)))).toNat)) (⟨#[]⟩ : ByteArray)) then
                                some (.tp [.sc (.bool false), .sc (.string (trimLB (s.extract ((IntKind.wrap .i64 (((blkN s : Nat) : Int) + 1))).toNat ((scanD s (IntKind.wrap .i64 (((blkN s : Nat) : Int) + 1)))).toNat))), .sc (.string (trimRB (s.extract ((IntKind.wrap .i64 ((scanD s (IntKind.wrap .i64 (((blkN s : Nat) : Int) + 1))) + 1))).toNat ((scanD s (IntKind.wrap .i64 ((scanD s (IntKind.wrap .i64 (((blkN s : Nat) : Int) + 1))) + 1)))).toNat)))], [])
                              else
                                some (.tp [.sc (.bool true), .sc (.string (trimLB (s.extract ((IntKind.wrap .i64 (((blkN s : Nat) : Int) + 1))).toNat ((scanD s (IntKind.wrap .i64 (((blkN s : Nat) : Int) + 1)))).toNat))), .sc (.string (trimRB (s.extract ((IntKind.wrap .i64 ((scanD s (IntKind.wrap .i64 (((blkN s : Nat) : Int) + 1))) + 1))).toNat ((scanD s (IntKind.wrap .i64 ((scanD s (IntKind.wrap .i64 (((blkN s : Nat) : Int) + 1))) + 1)))).toNat)))], [])
                            else
                              some (.tp [.sc (.bool true), .sc (.string (trimLB (s.extract ((IntKind.wrap .i64 (((blkN s : Nat) : Int) + 1))).toNat ((scanD s (IntKind.wrap .i64 (((blkN s : Nat) : Int) + 1)))).toNat))), .sc (.string (trimRB (s.extract ((IntKind.wrap .i64 ((scanD s (IntKind.wrap .i64 (((blkN s : Nat) : Int) + 1))) + 1))).toNat ((scanD s (IntKind.wrap .i64 ((scanD s (IntKind.wrap .i64 (((blkN s : Nat) : Int) + 1))) + 1)))).toNat)))], [])
                          else none
                        else none
                      else none
                    else none
                  else
                    bif (decide ((s.extract ((IntKind.wrap .i64 (((blkN s : Nat) : Int) + 1))).toNat ((scanD s (IntKind.wrap .i64 (((blkN s : Nat) : Int) + 1)))).toNat).size ≤ 1000000000)) then
                      bif (decide ((⟨#[]⟩ : ByteArray).size ≤ 1000000000)) then
                        bif (strEq (trimLB (s.extract ((IntKind.wrap .i64 (((blkN s : Nat) : Int) + 1))).toNat ((scanD s (IntKind.wrap .i64 (((blkN s : Nat) : Int) + 1)))).toNat)) (⟨#[]⟩ : ByteArray)) then
                          bif (strEq (trimRB (⟨#[]⟩ : ByteArray)) (⟨#[]⟩ : ByteArray)) then
                            some (.tp [.sc (.bool false), .sc (.string (trimLB (s.extract ((IntKind.wrap .i64 (((blkN s : Nat) : Int) + 1))).toNat ((scanD s (IntKind.wrap .i64 (((blkN s : Nat) : Int) + 1)))).toNat))), .sc (.string (trimRB (⟨#[]⟩ : ByteArray)))], [])
                          else
                            some (.tp [.sc (.bool true), .sc (.string (trimLB (s.extract ((IntKind.wrap .i64 (((blkN s : Nat) : Int) + 1))).toNat ((scanD s (IntKind.wrap .i64 (((blkN s : Nat) : Int) + 1)))).toNat))), .sc (.string (trimRB (⟨#[]⟩ : ByteArray)))], [])
                        else
                          some (.tp [.sc (.bool true), .sc (.string (trimLB (s.extract ((IntKind.wrap .i64 (((blkN s : Nat) : Int) + 1))).toNat ((scanD s (IntKind.wrap .i64 (((blkN s : Nat) : Int) + 1)))).toNat))), .sc (.string (trimRB (⟨#[]⟩ : ByteArray)))], [])
                      else none
                    else none
                else none
              else
                bif (decide ((s.extract ((IntKind.wrap .i64 (((blkN s : Nat) : Int) + 1))).toNat ((scanD s (IntKind.wrap .i64 (((blkN s : Nat) : Int) + 1)))).toNat).size ≤ 1000000000)) then
                  bif (decide ((⟨#[]⟩ : ByteArray).size ≤ 1000000000)) then
                    bif (strEq (trimLB (s.extract ((IntKind.wrap .i64 (((blkN s : Nat) : Int) + 1))).toNat ((scanD s (IntKind.wrap .i64 (((blkN s : Nat) : Int) + 1)))).toNat)) (⟨#[]⟩ : ByteArray)) then
                      bif (strEq (trimRB (⟨#[]⟩ : ByteArray)) (⟨#[]⟩ : ByteArray)) then
                        some (.tp [.sc (.bool false), .sc (.string (trimLB (s.extract ((IntKind.wrap .i64 (((blkN s : Nat) : Int) + 1))).toNat ((scanD s (IntKind.wrap .i64 (((blkN s : Nat) : Int) + 1)))).toNat))), .sc (.string (trimRB (⟨#[]⟩ : ByteArray)))], [])
                      else
                        some (.tp [.sc (.bool true), .sc (.string (trimLB (s.extract ((IntKind.wrap .i64 (((blkN s : Nat) : Int) + 1))).toNat ((scanD s (IntKind.wrap .i64 (((blkN s : Nat) : Int) + 1)))).toNat))), .sc (.string (trimRB (⟨#[]⟩ : ByteArray)))], [])
                    else
                      some (.tp [.sc (.bool true), .sc (.string (trimLB (s.extract ((IntKind.wrap .i64 (((blkN s : Nat) : Int) + 1))).toNat ((scanD s (IntKind.wrap .i64 (((blkN s : Nat) : Int) + 1)))).toNat))), .sc (.string (trimRB (⟨#[]⟩ : ByteArray)))], [])
                  else none
                else none
            else none
          else none
        else
          bif (decide (0 ≤ ((blkN s : Nat) : Int)) && decide (((blkN s : Nat) : Int) ≤ ((s.size : Nat) : Int)) && decide (s.size ≤ 1000000000)) then
            bif (((((decide ((0 : Int) ≤ ((blkN s : Nat) : Int))) && (decide (((blkN s : Nat) : Int) ≤ (scanD s ((blkN s : Nat) : Int))))) && (decide ((scanD s ((blkN s : Nat) : Int)) ≤ ((s.size : Nat) : Int)))) && true) && true) then
              bif (decide ((scanD s ((blkN s : Nat) : Int)) < ((s.size : Nat) : Int))) then
                bif (((decide ((0 : Int) ≤ (scanD s ((blkN s : Nat) : Int)))) && (decide ((scanD s ((blkN s : Nat) : Int)) < ((s.size : Nat) : Int)))) && true) then
                  bif (((s.data.getD ((scanD s ((blkN s : Nat) : Int))).toNat 0).toNat : Int) == 46) then
                    bif (decide (0 ≤ (IntKind.wrap .i64 ((scanD s ((blkN s : Nat) : Int)) + 1))) && decide ((IntKind.wrap .i64 ((scanD s ((blkN s : Nat) : Int)) + 1)) ≤ ((s.size : Nat) : Int)) && decide (s.size ≤ 1000000000)) then
                      bif (((((decide ((0 : Int) ≤ (IntKind.wrap .i64 ((scanD s ((blkN s : Nat) : Int)) + 1)))) && (decide ((IntKind.wrap .i64 ((scanD s ((blkN s : Nat) : Int)) + 1)) ≤ (scanD s (IntKind.wrap .i64 ((scanD s ((blkN s : Nat) : Int)) + 1)))))) && (decide ((scanD s (IntKind.wrap .i64 ((scanD s ((blkN s : Nat) : Int)) + 1))) ≤ ((s.size : Nat) : Int)))) && true) && true) then
                        bif (decide ((s.extract (((blkN s : Nat) : Int)).toNat ((scanD s ((blkN s : Nat) : Int))).toNat).size ≤ 1000000000)) then
                          bif (decide ((s.extract ((IntKind.wrap .i64 ((scanD s ((blkN s : Nat) : Int)) + 1))).toNat ((scanD s (IntKind.wrap .i64 ((scanD s ((blkN s : Nat) : Int)) + 1)))).toNat).size ≤ 1000000000)) then
                            bif (strEq (trimLB (s.extract (((blkN s : Nat) : Int)).toNat ((scanD s ((blkN s : Nat) : Int))).toNat)) (⟨#[]⟩ : ByteArray)) then
                              bif (strEq (trimRB (s.extract ((IntKind.wrap .i64 ((scanD s ((blkN s : Nat) : Int)) + 1))).toNat ((scanD s (IntKind.wrap .i64 ((scanD s ((blkN s : Nat) : Int)) + 1)))).toNat)) (⟨#[]⟩ : ByteArray)) then
                                some (.tp [.sc (.bool false), .sc (.string (trimLB (s.extract (((blkN s : Nat) : Int)).toNat ((scanD s ((blkN s : Nat) : Int))).toNat))), .sc (.string (trimRB (s.extract ((IntKind.wrap .i64 ((scanD s ((blkN s : Nat) : Int)) + 1))).toNat ((scanD s (IntKind.wrap .i64 ((scanD s ((blkN s : Nat) : Int)) + 1)))).toNat)))], [])
                              else
                                some (.tp [.sc (.bool false), .sc (.string (trimLB (s.extract (((blkN s : Nat) : Int)).toNat ((scanD s ((blkN s : Nat) : Int))).toNat))), .sc (.string (trimRB (s.extract ((IntKind.wrap .i64 ((scanD s ((blkN s : Nat) : Int)) + 1))).toNat ((scanD s (IntKind.wrap .i64 ((scanD s ((blkN s : Nat) : Int)) + 1)))).toNat)))], [])
                            else
                              some (.tp [.sc (.bool false), .sc (.string (trimLB (s.extract (((blkN s : Nat) : Int)).toNat ((scanD s ((blkN s : Nat) : Int))).toNat))), .sc (.string (trimRB (s.extract ((IntKind.wrap .i64 ((scanD s ((blkN s : Nat) : Int)) + 1))).toNat ((scanD s (IntKind.wrap .i64 ((scanD s ((blkN s : Nat) : Int)) + 1)))).toNat)))], [])
                          else none
                        else none
                      else none
                    else none
                  else
                    bif (decide ((s.extract (((blkN s : Nat) : Int)).toNat ((scanD s ((blkN s : Nat) : Int))).toNat).size ≤ 1000000000)) then
                      bif (decide ((⟨#[]⟩ : ByteArray).size ≤ 1000000000)) then
                        bif (strEq (trimLB (s.extract (((blkN s : Nat) : Int)).toNat ((scanD s ((blkN s : Nat) : Int))).toNat)) (⟨#[]⟩ : ByteArray)) then
                          bif (strEq (trimRB (⟨#[]⟩ : ByteArray)) (⟨#[]⟩ : ByteArray)) then
                            some (.tp [.sc (.bool false), .sc (.string (trimLB (s.extract (((blkN s : Nat) : Int)).toNat ((scanD s ((blkN s : Nat) : Int))).toNat))), .sc (.string (trimRB (⟨#[]⟩ : ByteArray)))], [])
                          else
                            some (.tp [.sc (.bool false), .sc (.string (trimLB (s.extract (((blkN s : Nat) : Int)).toNat ((scanD s ((blkN s : Nat) : Int))).toNat))), .sc (.string (trimRB (⟨#[]⟩ : ByteArray)))], [])
                        else
                          some (.tp [.sc (.bool false), .sc (.string (trimLB (s.extract (((blkN s : Nat) : Int)).toNat ((scanD s ((blkN s : Nat) : Int))).toNat))), .sc (.string (trimRB (⟨#[]⟩ : ByteArray)))], [])
                      else none
                    else none
                else none
              else
                bif (decide ((s.extract (((blkN s : Nat) : Int)).toNat ((scanD s ((blkN s : Nat) : Int))).toNat).size ≤ 1000000000)) then
                  bif (decide ((⟨#[]⟩ : ByteArray).size ≤ 1000000000)) then
                    bif (strEq (trimLB (s.extract (((blkN s : Nat) : Int)).toNat ((scanD s ((blkN s : Nat) : Int))).toNat)) (⟨#[]⟩ : ByteArray)) then
                      bif (strEq (trimRB (⟨#[]⟩ : ByteArray)) (⟨#[]⟩ : ByteArray)) then
                        some (.tp [.sc (.bool false), .sc (.string (trimLB (s.extract (((blkN s : Nat) : Int)).toNat ((scanD s ((blkN s : Nat) : Int))).toNat))), .sc (.string (trimRB (⟨#[]⟩ : ByteArray)))], [])
                      else
                        some (.tp [.sc (.bool false), .sc (.string (trimLB (s.extract (((blkN s : Nat) : Int)).toNat ((scanD s ((blkN s : Nat) : Int))).toNat))), .sc (.string (trimRB (⟨#[]⟩ : ByteArray)))], [])
                    else
                      some (.tp [.sc (.bool false), .sc (.string (trimLB (s.extract (((blkN s : Nat) : Int)).toNat ((scanD s ((blkN s : Nat) : Int))).toNat))), .sc (.string (trimRB (⟨#[]⟩ : ByteArray)))], [])
                  else none
                else none
            else none
          else none
      else none
    else
      bif (decide (0 ≤ ((blkN s : Nat) : Int)) && decide (((blkN s : Nat) : Int) ≤ ((s.size : Nat) : Int)) && decide (s.size ≤ 1000000000)) then
        bif (((((decide ((0 : Int) ≤ ((blkN s : Nat) : Int))) && (decide (((blkN s : Nat) : Int) ≤ (scanD s ((blkN s : Nat) : Int))))) && (decide ((scanD s ((blkN s : Nat) : Int)) ≤ ((s.size : Nat) : Int)))) && true) && true) then
          bif (decide ((scanD s ((blkN s : Nat) : Int)) < ((s.size : Nat) : Int))) then
            bif (((decide ((0 : Int) ≤ (scanD s ((blkN s : Nat) : Int)))) && (decide ((scanD s ((blkN s : Nat) : Int)) < ((s.size : Nat) : Int)))) && true) then
              bif (((s.data.getD ((scanD s ((blkN s : Nat) : Int))).toNat 0).toNat : Int) == 46) then
                bif (decide (0 ≤ (IntKind.wrap .i64 ((scanD s ((blkN s : Nat) : Int)) + 1))) && decide ((IntKind.wrap .i64 ((scanD s ((blkN s : Nat) : Int)) + 1)) ≤ ((s.size : Nat) : Int)) && decide (s.size ≤ 1000000000)) then
                  bif (((((decide ((0 : Int) ≤ (IntKind.wrap .i64 ((scanD s ((blkN s : Nat) : Int)) + 1)))) && (decide ((IntKind.wrap .i64 ((scanD s ((blkN s : Nat) : Int)) + 1)) ≤ (scanD s (IntKind.wrap .i64 ((scanD s ((blkN s : Nat) : Int)) + 1)))))) && (decide ((scanD s (IntKind.wrap .i64 ((scanD s ((blkN s : Nat) : Int)) + 1))) ≤ ((s.size : Nat) : Int)))) && true) && true) then
                    bif (decide ((s.extract (((blkN s : Nat) : Int)).toNat ((scanD s ((blkN s : Nat) : Int))).toNat).size ≤ 1000000000)) then
                      bif (decide ((s.extract ((IntKind.wrap .i64 ((scanD s ((blkN s : Nat) : Int)) + 1))).toNat ((scanD s (IntKind.wrap .i64 ((scanD s ((blkN s : Nat) : Int)) + 1)))).toNat).size ≤ 1000000000)) then
                        bif (strEq (trimLB (s.extract (((blkN s : Nat) : Int)).toNat ((scanD s ((blkN s : Nat) : Int))).toNat)) (⟨#[]⟩ : ByteArray)) then
                          bif (strEq (trimRB (s.extract ((IntKind.wrap .i64 ((scanD s ((blkN s : Nat) : Int)) + 1))).toNat ((scanD s (IntKind.wrap .i64 ((scanD s ((blkN s : Nat) : Int)) + 1)))).toNat)) (⟨#[]⟩ : ByteArray)) then
                            some (.tp [.sc (.bool false), .sc (.string (trimLB (s.extract (((blkN s : Nat) : Int)).toNat ((scanD s ((blkN s : Nat) : Int))).toNat))), .sc (.string (trimRB (s.extract ((IntKind.wrap .i64 ((scanD s ((blkN s : Nat) : Int)) + 1))).toNat ((scanD s (IntKind.wrap .i64 ((scanD s ((blkN s : Nat) : Int)) + 1)))).toNat)))], [])
                          else
                            some (.tp [.sc (.bool false), .sc (.string (trimLB (s.extract (((blkN s : Nat) : Int)).toNat ((scanD s ((blkN s : Nat) : Int))).toNat))), .sc (.string (trimRB (s.extract ((IntKind.wrap .i64 ((scanD s ((blkN s : Nat) : Int)) + 1))).toNat ((scanD s (IntKind.wrap .i64 ((scanD s ((blkN s : Nat) : Int)) + 1)))).toNat)))], [])
                        else
                          some (.tp [.sc (.bool false), .sc (.string (trimLB (s.extract (((blkN s : Nat) : Int)).toNat ((scanD s ((blkN s : Nat) : Int))).toNat))), .sc (.string (trimRB (s.extract ((IntKind.wrap .i64 ((scanD s ((blkN s : Nat) : Int)) + 1))).toNat ((scanD s (IntKind.wrap .i64 ((scanD s ((blkN s : Nat) : Int)) + 1)))).toNat)))], [])
                      else none
                    else none
                  else none
                else none
              else
                bif (decide ((s.extract (((blkN s : Nat) : Int)).toNat ((scanD s ((blkN s : Nat) : Int))).toNat).size ≤ 1000000000)) then
                  bif (decide ((⟨#[]⟩ : ByteArray).size ≤ 1000000000)) then
                    bif (strEq (trimLB (s.extract (((blkN s : Nat) : Int)).toNat ((scanD s ((blkN s : Nat) : Int))).toNat)) (⟨#[]⟩ : ByteArray)) then
                      bif (strEq (trimRB (⟨#[]⟩ : ByteArray)) (⟨#[]⟩ : ByteArray)) then
                        some (.tp [.sc (.bool false), .sc (.string (trimLB (s.extract (((blkN s : Nat) : Int)).toNat ((scanD s ((blkN s : Nat) : Int))).toNat))), .sc (.string (trimRB (⟨#[]⟩ : ByteArray)))], [])
                      else
                        some (.tp [.sc (.bool false), .sc (.string (trimLB (s.extract (((blkN s : Nat) : Int)).toNat ((scanD s ((blkN s : Nat) : Int))).toNat))), .sc (.string (trimRB (⟨#[]⟩ : ByteArray)))], [])
                    else
                      some (.tp [.sc (.bool false), .sc (.string (trimLB (s.extract (((blkN s : Nat) : Int)).toNat ((scanD s ((blkN s : Nat) : Int))).toNat))), .sc (.string (trimRB (⟨#[]⟩ : ByteArray)))], [])
                  else none
                else none
            else none
          else
            bif (decide ((s.extract (((blkN s : Nat) : Int)).toNat ((scanD s ((blkN s : Nat) : Int))).toNat).size ≤ 1000000000)) then
              bif (decide ((⟨#[]⟩ : ByteArray).size ≤ 1000000000)) then
                bif (strEq (trimLB (s.extract (((blkN s : Nat) : Int)).toNat ((scanD s ((blkN s : Nat) : Int))).toNat)) (⟨#[]⟩ : ByteArray)) then
                  bif (strEq (trimRB (⟨#[]⟩ : ByteArray)) (⟨#[]⟩ : ByteArray)) then
                    some (.tp [.sc (.bool false), .sc (.string (trimLB (s.extract (((blkN s : Nat) : Int)).toNat ((scanD s ((blkN s : Nat) : Int))).toNat))), .sc (.string (trimRB (⟨#[]⟩ : ByteArray)))], [])
                  else
                    some (.tp [.sc (.bool false), .sc (.string (trimLB (s.extract (((blkN s : Nat) : Int)).toNat ((scanD s ((blkN s : Nat) : Int))).toNat))), .sc (.string (trimRB (⟨#[]⟩ : ByteArray)))], [])
                else
                  some (.tp [.sc (.bool false), .sc (.string (trimLB (s.extract (((blkN s : Nat) : Int)).toNat ((scanD s ((blkN s : Nat) : Int))).toNat))), .sc (.string (trimRB (⟨#[]⟩ : ByteArray)))], [])
              else none
            else none
        else none
      else none
  else none
theorem f93_run (s : ByteArray) (z9 : V × List Rg) (h : f93 s = some z9) : CallR C prim 93 [.sc (.string s)] [] z9 := by
  refine call_fn (K := K_f93) (T := T_f93) K_f93_ok T_f93_ok (by kernel_rfl) ?_
  refine Eq.trans ?_ h
  kernel_rfl

theorem strEq_two (w p : ByteArray) : strEq (w ++ p) ⟨#[]⟩ = (strEq w ⟨#[]⟩ && strEq p ⟨#[]⟩) := by
  rw [strEq_nil, strEq_nil, strEq_nil, ba_append]
  cases w.data.toList <;> simp
theorem fin93 (w p : ByteArray) (neg : Bool) : (bif strEq w ⟨#[]⟩ then bif strEq p ⟨#[]⟩ then some (V.tp [.sc (.bool false), .sc (.string w), .sc (.string p)], ([] : List Rg)) else some (V.tp [.sc (.bool neg), .sc (.string w), .sc (.string p)], ([] : List Rg)) else some (V.tp [.sc (.bool neg), .sc (.string w), .sc (.string p)], ([] : List Rg)))
    = some (V.tp [.sc (.bool (neg && !strEq (w ++ p) ⟨#[]⟩)), .sc (.string w), .sc (.string p)], []) := by
  rw [strEq_two]
  cases strEq w ⟨#[]⟩ <;> cases strEq p ⟨#[]⟩ <;> cases neg <;> rfl
theorem f93_tail (s : ByteArray) (hs : s.size ≤ 1000000000) (j : Nat) (neg : Bool) (hj : j ≤ s.size) (hA : aB s = ofL (s.data.toList.drop j)) (hneg : neg = hasMinus (skipB s)) :
    (bif (decide (0 ≤ ((j : Nat) : Int)) && decide (((j : Nat) : Int) ≤ ((s.size : Nat) : Int)) && decide (s.size ≤ 1000000000)) then
        bif (((((decide ((0 : Int) ≤ ((j : Nat) : Int))) && (decide (((j : Nat) : Int) ≤ (scanD s ((j : Nat) : Int))))) && (decide ((scanD s ((j : Nat) : Int)) ≤ ((s.size : Nat) : Int)))) && true) && true) then
          bif (decide ((scanD s ((j : Nat) : Int)) < ((s.size : Nat) : Int))) then
            bif (((decide ((0 : Int) ≤ (scanD s ((j : Nat) : Int)))) && (decide ((scanD s ((j : Nat) : Int)) < ((s.size : Nat) : Int)))) && true) then
              bif (((s.data.getD ((scanD s ((j : Nat) : Int))).toNat 0).toNat : Int) == 46) then
                bif (decide (0 ≤ (IntKind.wrap .i64 ((scanD s ((j : Nat) : Int)) + 1))) && decide ((IntKind.wrap .i64 ((scanD s ((j : Nat) : Int)) + 1)) ≤ ((s.size : Nat) : Int)) && decide (s.size ≤ 1000000000)) then
                  bif (((((decide ((0 : Int) ≤ (IntKind.wrap .i64 ((scanD s ((j : Nat) : Int)) + 1)))) && (decide ((IntKind.wrap .i64 ((scanD s ((j : Nat) : Int)) + 1)) ≤ (scanD s (IntKind.wrap .i64 ((scanD s ((j : Nat) : Int)) + 1)))))) && (decide ((scanD s (IntKind.wrap .i64 ((scanD s ((j : Nat) : Int)) + 1))) ≤ ((s.size : Nat) : Int)))) && true) && true) then
                    bif (decide ((s.extract (((j : Nat) : Int)).toNat ((scanD s ((j : Nat) : Int))).toNat).size ≤ 1000000000)) then
                      bif (decide ((s.extract ((IntKind.wrap .i64 ((scanD s ((j : Nat) : Int)) + 1))).toNat ((scanD s (IntKind.wrap .i64 ((scanD s ((j : Nat) : Int)) + 1)))).toNat).size ≤ 1000000000)) then
                        bif (strEq (trimLB (s.extract (((j : Nat) : Int)).toNat ((scanD s ((j : Nat) : Int))).toNat)) (⟨#[]⟩ : ByteArray)) then
                          bif (strEq (trimRB (s.extract ((IntKind.wrap .i64 ((scanD s ((j : Nat) : Int)) + 1))).toNat ((scanD s (IntKind.wrap .i64 ((scanD s ((j : Nat) : Int)) + 1)))).toNat)) (⟨#[]⟩ : ByteArray)) then
                            some (V.tp [.sc (.bool false), .sc (.string (trimLB (s.extract (((j : Nat) : Int)).toNat ((scanD s ((j : Nat) : Int))).toNat))), .sc (.string (trimRB (s.extract ((IntKind.wrap .i64 ((scanD s ((j : Nat) : Int)) + 1))).toNat ((scanD s (IntKind.wrap .i64 ((scanD s ((j : Nat) : Int)) + 1)))).toNat)))], ([] : List Rg))
                          else
                            some (V.tp [.sc (.bool neg), .sc (.string (trimLB (s.extract (((j : Nat) : Int)).toNat ((scanD s ((j : Nat) : Int))).toNat))), .sc (.string (trimRB (s.extract ((IntKind.wrap .i64 ((scanD s ((j : Nat) : Int)) + 1))).toNat ((scanD s (IntKind.wrap .i64 ((scanD s ((j : Nat) : Int)) + 1)))).toNat)))], ([] : List Rg))
                        else
                          some (V.tp [.sc (.bool neg), .sc (.string (trimLB (s.extract (((j : Nat) : Int)).toNat ((scanD s ((j : Nat) : Int))).toNat))), .sc (.string (trimRB (s.extract ((IntKind.wrap .i64 ((scanD s ((j : Nat) : Int)) + 1))).toNat ((scanD s (IntKind.wrap .i64 ((scanD s ((j : Nat) : Int)) + 1)))).toNat)))], ([] : List Rg))
                      else none
                    else none
                  else none
                else none
              else
                bif (decide ((s.extract (((j : Nat) : Int)).toNat ((scanD s ((j : Nat) : Int))).toNat).size ≤ 1000000000)) then
                  bif (decide ((⟨#[]⟩ : ByteArray).size ≤ 1000000000)) then
                    bif (strEq (trimLB (s.extract (((j : Nat) : Int)).toNat ((scanD s ((j : Nat) : Int))).toNat)) (⟨#[]⟩ : ByteArray)) then
                      bif (strEq (trimRB (⟨#[]⟩ : ByteArray)) (⟨#[]⟩ : ByteArray)) then
                        some (V.tp [.sc (.bool false), .sc (.string (trimLB (s.extract (((j : Nat) : Int)).toNat ((scanD s ((j : Nat) : Int))).toNat))), .sc (.string (trimRB (⟨#[]⟩ : ByteArray)))], ([] : List Rg))
                      else
                        some (V.tp [.sc (.bool neg), .sc (.string (trimLB (s.extract (((j : Nat) : Int)).toNat ((scanD s ((j : Nat) : Int))).toNat))), .sc (.string (trimRB (⟨#[]⟩ : ByteArray)))], ([] : List Rg))
                    else
                      some (V.tp [.sc (.bool neg), .sc (.string (trimLB (s.extract (((j : Nat) : Int)).toNat ((scanD s ((j : Nat) : Int))).toNat))), .sc (.string (trimRB (⟨#[]⟩ : ByteArray)))], ([] : List Rg))
                  else none
                else none
            else none
          else
            bif (decide ((s.extract (((j : Nat) : Int)).toNat ((scanD s ((j : Nat) : Int))).toNat).size ≤ 1000000000)) then
              bif (decide ((⟨#[]⟩ : ByteArray).size ≤ 1000000000)) then
                bif (strEq (trimLB (s.extract (((j : Nat) : Int)).toNat ((scanD s ((j : Nat) : Int))).toNat)) (⟨#[]⟩ : ByteArray)) then
                  bif (strEq (trimRB (⟨#[]⟩ : ByteArray)) (⟨#[]⟩ : ByteArray)) then
                    some (V.tp [.sc (.bool false), .sc (.string (trimLB (s.extract (((j : Nat) : Int)).toNat ((scanD s ((j : Nat) : Int))).toNat))), .sc (.string (trimRB (⟨#[]⟩ : ByteArray)))], ([] : List Rg))
                  else
                    some (V.tp [.sc (.bool neg), .sc (.string (trimLB (s.extract (((j : Nat) : Int)).toNat ((scanD s ((j : Nat) : Int))).toNat))), .sc (.string (trimRB (⟨#[]⟩ : ByteArray)))], ([] : List Rg))
                else
                  some (V.tp [.sc (.bool neg), .sc (.string (trimLB (s.extract (((j : Nat) : Int)).toNat ((scanD s ((j : Nat) : Int))).toNat))), .sc (.string (trimRB (⟨#[]⟩ : ByteArray)))], ([] : List Rg))
              else none
            else none
        else none
      else none) = some (.tp [.sc (.bool (nB s)), .sc (.string (wB s)), .sc (.string (pB s))], []) := by
  have hl := bl_size s
  have hal : (aB s).size = s.size - j := by rw [hA, ofL_size, List.length_drop]; omega
  have hd := digN_le (aB s)
  have hdA : digN (aB s) = leadN digU (s.data.toList.drop j) := by rw [hA]; rfl
  have hscan : scanD s ((j : Nat) : Int) = ((j + digN (aB s) : Nat) : Int) := by
    unfold scanD
    rw [Int.toNat_natCast, hdA]
  have hw : trimLB (s.extract j (j + digN (aB s))) = wB s := by
    unfold wB
    rw [ext_mid, hA]
    show trimLB (ofL ((s.data.toList.take (j + _)).drop j)) = trimLB (ofL ((s.data.toList.drop j).take _))
    rw [List.drop_take, Nat.add_sub_cancel_left]
  have hr : rB s = ofL (s.data.toList.drop (j + digN (aB s))) := by
    unfold rB
    rw [hA]
    show ofL ((s.data.toList.drop j).drop _) = _
    rw [List.drop_drop]
  have hnB : nB s = (neg && !strEq (wB s ++ pB s) ⟨#[]⟩) := by unfold nB; rw [hneg]
  have x1 : (s.extract j (j + digN (aB s))).size ≤ 1000000000 := by rw [ext_mid, ofL_size, List.length_drop, List.length_take]; omega
  have e0 : trimRB (⟨#[]⟩ : ByteArray) = ⟨#[]⟩ := rfl
  have x0 : decide ((⟨#[]⟩ : ByteArray).size ≤ 1000000000) = true := rfl
  rw [hscan, dec_true (show (0 : Int) ≤ ((j : Nat) : Int) by omega), dec_true (show ((j : Nat) : Int) ≤ ((s.size : Nat) : Int) by omega), dec_true hs, dec_true (show ((j : Nat) : Int) ≤ ((j + digN (aB s) : Nat) : Int) by omega), dec_true (show ((j + digN (aB s) : Nat) : Int) ≤ ((s.size : Nat) : Int) by omega), Int.toNat_natCast, Int.toNat_natCast, hw, dec_true x1, e0, x0]
  by_cases hlt : j + digN (aB s) < s.size
  · have hlt' : j + digN (aB s) < s.data.toList.length := by omega
    have h0 : (rB s).data.toList = s.data.toList[j + digN (aB s)] :: s.data.toList.drop (j + digN (aB s) + 1) := by
      rw [hr]
      show s.data.toList.drop _ = _
      exact List.drop_eq_getElem_cons hlt'
    have hdot : dotB s = ((((s.data.toList[j + digN (aB s)]).toNat : Nat) : Int) == 46) := by unfold dotB; rw [h0]
    have hle := leadN_le digU (s.data.toList.drop (j + digN (aB s) + 1))
    rw [List.length_drop] at hle
    have hsc2 : scanD s ((j + digN (aB s) + 1 : Nat) : Int) = ((j + digN (aB s) + 1 + leadN digU (s.data.toList.drop (j + digN (aB s) + 1)) : Nat) : Int) := by
      unfold scanD
      rw [Int.toNat_natCast]
    rw [dec_true (show ((j + digN (aB s) : Nat) : Int) < ((s.size : Nat) : Int) by omega), dec_true (show (0 : Int) ≤ ((j + digN (aB s) : Nat) : Int) by omega), dig_byte s hlt', ← hdot]
    cases hb : dotB s with
    | false =>
      have hp : pB s = ⟨#[]⟩ := by unfold pB; rw [hb]; rfl
      rw [hnB, hp]
      exact fin93 _ _ _
    | true =>
      have hp : trimRB (s.extract (j + digN (aB s) + 1) (j + digN (aB s) + 1 + leadN digU (s.data.toList.drop (j + digN (aB s) + 1)))) = pB s := by
        unfold pB
        rw [hb, h0, cond_true, ext_mid]
        show trimRB (ofL ((s.data.toList.take (j + digN (aB s) + 1 + _)).drop (j + digN (aB s) + 1))) = trimRB (ofL ((s.data.toList.drop (j + digN (aB s) + 1)).take _))
        rw [List.drop_take, Nat.add_sub_cancel_left]
        rfl
      have x2 : (s.extract (j + digN (aB s) + 1) (j + digN (aB s) + 1 + leadN digU (s.data.toList.drop (j + digN (aB s) + 1)))).size ≤ 1000000000 := by rw [ext_mid, ofL_size, List.length_drop, List.length_take]; omega
      rw [wrap_succ (k := j + digN (aB s)) (by omega), hsc2, dec_true (show (0 : Int) ≤ ((j + digN (aB s) + 1 : Nat) : Int) by omega), dec_true (show ((j + digN (aB s) + 1 : Nat) : Int) ≤ ((s.size : Nat) : Int) by omega), dec_true (show ((j + digN (aB s) + 1 : Nat) : Int) ≤ ((j + digN (aB s) + 1 + leadN digU (s.data.toList.drop (j + digN (aB s) + 1)) : Nat) : Int) by omega), dec_true (show ((j + digN (aB s) + 1 + leadN digU (s.data.toList.drop (j + digN (aB s) + 1)) : Nat) : Int) ≤ ((s.size : Nat) : Int) by omega), Int.toNat_natCast, Int.toNat_natCast, dec_true x2, hp, hnB]
      exact fin93 _ _ _
  · have h0 : (rB s).data.toList = [] := by
      rw [hr]
      show s.data.toList.drop _ = _
      exact List.drop_of_length_le (by omega)
    have hp : pB s = ⟨#[]⟩ := by unfold pB dotB; rw [h0]; rfl
    rw [dec_false (show ¬ ((j + digN (aB s) : Nat) : Int) < ((s.size : Nat) : Int) by omega), hnB, hp]
    exact fin93 _ _ _
theorem f93_eq (s : ByteArray) (hp : (decide (s.size ≤ 1000000000)) = true) : f93 s = some (.tp [.sc (.bool (nB s)), .sc (.string (wB s)), .sc (.string (pB s))], []) := by
  have hq := hp
  simp only [decide_eq_true_eq] at hp
  have hl := bl_size s
  have hb := leadN_le blankU s.data.toList
  have hsk : skipB s = ofL (s.data.toList.drop (blkN s)) := by unfold skipB blkN; rw [dropP_eq]
  have hbl : blkN s = leadN blankU s.data.toList := rfl
  unfold f93
  rw [hq, beq_self_eq_true]
  have no : hasMinus (skipB s) = false → aB s = ofL (s.data.toList.drop (blkN s)) := by
    intro h
    unfold aB dropMinus
    rw [h, cond_false, hsk]
  by_cases hlt : blkN s < s.size
  · have hlt' : blkN s < s.data.toList.length := by omega
    have h0 : (skipB s).data.toList = s.data.toList[blkN s] :: s.data.toList.drop (blkN s + 1) := by
      rw [hsk]
      show s.data.toList.drop _ = _
      exact List.drop_eq_getElem_cons hlt'
    have hm := hasMinus_cons h0
    rw [dec_true (show ((blkN s : Nat) : Int) < ((s.size : Nat) : Int) by omega), dec_true (show (0 : Int) ≤ ((blkN s : Nat) : Int) by omega), Int.toNat_natCast, dig_byte s hlt', ← hm, wrap_succ (k := blkN s) (by omega)]
    cases hh : hasMinus (skipB s) with
    | true =>
      have hA : aB s = ofL (s.data.toList.drop (blkN s + 1)) := by
        unfold aB dropMinus
        rw [hh, cond_true, h0]
        rfl
      have g := f93_tail s hp (blkN s + 1) true (by omega) hA hh.symm
      rw [hq] at g
      exact g
    | false =>
      have g := f93_tail s hp (blkN s) false (by omega) (no hh) hh.symm
      rw [hq, dec_true (show (0 : Int) ≤ ((blkN s : Nat) : Int) by omega), Int.toNat_natCast] at g
      exact g
  · have h0 : (skipB s).data.toList = [] := by
      rw [hsk]
      show s.data.toList.drop _ = _
      exact List.drop_of_length_le (by omega)
    have hh := hasMinus_nil h0
    have g := f93_tail s hp (blkN s) false (by omega) (no hh) hh.symm
    rw [hq] at g
    rw [dec_false (show ¬ ((blkN s : Nat) : Int) < ((s.size : Nat) : Int) by omega)]
    exact g
def k93 : PrimT := fun vs gs => match vs, gs with
  | [.sc (.string s)], [] => ((decide (s.size ≤ 1000000000)), .tp [.sc (.bool (nB s)), .sc (.string (wB s)), .sc (.string (pB s))], [])
  | _, _ => (false, .bad, [])
theorem k93_ok : ∀ vs gs x, k93 vs gs = (true, x) → CallR C prim 93 vs gs x := by
  intro vs gs x h
  unfold k93 at h
  split at h
  · simp only [Prod.mk.injEq] at h
    obtain ⟨hp, rfl⟩ := h
    exact f93_run _ _ (f93_eq _ hp)
  · cases h

def K_f50_l0 : CallK := kNil
theorem K_f50_l0_ok : KOK C prim K_f50_l0 := KOK.nil
def T_f50_l0 : Tab := tNil
theorem T_f50_l0_ok : TOK C prim 50 T_f50_l0 := TOK.nil
def f50_l0 : Nat → ByteArray → ByteArray → Int → Int → (R : Type) → (Ex → St → Option R) → Option R
  | 0, _, _, _, _, _, _ => none
  | n + 1, a, b, v7, v8, R, κ =>
    bif (decide (v8 < v7)) then
      bif (decide (v8 ≥ ((b.size : Nat) : Int))) then
        κ .rt (mkS [(0, .sc (.string a)), (1, .sc (.string b)), (4, .sc (.int .i64 1))] [])
      else
        bif (((decide ((0 : Int) ≤ v8)) && (decide (v8 < ((a.size : Nat) : Int)))) && true) then
          bif (((decide ((0 : Int) ≤ v8)) && (decide (v8 < ((b.size : Nat) : Int)))) && true) then
            bif (((a.data.getD (v8).toNat 0).toNat : Int) != ((b.data.getD (v8).toNat 0).toNat : Int)) then
              bif (((decide ((0 : Int) ≤ v8)) && (decide (v8 < ((a.size : Nat) : Int)))) && true) then
                bif (((decide ((0 : Int) ≤ v8)) && (decide (v8 < ((b.size : Nat) : Int)))) && true) then
                  bif (decide (((a.data.getD (v8).toNat 0).toNat : Int) < ((b.data.getD (v8).toNat 0).toNat : Int))) then
                    κ .rt (mkS [(0, .sc (.string a)), (1, .sc (.string b)), (4, .sc (.int .i64 (-1)))] [])
                  else
                    κ .rt (mkS [(0, .sc (.string a)), (1, .sc (.string b)), (4, .sc (.int .i64 1))] [])
                else none
              else none
            else
              f50_l0 n a b v7 (IntKind.wrap .i64 (v8 + 1)) R κ
          else none
        else none
    else
      κ (.ex 0) (mkS [(0, .sc (.string a)), (1, .sc (.string b)), (4, .bad)] [])
def f50_l0_ls : List (Nat × Pat) := [(0, .s), (1, .s), (7, .i .i64), (8, .i .i64)]
def f50_l0_rs : List RPat := []
theorem f50_l0_ok (n : Nat) : ∀ (a : ByteArray) (b : ByteArray) (v7 : Int) (v8 : Int) (R : Type) (κ : Ex → St → Option R) (r : R), f50_l0 n a b v7 v8 R κ = some r → ∃ ee ss, κ ee ss = some r ∧ RunP C prim 50 [0, 1, 0, 1] (mkS [(0, .sc (.string a)), (1, .sc (.string b)), (7, .sc (.int .i64 v7)), (8, .sc (.int .i64 v8))] []) ee ss := by
  induction n with
  | zero => intro a b v7 v8 R κ r h; cases h
  | succ n ih =>
    intro a b v7 v8 R κ r h
    refine loop_round (K := K_f50_l0) (T := T_f50_l0) K_f50_l0_ok T_f50_l0_ok (p := [0, 1, 0, 1]) (by kernel_rfl) (fun st => bif ckS f50_l0_ls f50_l0_rs st then f50_l0 n ((st.env 0).strOf) ((st.env 1).strOf) ((st.env 7).intOf) ((st.env 8).intOf) R κ else none) (fun st0 h0 => ?_) ?_
    · obtain ⟨hs, h0⟩ := cond_some h0
      rw [canon (ls := f50_l0_ls) (rs := f50_l0_rs) (by kernel_rfl) st0 hs]
      exact ih _ _ _ _ R κ r h0
    · refine Eq.trans ?_ h
      kernel_rfl

def f50_s0 (a : ByteArray) (b : ByteArray) (v7 : Int) (v8 : Int) (R : Type) (κ : Ex → St → Option R) : Option R :=
  bif (prefB a b) then
    κ (.ex 0) (mkS [(0, .sc (.string a)), (1, .sc (.string b)), (4, .bad)] [])
  else
    κ .rt (mkS [(0, .sc (.string a)), (1, .sc (.string b)), (4, .sc (.int .i64 (bwI a b)))] [])
theorem f50_loop (a b : ByteArray) (ha : a.size ≤ 1000000000) (R : Type) (κ : Ex → St → Option R) : ∀ (k i : Nat), i + k = a.size →
    f50_l0 (k + 1) a b ((a.size : Nat) : Int) ((i : Nat) : Int) R κ = bif prefL (a.data.toList.drop i) (b.data.toList.drop i) then κ (.ex 0) (mkS [(0, .sc (.string a)), (1, .sc (.string b)), (4, .bad)] []) else κ .rt (mkS [(0, .sc (.string a)), (1, .sc (.string b)), (4, .sc (.int .i64 (cmpL (a.data.toList.drop i) (b.data.toList.drop i))))] [])
  | 0, i, h => by
    have hl := bl_size a
    rw [f50_l0, dec_false (by omega), List.drop_of_length_le (l := a.data.toList) (by omega)]
    rfl
  | k + 1, i, h => by
    have hl := bl_size a
    have hm := bl_size b
    have h1 : i < a.data.toList.length := by omega
    rw [f50_l0, dec_true (show ((i : Nat) : Int) < ((a.size : Nat) : Int) by omega), List.drop_eq_getElem_cons h1]
    by_cases hb : i < b.size
    · have h2 : i < b.data.toList.length := by omega
      have e1 : (((a.data.getD i 0).toNat : Int) != ((b.data.getD i 0).toNat : Int)) = !(a.data.toList[i] == b.data.toList[i]) := by
        rw [getD_list' a i h1, getD_list' b i h2]
        by_cases he : a.data.toList[i] = b.data.toList[i]
        · rw [he]; simp
        · have : a.data.toList[i].toNat ≠ b.data.toList[i].toNat := fun e => he (UInt8.toNat_inj.1 e)
          have h3 : (a.data.toList[i] == b.data.toList[i]) = false := beq_eq_false_iff_ne.2 he
          rw [h3, bne_iff_ne.2 (by omega)]
          rfl
      have e2 : decide (((a.data.getD i 0).toNat : Int) < ((b.data.getD i 0).toNat : Int)) = decide (a.data.toList[i] < b.data.toList[i]) := by
        rw [getD_list' a i h1, getD_list' b i h2]
        rw [decide_eq_decide, UInt8.lt_iff_toNat_lt]
        omega
      rw [dec_false (show ¬ ((i : Nat) : Int) ≥ ((b.size : Nat) : Int) by omega), dec_true (show (0 : Int) ≤ ((i : Nat) : Int) by omega), dec_true (show ((i : Nat) : Int) < ((b.size : Nat) : Int) by omega), Int.toNat_natCast, e1, e2, wrap_succ (by omega), f50_loop a b ha R κ k (i + 1) (by omega), List.drop_eq_getElem_cons h2, cmpL, prefL]
      cases a.data.toList[i] == b.data.toList[i]
      · cases decide (a.data.toList[i] < b.data.toList[i]) <;> rfl
      · rfl
    · rw [dec_true (show ((i : Nat) : Int) ≥ ((b.size : Nat) : Int) by omega), List.drop_of_length_le (l := b.data.toList) (by omega)]
      rfl
theorem f50_s0_eq (a : ByteArray) (b : ByteArray) (v7 : Int) (v8 : Int) (hp : ((v7 == ((a.size : Nat) : Int)) && (v8 == 0) && decide (a.size ≤ 1000000000)) = true) : ∃ n, ∀ (R : Type) (κ : Ex → St → Option R), f50_l0 n a b v7 v8 R κ = f50_s0 a b v7 v8 R κ := by
  simp only [Bool.and_eq_true, decide_eq_true_eq, beq_iff_eq] at hp
  obtain ⟨⟨rfl, rfl⟩, h3⟩ := hp
  exact ⟨a.size + 1, fun R κ => f50_loop a b h3 R κ a.size 0 (by omega)⟩
def t_f50_l0 (st : St) (R : Type) (κ : Ex → St → Option R) : Option R := bif ckS f50_l0_ls f50_l0_rs st then (bif ((((st.env 7).intOf) == ((((st.env 0).strOf).size : Nat) : Int)) && (((st.env 8).intOf) == 0) && decide (((st.env 0).strOf).size ≤ 1000000000)) then f50_s0 ((st.env 0).strOf) ((st.env 1).strOf) ((st.env 7).intOf) ((st.env 8).intOf) R κ else none) else none
theorem t_f50_l0_ok : ∀ st0 R κ r, t_f50_l0 (forget C 50 [0, 1, 0, 1] st0) R κ = some r → ∃ ee ss, κ ee ss = some r ∧ RunP C prim 50 [0, 1, 0, 1] (forget C 50 [0, 1, 0, 1] st0) ee ss := by
  intro st0 R κ r h
  obtain ⟨hs, h⟩ := cond_some h
  obtain ⟨hp, h⟩ := cond_some h
  rw [canon (ls := f50_l0_ls) (rs := f50_l0_rs) (by kernel_rfl) st0 hs]
  obtain ⟨n, hn⟩ := f50_s0_eq _ _ _ _ hp
  rw [← hn] at h
  exact f50_l0_ok n _ _ _ _ R κ r h

def K_f50 : CallK := kNil
theorem K_f50_ok : KOK C prim K_f50 := KOK.nil
def T_f50 : Tab := tCons [0, 1, 0, 1] t_f50_l0 <| tNil
theorem T_f50_ok : TOK C prim 50 T_f50 := TOK.cons t_f50_l0_ok <| TOK.nil
def f50 (a : ByteArray) (b : ByteArray) : Option (V × List Rg) :=
  bif ((((a.size : Nat) : Int) == ((a.size : Nat) : Int)) && ((0 : Int) == 0) && decide (a.size ≤ 1000000000)) then
    bif (prefB a b) then
      bif (decide (((a.size : Nat) : Int) < ((b.size : Nat) : Int))) then
        some (.sc (.int .i64 (-1)), [])
      else
        some (.sc (.int .i64 0), [])
    else
      some (.sc (.int .i64 (bwI a b)), [])
  else none
theorem f50_run (a : ByteArray) (b : ByteArray) (z9 : V × List Rg) (h : f50 a b = some z9) : CallR C prim 50 [.sc (.string a), .sc (.string b)] [] z9 := by
  refine call_fn (K := K_f50) (T := T_f50) K_f50_ok T_f50_ok (by kernel_rfl) ?_
  refine Eq.trans ?_ h
  kernel_rfl

theorem f50_eq (a : ByteArray) (b : ByteArray) (hp : (decide (a.size ≤ 1000000000)) = true) : f50 a b = some (.sc (.int .i64 (bwI a b)), []) := by
  unfold f50
  rw [hp, beq_self_eq_true]
  cases h : prefB a b with
  | false => rfl
  | true =>
    have h1 : bwI a b = (if a.size < b.size then -1 else 0) := by
      rw [bl_size a, bl_size b]
      exact pref_cmp _ _ h
    rw [h1]
    by_cases h2 : a.size < b.size
    · rw [dec_true (show ((a.size : Nat) : Int) < ((b.size : Nat) : Int) by omega), if_pos h2]; rfl
    · rw [dec_false (show ¬ ((a.size : Nat) : Int) < ((b.size : Nat) : Int) by omega), if_neg h2]; rfl
def k50 : PrimT := fun vs gs => match vs, gs with
  | [.sc (.string a), .sc (.string b)], [] => ((decide (a.size ≤ 1000000000)), .sc (.int .i64 (bwI a b)), [])
  | _, _ => (false, .bad, [])
theorem k50_ok : ∀ vs gs x, k50 vs gs = (true, x) → CallR C prim 50 vs gs x := by
  intro vs gs x h
  unfold k50 at h
  split at h
  · simp only [Prod.mk.injEq] at h
    obtain ⟨hp, rfl⟩ := h
    exact f50_run _ _ _ (f50_eq _ _ hp)
  · cases h

def K_f49 : CallK := kCons 50 k50 <| kCons 93 k93 <| kNil
theorem K_f49_ok : KOK C prim K_f49 := KOK.cons k50_ok <| KOK.cons k93_ok <| KOK.nil
def T_f49 : Tab := tNil
theorem T_f49_ok : TOK C prim 49 T_f49 := TOK.nil
def f49 (a : ByteArray) (b : ByteArray) : Option (V × List Rg) :=
  bif ((decide (a.size ≤ 1000000000)) && true) then
    bif ((decide (b.size ≤ 1000000000)) && true) then
      bif (!((nB a) == (nB b))) then
        bif (nB a) then
          some (.sc (.int .i64 (-1)), [])
        else
          some (.sc (.int .i64 1), [])
      else
        bif ((((wB a).size : Nat) : Int) != (((wB b).size : Nat) : Int)) then
          bif (decide ((((wB a).size : Nat) : Int) < (((wB b).size : Nat) : Int))) then
            bif (nB a) then
              some (.sc (.int .i64 1), [])
            else
              some (.sc (.int .i64 (-1)), [])
          else
            bif (nB a) then
              some (.sc (.int .i64 (-1)), [])
            else
              some (.sc (.int .i64 1), [])
        else
          bif ((decide ((wB a).size ≤ 1000000000)) && true) then
            bif ((bwI (wB a) (wB b)) == 0) then
              bif ((decide ((pB a).size ≤ 1000000000)) && true) then
                bif (nB a) then
                  some (.sc (.int .i64 (IntKind.wrap .i64 (0 - (bwI (pB a) (pB b))))), [])
                else
                  some (.sc (.int .i64 (bwI (pB a) (pB b))), [])
              else none
            else
              bif (nB a) then
                some (.sc (.int .i64 (IntKind.wrap .i64 (0 - (bwI (wB a) (wB b))))), [])
              else
                some (.sc (.int .i64 (bwI (wB a) (wB b))), [])
          else none
    else none
  else none
theorem f49_run (a : ByteArray) (b : ByteArray) (z9 : V × List Rg) (h : f49 a b = some z9) : CallR C prim 49 [.sc (.string a), .sc (.string b)] [] z9 := by
  refine call_fn (K := K_f49) (T := T_f49) K_f49_ok T_f49_ok (by kernel_rfl) ?_
  refine Eq.trans ?_ h
  kernel_rfl

theorem f49_eq (a : ByteArray) (b : ByteArray) (hp : (decide (a.size ≤ 1000000000) && decide (b.size ≤ 1000000000)) = true) : f49 a b = some (.sc (.int .i64 (numI a b)), []) := by
  simp only [Bool.and_eq_true, decide_eq_true_eq] at hp
  have h1 := n3_one (wB a) (pB a) (wB b) (pB b)
  have b1 := bw_one (wB a) (wB b)
  have b2 := bw_one (pB a) (pB b)
  have l1 := wB_le a
  have l2 := pB_le a
  have e : n3 (wB a) (pB a) (wB b) (pB b) = bif cmpII (((wB a).size : Nat) : Int) (((wB b).size : Nat) : Int) != 0 then cmpII (((wB a).size : Nat) : Int) (((wB b).size : Nat) : Int) else bif bwI (wB a) (wB b) != 0 then bwI (wB a) (wB b) else bif bwI (pB a) (pB b) != 0 then bwI (pB a) (pB b) else 0 := rfl
  have e2 : (bif bwI (pB a) (pB b) != 0 then bwI (pB a) (pB b) else 0) = bwI (pB a) (pB b) := by
    cases h : bwI (pB a) (pB b) != 0 with
    | true => rfl
    | false =>
      have : bwI (pB a) (pB b) = 0 := by simpa using h
      rw [this]; rfl
  unfold f49 numI numC sgn
  rw [dec_true hp.1, dec_true hp.2, dec_true (show (wB a).size ≤ 1000000000 by omega), dec_true (show (pB a).size ≤ 1000000000 by omega), w_neg b1, w_neg b2, e, e2]
  unfold cmpII
  cases hn : nB a == nB b with
  | false => cases nB a <;> rfl
  | true =>
    by_cases hz : (((wB a).size : Nat) : Int) = (((wB b).size : Nat) : Int)
    · have hne : ((((wB a).size : Nat) : Int) != (((wB b).size : Nat) : Int)) = false := by rw [hz]; exact bne_self_eq_false _
      rw [hne, dec_false (show ¬ (((wB a).size : Nat) : Int) < (((wB b).size : Nat) : Int) by omega), dec_false (show ¬ (((wB a).size : Nat) : Int) > (((wB b).size : Nat) : Int) by omega)]
      by_cases hw : bwI (wB a) (wB b) = 0
      · rw [hw]
        cases nB a <;> rfl
      · have q1 : (bwI (wB a) (wB b) == 0) = false := beq_eq_false_iff_ne.2 hw
        have q2 : (bwI (wB a) (wB b) != 0) = true := bne_iff_ne.2 hw
        rw [q1, q2]
        cases nB a <;> rfl
    · have hne : ((((wB a).size : Nat) : Int) != (((wB b).size : Nat) : Int)) = true := bne_iff_ne.2 hz
      rw [hne]
      by_cases hlt : (((wB a).size : Nat) : Int) < (((wB b).size : Nat) : Int)
      · rw [dec_true hlt]
        cases nB a <;> rfl
      · rw [dec_false hlt, dec_true (show (((wB a).size : Nat) : Int) > (((wB b).size : Nat) : Int) by omega)]
        cases nB a <;> rfl
def k49 : PrimT := fun vs gs => match vs, gs with
  | [.sc (.string a), .sc (.string b)], [] => ((decide (a.size ≤ 1000000000) && decide (b.size ≤ 1000000000)), .sc (.int .i64 (numI a b)), [])
  | _, _ => (false, .bad, [])
theorem k49_ok : ∀ vs gs x, k49 vs gs = (true, x) → CallR C prim 49 vs gs x := by
  intro vs gs x h
  unfold k49 at h
  split at h
  · simp only [Prod.mk.injEq] at h
    obtain ⟨hp, rfl⟩ := h
    exact f49_run _ _ _ (f49_eq _ _ hp)
  · cases h

def K_f117 : CallK := kCons 87 k87 <| kCons 146 k146 <| kCons 147 k147 <| kNil
theorem K_f117_ok : KOK C prim K_f117 := KOK.cons k87_ok <| KOK.cons k146_ok <| KOK.cons k147_ok <| KOK.nil
def T_f117 : Tab := tNil
theorem T_f117_ok : TOK C prim 117 T_f117 := TOK.nil
def f117 (a0 : Bool) (a1 : ByteArray) (a2 : ByteArray) (b0 : Bool) (b1 : ByteArray) (b2 : ByteArray) : Option (V × List Rg) :=
  bif (!(a0 == b0)) then
    bif a0 then
      some (.sc (.int .i64 (-1)), [])
    else
      some (.sc (.int .i64 1), [])
  else
    bif ((([.sc (.int .i64 (cmpII ((a1.size : Nat) : Int) ((b1.size : Nat) : Int))), .sc (.int .i64 (bwI a1 b1)), .sc (.int .i64 (bwI a2 b2))] : List V).all (V.isInt .i64) && decide (([.sc (.int .i64 (cmpII ((a1.size : Nat) : Int) ((b1.size : Nat) : Int))), .sc (.int .i64 (bwI a1 b1)), .sc (.int .i64 (bwI a2 b2))] : List V).length ≤ 1000000000)) && true) then
      bif a0 then
        some (.sc (.int .i64 (IntKind.wrap .i64 (0 - (firstBy V.intOf ([.sc (.int .i64 (cmpII ((a1.size : Nat) : Int) ((b1.size : Nat) : Int))), .sc (.int .i64 (bwI a1 b1)), .sc (.int .i64 (bwI a2 b2))] : List V))))), [])
      else
        some (.sc (.int .i64 (firstBy V.intOf ([.sc (.int .i64 (cmpII ((a1.size : Nat) : Int) ((b1.size : Nat) : Int))), .sc (.int .i64 (bwI a1 b1)), .sc (.int .i64 (bwI a2 b2))] : List V))), [])
    else none
theorem f117_run (a0 : Bool) (a1 : ByteArray) (a2 : ByteArray) (b0 : Bool) (b1 : ByteArray) (b2 : ByteArray) (z9 : V × List Rg) (h : f117 a0 a1 a2 b0 b1 b2 = some z9) : CallR C prim 117 [.ag [.sc (.bool a0), .sc (.string a1), .sc (.string a2)], .ag [.sc (.bool b0), .sc (.string b1), .sc (.string b2)]] [] z9 := by
  refine call_fn (K := K_f117) (T := T_f117) K_f117_ok T_f117_ok (by kernel_rfl) ?_
  refine Eq.trans ?_ h
  kernel_rfl

theorem f117_eq (a0 : Bool) (a1 : ByteArray) (a2 : ByteArray) (b0 : Bool) (b1 : ByteArray) (b2 : ByteArray) : f117 a0 a1 a2 b0 b1 b2 = some (.sc (.int .i64 (numC a0 a1 a2 b0 b1 b2)), []) := by
  have h1 := n3_one a1 a2 b1 b2
  have e : ∀ x : Int, x = firstBy V.intOf ([.sc (.int .i64 (cmpII ((a1.size : Nat) : Int) ((b1.size : Nat) : Int))), .sc (.int .i64 (bwI a1 b1)), .sc (.int .i64 (bwI a2 b2))] : List V) → x = n3 a1 a2 b1 b2 := fun x h => h
  have e' : firstBy V.intOf ([.sc (.int .i64 (cmpII ((a1.size : Nat) : Int) ((b1.size : Nat) : Int))), .sc (.int .i64 (bwI a1 b1)), .sc (.int .i64 (bwI a2 b2))] : List V) = n3 a1 a2 b1 b2 := rfl
  unfold f117 numC sgn
  rw [e', w_neg h1]
  cases a0 <;> cases b0 <;> rfl
def k117 : PrimT := fun vs gs => match vs, gs with
  | [.ag [.sc (.bool a0), .sc (.string a1), .sc (.string a2)], .ag [.sc (.bool b0), .sc (.string b1), .sc (.string b2)]], [] => (true, .sc (.int .i64 (numC a0 a1 a2 b0 b1 b2)), [])
  | _, _ => (false, .bad, [])
theorem k117_ok : ∀ vs gs x, k117 vs gs = (true, x) → CallR C prim 117 vs gs x := by
  intro vs gs x h
  unfold k117 at h
  split at h
  · simp only [Prod.mk.injEq, true_and] at h
    subst h
    exact f117_run _ _ _ _ _ _ _ (f117_eq _ _ _ _ _ _)
  · cases h

def K_f86_l0 : CallK := kCons 87 k87 <| kCons 116 k116 <| kCons 117 k117 <| kCons 118 k118 <| kCons 119 k119 <| kNil
theorem K_f86_l0_ok : KOK C prim K_f86_l0 := KOK.cons k87_ok <| KOK.cons k116_ok <| KOK.cons k117_ok <| KOK.cons k118_ok <| KOK.cons k119_ok <| KOK.nil
def T_f86_l0 : Tab := tNil
theorem T_f86_l0_ok : TOK C prim 86 T_f86_l0 := TOK.nil
def f86_l0 : Nat → ByteArray → ByteArray → List V → Int → Int → ByteArray → List V → Bool → Bool → Bool → (R : Type) → (Ex → St → Option R) → Option R
  | 0, _, _, _, _, _, _, _, _, _, _, _, _ => none
  | n + 1, a, b, v14, v15, v16, o0, o1, o2, o3, o4, R, κ =>
    bif (decide (v16 < v15)) then
      bif (((decide ((0 : Int) ≤ v16)) && (decide (v16 < (((lenE 8 v14.length) : Nat) : Int)))) && true) then
        bif (((V.isInt .i64 (nthV v14 (((v16).toNat * 8) + 0))) && ((V.isInt .i64 (nthV v14 (((v16).toNat * 8) + 1))) && ((V.isInt .i64 (nthV v14 (((v16).toNat * 8) + 2))) && ((V.isInt .i64 (nthV v14 (((v16).toNat * 8) + 3))) && ((V.isBool (nthV v14 (((v16).toNat * 8) + 4))) && ((V.isBool (nthV v14 (((v16).toNat * 8) + 5))) && ((V.isBool (nthV v14 (((v16).toNat * 8) + 6))) && ((V.isBool (nthV v14 (((v16).toNat * 8) + 7))) && true)))))))) && true) then
          bif ((okKey (V.intOf (nthV v14 (((v16).toNat * 8) + 0))) (V.intOf (nthV v14 (((v16).toNat * 8) + 1))) (V.intOf (nthV v14 (((v16).toNat * 8) + 2))) (V.intOf (nthV v14 (((v16).toNat * 8) + 3))) && decide (a.size ≤ 1000000000)) && true) then
            bif ((okKey (V.intOf (nthV v14 (((v16).toNat * 8) + 0))) (V.intOf (nthV v14 (((v16).toNat * 8) + 1))) (V.intOf (nthV v14 (((v16).toNat * 8) + 2))) (V.intOf (nthV v14 (((v16).toNat * 8) + 3))) && decide (b.size ≤ 1000000000)) && true) then
              bif (V.boolOf (nthV v14 (((v16).toNat * 8) + 4))) then
                bif ((decide ((keyB a o0 (V.intOf (nthV v14 (((v16).toNat * 8) + 0))) (V.intOf (nthV v14 (((v16).toNat * 8) + 1))) (V.intOf (nthV v14 (((v16).toNat * 8) + 2))) (V.intOf (nthV v14 (((v16).toNat * 8) + 3))) (V.boolOf (nthV v14 (((v16).toNat * 8) + 7)))).size ≤ 1000000000)) && true) then
                  bif ((decide ((keyB b o0 (V.intOf (nthV v14 (((v16).toNat * 8) + 0))) (V.intOf (nthV v14 (((v16).toNat * 8) + 1))) (V.intOf (nthV v14 (((v16).toNat * 8) + 2))) (V.intOf (nthV v14 (((v16).toNat * 8) + 3))) (V.boolOf (nthV v14 (((v16).toNat * 8) + 7)))).size ≤ 1000000000)) && true) then
                    bif (V.boolOf (nthV v14 (((v16).toNat * 8) + 5))) then
                      bif ((IntKind.wrap .i64 (0 - (numC (nB (keyB a o0 (V.intOf (nthV v14 (((v16).toNat * 8) + 0))) (V.intOf (nthV v14 (((v16).toNat * 8) + 1))) (V.intOf (nthV v14 (((v16).toNat * 8) + 2))) (V.intOf (nthV v14 (((v16).toNat * 8) + 3))) (V.boolOf (nthV v14 (((v16).toNat * 8) + 7))))) (wB (keyB a o0 (V.intOf (nthV v14 (((v16).toNat * 8) + 0))) (V.intOf (nthV v14 (((v16).toNat * 8) + 1))) (V.intOf (nthV v14 (((v16).toNat * 8) + 2))) (V.intOf (nthV v14 (((v16).toNat * 8) + 3))) (V.boolOf (nthV v14 (((v16).toNat * 8) + 7))))) (pB (keyB a o0 (V.intOf (nthV v14 (((v16).toNat * 8) + 0))) (V.intOf (nthV v14 (((v16).toNat * 8) + 1))) (V.intOf (nthV v14 (((v16).toNat * 8) + 2))) (V.intOf (nthV v14 (((v16).toNat * 8) + 3))) (V.boolOf (nthV v14 (((v16).toNat * 8) + 7))))) (nB (keyB b o0 (V.intOf (nthV v14 (((v16).toNat * 8) + 0))) (V.intOf (nthV v14 (((v16).toNat * 8) + 1))) (V.intOf (nthV v14 (((v16).toNat * 8) + 2))) (V.intOf (nthV v14 (((v16).toNat * 8) + 3))) (V.boolOf (nthV v14 (((v16).toNat * 8) + 7))))) (wB (keyB b o0 (V.intOf (nthV v14 (((v16).toNat * 8) + 0))) (V.intOf (nthV v14 (((v16).toNat * 8) + 1))) (V.intOf (nthV v14 (((v16).toNat * 8) + 2))) (V.intOf (nthV v14 (((v16).toNat * 8) + 3))) (V.boolOf (nthV v14 (((v16).toNat * 8) + 7))))) (pB (keyB b o0 (V.intOf (nthV v14 (((v16).toNat * 8) + 0))) (V.intOf (nthV v14 (((v16).toNat * 8) + 1))) (V.intOf (nthV v14 (((v16).toNat * 8) + 2))) (V.intOf (nthV v14 (((v16).toNat * 8) + 3))) (V.boolOf (nthV v14 (((v16).toNat * 8) + 7)))))))) != 0) then
                        κ .rt (mkS [(6, .sc (.int .i64 (IntKind.wrap .i64 (0 - (numC (nB (keyB a o0 (V.intOf (nthV v14 (((v16).toNat * 8) + 0))) (V.intOf (nthV v14 (((v16).toNat * 8) + 1))) (V.intOf (nthV v14 (((v16).toNat * 8) + 2))) (V.intOf (nthV v14 (((v16).toNat * 8) + 3))) (V.boolOf (nthV v14 (((v16).toNat * 8) + 7))))) (wB (keyB a o0 (V.intOf (nthV v14 (((v16).toNat * 8) + 0))) (V.intOf (nthV v14 (((v16).toNat * 8) + 1))) (V.intOf (nthV v14 (((v16).toNat * 8) + 2))) (V.intOf (nthV v14 (((v16).toNat * 8) + 3))) (V.boolOf (nthV v14 (((v16).toNat * 8) + 7))))) (pB (keyB a o0 (V.intOf (nthV v14 (((v16).toNat * 8) + 0))) (V.intOf (nthV v14 (((v16).toNat * 8) + 1))) (V.intOf (nthV v14 (((v16).toNat * 8) + 2))) (V.intOf (nthV v14 (((v16).toNat * 8) + 3))) (V.boolOf (nthV v14 (((v16).toNat * 8) + 7))))) (nB (keyB b o0 (V.intOf (nthV v14 (((v16).toNat * 8) + 0))) (V.intOf (nthV v14 (((v16).toNat * 8) + 1))) (V.intOf (nthV v14 (((v16).toNat * 8) + 2))) (V.intOf (nthV v14 (((v16).toNat * 8) + 3))) (V.boolOf (nthV v14 (((v16).toNat * 8) + 7))))) (wB (keyB b o0 (V.intOf (nthV v14 (((v16).toNat * 8) + 0))) (V.intOf (nthV v14 (((v16).toNat * 8) + 1))) (V.intOf (nthV v14 (((v16).toNat * 8) + 2))) (V.intOf (nthV v14 (((v16).toNat * 8) + 3))) (V.boolOf (nthV v14 (((v16).toNat * 8) + 7))))) (pB (keyB b o0 (V.intOf (nthV v14 (((v16).toNat * 8) + 0))) (V.intOf (nthV v14 (((v16).toNat * 8) + 1))) (V.intOf (nthV v14 (((v16).toNat * 8) + 2))) (V.intOf (nthV v14 (((v16).toNat * 8) + 3))) (V.boolOf (nthV v14 (((v16).toNat * 8) + 7))))))))))] [])
                      else
                        f86_l0 n a b v14 v15 (IntKind.wrap .i64 (v16 + 1)) o0 o1 o2 o3 o4 R κ
                    else
                      bif ((numC (nB (keyB a o0 (V.intOf (nthV v14 (((v16).toNat * 8) + 0))) (V.intOf (nthV v14 (((v16).toNat * 8) + 1))) (V.intOf (nthV v14 (((v16).toNat * 8) + 2))) (V.intOf (nthV v14 (((v16).toNat * 8) + 3))) (V.boolOf (nthV v14 (((v16).toNat * 8) + 7))))) (wB (keyB a o0 (V.intOf (nthV v14 (((v16).toNat * 8) + 0))) (V.intOf (nthV v14 (((v16).toNat * 8) + 1))) (V.intOf (nthV v14 (((v16).toNat * 8) + 2))) (V.intOf (nthV v14 (((v16).toNat * 8) + 3))) (V.boolOf (nthV v14 (((v16).toNat * 8) + 7))))) (pB (keyB a o0 (V.intOf (nthV v14 (((v16).toNat * 8) + 0))) (V.intOf (nthV v14 (((v16).toNat * 8) + 1))) (V.intOf (nthV v14 (((v16).toNat * 8) + 2))) (V.intOf (nthV v14 (((v16).toNat * 8) + 3))) (V.boolOf (nthV v14 (((v16).toNat * 8) + 7))))) (nB (keyB b o0 (V.intOf (nthV v14 (((v16).toNat * 8) + 0))) (V.intOf (nthV v14 (((v16).toNat * 8) + 1))) (V.intOf (nthV v14 (((v16).toNat * 8) + 2))) (V.intOf (nthV v14 (((v16).toNat * 8) + 3))) (V.boolOf (nthV v14 (((v16).toNat * 8) + 7))))) (wB (keyB b o0 (V.intOf (nthV v14 (((v16).toNat * 8) + 0))) (V.intOf (nthV v14 (((v16).toNat * 8) + 1))) (V.intOf (nthV v14 (((v16).toNat * 8) + 2))) (V.intOf (nthV v14 (((v16).toNat * 8) + 3))) (V.boolOf (nthV v14 (((v16).toNat * 8) + 7))))) (pB (keyB b o0 (V.intOf (nthV v14 (((v16).toNat * 8) + 0))) (V.intOf (nthV v14 (((v16).toNat * 8) + 1))) (V.intOf (nthV v14 (((v16).toNat * 8) + 2))) (V.intOf (nthV v14 (((v16).toNat * 8) + 3))) (V.boolOf (nthV v14 (((v16).toNat * 8) + 7)))))) != 0) then
                        κ .rt (mkS [(6, .sc (.int .i64 (numC (nB (keyB a o0 (V.intOf (nthV v14 (((v16).toNat * 8) + 0))) (V.intOf (nthV v14 (((v16).toNat * 8) + 1))) (V.intOf (nthV v14 (((v16).toNat * 8) + 2))) (V.intOf (nthV v14 (((v16).toNat * 8) + 3))) (V.boolOf (nthV v14 (((v16).toNat * 8) + 7))))) (wB (keyB a o0 (V.intOf (nthV v14 (((v16).toNat * 8) + 0))) (V.intOf (nthV v14 (((v16).toNat * 8) + 1))) (V.intOf (nthV v14 (((v16).toNat * 8) + 2))) (V.intOf (nthV v14 (((v16).toNat * 8) + 3))) (V.boolOf (nthV v14 (((v16).toNat * 8) + 7))))) (pB (keyB a o0 (V.intOf (nthV v14 (((v16).toNat * 8) + 0))) (V.intOf (nthV v14 (((v16).toNat * 8) + 1))) (V.intOf (nthV v14 (((v16).toNat * 8) + 2))) (V.intOf (nthV v14 (((v16).toNat * 8) + 3))) (V.boolOf (nthV v14 (((v16).toNat * 8) + 7))))) (nB (keyB b o0 (V.intOf (nthV v14 (((v16).toNat * 8) + 0))) (V.intOf (nthV v14 (((v16).toNat * 8) + 1))) (V.intOf (nthV v14 (((v16).toNat * 8) + 2))) (V.intOf (nthV v14 (((v16).toNat * 8) + 3))) (V.boolOf (nthV v14 (((v16).toNat * 8) + 7))))) (wB (keyB b o0 (V.intOf (nthV v14 (((v16).toNat * 8) + 0))) (V.intOf (nthV v14 (((v16).toNat * 8) + 1))) (V.intOf (nthV v14 (((v16).toNat * 8) + 2))) (V.intOf (nthV v14 (((v16).toNat * 8) + 3))) (V.boolOf (nthV v14 (((v16).toNat * 8) + 7))))) (pB (keyB b o0 (V.intOf (nthV v14 (((v16).toNat * 8) + 0))) (V.intOf (nthV v14 (((v16).toNat * 8) + 1))) (V.intOf (nthV v14 (((v16).toNat * 8) + 2))) (V.intOf (nthV v14 (((v16).toNat * 8) + 3))) (V.boolOf (nthV v14 (((v16).toNat * 8) + 7))))))))] [])
                      else
                        f86_l0 n a b v14 v15 (IntKind.wrap .i64 (v16 + 1)) o0 o1 o2 o3 o4 R κ
                  else none
                else none
              else
                bif (V.boolOf (nthV v14 (((v16).toNat * 8) + 6))) then
                  bif ((decide ((keyB a o0 (V.intOf (nthV v14 (((v16).toNat * 8) + 0))) (V.intOf (nthV v14 (((v16).toNat * 8) + 1))) (V.intOf (nthV v14 (((v16).toNat * 8) + 2))) (V.intOf (nthV v14 (((v16).toNat * 8) + 3))) (V.boolOf (nthV v14 (((v16).toNat * 8) + 7)))).size ≤ 1000000000)) && true) then
                    bif ((decide ((keyB b o0 (V.intOf (nthV v14 (((v16).toNat * 8) + 0))) (V.intOf (nthV v14 (((v16).toNat * 8) + 1))) (V.intOf (nthV v14 (((v16).toNat * 8) + 2))) (V.intOf (nthV v14 (((v16).toNat * 8) + 3))) (V.boolOf (nthV v14 (((v16).toNat * 8) + 7)))).size ≤ 1000000000)) && true) then
                      bif (V.boolOf (nthV v14 (((v16).toNat * 8) + 5))) then
                        bif ((IntKind.wrap .i64 (0 - (bwI (capB (keyB a o0 (V.intOf (nthV v14 (((v16).toNat * 8) + 0))) (V.intOf (nthV v14 (((v16).toNat * 8) + 1))) (V.intOf (nthV v14 (((v16).toNat * 8) + 2))) (V.intOf (nthV v14 (((v16).toNat * 8) + 3))) (V.boolOf (nthV v14 (((v16).toNat * 8) + 7))))) (capB (keyB b o0 (V.intOf (nthV v14 (((v16).toNat * 8) + 0))) (V.intOf (nthV v14 (((v16).toNat * 8) + 1))) (V.intOf (nthV v14 (((v16).toNat * 8) + 2))) (V.intOf (nthV v14 (((v16).toNat * 8) + 3))) (V.boolOf (nthV v14 (((v16).toNat * 8) + 7)))))))) != 0) then
                          κ .rt (mkS [(6, .sc (.int .i64 (IntKind.wrap .i64 (0 - (bwI (capB (keyB a o0 (V.intOf (nthV v14 (((v16).toNat * 8) + 0))) (V.intOf (nthV v14 (((v16).toNat * 8) + 1))) (V.intOf (nthV v14 (((v16).toNat * 8) + 2))) (V.intOf (nthV v14 (((v16).toNat * 8) + 3))) (V.boolOf (nthV v14 (((v16).toNat * 8) + 7))))) (capB (keyB b o0 (V.intOf (nthV v14 (((v16).toNat * 8) + 0))) (V.intOf (nthV v14 (((v16).toNat * 8) + 1))) (V.intOf (nthV v14 (((v16).toNat * 8) + 2))) (V.intOf (nthV v14 (((v16).toNat * 8) + 3))) (V.boolOf (nthV v14 (((v16).toNat * 8) + 7))))))))))] [])
                        else
                          f86_l0 n a b v14 v15 (IntKind.wrap .i64 (v16 + 1)) o0 o1 o2 o3 o4 R κ
                      else
                        bif ((bwI (capB (keyB a o0 (V.intOf (nthV v14 (((v16).toNat * 8) + 0))) (V.intOf (nthV v14 (((v16).toNat * 8) + 1))) (V.intOf (nthV v14 (((v16).toNat * 8) + 2))) (V.intOf (nthV v14 (((v16).toNat * 8) + 3))) (V.boolOf (nthV v14 (((v16).toNat * 8) + 7))))) (capB (keyB b o0 (V.intOf (nthV v14 (((v16).toNat * 8) + 0))) (V.intOf (nthV v14 (((v16).toNat * 8) + 1))) (V.intOf (nthV v14 (((v16).toNat * 8) + 2))) (V.intOf (nthV v14 (((v16).toNat * 8) + 3))) (V.boolOf (nthV v14 (((v16).toNat * 8) + 7)))))) != 0) then
                          κ .rt (mkS [(6, .sc (.int .i64 (bwI (capB (keyB a o0 (V.intOf (nthV v14 (((v16).toNat * 8) + 0))) (V.intOf (nthV v14 (((v16).toNat * 8) + 1))) (V.intOf (nthV v14 (((v16).toNat * 8) + 2))) (V.intOf (nthV v14 (((v16).toNat * 8) + 3))) (V.boolOf (nthV v14 (((v16).toNat * 8) + 7))))) (capB (keyB b o0 (V.intOf (nthV v14 (((v16).toNat * 8) + 0))) (V.intOf (nthV v14 (((v16).toNat * 8) + 1))) (V.intOf (nthV v14 (((v16).toNat * 8) + 2))) (V.intOf (nthV v14 (((v16).toNat * 8) + 3))) (V.boolOf (nthV v14 (((v16).toNat * 8) + 7))))))))] [])
                        else
                          f86_l0 n a b v14 v15 (IntKind.wrap .i64 (v16 + 1)) o0 o1 o2 o3 o4 R κ
                    else none
                  else none
                else
                  bif (V.boolOf (nthV v14 (((v16).toNat * 8) + 5))) then
                    bif ((IntKind.wrap .i64 (0 - (bwI (keyB a o0 (V.intOf (nthV v14 (((v16).toNat * 8) + 0))) (V.intOf (nthV v14 (((v16).toNat * 8) + 1))) (V.intOf (nthV v14 (((v16).toNat * 8) + 2))) (V.intOf (nthV v14 (((v16).toNat * 8) + 3))) (V.boolOf (nthV v14 (((v16).toNat * 8) + 7)))) (keyB b o0 (V.intOf (nthV v14 (((v16).toNat * 8) + 0))) (V.intOf (nthV v14 (((v16).toNat * 8) + 1))) (V.intOf (nthV v14 (((v16).toNat * 8) + 2))) (V.intOf (nthV v14 (((v16).toNat * 8) + 3))) (V.boolOf (nthV v14 (((v16).toNat * 8) + 7))))))) != 0) then
                      κ .rt (mkS [(6, .sc (.int .i64 (IntKind.wrap .i64 (0 - (bwI (keyB a o0 (V.intOf (nthV v14 (((v16).toNat * 8) + 0))) (V.intOf (nthV v14 (((v16).toNat * 8) + 1))) (V.intOf (nthV v14 (((v16).toNat * 8) + 2))) (V.intOf (nthV v14 (((v16).toNat * 8) + 3))) (V.boolOf (nthV v14 (((v16).toNat * 8) + 7)))) (keyB b o0 (V.intOf (nthV v14 (((v16).toNat * 8) + 0))) (V.intOf (nthV v14 (((v16).toNat * 8) + 1))) (V.intOf (nthV v14 (((v16).toNat * 8) + 2))) (V.intOf (nthV v14 (((v16).toNat * 8) + 3))) (V.boolOf (nthV v14 (((v16).toNat * 8) + 7)))))))))] [])
                    else
                      f86_l0 n a b v14 v15 (IntKind.wrap .i64 (v16 + 1)) o0 o1 o2 o3 o4 R κ
                  else
                    bif ((bwI (keyB a o0 (V.intOf (nthV v14 (((v16).toNat * 8) + 0))) (V.intOf (nthV v14 (((v16).toNat * 8) + 1))) (V.intOf (nthV v14 (((v16).toNat * 8) + 2))) (V.intOf (nthV v14 (((v16).toNat * 8) + 3))) (V.boolOf (nthV v14 (((v16).toNat * 8) + 7)))) (keyB b o0 (V.intOf (nthV v14 (((v16).toNat * 8) + 0))) (V.intOf (nthV v14 (((v16).toNat * 8) + 1))) (V.intOf (nthV v14 (((v16).toNat * 8) + 2))) (V.intOf (nthV v14 (((v16).toNat * 8) + 3))) (V.boolOf (nthV v14 (((v16).toNat * 8) + 7))))) != 0) then
                      κ .rt (mkS [(6, .sc (.int .i64 (bwI (keyB a o0 (V.intOf (nthV v14 (((v16).toNat * 8) + 0))) (V.intOf (nthV v14 (((v16).toNat * 8) + 1))) (V.intOf (nthV v14 (((v16).toNat * 8) + 2))) (V.intOf (nthV v14 (((v16).toNat * 8) + 3))) (V.boolOf (nthV v14 (((v16).toNat * 8) + 7)))) (keyB b o0 (V.intOf (nthV v14 (((v16).toNat * 8) + 0))) (V.intOf (nthV v14 (((v16).toNat * 8) + 1))) (V.intOf (nthV v14 (((v16).toNat * 8) + 2))) (V.intOf (nthV v14 (((v16).toNat * 8) + 3))) (V.boolOf (nthV v14 (((v16).toNat * 8) + 7)))))))] [])
                    else
                      f86_l0 n a b v14 v15 (IntKind.wrap .i64 (v16 + 1)) o0 o1 o2 o3 o4 R κ
            else none
          else none
        else none
      else none
    else
      κ (.ex 0) (mkS [(6, .bad)] [])
def f86_l0_ls : List (Nat × Pat) := [(1, .s), (2, .s), (3, .is (.ptrB (.loc 3) 0)), (14, .sl 8), (15, .i .i64), (16, .i .i64)]
def f86_l0_rs : List RPat := [⟨.loc 3, true, [.s, .sl 8, .b, .b, .b]⟩]
theorem f86_l0_ok (n : Nat) : ∀ (a : ByteArray) (b : ByteArray) (v14 : List V) (v15 : Int) (v16 : Int) (o0 : ByteArray) (o1 : List V) (o2 : Bool) (o3 : Bool) (o4 : Bool) (R : Type) (κ : Ex → St → Option R) (r : R), f86_l0 n a b v14 v15 v16 o0 o1 o2 o3 o4 R κ = some r → ∃ ee ss, κ ee ss = some r ∧ RunP C prim 86 [0, 1, 0, 1] (mkS [(1, .sc (.string a)), (2, .sc (.string b)), (3, .ptrB (.loc 3) 0), (14, .sl 8 v14), (15, .sc (.int .i64 v15)), (16, .sc (.int .i64 v16))] [(.loc 3, some ⟨true, [.sc (.string o0), .sl 8 o1, .sc (.bool o2), .sc (.bool o3), .sc (.bool o4)]⟩)]) ee ss := by
  induction n with
  | zero => intro a b v14 v15 v16 o0 o1 o2 o3 o4 R κ r h; cases h
  | succ n ih =>
    intro a b v14 v15 v16 o0 o1 o2 o3 o4 R κ r h
    refine loop_round (K := K_f86_l0) (T := T_f86_l0) K_f86_l0_ok T_f86_l0_ok (p := [0, 1, 0, 1]) (by kernel_rfl) (fun st => bif ckS f86_l0_ls f86_l0_rs st then f86_l0 n ((st.env 1).strOf) ((st.env 2).strOf) ((st.env 14).cellsOf) ((st.env 15).intOf) ((st.env 16).intOf) ((nthV (rowOf (st.regs (.loc 3))) 0).strOf) ((nthV (rowOf (st.regs (.loc 3))) 1).cellsOf) ((nthV (rowOf (st.regs (.loc 3))) 2).boolOf) ((nthV (rowOf (st.regs (.loc 3))) 3).boolOf) ((nthV (rowOf (st.regs (.loc 3))) 4).boolOf) R κ else none) (fun st0 h0 => ?_) ?_
    · obtain ⟨hs, h0⟩ := cond_some h0
      rw [canon (ls := f86_l0_ls) (rs := f86_l0_rs) (by kernel_rfl) st0 hs]
      exact ih _ _ _ _ _ _ _ _ _ _ R κ r h0
    · refine Eq.trans ?_ h
      kernel_rfl

def f86_s0 (a : ByteArray) (b : ByteArray) (v14 : List V) (v15 : Int) (v16 : Int) (o0 : ByteArray) (o1 : List V) (o2 : Bool) (o3 : Bool) (o4 : Bool) (R : Type) (κ : Ex → St → Option R) : Option R :=
  bif (keysI v14 o0 a b != 0) then
    κ .rt (mkS [(6, .sc (.int .i64 (keysI v14 o0 a b)))] [])
  else
    κ (.ex 0) (mkS [(6, .bad)] [])
theorem pick {α : Type} (x y : Int) (A : Int → α) (B : α) : (bif x != 0 then A x else (bif y != 0 then A y else B)) = (bif (bif x != 0 then x else y) != 0 then A (bif x != 0 then x else y) else B) := by
  cases h : x != 0 with
  | true => simp only [cond_true, h]
  | false => rfl
theorem f86_loop (l : List V) (sep a b : ByteArray) (o1 : List V) (o2 o3 o4 : Bool) (hl : okKeys l = true) (hg : badKeys l = false) (hn : l.length ≤ 1000000000) (ha : a.size ≤ 1000000000) (hb : b.size ≤ 1000000000) (R : Type) (κ : Ex → St → Option R) : ∀ (k i : Nat), i + k = lenE 8 l.length →
    f86_l0 (k + 1) a b l ((lenE 8 l.length : Nat) : Int) ((i : Nat) : Int) sep o1 o2 o3 o4 R κ = bif firstF (kC l sep a b) k i != 0 then (κ .rt (mkS [(6, .sc (.int .i64 (firstF (kC l sep a b) k i)))] [])) else κ (.ex 0) (mkS [(6, .bad)] [])
  | 0, i, h => by
    rw [f86_l0, dec_false (by omega)]
    rfl
  | k + 1, i, h => by
    have hle : lenE 8 l.length = l.length / 8 := rfl
    have ok := okK_at hl (show i < lenE 8 l.length by omega)
    have gk : goodK l i = true := allF_at (k := lenE 8 l.length) (i := 0) (by unfold badKeys at hg; simpa using hg) i (Nat.zero_le _) (by omega)
    have ka : keyB a sep (V.intOf (nthV l (i * 8 + 0))) (V.intOf (nthV l (i * 8 + 1))) (V.intOf (nthV l (i * 8 + 2))) (V.intOf (nthV l (i * 8 + 3))) (V.boolOf (nthV l (i * 8 + 7))) = kX l sep a i := rfl
    have kb : keyB b sep (V.intOf (nthV l (i * 8 + 0))) (V.intOf (nthV l (i * 8 + 1))) (V.intOf (nthV l (i * 8 + 2))) (V.intOf (nthV l (i * 8 + 3))) (V.boolOf (nthV l (i * 8 + 7))) = kX l sep b i := rfl
    have sa : (kX l sep a i).size ≤ 1000000000 := Nat.le_trans (keyB_le _ _ _ _ _ _ _) ha
    have sb : (kX l sep b i).size ≤ 1000000000 := Nat.le_trans (keyB_le _ _ _ _ _ _ _) hb
    have ca := capB_size (kX l sep a i)
    have ni : numC (nB (kX l sep a i)) (wB (kX l sep a i)) (pB (kX l sep a i)) (nB (kX l sep b i)) (wB (kX l sep b i)) (pB (kX l sep b i)) = numI (kX l sep a i) (kX l sep b i) := rfl
    have w1 := w_neg (numI_one (kX l sep a i) (kX l sep b i))
    have w2 := w_neg (bw_one (capB (kX l sep a i)) (capB (kX l sep b i)))
    have w3 := w_neg (bw_one (kX l sep a i) (kX l sep b i))
    unfold okK at ok
    unfold goodK kI at gk
    rw [f86_l0, dec_true (show ((i : Nat) : Int) < ((lenE 8 l.length : Nat) : Int) by omega), dec_true (show (0 : Int) ≤ ((i : Nat) : Int) by omega), Int.toNat_natCast, ok, gk, dec_true ha, dec_true hb, wrap_succ (by omega), f86_loop l sep a b o1 o2 o3 o4 hl hg hn ha hb R κ k (i + 1) (by omega), ka, kb, firstF]
    simp only [dec_true sa, dec_true sb, dec_true (show (capB (kX l sep a i)).size ≤ 1000000000 by omega), ni, w1, w2, w3]
    have key : ∀ X : Int, kC l sep a b i = X → (bif X != 0 then (κ .rt (mkS [(6, .sc (.int .i64 X))] [])) else bif firstF (kC l sep a b) k (i + 1) != 0 then (κ .rt (mkS [(6, .sc (.int .i64 (firstF (kC l sep a b) k (i + 1))))] [])) else κ (.ex 0) (mkS [(6, .bad)] [])) = bif (bif kC l sep a b i != 0 then kC l sep a b i else firstF (kC l sep a b) k (i + 1)) != 0 then (κ .rt (mkS [(6, .sc (.int .i64 (bif kC l sep a b i != 0 then kC l sep a b i else firstF (kC l sep a b) k (i + 1))))] [])) else κ (.ex 0) (mkS [(6, .bad)] []) := by
      intro X hX
      rw [hX]
      exact pick X _ (fun z => κ .rt (mkS [(6, .sc (.int .i64 z))] [])) _
    cases h4 : V.boolOf (nthV l (i * 8 + 4)) with
    | true =>
      cases h5 : V.boolOf (nthV l (i * 8 + 5)) with
      | true => exact key (0 - numI (kX l sep a i) (kX l sep b i)) (by unfold kC sgn kB; rw [h4, h5]; rfl)
      | false => exact key (numI (kX l sep a i) (kX l sep b i)) (by unfold kC sgn kB; rw [h4, h5]; rfl)
    | false =>
      cases h6 : V.boolOf (nthV l (i * 8 + 6)) with
      | true =>
        cases h5 : V.boolOf (nthV l (i * 8 + 5)) with
        | true => exact key (0 - bwI (capB (kX l sep a i)) (capB (kX l sep b i))) (by unfold kC sgn kB; rw [h4, h5, h6]; rfl)
        | false => exact key (bwI (capB (kX l sep a i)) (capB (kX l sep b i))) (by unfold kC sgn kB; rw [h4, h5, h6]; rfl)
      | false =>
        cases h5 : V.boolOf (nthV l (i * 8 + 5)) with
        | true => exact key (0 - bwI (kX l sep a i) (kX l sep b i)) (by unfold kC sgn kB; rw [h4, h5, h6]; rfl)
        | false => exact key (bwI (kX l sep a i) (kX l sep b i)) (by unfold kC sgn kB; rw [h4, h5, h6]; rfl)
theorem f86_s0_eq (a : ByteArray) (b : ByteArray) (v14 : List V) (v15 : Int) (v16 : Int) (o0 : ByteArray) (o1 : List V) (o2 : Bool) (o3 : Bool) (o4 : Bool) (hp : ((v15 == ((lenE 8 v14.length : Nat) : Int)) && (v16 == 0) && okKeys v14 && !(badKeys v14) && decide (v14.length ≤ 1000000000) && decide (a.size ≤ 1000000000) && decide (b.size ≤ 1000000000)) = true) : ∃ n, ∀ (R : Type) (κ : Ex → St → Option R), f86_l0 n a b v14 v15 v16 o0 o1 o2 o3 o4 R κ = f86_s0 a b v14 v15 v16 o0 o1 o2 o3 o4 R κ := by
  simp only [Bool.and_eq_true, decide_eq_true_eq, beq_iff_eq, Bool.not_eq_true'] at hp
  obtain ⟨⟨⟨⟨⟨⟨rfl, rfl⟩, h3⟩, h4⟩, h5⟩, h6⟩, h7⟩ := hp
  exact ⟨lenE 8 v14.length + 1, fun R κ => f86_loop v14 o0 a b o1 o2 o3 o4 h3 h4 h5 h6 h7 R κ (lenE 8 v14.length) 0 (by omega)⟩
def t_f86_l0 (st : St) (R : Type) (κ : Ex → St → Option R) : Option R := bif ckS f86_l0_ls f86_l0_rs st then (bif ((((st.env 15).intOf) == ((lenE 8 ((st.env 14).cellsOf).length : Nat) : Int)) && (((st.env 16).intOf) == 0) && okKeys ((st.env 14).cellsOf) && !(badKeys ((st.env 14).cellsOf)) && decide (((st.env 14).cellsOf).length ≤ 1000000000) && decide (((st.env 1).strOf).size ≤ 1000000000) && decide (((st.env 2).strOf).size ≤ 1000000000)) then f86_s0 ((st.env 1).strOf) ((st.env 2).strOf) ((st.env 14).cellsOf) ((st.env 15).intOf) ((st.env 16).intOf) ((nthV (rowOf (st.regs (.loc 3))) 0).strOf) ((nthV (rowOf (st.regs (.loc 3))) 1).cellsOf) ((nthV (rowOf (st.regs (.loc 3))) 2).boolOf) ((nthV (rowOf (st.regs (.loc 3))) 3).boolOf) ((nthV (rowOf (st.regs (.loc 3))) 4).boolOf) R κ else none) else none
theorem t_f86_l0_ok : ∀ st0 R κ r, t_f86_l0 (forget C 86 [0, 1, 0, 1] st0) R κ = some r → ∃ ee ss, κ ee ss = some r ∧ RunP C prim 86 [0, 1, 0, 1] (forget C 86 [0, 1, 0, 1] st0) ee ss := by
  intro st0 R κ r h
  obtain ⟨hs, h⟩ := cond_some h
  obtain ⟨hp, h⟩ := cond_some h
  rw [canon (ls := f86_l0_ls) (rs := f86_l0_rs) (by kernel_rfl) st0 hs]
  obtain ⟨n, hn⟩ := f86_s0_eq _ _ _ _ _ _ _ _ _ _ hp
  rw [← hn] at h
  exact f86_l0_ok n _ _ _ _ _ _ _ _ _ _ R κ r h

def K_f86 : CallK := kNil
theorem K_f86_ok : KOK C prim K_f86 := KOK.nil
def T_f86 : Tab := tCons [0, 1, 0, 1] t_f86_l0 <| tNil
theorem T_f86_ok : TOK C prim 86 T_f86 := TOK.cons t_f86_l0_ok <| TOK.nil
def f86 (o0 : ByteArray) (o1 : List V) (o2 : Bool) (o3 : Bool) (o4 : Bool) (a : ByteArray) (b : ByteArray) : Option (V × List Rg) :=
  bif (((((lenE 8 o1.length) : Nat) : Int) == ((lenE 8 o1.length : Nat) : Int)) && ((0 : Int) == 0) && okKeys o1 && !(badKeys o1) && decide (o1.length ≤ 1000000000) && decide (a.size ≤ 1000000000) && decide (b.size ≤ 1000000000)) then
    bif (keysI o1 o0 a b != 0) then
      some (.sc (.int .i64 (keysI o1 o0 a b)), [])
    else
      some (.sc (.int .i64 0), [])
  else none
theorem f86_run (o0 : ByteArray) (o1 : List V) (o2 : Bool) (o3 : Bool) (o4 : Bool) (a : ByteArray) (b : ByteArray) (z9 : V × List Rg) (h : f86 o0 o1 o2 o3 o4 a b = some z9) : CallR C prim 86 [.ag [.sc (.string o0), .sl 8 o1, .sc (.bool o2), .sc (.bool o3), .sc (.bool o4)], .sc (.string a), .sc (.string b)] [] z9 := by
  refine call_fn (K := K_f86) (T := T_f86) K_f86_ok T_f86_ok (by kernel_rfl) ?_
  refine Eq.trans ?_ h
  kernel_rfl

theorem f86_eq (o0 : ByteArray) (o1 : List V) (o2 : Bool) (o3 : Bool) (o4 : Bool) (a : ByteArray) (b : ByteArray) (hp : (okKeys o1 && !(badKeys o1) && decide (o1.length ≤ 1000000000) && decide (a.size ≤ 1000000000) && decide (b.size ≤ 1000000000)) = true) : f86 o0 o1 o2 o3 o4 a b = some (.sc (.int .i64 (keysI o1 o0 a b)), []) := by
  unfold f86
  simp only [Bool.and_eq_true] at hp
  obtain ⟨⟨⟨⟨h1, h2⟩, h3⟩, h4⟩, h5⟩ := hp
  rw [h1, h2, h3, h4, h5]
  simp only [beq_self_eq_true]
  cases h : keysI o1 o0 a b != 0 with
  | true => rfl
  | false =>
    have : keysI o1 o0 a b = 0 := by simpa using h
    rw [this]; rfl
def k86 : PrimT := fun vs gs => match vs, gs with
  | [.ag [.sc (.string o0), .sl 8 o1, .sc (.bool o2), .sc (.bool o3), .sc (.bool o4)], .sc (.string a), .sc (.string b)], [] => ((okKeys o1 && !(badKeys o1) && decide (o1.length ≤ 1000000000) && decide (a.size ≤ 1000000000) && decide (b.size ≤ 1000000000)), .sc (.int .i64 (keysI o1 o0 a b)), [])
  | _, _ => (false, .bad, [])
theorem k86_ok : ∀ vs gs x, k86 vs gs = (true, x) → CallR C prim 86 vs gs x := by
  intro vs gs x h
  unfold k86 at h
  split at h
  · simp only [Prod.mk.injEq] at h
    obtain ⟨hp, rfl⟩ := h
    exact f86_run _ _ _ _ _ _ _ _ (f86_eq _ _ _ _ _ _ _ hp)
  · cases h

def K_f45 : CallK := kCons 86 k86 <| kCons 87 k87 <| kNil
theorem K_f45_ok : KOK C prim K_f45 := KOK.cons k86_ok <| KOK.cons k87_ok <| KOK.nil
def T_f45 : Tab := tNil
theorem T_f45_ok : TOK C prim 45 T_f45 := TOK.nil
def f45 (o0 : ByteArray) (o1 : List V) (o2 : Bool) (o3 : Bool) (o4 : Bool) (a : ByteArray) (b : ByteArray) : Option (V × List Rg) :=
  bif ((okKeys o1 && !(badKeys o1) && decide (o1.length ≤ 1000000000) && decide (a.size ≤ 1000000000) && decide (b.size ≤ 1000000000)) && true) then
    bif ((keysI o1 o0 a b) != 0) then
      some (.sc (.int .i64 (keysI o1 o0 a b)), [])
    else
      bif (decide ((((lenE 8 o1.length) : Nat) : Int) > 0)) then
        bif o3 then
          some (.sc (.int .i64 (keysI o1 o0 a b)), [])
        else
          bif o4 then
            some (.sc (.int .i64 (keysI o1 o0 a b)), [])
          else
            bif o2 then
              some (.sc (.int .i64 (IntKind.wrap .i64 (0 - (bwI a b)))), [])
            else
              some (.sc (.int .i64 (bwI a b)), [])
      else
        bif o2 then
          some (.sc (.int .i64 (IntKind.wrap .i64 (0 - (bwI a b)))), [])
        else
          some (.sc (.int .i64 (bwI a b)), [])
  else none
theorem f45_run (o0 : ByteArray) (o1 : List V) (o2 : Bool) (o3 : Bool) (o4 : Bool) (a : ByteArray) (b : ByteArray) (z9 : V × List Rg) (h : f45 o0 o1 o2 o3 o4 a b = some z9) : CallR C prim 45 [.ag [.sc (.string o0), .sl 8 o1, .sc (.bool o2), .sc (.bool o3), .sc (.bool o4)], .sc (.string a), .sc (.string b)] [] z9 := by
  refine call_fn (K := K_f45) (T := T_f45) K_f45_ok T_f45_ok (by kernel_rfl) ?_
  refine Eq.trans ?_ h
  kernel_rfl

theorem f45_eq (o0 : ByteArray) (o1 : List V) (o2 : Bool) (o3 : Bool) (o4 : Bool) (a : ByteArray) (b : ByteArray) (hp : (okKeys o1 && !(badKeys o1) && decide (o1.length ≤ 1000000000) && decide (a.size ≤ 1000000000) && decide (b.size ≤ 1000000000)) = true) : f45 o0 o1 o2 o3 o4 a b = some (.sc (.int .i64 (ordI o1 o0 o2 o3 o4 a b)), []) := by
  have hb := bw_one a b
  unfold f45 ordI sgn
  rw [hp, w_neg hb]
  cases h : keysI o1 o0 a b != 0 with
  | true => rfl
  | false =>
    have : keysI o1 o0 a b = 0 := by simpa using h
    rw [this]
    cases decide (((lenE 8 o1.length : Nat) : Int) > 0) <;> cases o3 <;> cases o4 <;> cases o2 <;> rfl
def k45 : PrimT := fun vs gs => match vs, gs with
  | [.ag [.sc (.string o0), .sl 8 o1, .sc (.bool o2), .sc (.bool o3), .sc (.bool o4)], .sc (.string a), .sc (.string b)], [] => ((okKeys o1 && !(badKeys o1) && decide (o1.length ≤ 1000000000) && decide (a.size ≤ 1000000000) && decide (b.size ≤ 1000000000)), .sc (.int .i64 (ordI o1 o0 o2 o3 o4 a b)), [])
  | _, _ => (false, .bad, [])
theorem k45_ok : ∀ vs gs x, k45 vs gs = (true, x) → CallR C prim 45 vs gs x := by
  intro vs gs x h
  unfold k45 at h
  split at h
  · simp only [Prod.mk.injEq] at h
    obtain ⟨hp, rfl⟩ := h
    exact f45_run _ _ _ _ _ _ _ _ (f45_eq _ _ _ _ _ _ _ hp)
  · cases h

def K_f17_l0 : CallK := kCons 48 k48 <| kCons 49 k49 <| kCons 50 k50 <| kCons 51 k51 <| kNil
theorem K_f17_l0_ok : KOK C prim K_f17_l0 := KOK.cons k48_ok <| KOK.cons k49_ok <| KOK.cons k50_ok <| KOK.cons k51_ok <| KOK.nil
def T_f17_l0 : Tab := tNil
theorem T_f17_l0_ok : TOK C prim 17 T_f17_l0 := TOK.nil
def f17_l0 : Nat → ByteArray → ByteArray → List V → Int → Int → ByteArray → List V → Bool → Bool → Bool → (R : Type) → (Ex → St → Option R) → Option R
  | 0, _, _, _, _, _, _, _, _, _, _, _, _ => none
  | n + 1, a, b, v14, v15, v16, o0, o1, o2, o3, o4, R, κ =>
    bif (decide (v16 < v15)) then
      bif (((decide ((0 : Int) ≤ v16)) && (decide (v16 < (((lenE 8 v14.length) : Nat) : Int)))) && true) then
        bif (((V.isInt .i64 (nthV v14 (((v16).toNat * 8) + 0))) && ((V.isInt .i64 (nthV v14 (((v16).toNat * 8) + 1))) && ((V.isInt .i64 (nthV v14 (((v16).toNat * 8) + 2))) && ((V.isInt .i64 (nthV v14 (((v16).toNat * 8) + 3))) && ((V.isBool (nthV v14 (((v16).toNat * 8) + 4))) && ((V.isBool (nthV v14 (((v16).toNat * 8) + 5))) && ((V.isBool (nthV v14 (((v16).toNat * 8) + 6))) && ((V.isBool (nthV v14 (((v16).toNat * 8) + 7))) && true)))))))) && true) then
          bif ((okKey (V.intOf (nthV v14 (((v16).toNat * 8) + 0))) (V.intOf (nthV v14 (((v16).toNat * 8) + 1))) (V.intOf (nthV v14 (((v16).toNat * 8) + 2))) (V.intOf (nthV v14 (((v16).toNat * 8) + 3))) && decide (a.size ≤ 1000000000)) && true) then
            bif ((okKey (V.intOf (nthV v14 (((v16).toNat * 8) + 0))) (V.intOf (nthV v14 (((v16).toNat * 8) + 1))) (V.intOf (nthV v14 (((v16).toNat * 8) + 2))) (V.intOf (nthV v14 (((v16).toNat * 8) + 3))) && decide (b.size ≤ 1000000000)) && true) then
              bif (V.boolOf (nthV v14 (((v16).toNat * 8) + 4))) then
                bif ((decide ((keyB a o0 (V.intOf (nthV v14 (((v16).toNat * 8) + 0))) (V.intOf (nthV v14 (((v16).toNat * 8) + 1))) (V.intOf (nthV v14 (((v16).toNat * 8) + 2))) (V.intOf (nthV v14 (((v16).toNat * 8) + 3))) (V.boolOf (nthV v14 (((v16).toNat * 8) + 7)))).size ≤ 1000000000) && decide ((keyB b o0 (V.intOf (nthV v14 (((v16).toNat * 8) + 0))) (V.intOf (nthV v14 (((v16).toNat * 8) + 1))) (V.intOf (nthV v14 (((v16).toNat * 8) + 2))) (V.intOf (nthV v14 (((v16).toNat * 8) + 3))) (V.boolOf (nthV v14 (((v16).toNat * 8) + 7)))).size ≤ 1000000000)) && true) then
                  bif (V.boolOf (nthV v14 (((v16).toNat * 8) + 5))) then
                    bif ((IntKind.wrap .i64 (0 - (numI (keyB a o0 (V.intOf (nthV v14 (((v16).toNat * 8) + 0))) (V.intOf (nthV v14 (((v16).toNat * 8) + 1))) (V.intOf (nthV v14 (((v16).toNat * 8) + 2))) (V.intOf (nthV v14 (((v16).toNat * 8) + 3))) (V.boolOf (nthV v14 (((v16).toNat * 8) + 7)))) (keyB b o0 (V.intOf (nthV v14 (((v16).toNat * 8) + 0))) (V.intOf (nthV v14 (((v16).toNat * 8) + 1))) (V.intOf (nthV v14 (((v16).toNat * 8) + 2))) (V.intOf (nthV v14 (((v16).toNat * 8) + 3))) (V.boolOf (nthV v14 (((v16).toNat * 8) + 7))))))) != 0) then
                      κ .rt (mkS [(1, .sc (.string a)), (2, .sc (.string b)), (3, .ptrB (.loc 3) 0), (6, .sc (.int .i64 (IntKind.wrap .i64 (0 - (numI (keyB a o0 (V.intOf (nthV v14 (((v16).toNat * 8) + 0))) (V.intOf (nthV v14 (((v16).toNat * 8) + 1))) (V.intOf (nthV v14 (((v16).toNat * 8) + 2))) (V.intOf (nthV v14 (((v16).toNat * 8) + 3))) (V.boolOf (nthV v14 (((v16).toNat * 8) + 7)))) (keyB b o0 (V.intOf (nthV v14 (((v16).toNat * 8) + 0))) (V.intOf (nthV v14 (((v16).toNat * 8) + 1))) (V.intOf (nthV v14 (((v16).toNat * 8) + 2))) (V.intOf (nthV v14 (((v16).toNat * 8) + 3))) (V.boolOf (nthV v14 (((v16).toNat * 8) + 7)))))))))] [(.loc 3, some ⟨true, [.sc (.string o0), .sl 8 o1, .sc (.bool o2), .sc (.bool o3), .sc (.bool o4)]⟩)])
                    else
                      f17_l0 n a b v14 v15 (IntKind.wrap .i64 (v16 + 1)) o0 o1 o2 o3 o4 R κ
                  else
                    bif ((numI (keyB a o0 (V.intOf (nthV v14 (((v16).toNat * 8) + 0))) (V.intOf (nthV v14 (((v16).toNat * 8) + 1))) (V.intOf (nthV v14 (((v16).toNat * 8) + 2))) (V.intOf (nthV v14 (((v16).toNat * 8) + 3))) (V.boolOf (nthV v14 (((v16).toNat * 8) + 7)))) (keyB b o0 (V.intOf (nthV v14 (((v16).toNat * 8) + 0))) (V.intOf (nthV v14 (((v16).toNat * 8) + 1))) (V.intOf (nthV v14 (((v16).toNat * 8) + 2))) (V.intOf (nthV v14 (((v16).toNat * 8) + 3))) (V.boolOf (nthV v14 (((v16).toNat * 8) + 7))))) != 0) then
                      κ .rt (mkS [(1, .sc (.string a)), (2, .sc (.string b)), (3, .ptrB (.loc 3) 0), (6, .sc (.int .i64 (numI (keyB a o0 (V.intOf (nthV v14 (((v16).toNat * 8) + 0))) (V.intOf (nthV v14 (((v16).toNat * 8) + 1))) (V.intOf (nthV v14 (((v16).toNat * 8) + 2))) (V.intOf (nthV v14 (((v16).toNat * 8) + 3))) (V.boolOf (nthV v14 (((v16).toNat * 8) + 7)))) (keyB b o0 (V.intOf (nthV v14 (((v16).toNat * 8) + 0))) (V.intOf (nthV v14 (((v16).toNat * 8) + 1))) (V.intOf (nthV v14 (((v16).toNat * 8) + 2))) (V.intOf (nthV v14 (((v16).toNat * 8) + 3))) (V.boolOf (nthV v14 (((v16).toNat * 8) + 7)))))))] [(.loc 3, some ⟨true, [.sc (.string o0), .sl 8 o1, .sc (.bool o2), .sc (.bool o3), .sc (.bool o4)]⟩)])
                    else
                      f17_l0 n a b v14 v15 (IntKind.wrap .i64 (v16 + 1)) o0 o1 o2 o3 o4 R κ
                else none
              else
                bif (V.boolOf (nthV v14 (((v16).toNat * 8) + 6))) then
                  bif ((decide ((keyB a o0 (V.intOf (nthV v14 (((v16).toNat * 8) + 0))) (V.intOf (nthV v14 (((v16).toNat * 8) + 1))) (V.intOf (nthV v14 (((v16).toNat * 8) + 2))) (V.intOf (nthV v14 (((v16).toNat * 8) + 3))) (V.boolOf (nthV v14 (((v16).toNat * 8) + 7)))).size ≤ 1000000000)) && true) then
                    bif ((decide ((keyB b o0 (V.intOf (nthV v14 (((v16).toNat * 8) + 0))) (V.intOf (nthV v14 (((v16).toNat * 8) + 1))) (V.intOf (nthV v14 (((v16).toNat * 8) + 2))) (V.intOf (nthV v14 (((v16).toNat * 8) + 3))) (V.boolOf (nthV v14 (((v16).toNat * 8) + 7)))).size ≤ 1000000000)) && true) then
                      bif ((decide ((capB (keyB a o0 (V.intOf (nthV v14 (((v16).toNat * 8) + 0))) (V.intOf (nthV v14 (((v16).toNat * 8) + 1))) (V.intOf (nthV v14 (((v16).toNat * 8) + 2))) (V.intOf (nthV v14 (((v16).toNat * 8) + 3))) (V.boolOf (nthV v14 (((v16).toNat * 8) + 7))))).size ≤ 1000000000)) && true) then
                        bif (V.boolOf (nthV v14 (((v16).toNat * 8) + 5))) then
                          bif ((IntKind.wrap .i64 (0 - (bwI (capB (keyB a o0 (V.intOf (nthV v14 (((v16).toNat * 8) + 0))) (V.intOf (nthV v14 (((v16).toNat * 8) + 1))) (V.intOf (nthV v14 (((v16).toNat * 8) + 2))) (V.intOf (nthV v14 (((v16).toNat * 8) + 3))) (V.boolOf (nthV v14 (((v16).toNat * 8) + 7))))) (capB (keyB b o0 (V.intOf (nthV v14 (((v16).toNat * 8) + 0))) (V.intOf (nthV v14 (((v16).toNat * 8) + 1))) (V.intOf (nthV v14 (((v16).toNat * 8) + 2))) (V.intOf (nthV v14 (((v16).toNat * 8) + 3))) (V.boolOf (nthV v14 (((v16).toNat * 8) + 7)))))))) != 0) then
                            κ .rt (mkS [(1, .sc (.string a)), (2, .sc (.string b)), (3, .ptrB (.loc 3) 0), (6, .sc (.int .i64 (IntKind.wrap .i64 (0 - (bwI (capB (keyB a o0 (V.intOf (nthV v14 (((v16).toNat * 8) + 0))) (V.intOf (nthV v14 (((v16).toNat * 8) + 1))) (V.intOf (nthV v14 (((v16).toNat * 8) + 2))) (V.intOf (nthV v14 (((v16).toNat * 8) + 3))) (V.boolOf (nthV v14 (((v16).toNat * 8) + 7))))) (capB (keyB b o0 (V.intOf (nthV v14 (((v16).toNat * 8) + 0))) (V.intOf (nthV v14 (((v16).toNat * 8) + 1))) (V.intOf (nthV v14 (((v16).toNat * 8) + 2))) (V.intOf (nthV v14 (((v16).toNat * 8) + 3))) (V.boolOf (nthV v14 (((v16).toNat * 8) + 7))))))))))] [(.loc 3, some ⟨true, [.sc (.string o0), .sl 8 o1, .sc (.bool o2), .sc (.bool o3), .sc (.bool o4)]⟩)])
                          else
                            f17_l0 n a b v14 v15 (IntKind.wrap .i64 (v16 + 1)) o0 o1 o2 o3 o4 R κ
                        else
                          bif ((bwI (capB (keyB a o0 (V.intOf (nthV v14 (((v16).toNat * 8) + 0))) (V.intOf (nthV v14 (((v16).toNat * 8) + 1))) (V.intOf (nthV v14 (((v16).toNat * 8) + 2))) (V.intOf (nthV v14 (((v16).toNat * 8) + 3))) (V.boolOf (nthV v14 (((v16).toNat * 8) + 7))))) (capB (keyB b o0 (V.intOf (nthV v14 (((v16).toNat * 8) + 0))) (V.intOf (nthV v14 (((v16).toNat * 8) + 1))) (V.intOf (nthV v14 (((v16).toNat * 8) + 2))) (V.intOf (nthV v14 (((v16).toNat * 8) + 3))) (V.boolOf (nthV v14 (((v16).toNat * 8) + 7)))))) != 0) then
                            κ .rt (mkS [(1, .sc (.string a)), (2, .sc (.string b)), (3, .ptrB (.loc 3) 0), (6, .sc (.int .i64 (bwI (capB (keyB a o0 (V.intOf (nthV v14 (((v16).toNat * 8) + 0))) (V.intOf (nthV v14 (((v16).toNat * 8) + 1))) (V.intOf (nthV v14 (((v16).toNat * 8) + 2))) (V.intOf (nthV v14 (((v16).toNat * 8) + 3))) (V.boolOf (nthV v14 (((v16).toNat * 8) + 7))))) (capB (keyB b o0 (V.intOf (nthV v14 (((v16).toNat * 8) + 0))) (V.intOf (nthV v14 (((v16).toNat * 8) + 1))) (V.intOf (nthV v14 (((v16).toNat * 8) + 2))) (V.intOf (nthV v14 (((v16).toNat * 8) + 3))) (V.boolOf (nthV v14 (((v16).toNat * 8) + 7))))))))] [(.loc 3, some ⟨true, [.sc (.string o0), .sl 8 o1, .sc (.bool o2), .sc (.bool o3), .sc (.bool o4)]⟩)])
                          else
                            f17_l0 n a b v14 v15 (IntKind.wrap .i64 (v16 + 1)) o0 o1 o2 o3 o4 R κ
                      else none
                    else none
                  else none
                else
                  bif ((decide ((keyB a o0 (V.intOf (nthV v14 (((v16).toNat * 8) + 0))) (V.intOf (nthV v14 (((v16).toNat * 8) + 1))) (V.intOf (nthV v14 (((v16).toNat * 8) + 2))) (V.intOf (nthV v14 (((v16).toNat * 8) + 3))) (V.boolOf (nthV v14 (((v16).toNat * 8) + 7)))).size ≤ 1000000000)) && true) then
                    bif (V.boolOf (nthV v14 (((v16).toNat * 8) + 5))) then
                      bif ((IntKind.wrap .i64 (0 - (bwI (keyB a o0 (V.intOf (nthV v14 (((v16).toNat * 8) + 0))) (V.intOf (nthV v14 (((v16).toNat * 8) + 1))) (V.intOf (nthV v14 (((v16).toNat * 8) + 2))) (V.intOf (nthV v14 (((v16).toNat * 8) + 3))) (V.boolOf (nthV v14 (((v16).toNat * 8) + 7)))) (keyB b o0 (V.intOf (nthV v14 (((v16).toNat * 8) + 0))) (V.intOf (nthV v14 (((v16).toNat * 8) + 1))) (V.intOf (nthV v14 (((v16).toNat * 8) + 2))) (V.intOf (nthV v14 (((v16).toNat * 8) + 3))) (V.boolOf (nthV v14 (((v16).toNat * 8) + 7))))))) != 0) then
                        κ .rt (mkS [(1, .sc (.string a)), (2, .sc (.string b)), (3, .ptrB (.loc 3) 0), (6, .sc (.int .i64 (IntKind.wrap .i64 (0 - (bwI (keyB a o0 (V.intOf (nthV v14 (((v16).toNat * 8) + 0))) (V.intOf (nthV v14 (((v16).toNat * 8) + 1))) (V.intOf (nthV v14 (((v16).toNat * 8) + 2))) (V.intOf (nthV v14 (((v16).toNat * 8) + 3))) (V.boolOf (nthV v14 (((v16).toNat * 8) + 7)))) (keyB b o0 (V.intOf (nthV v14 (((v16).toNat * 8) + 0))) (V.intOf (nthV v14 (((v16).toNat * 8) + 1))) (V.intOf (nthV v14 (((v16).toNat * 8) + 2))) (V.intOf (nthV v14 (((v16).toNat * 8) + 3))) (V.boolOf (nthV v14 (((v16).toNat * 8) + 7)))))))))] [(.loc 3, some ⟨true, [.sc (.string o0), .sl 8 o1, .sc (.bool o2), .sc (.bool o3), .sc (.bool o4)]⟩)])
                      else
                        f17_l0 n a b v14 v15 (IntKind.wrap .i64 (v16 + 1)) o0 o1 o2 o3 o4 R κ
                    else
                      bif ((bwI (keyB a o0 (V.intOf (nthV v14 (((v16).toNat * 8) + 0))) (V.intOf (nthV v14 (((v16).toNat * 8) + 1))) (V.intOf (nthV v14 (((v16).toNat * 8) + 2))) (V.intOf (nthV v14 (((v16).toNat * 8) + 3))) (V.boolOf (nthV v14 (((v16).toNat * 8) + 7)))) (keyB b o0 (V.intOf (nthV v14 (((v16).toNat * 8) + 0))) (V.intOf (nthV v14 (((v16).toNat * 8) + 1))) (V.intOf (nthV v14 (((v16).toNat * 8) + 2))) (V.intOf (nthV v14 (((v16).toNat * 8) + 3))) (V.boolOf (nthV v14 (((v16).toNat * 8) + 7))))) != 0) then
                        κ .rt (mkS [(1, .sc (.string a)), (2, .sc (.string b)), (3, .ptrB (.loc 3) 0), (6, .sc (.int .i64 (bwI (keyB a o0 (V.intOf (nthV v14 (((v16).toNat * 8) + 0))) (V.intOf (nthV v14 (((v16).toNat * 8) + 1))) (V.intOf (nthV v14 (((v16).toNat * 8) + 2))) (V.intOf (nthV v14 (((v16).toNat * 8) + 3))) (V.boolOf (nthV v14 (((v16).toNat * 8) + 7)))) (keyB b o0 (V.intOf (nthV v14 (((v16).toNat * 8) + 0))) (V.intOf (nthV v14 (((v16).toNat * 8) + 1))) (V.intOf (nthV v14 (((v16).toNat * 8) + 2))) (V.intOf (nthV v14 (((v16).toNat * 8) + 3))) (V.boolOf (nthV v14 (((v16).toNat * 8) + 7)))))))] [(.loc 3, some ⟨true, [.sc (.string o0), .sl 8 o1, .sc (.bool o2), .sc (.bool o3), .sc (.bool o4)]⟩)])
                      else
                        f17_l0 n a b v14 v15 (IntKind.wrap .i64 (v16 + 1)) o0 o1 o2 o3 o4 R κ
                  else none
            else none
          else none
        else none
      else none
    else
      κ (.ex 0) (mkS [(1, .sc (.string a)), (2, .sc (.string b)), (3, .ptrB (.loc 3) 0), (6, .bad)] [(.loc 3, some ⟨true, [.sc (.string o0), .sl 8 o1, .sc (.bool o2), .sc (.bool o3), .sc (.bool o4)]⟩)])
def f17_l0_ls : List (Nat × Pat) := [(1, .s), (2, .s), (3, .is (.ptrB (.loc 3) 0)), (14, .sl 8), (15, .i .i64), (16, .i .i64)]
def f17_l0_rs : List RPat := [⟨.loc 3, true, [.s, .sl 8, .b, .b, .b]⟩]
theorem f17_l0_ok (n : Nat) : ∀ (a : ByteArray) (b : ByteArray) (v14 : List V) (v15 : Int) (v16 : Int) (o0 : ByteArray) (o1 : List V) (o2 : Bool) (o3 : Bool) (o4 : Bool) (R : Type) (κ : Ex → St → Option R) (r : R), f17_l0 n a b v14 v15 v16 o0 o1 o2 o3 o4 R κ = some r → ∃ ee ss, κ ee ss = some r ∧ RunP C prim 17 [0, 1, 0, 1] (mkS [(1, .sc (.string a)), (2, .sc (.string b)), (3, .ptrB (.loc 3) 0), (14, .sl 8 v14), (15, .sc (.int .i64 v15)), (16, .sc (.int .i64 v16))] [(.loc 3, some ⟨true, [.sc (.string o0), .sl 8 o1, .sc (.bool o2), .sc (.bool o3), .sc (.bool o4)]⟩)]) ee ss := by
  induction n with
  | zero => intro a b v14 v15 v16 o0 o1 o2 o3 o4 R κ r h; cases h
  | succ n ih =>
    intro a b v14 v15 v16 o0 o1 o2 o3 o4 R κ r h
    refine loop_round (K := K_f17_l0) (T := T_f17_l0) K_f17_l0_ok T_f17_l0_ok (p := [0, 1, 0, 1]) (by kernel_rfl) (fun st => bif ckS f17_l0_ls f17_l0_rs st then f17_l0 n ((st.env 1).strOf) ((st.env 2).strOf) ((st.env 14).cellsOf) ((st.env 15).intOf) ((st.env 16).intOf) ((nthV (rowOf (st.regs (.loc 3))) 0).strOf) ((nthV (rowOf (st.regs (.loc 3))) 1).cellsOf) ((nthV (rowOf (st.regs (.loc 3))) 2).boolOf) ((nthV (rowOf (st.regs (.loc 3))) 3).boolOf) ((nthV (rowOf (st.regs (.loc 3))) 4).boolOf) R κ else none) (fun st0 h0 => ?_) ?_
    · obtain ⟨hs, h0⟩ := cond_some h0
      rw [canon (ls := f17_l0_ls) (rs := f17_l0_rs) (by kernel_rfl) st0 hs]
      exact ih _ _ _ _ _ _ _ _ _ _ R κ r h0
    · refine Eq.trans ?_ h
      kernel_rfl

def f17_s0 (a : ByteArray) (b : ByteArray) (v14 : List V) (v15 : Int) (v16 : Int) (o0 : ByteArray) (o1 : List V) (o2 : Bool) (o3 : Bool) (o4 : Bool) (R : Type) (κ : Ex → St → Option R) : Option R :=
  bif (keysI v14 o0 a b != 0) then
    κ .rt (mkS [(1, .sc (.string a)), (2, .sc (.string b)), (3, .ptrB (.loc 3) 0), (6, .sc (.int .i64 (keysI v14 o0 a b)))] [(.loc 3, some ⟨true, [.sc (.string o0), .sl 8 o1, .sc (.bool o2), .sc (.bool o3), .sc (.bool o4)]⟩)])
  else
    κ (.ex 0) (mkS [(1, .sc (.string a)), (2, .sc (.string b)), (3, .ptrB (.loc 3) 0), (6, .bad)] [(.loc 3, some ⟨true, [.sc (.string o0), .sl 8 o1, .sc (.bool o2), .sc (.bool o3), .sc (.bool o4)]⟩)])
theorem f17_loop (l : List V) (sep a b : ByteArray) (o1 : List V) (o2 o3 o4 : Bool) (hl : okKeys l = true) (hg : badKeys l = false) (hn : l.length ≤ 1000000000) (ha : a.size ≤ 1000000000) (hb : b.size ≤ 1000000000) (R : Type) (κ : Ex → St → Option R) : ∀ (k i : Nat), i + k = lenE 8 l.length →
    f17_l0 (k + 1) a b l ((lenE 8 l.length : Nat) : Int) ((i : Nat) : Int) sep o1 o2 o3 o4 R κ = bif firstF (kC l sep a b) k i != 0 then (κ .rt (mkS [(1, .sc (.string a)), (2, .sc (.string b)), (3, .ptrB (.loc 3) 0), (6, .sc (.int .i64 (firstF (kC l sep a b) k i)))] [(.loc 3, some ⟨true, [.sc (.string sep), .sl 8 o1, .sc (.bool o2), .sc (.bool o3), .sc (.bool o4)]⟩)])) else κ (.ex 0) (mkS [(1, .sc (.string a)), (2, .sc (.string b)), (3, .ptrB (.loc 3) 0), (6, .bad)] [(.loc 3, some ⟨true, [.sc (.string sep), .sl 8 o1, .sc (.bool o2), .sc (.bool o3), .sc (.bool o4)]⟩)])
  | 0, i, h => by
    rw [f17_l0, dec_false (by omega)]
    rfl
  | k + 1, i, h => by
    have hle : lenE 8 l.length = l.length / 8 := rfl
    have ok := okK_at hl (show i < lenE 8 l.length by omega)
    have gk : goodK l i = true := allF_at (k := lenE 8 l.length) (i := 0) (by unfold badKeys at hg; simpa using hg) i (Nat.zero_le _) (by omega)
    have ka : keyB a sep (V.intOf (nthV l (i * 8 + 0))) (V.intOf (nthV l (i * 8 + 1))) (V.intOf (nthV l (i * 8 + 2))) (V.intOf (nthV l (i * 8 + 3))) (V.boolOf (nthV l (i * 8 + 7))) = kX l sep a i := rfl
    have kb : keyB b sep (V.intOf (nthV l (i * 8 + 0))) (V.intOf (nthV l (i * 8 + 1))) (V.intOf (nthV l (i * 8 + 2))) (V.intOf (nthV l (i * 8 + 3))) (V.boolOf (nthV l (i * 8 + 7))) = kX l sep b i := rfl
    have sa : (kX l sep a i).size ≤ 1000000000 := Nat.le_trans (keyB_le _ _ _ _ _ _ _) ha
    have sb : (kX l sep b i).size ≤ 1000000000 := Nat.le_trans (keyB_le _ _ _ _ _ _ _) hb
    have ca := capB_size (kX l sep a i)
    have ni : numC (nB (kX l sep a i)) (wB (kX l sep a i)) (pB (kX l sep a i)) (nB (kX l sep b i)) (wB (kX l sep b i)) (pB (kX l sep b i)) = numI (kX l sep a i) (kX l sep b i) := rfl
    have w1 := w_neg (numI_one (kX l sep a i) (kX l sep b i))
    have w2 := w_neg (bw_one (capB (kX l sep a i)) (capB (kX l sep b i)))
    have w3 := w_neg (bw_one (kX l sep a i) (kX l sep b i))
    unfold okK at ok
    unfold goodK kI at gk
    rw [f17_l0, dec_true (show ((i : Nat) : Int) < ((lenE 8 l.length : Nat) : Int) by omega), dec_true (show (0 : Int) ≤ ((i : Nat) : Int) by omega), Int.toNat_natCast, ok, gk, dec_true ha, dec_true hb, wrap_succ (by omega), f17_loop l sep a b o1 o2 o3 o4 hl hg hn ha hb R κ k (i + 1) (by omega), ka, kb, firstF]
    simp only [dec_true sa, dec_true sb, dec_true (show (capB (kX l sep a i)).size ≤ 1000000000 by omega), ni, w1, w2, w3]
    have key : ∀ X : Int, kC l sep a b i = X → (bif X != 0 then (κ .rt (mkS [(1, .sc (.string a)), (2, .sc (.string b)), (3, .ptrB (.loc 3) 0), (6, .sc (.int .i64 X))] [(.loc 3, some ⟨true, [.sc (.string sep), .sl 8 o1, .sc (.bool o2), .sc (.bool o3), .sc (.bool o4)]⟩)])) else bif firstF (kC l sep a b) k (i + 1) != 0 then (κ .rt (mkS [(1, .sc (.string a)), (2, .sc (.string b)), (3, .ptrB (.loc 3) 0), (6, .sc (.int .i64 (firstF (kC l sep a b) k (i + 1))))] [(.loc 3, some ⟨true, [.sc (.string sep), .sl 8 o1, .sc (.bool o2), .sc (.bool o3), .sc (.bool o4)]⟩)])) else κ (.ex 0) (mkS [(1, .sc (.string a)), (2, .sc (.string b)), (3, .ptrB (.loc 3) 0), (6, .bad)] [(.loc 3, some ⟨true, [.sc (.string sep), .sl 8 o1, .sc (.bool o2), .sc (.bool o3), .sc (.bool o4)]⟩)])) = bif (bif kC l sep a b i != 0 then kC l sep a b i else firstF (kC l sep a b) k (i + 1)) != 0 then (κ .rt (mkS [(1, .sc (.string a)), (2, .sc (.string b)), (3, .ptrB (.loc 3) 0), (6, .sc (.int .i64 (bif kC l sep a b i != 0 then kC l sep a b i else firstF (kC l sep a b) k (i + 1))))] [(.loc 3, some ⟨true, [.sc (.string sep), .sl 8 o1, .sc (.bool o2), .sc (.bool o3), .sc (.bool o4)]⟩)])) else κ (.ex 0) (mkS [(1, .sc (.string a)), (2, .sc (.string b)), (3, .ptrB (.loc 3) 0), (6, .bad)] [(.loc 3, some ⟨true, [.sc (.string sep), .sl 8 o1, .sc (.bool o2), .sc (.bool o3), .sc (.bool o4)]⟩)]) := by
      intro X hX
      rw [hX]
      exact pick X _ (fun z => κ .rt (mkS [(1, .sc (.string a)), (2, .sc (.string b)), (3, .ptrB (.loc 3) 0), (6, .sc (.int .i64 z))] [(.loc 3, some ⟨true, [.sc (.string sep), .sl 8 o1, .sc (.bool o2), .sc (.bool o3), .sc (.bool o4)]⟩)])) _
    cases h4 : V.boolOf (nthV l (i * 8 + 4)) with
    | true =>
      cases h5 : V.boolOf (nthV l (i * 8 + 5)) with
      | true => exact key (0 - numI (kX l sep a i) (kX l sep b i)) (by unfold kC sgn kB; rw [h4, h5]; rfl)
      | false => exact key (numI (kX l sep a i) (kX l sep b i)) (by unfold kC sgn kB; rw [h4, h5]; rfl)
    | false =>
      cases h6 : V.boolOf (nthV l (i * 8 + 6)) with
      | true =>
        cases h5 : V.boolOf (nthV l (i * 8 + 5)) with
        | true => exact key (0 - bwI (capB (kX l sep a i)) (capB (kX l sep b i))) (by unfold kC sgn kB; rw [h4, h5, h6]; rfl)
        | false => exact key (bwI (capB (kX l sep a i)) (capB (kX l sep b i))) (by unfold kC sgn kB; rw [h4, h5, h6]; rfl)
      | false =>
        cases h5 : V.boolOf (nthV l (i * 8 + 5)) with
        | true => exact key (0 - bwI (kX l sep a i) (kX l sep b i)) (by unfold kC sgn kB; rw [h4, h5, h6]; rfl)
        | false => exact key (bwI (kX l sep a i) (kX l sep b i)) (by unfold kC sgn kB; rw [h4, h5, h6]; rfl)
theorem f17_s0_eq (a : ByteArray) (b : ByteArray) (v14 : List V) (v15 : Int) (v16 : Int) (o0 : ByteArray) (o1 : List V) (o2 : Bool) (o3 : Bool) (o4 : Bool) (hp : ((v15 == ((lenE 8 v14.length : Nat) : Int)) && (v16 == 0) && okKeys v14 && !(badKeys v14) && decide (v14.length ≤ 1000000000) && decide (a.size ≤ 1000000000) && decide (b.size ≤ 1000000000)) = true) : ∃ n, ∀ (R : Type) (κ : Ex → St → Option R), f17_l0 n a b v14 v15 v16 o0 o1 o2 o3 o4 R κ = f17_s0 a b v14 v15 v16 o0 o1 o2 o3 o4 R κ := by
  simp only [Bool.and_eq_true, decide_eq_true_eq, beq_iff_eq, Bool.not_eq_true'] at hp
  obtain ⟨⟨⟨⟨⟨⟨rfl, rfl⟩, h3⟩, h4⟩, h5⟩, h6⟩, h7⟩ := hp
  exact ⟨lenE 8 v14.length + 1, fun R κ => f17_loop v14 o0 a b o1 o2 o3 o4 h3 h4 h5 h6 h7 R κ (lenE 8 v14.length) 0 (by omega)⟩
def t_f17_l0 (st : St) (R : Type) (κ : Ex → St → Option R) : Option R := bif ckS f17_l0_ls f17_l0_rs st then (bif ((((st.env 15).intOf) == ((lenE 8 ((st.env 14).cellsOf).length : Nat) : Int)) && (((st.env 16).intOf) == 0) && okKeys ((st.env 14).cellsOf) && !(badKeys ((st.env 14).cellsOf)) && decide (((st.env 14).cellsOf).length ≤ 1000000000) && decide (((st.env 1).strOf).size ≤ 1000000000) && decide (((st.env 2).strOf).size ≤ 1000000000)) then f17_s0 ((st.env 1).strOf) ((st.env 2).strOf) ((st.env 14).cellsOf) ((st.env 15).intOf) ((st.env 16).intOf) ((nthV (rowOf (st.regs (.loc 3))) 0).strOf) ((nthV (rowOf (st.regs (.loc 3))) 1).cellsOf) ((nthV (rowOf (st.regs (.loc 3))) 2).boolOf) ((nthV (rowOf (st.regs (.loc 3))) 3).boolOf) ((nthV (rowOf (st.regs (.loc 3))) 4).boolOf) R κ else none) else none
theorem t_f17_l0_ok : ∀ st0 R κ r, t_f17_l0 (forget C 17 [0, 1, 0, 1] st0) R κ = some r → ∃ ee ss, κ ee ss = some r ∧ RunP C prim 17 [0, 1, 0, 1] (forget C 17 [0, 1, 0, 1] st0) ee ss := by
  intro st0 R κ r h
  obtain ⟨hs, h⟩ := cond_some h
  obtain ⟨hp, h⟩ := cond_some h
  rw [canon (ls := f17_l0_ls) (rs := f17_l0_rs) (by kernel_rfl) st0 hs]
  obtain ⟨n, hn⟩ := f17_s0_eq _ _ _ _ _ _ _ _ _ _ hp
  rw [← hn] at h
  exact f17_l0_ok n _ _ _ _ _ _ _ _ _ _ R κ r h

def K_f17 : CallK := kCons 50 k50 <| kNil
theorem K_f17_ok : KOK C prim K_f17 := KOK.cons k50_ok <| KOK.nil
def T_f17 : Tab := tCons [0, 1, 0, 1] t_f17_l0 <| tNil
theorem T_f17_ok : TOK C prim 17 T_f17 := TOK.cons t_f17_l0_ok <| TOK.nil
def f17 (o0 : ByteArray) (o1 : List V) (o2 : Bool) (o3 : Bool) (o4 : Bool) (a : ByteArray) (b : ByteArray) : Option (V × List Rg) :=
  bif (((((lenE 8 o1.length) : Nat) : Int) == ((lenE 8 o1.length : Nat) : Int)) && ((0 : Int) == 0) && okKeys o1 && !(badKeys o1) && decide (o1.length ≤ 1000000000) && decide (a.size ≤ 1000000000) && decide (b.size ≤ 1000000000)) then
    bif (keysI o1 o0 a b != 0) then
      some (.sc (.int .i64 (keysI o1 o0 a b)), [])
    else
      bif (decide ((((lenE 8 o1.length) : Nat) : Int) > 0)) then
        bif o3 then
          some (.sc (.int .i64 0), [])
        else
          bif o4 then
            some (.sc (.int .i64 0), [])
          else
            bif ((decide (a.size ≤ 1000000000)) && true) then
              bif o2 then
                some (.sc (.int .i64 (IntKind.wrap .i64 (0 - (bwI a b)))), [])
              else
                some (.sc (.int .i64 (bwI a b)), [])
            else none
      else
        bif ((decide (a.size ≤ 1000000000)) && true) then
          bif o2 then
            some (.sc (.int .i64 (IntKind.wrap .i64 (0 - (bwI a b)))), [])
          else
            some (.sc (.int .i64 (bwI a b)), [])
        else none
  else none
theorem f17_run (o0 : ByteArray) (o1 : List V) (o2 : Bool) (o3 : Bool) (o4 : Bool) (a : ByteArray) (b : ByteArray) (z9 : V × List Rg) (h : f17 o0 o1 o2 o3 o4 a b = some z9) : CallR C prim 17 [.ag [.sc (.string o0), .sl 8 o1, .sc (.bool o2), .sc (.bool o3), .sc (.bool o4)], .sc (.string a), .sc (.string b)] [] z9 := by
  refine call_fn (K := K_f17) (T := T_f17) K_f17_ok T_f17_ok (by kernel_rfl) ?_
  refine Eq.trans ?_ h
  kernel_rfl

theorem f17_eq (o0 : ByteArray) (o1 : List V) (o2 : Bool) (o3 : Bool) (o4 : Bool) (a : ByteArray) (b : ByteArray) (hp : (okKeys o1 && !(badKeys o1) && decide (o1.length ≤ 1000000000) && decide (a.size ≤ 1000000000) && decide (b.size ≤ 1000000000)) = true) : f17 o0 o1 o2 o3 o4 a b = some (.sc (.int .i64 (ordI o1 o0 o2 o3 o4 a b)), []) := by
  have hb := bw_one a b
  have hq := hp
  simp only [Bool.and_eq_true] at hp
  obtain ⟨⟨⟨⟨h1, h2⟩, h3⟩, h4⟩, h5⟩ := hp
  unfold f17 ordI sgn
  rw [h1, h2, h3, h4, h5, w_neg hb]
  simp only [beq_self_eq_true]
  cases h : keysI o1 o0 a b != 0 with
  | true => rfl
  | false =>
    cases decide (((lenE 8 o1.length : Nat) : Int) > 0) <;> cases o3 <;> cases o4 <;> cases o2 <;> rfl
def k17 : PrimT := fun vs gs => match vs, gs with
  | [.ag [.sc (.string o0), .sl 8 o1, .sc (.bool o2), .sc (.bool o3), .sc (.bool o4)], .sc (.string a), .sc (.string b)], [] => ((okKeys o1 && !(badKeys o1) && decide (o1.length ≤ 1000000000) && decide (a.size ≤ 1000000000) && decide (b.size ≤ 1000000000)), .sc (.int .i64 (ordI o1 o0 o2 o3 o4 a b)), [])
  | _, _ => (false, .bad, [])
theorem k17_ok : ∀ vs gs x, k17 vs gs = (true, x) → CallR C prim 17 vs gs x := by
  intro vs gs x h
  unfold k17 at h
  split at h
  · simp only [Prod.mk.injEq] at h
    obtain ⟨hp, rfl⟩ := h
    exact f17_run _ _ _ _ _ _ _ _ (f17_eq _ _ _ _ _ _ _ hp)
  · cases h

def K_f12_l0 : CallK := kNil
theorem K_f12_l0_ok : KOK C prim K_f12_l0 := KOK.nil
def T_f12_l0 : Tab := tNil
theorem T_f12_l0_ok : TOK C prim 12 T_f12_l0 := TOK.nil
def f12_l0 : Nat → List V → Int → Int → (R : Type) → (Ex → St → Option R) → Option R
  | 0, _, _, _, _, _ => none
  | n + 1, v5, v6, v7, R, κ =>
    bif (decide (v7 < v6)) then
      bif (((decide ((0 : Int) ≤ v7)) && (decide (v7 < ((v5.length : Nat) : Int)))) && true) then
        bif (((V.isInt .i64 (nthV v5 (((v7).toNat * 1) + 0))) && true) && true) then
          bif ((V.intOf (nthV v5 (((v7).toNat * 1) + 0))) != 0) then
            κ .rt (mkS [(2, .sc (.int .i64 (V.intOf (nthV v5 (((v7).toNat * 1) + 0)))))] [])
          else
            f12_l0 n v5 v6 (IntKind.wrap .i64 (v7 + 1)) R κ
        else none
      else none
    else
      κ (.ex 0) (mkS [(2, .bad)] [])
def f12_l0_ls : List (Nat × Pat) := [(5, .sl 1), (6, .i .i64), (7, .i .i64)]
def f12_l0_rs : List RPat := []
theorem f12_l0_ok (n : Nat) : ∀ (v5 : List V) (v6 : Int) (v7 : Int) (R : Type) (κ : Ex → St → Option R) (r : R), f12_l0 n v5 v6 v7 R κ = some r → ∃ ee ss, κ ee ss = some r ∧ RunP C prim 12 [0, 1, 0, 1] (mkS [(5, .sl 1 v5), (6, .sc (.int .i64 v6)), (7, .sc (.int .i64 v7))] []) ee ss := by
  induction n with
  | zero => intro v5 v6 v7 R κ r h; cases h
  | succ n ih =>
    intro v5 v6 v7 R κ r h
    refine loop_round (K := K_f12_l0) (T := T_f12_l0) K_f12_l0_ok T_f12_l0_ok (p := [0, 1, 0, 1]) (by kernel_rfl) (fun st => bif ckS f12_l0_ls f12_l0_rs st then f12_l0 n ((st.env 5).cellsOf) ((st.env 6).intOf) ((st.env 7).intOf) R κ else none) (fun st0 h0 => ?_) ?_
    · obtain ⟨hs, h0⟩ := cond_some h0
      rw [canon (ls := f12_l0_ls) (rs := f12_l0_rs) (by kernel_rfl) st0 hs]
      exact ih _ _ _ R κ r h0
    · refine Eq.trans ?_ h
      kernel_rfl

def f12_s0 (v5 : List V) (v6 : Int) (v7 : Int) (R : Type) (κ : Ex → St → Option R) : Option R :=
  bif (firstBy V.intOf v5 != 0) then
    κ .rt (mkS [(2, .sc (.int .i64 (firstBy V.intOf v5)))] [])
  else
    κ (.ex 0) (mkS [(2, .bad)] [])
theorem f12_s0_eq (v5 : List V) (v6 : Int) (v7 : Int) (hp : ((v6 == ((v5.length : Nat) : Int)) && (v7 == 0) && v5.all (V.isInt .i64) && decide (v5.length ≤ 1000000000)) = true) : ∃ n, ∀ (R : Type) (κ : Ex → St → Option R), f12_l0 n v5 v6 v7 R κ = f12_s0 v5 v6 v7 R κ := by
  simp only [Bool.and_eq_true, decide_eq_true_eq, beq_iff_eq] at hp
  obtain ⟨⟨⟨rfl, rfl⟩, h3⟩, h4⟩ := hp
  refine ⟨v5.length + 1, fun R κ => ?_⟩
  refine errLoop (fun n k => f12_l0 n v5 ((v5.length : Nat) : Int) k R κ) v5 V.intOf (fun e => κ .rt (mkS [(2, .sc (.int .i64 e))] [])) (κ (.ex 0) (mkS [(2, .bad)] [])) ?_ ?_ v5.length 0 (by omega) _ (by omega)
  · intro n k hk
    have hs : V.isInt .i64 v5[k] = true := List.all_eq_true.1 h3 _ (List.getElem_mem hk)
    show f12_l0 (n + 1) v5 ((v5.length : Nat) : Int) (k : Int) R κ = _
    rw [f12_l0, dec_true (show (k : Int) < ((v5.length : Nat) : Int) by omega), dec_true (show (0 : Int) ≤ (k : Int) by omega), nth_at hk, hs, wrap_succ (by omega)]
    rfl
  · intro n
    show f12_l0 (n + 1) v5 ((v5.length : Nat) : Int) ((v5.length : Nat) : Int) R κ = _
    rw [f12_l0, dec_false (by omega)]
    rfl
def t_f12_l0 (st : St) (R : Type) (κ : Ex → St → Option R) : Option R := bif ckS f12_l0_ls f12_l0_rs st then (bif ((((st.env 6).intOf) == ((((st.env 5).cellsOf).length : Nat) : Int)) && (((st.env 7).intOf) == 0) && ((st.env 5).cellsOf).all (V.isInt .i64) && decide (((st.env 5).cellsOf).length ≤ 1000000000)) then f12_s0 ((st.env 5).cellsOf) ((st.env 6).intOf) ((st.env 7).intOf) R κ else none) else none
theorem t_f12_l0_ok : ∀ st0 R κ r, t_f12_l0 (forget C 12 [0, 1, 0, 1] st0) R κ = some r → ∃ ee ss, κ ee ss = some r ∧ RunP C prim 12 [0, 1, 0, 1] (forget C 12 [0, 1, 0, 1] st0) ee ss := by
  intro st0 R κ r h
  obtain ⟨hs, h⟩ := cond_some h
  obtain ⟨hp, h⟩ := cond_some h
  rw [canon (ls := f12_l0_ls) (rs := f12_l0_rs) (by kernel_rfl) st0 hs]
  obtain ⟨n, hn⟩ := f12_s0_eq _ _ _ hp
  rw [← hn] at h
  exact f12_l0_ok n _ _ _ R κ r h

def K_f12 : CallK := kNil
theorem K_f12_ok : KOK C prim K_f12 := KOK.nil
def T_f12 : Tab := tCons [0, 1, 0, 1] t_f12_l0 <| tNil
theorem T_f12_ok : TOK C prim 12 T_f12 := TOK.cons t_f12_l0_ok <| TOK.nil
def f12 (l : List V) : Option (V × List Rg) :=
  bif ((((l.length : Nat) : Int) == ((l.length : Nat) : Int)) && ((0 : Int) == 0) && l.all (V.isInt .i64) && decide (l.length ≤ 1000000000)) then
    bif (firstBy V.intOf l != 0) then
      some (.sc (.int .i64 (firstBy V.intOf l)), [])
    else
      some (.sc (.int .i64 0), [])
  else none
theorem f12_run (l : List V) (z9 : V × List Rg) (h : f12 l = some z9) : CallR C prim 12 [.sl 1 l] [] z9 := by
  refine call_fn (K := K_f12) (T := T_f12) K_f12_ok T_f12_ok (by kernel_rfl) ?_
  refine Eq.trans ?_ h
  kernel_rfl

theorem f12_eq (l : List V) (hp : (l.all (V.isInt .i64) && decide (l.length ≤ 1000000000)) = true) : f12 l = some (.sc (.int .i64 (firstBy V.intOf l)), []) := by
  simp only [Bool.and_eq_true, decide_eq_true_eq] at hp
  unfold f12
  rw [hp.1, dec_true hp.2]
  simp only [beq_self_eq_true, Bool.and_true, cond_true]
  exact zero_or (x := firstBy V.intOf l) (fun e => some (V.sc (.int .i64 e), []))
def k12 : PrimT := fun vs gs => match vs, gs with
  | [.sl 1 l], [] => ((l.all (V.isInt .i64) && decide (l.length ≤ 1000000000)), .sc (.int .i64 (firstBy V.intOf l)), [])
  | _, _ => (false, .bad, [])
theorem k12_ok : ∀ vs gs x, k12 vs gs = (true, x) → CallR C prim 12 vs gs x := by
  intro vs gs x h
  unfold k12 at h
  split at h
  · simp only [Prod.mk.injEq] at h
    obtain ⟨hp, rfl⟩ := h
    exact f12_run _ _ (f12_eq _ hp)
  · cases h

def K_f14 : CallK := kNil
theorem K_f14_ok : KOK C prim K_f14 := KOK.nil
def T_f14 : Tab := tNil
theorem T_f14_ok : TOK C prim 14 T_f14 := TOK.nil
def f14 (is : Bool) (e : Int) : Option (V × List Rg) :=
  bif is then
    some (.sc (.int .i64 e), [])
  else
    some (.sc (.int .i64 0), [])
theorem f14_run (is : Bool) (e : Int) (z9 : V × List Rg) (h : f14 is e = some z9) : CallR C prim 14 [.sc (.bool is), .sc (.int .i64 e)] [] z9 := by
  refine call_fn (K := K_f14) (T := T_f14) K_f14_ok T_f14_ok (by kernel_rfl) ?_
  refine Eq.trans ?_ h
  kernel_rfl

theorem f14_eq (is : Bool) (e : Int) : f14 is e = some (.sc (.int .i64 (bif is then e else 0)), []) := by cases is <;> rfl
def k14 : PrimT := fun vs gs => match vs, gs with
  | [.sc (.bool is), .sc (.int .i64 e)], [] => (true, .sc (.int .i64 (bif is then e else 0)), [])
  | _, _ => (false, .bad, [])
theorem k14_ok : ∀ vs gs x, k14 vs gs = (true, x) → CallR C prim 14 vs gs x := by
  intro vs gs x h
  unfold k14 at h
  split at h
  · simp only [Prod.mk.injEq, true_and] at h
    subst h
    exact f14_run _ _ _ (f14_eq _ _)
  · cases h

def K_f15 : CallK := kCons 46 k46 <| kNil
theorem K_f15_ok : KOK C prim K_f15 := KOK.cons k46_ok <| KOK.nil
def T_f15 : Tab := tNil
theorem T_f15_ok : TOK C prim 15 T_f15 := TOK.nil
def f15 (s : ByteArray) : Option (V × List Rg) :=
  some (.sc (.bool (decide ((idxB s 10) ≥ 0))), [])
theorem f15_run (s : ByteArray) (z9 : V × List Rg) (h : f15 s = some z9) : CallR C prim 15 [.sc (.string s), .sc (.string ⟨#[10]⟩)] [] z9 := by
  refine call_fn (K := K_f15) (T := T_f15) K_f15_ok T_f15_ok (by kernel_rfl) ?_
  refine Eq.trans ?_ h
  kernel_rfl

theorem f15_eq (s : ByteArray) : f15 s = some (.sc (.bool (hasB s 10)), []) := by
  unfold f15
  rw [hasNl]
def k15 : PrimT := fun vs gs => match vs, gs with
  | [.sc (.string s), .sc (.string q1)], [] => ((strEq q1 (⟨#[10]⟩ : ByteArray) && true), .sc (.bool (hasB s 10)), [])
  | _, _ => (false, .bad, [])
theorem k15_ok : ∀ vs gs x, k15 vs gs = (true, x) → CallR C prim 15 vs gs x := by
  intro vs gs x h
  unfold k15 at h
  split at h
  · simp only [Prod.mk.injEq] at h
    obtain ⟨hp, rfl⟩ := h
    rw [Bool.and_eq_true] at hp
    obtain ⟨hq, hp⟩ := hp
    obtain rfl := (strEq_iff _ _).1 hq
    exact f15_run _ _ (f15_eq _)
  · cases h

def K_f11 : CallK := kCons 15 k15 <| kCons 44 k44 <| kCons 45 k45 <| kNil
theorem K_f11_ok : KOK C prim K_f11 := KOK.cons k15_ok <| KOK.cons k44_ok <| KOK.cons k45_ok <| KOK.nil
def T_f11 : Tab := tNil
theorem T_f11_ok : TOK C prim 11 T_f11 := TOK.nil
def f11 (o0 : ByteArray) (o1 : List V) (o2 : Bool) (o3 : Bool) (o4 : Bool) (a : ByteArray) (b : ByteArray) : Option (V × List Rg) :=
  bif ((okKeys o1 && decide (o1.length ≤ 1000000000)) && true) then
    bif ((valE o0 o1) != 0) then
      some (.tp [.sc (.int .i64 0), .sc (.int .i64 (valE o0 o1))], [])
    else
      bif (hasB a 10) then
        some (.tp [.sc (.int .i64 0), .sc (.int .i64 5)], [])
      else
        bif (hasB b 10) then
          some (.tp [.sc (.int .i64 0), .sc (.int .i64 5)], [])
        else
          bif (decide (((a.size : Nat) : Int) > 65536)) then
            some (.tp [.sc (.int .i64 0), .sc (.int .i64 2)], [])
          else
            bif (decide (((b.size : Nat) : Int) > 65536)) then
              some (.tp [.sc (.int .i64 0), .sc (.int .i64 2)], [])
            else
              bif ((okKeys o1 && !(badKeys o1) && decide (o1.length ≤ 1000000000) && decide (a.size ≤ 1000000000) && decide (b.size ≤ 1000000000)) && true) then
                some (.tp [.sc (.int .i64 (ordI o1 o0 o2 o3 o4 a b)), .sc (.int .i64 0)], [])
              else none
  else none
theorem f11_run (o0 : ByteArray) (o1 : List V) (o2 : Bool) (o3 : Bool) (o4 : Bool) (a : ByteArray) (b : ByteArray) (z9 : V × List Rg) (h : f11 o0 o1 o2 o3 o4 a b = some z9) : CallR C prim 11 [.ag [.sc (.string o0), .sl 8 o1, .sc (.bool o2), .sc (.bool o3), .sc (.bool o4)], .sc (.string a), .sc (.string b)] [] z9 := by
  refine call_fn (K := K_f11) (T := T_f11) K_f11_ok T_f11_ok (by kernel_rfl) ?_
  refine Eq.trans ?_ h
  kernel_rfl

theorem f11_eq (o0 : ByteArray) (o1 : List V) (o2 : Bool) (o3 : Bool) (o4 : Bool) (a : ByteArray) (b : ByteArray) (hp : (okKeys o1 && decide (o1.length ≤ 10000000) && decide (a.size ≤ 10000000) && decide (b.size ≤ 10000000)) = true) : f11 o0 o1 o2 o3 o4 a b = some (.tp [.sc (.int .i64 (cpS o1 o0 o2 o3 o4 a b)), .sc (.int .i64 (cpE o1 o0 a b))], []) := by
  simp only [Bool.and_eq_true, decide_eq_true_eq] at hp
  obtain ⟨⟨⟨h1, h2⟩, h3⟩, h4⟩ := hp
  unfold f11 cpS cpE
  rw [h1, dec_true (show o1.length ≤ 1000000000 by omega)]
  cases hv : valE o0 o1 != 0 with
  | true =>
    have : (valE o0 o1 == 0) = false := by rw [bne_iff_ne] at hv; exact beq_eq_false_iff_ne.2 hv
    simp only [cond_true, this, cond_false, Bool.and_self]
  | false =>
    have hz : valE o0 o1 = 0 := by simpa using hv
    rw [valE_zero hz]
    cases hasB a 10 with
    | true => rfl
    | false =>
    cases hasB b 10 with
    | true => rfl
    | false =>
    cases decide (((a.size : Nat) : Int) > 65536) with
    | true => rfl
    | false =>
    cases decide (((b.size : Nat) : Int) > 65536) with
    | true => rfl
    | false =>
      rw [dec_true (show a.size ≤ 1000000000 by omega), dec_true (show b.size ≤ 1000000000 by omega)]
      rfl
def k11 : PrimT := fun vs gs => match vs, gs with
  | [.ag [.sc (.string o0), .sl 8 o1, .sc (.bool o2), .sc (.bool o3), .sc (.bool o4)], .sc (.string a), .sc (.string b)], [] => ((okKeys o1 && decide (o1.length ≤ 10000000) && decide (a.size ≤ 10000000) && decide (b.size ≤ 10000000)), .tp [.sc (.int .i64 (cpS o1 o0 o2 o3 o4 a b)), .sc (.int .i64 (cpE o1 o0 a b))], [])
  | _, _ => (false, .bad, [])
theorem k11_ok : ∀ vs gs x, k11 vs gs = (true, x) → CallR C prim 11 vs gs x := by
  intro vs gs x h
  unfold k11 at h
  split at h
  · simp only [Prod.mk.injEq] at h
    obtain ⟨hp, rfl⟩ := h
    exact f11_run _ _ _ _ _ _ _ _ (f11_eq _ _ _ _ _ _ _ hp)
  · cases h

def K_f3 : CallK := kCons 11 k11 <| kCons 12 k12 <| kCons 13 k13 <| kCons 14 k14 <| kCons 15 k15 <| kCons 16 k16 <| kCons 17 k17 <| kNil
theorem K_f3_ok : KOK C prim K_f3 := KOK.cons k11_ok <| KOK.cons k12_ok <| KOK.cons k13_ok <| KOK.cons k14_ok <| KOK.cons k15_ok <| KOK.cons k16_ok <| KOK.cons k17_ok <| KOK.nil
def T_f3 : Tab := tNil
theorem T_f3_ok : TOK C prim 3 T_f3 := TOK.nil
def f3 (o0 : ByteArray) (o1 : List V) (o2 : Bool) (o3 : Bool) (o4 : Bool) (a : ByteArray) (b : ByteArray) : Option (V × List Rg) :=
  bif ((okKeys o1 && decide (o1.length ≤ 10000000) && decide (a.size ≤ 10000000) && decide (b.size ≤ 10000000)) && true) then
    bif ((okKeys o1 && decide (o1.length ≤ 1000000000)) && true) then
      bif ((decide ((a.size + b.size) ≤ 9223372036854775807)) && true) then
        bif (decide (((a.size : Nat) : Int) > 65536)) then
          bif ((([.sc (.int .i64 (valE o0 o1)), .sc (.int .i64 (bif (hasB (a ++ b) 10) then (5 : Int) else 0)), .sc (.int .i64 (bif true then (2 : Int) else 0))] : List V).all (V.isInt .i64) && decide (([.sc (.int .i64 (valE o0 o1)), .sc (.int .i64 (bif (hasB (a ++ b) 10) then (5 : Int) else 0)), .sc (.int .i64 (bif true then (2 : Int) else 0))] : List V).length ≤ 1000000000)) && true) then
            bif ((firstBy V.intOf ([.sc (.int .i64 (valE o0 o1)), .sc (.int .i64 (bif (hasB (a ++ b) 10) then (5 : Int) else 0)), .sc (.int .i64 (bif true then (2 : Int) else 0))] : List V)) != 0) then
              bif ((cpS o1 o0 o2 o3 o4 a b) == 0) then
                some (.sc (.bool ((cpE o1 o0 a b) == (firstBy V.intOf ([.sc (.int .i64 (valE o0 o1)), .sc (.int .i64 (bif (hasB (a ++ b) 10) then (5 : Int) else 0)), .sc (.int .i64 (bif true then (2 : Int) else 0))] : List V)))), [])
              else
                some (.sc (.bool false), [])
            else
              bif ((cpE o1 o0 a b) == 0) then
                bif ((okKeys o1 && !(badKeys o1) && decide (o1.length ≤ 1000000000) && decide (a.size ≤ 1000000000) && decide (b.size ≤ 1000000000)) && true) then
                  some (.sc (.bool ((cpS o1 o0 o2 o3 o4 a b) == (ordI o1 o0 o2 o3 o4 a b))), [])
                else none
              else
                some (.sc (.bool false), [])
          else none
        else
          bif ((([.sc (.int .i64 (valE o0 o1)), .sc (.int .i64 (bif (hasB (a ++ b) 10) then (5 : Int) else 0)), .sc (.int .i64 (bif (decide (((b.size : Nat) : Int) > 65536)) then (2 : Int) else 0))] : List V).all (V.isInt .i64) && decide (([.sc (.int .i64 (valE o0 o1)), .sc (.int .i64 (bif (hasB (a ++ b) 10) then (5 : Int) else 0)), .sc (.int .i64 (bif (decide (((b.size : Nat) : Int) > 65536)) then (2 : Int) else 0))] : List V).length ≤ 1000000000)) && true) then
            bif ((firstBy V.intOf ([.sc (.int .i64 (valE o0 o1)), .sc (.int .i64 (bif (hasB (a ++ b) 10) then (5 : Int) else 0)), .sc (.int .i64 (bif (decide (((b.size : Nat) : Int) > 65536)) then (2 : Int) else 0))] : List V)) != 0) then
              bif ((cpS o1 o0 o2 o3 o4 a b) == 0) then
                some (.sc (.bool ((cpE o1 o0 a b) == (firstBy V.intOf ([.sc (.int .i64 (valE o0 o1)), .sc (.int .i64 (bif (hasB (a ++ b) 10) then (5 : Int) else 0)), .sc (.int .i64 (bif (decide (((b.size : Nat) : Int) > 65536)) then (2 : Int) else 0))] : List V)))), [])
              else
                some (.sc (.bool false), [])
            else
              bif ((cpE o1 o0 a b) == 0) then
                bif ((okKeys o1 && !(badKeys o1) && decide (o1.length ≤ 1000000000) && decide (a.size ≤ 1000000000) && decide (b.size ≤ 1000000000)) && true) then
                  some (.sc (.bool ((cpS o1 o0 o2 o3 o4 a b) == (ordI o1 o0 o2 o3 o4 a b))), [])
                else none
              else
                some (.sc (.bool false), [])
          else none
      else none
    else none
  else none
theorem f3_run (o0 : ByteArray) (o1 : List V) (o2 : Bool) (o3 : Bool) (o4 : Bool) (a : ByteArray) (b : ByteArray) (z9 : V × List Rg) (h : f3 o0 o1 o2 o3 o4 a b = some z9) : CallR C prim 3 [.ag [.sc (.string o0), .sl 8 o1, .sc (.bool o2), .sc (.bool o3), .sc (.bool o4)], .sc (.string a), .sc (.string b)] [] z9 := by
  refine call_fn (K := K_f3) (T := T_f3) K_f3_ok T_f3_ok (by kernel_rfl) ?_
  refine Eq.trans ?_ h
  kernel_rfl

theorem sc_want (o0 : ByteArray) (o1 : List V) (a b : ByteArray) (w : Bool) (hw : w = (decide (((a.size : Nat) : Int) > 65536) || decide (((b.size : Nat) : Int) > 65536))) : firstBy V.intOf ([.sc (.int .i64 (valE o0 o1)), .sc (.int .i64 (bif (hasB (a ++ b) 10) then (5 : Int) else 0)), .sc (.int .i64 (bif w then (2 : Int) else 0))] : List V) = cpE o1 o0 a b := by
  have e : firstBy V.intOf ([.sc (.int .i64 (valE o0 o1)), .sc (.int .i64 (bif (hasB (a ++ b) 10) then (5 : Int) else 0)), .sc (.int .i64 (bif w then (2 : Int) else 0))] : List V) = bif valE o0 o1 != 0 then valE o0 o1 else bif (bif (hasB (a ++ b) 10) then (5 : Int) else 0) != 0 then (bif (hasB (a ++ b) 10) then (5 : Int) else 0) else bif (bif w then (2 : Int) else 0) != 0 then (bif w then (2 : Int) else 0) else 0 := rfl
  rw [e, hasB_app]
  unfold cpE
  rw [← hw]
  cases valE o0 o1 != 0 <;> cases hasB a 10 <;> cases hasB b 10 <;> cases w <;> rfl
theorem sc_tail (o0 : ByteArray) (o1 : List V) (o2 o3 o4 : Bool) (a b : ByteArray) (h1 : okKeys o1 = true) (h2 : o1.length ≤ 10000000) (h3 : a.size ≤ 10000000) (h4 : b.size ≤ 10000000) : (bif (cpE o1 o0 a b != 0) then
              bif ((cpS o1 o0 o2 o3 o4 a b) == 0) then
                some (V.sc (.bool ((cpE o1 o0 a b) == cpE o1 o0 a b)), ([] : List Rg))
              else
                some (.sc (.bool false), [])
            else
              bif ((cpE o1 o0 a b) == 0) then
                bif ((okKeys o1 && !(badKeys o1) && decide (o1.length ≤ 1000000000) && decide (a.size ≤ 1000000000) && decide (b.size ≤ 1000000000)) && true) then
                  some (.sc (.bool ((cpS o1 o0 o2 o3 o4 a b) == (ordI o1 o0 o2 o3 o4 a b))), [])
                else none
              else
                some (.sc (.bool false), [])) = some (.sc (.bool true), []) := by
  unfold cpS
  cases h : cpE o1 o0 a b != 0 with
  | true =>
    have : (cpE o1 o0 a b == 0) = false := by rw [bne_iff_ne] at h; exact beq_eq_false_iff_ne.2 h
    rw [this]
    simp only [cond_true, cond_false, beq_self_eq_true]
  | false =>
    have hz : cpE o1 o0 a b = 0 := by simpa using h
    have hv : valE o0 o1 = 0 := by
      unfold cpE at hz
      cases hq : valE o0 o1 != 0 with
      | true => rw [hq, cond_true] at hz; exact hz
      | false => simpa using hq
    rw [hz, valE_zero hv, h1, dec_true (show o1.length ≤ 1000000000 by omega), dec_true (show a.size ≤ 1000000000 by omega), dec_true (show b.size ≤ 1000000000 by omega)]
    simp only [cond_true, cond_false, beq_self_eq_true, Bool.not_false, Bool.and_self]
theorem f3_eq (o0 : ByteArray) (o1 : List V) (o2 : Bool) (o3 : Bool) (o4 : Bool) (a : ByteArray) (b : ByteArray) (hp : (okKeys o1 && decide (o1.length ≤ 10000000) && decide (a.size ≤ 10000000) && decide (b.size ≤ 10000000)) = true) : f3 o0 o1 o2 o3 o4 a b = some (.sc (.bool true), []) := by
  have hq := hp
  simp only [Bool.and_eq_true, decide_eq_true_eq] at hp
  obtain ⟨⟨⟨h1, h2⟩, h3⟩, h4⟩ := hp
  have ht := sc_tail o0 o1 o2 o3 o4 a b h1 h2 h3 h4
  unfold f3
  rw [hq, h1, dec_true (show o1.length ≤ 1000000000 by omega), dec_true (show a.size + b.size ≤ 9223372036854775807 by omega)]
  rw [h1, dec_true (show o1.length ≤ 1000000000 by omega)] at ht
  by_cases hx : ((a.size : Nat) : Int) > 65536
  · rw [dec_true hx, sc_want o0 o1 a b true (by rw [dec_true hx, Bool.true_or])]
    exact ht
  · rw [dec_false hx, sc_want o0 o1 a b (decide (((b.size : Nat) : Int) > 65536)) (by rw [dec_false hx, Bool.false_or])]
    exact ht
def k3 : PrimT := fun vs gs => match vs, gs with
  | [.ag [.sc (.string o0), .sl 8 o1, .sc (.bool o2), .sc (.bool o3), .sc (.bool o4)], .sc (.string a), .sc (.string b)], [] => ((okKeys o1 && decide (o1.length ≤ 10000000) && decide (a.size ≤ 10000000) && decide (b.size ≤ 10000000)), .sc (.bool true), [])
  | _, _ => (false, .bad, [])
theorem k3_ok : ∀ vs gs x, k3 vs gs = (true, x) → CallR C prim 3 vs gs x := by
  intro vs gs x h
  unfold k3 at h
  split at h
  · simp only [Prod.mk.injEq] at h
    obtain ⟨hp, rfl⟩ := h
    exact f3_run _ _ _ _ _ _ _ _ (f3_eq _ _ _ _ _ _ _ hp)
  · cases h
end Go.Ab
