/- Functions of texts to the base 64 and back, as the machine runs them. -/
import Derived.Test.YtnjgofgogeileaaDT
import Derived.Test.YtnjgofgogeileaaZU
namespace Go.Ab
open Go Go.Proofs Go.RowKit
set_option linter.unusedSimpArgs false
set_option linter.unusedVariables false

def K_f54 : CallK := kCons 90 k90 <| kNil
theorem K_f54_ok : KOK C prim K_f54 := KOK.cons k90_ok <| KOK.nil
def T_f54 : Tab := tNil
theorem T_f54_ok : TOK C prim 54 T_f54 := TOK.nil
def f54 (s : ByteArray) (c : Int) : Option (V × List Rg) :=
  some (.sc (.int .i64 (idxB s c)), [])
theorem f54_run (s : ByteArray) (c : Int) (x : V × List Rg) (h : f54 s c = some x) : CallR C prim 54 [.sc (.string s), .sc (.int .u8 c)] [] x := by
  refine call_fn (K := K_f54) (T := T_f54) K_f54_ok T_f54_ok (by kernel_rfl) ?_
  refine Eq.trans ?_ h
  kernel_rfl

theorem f54_eq (s : ByteArray) (c : Int) : f54 s c = some (.sc (.int .i64 (idxB s c)), []) := by rfl
def k54 : PrimT := fun vs gs => match vs, gs with
  | [.sc (.string s), .sc (.int .u8 c)], [] => (true, .sc (.int .i64 (idxB s c)), [])
  | _, _ => (false, .bad, [])
theorem k54_ok : ∀ vs gs x, k54 vs gs = (true, x) → CallR C prim 54 vs gs x := by
  intro vs gs x h
  unfold k54 at h
  split at h
  · simp only [Prod.mk.injEq, true_and] at h
    subst h
    exact f54_run _ _ _ (f54_eq _ _)
  · cases h

def K_f61 : CallK := kCons 91 k91 <| kNil
theorem K_f61_ok : KOK C prim K_f61 := KOK.cons k91_ok <| KOK.nil
def T_f61 : Tab := tNil
theorem T_f61_ok : TOK C prim 61 T_f61 := TOK.nil
def f61 (c : Int) (r01 : List V) : Option (V × List Rg) :=
  bif (((roomy ((r01.length + 1) * 1)) && (roomy (r01.length + 1))) && true) then
    some (.sc .nilIface, [⟨true, [.slf, .own 5 false (r01 ++ [.sc (.int .u8 c)])]⟩])
  else none
theorem f61_run (c : Int) (r01 : List V) (x : V × List Rg) (h : f61 c r01 = some x) : CallR C prim 61 [.ptrB (.par 0) 0, .sc (.int .u8 c)] [⟨true, [.slf, .own 5 false r01]⟩] x := by
  refine call_fn (K := K_f61) (T := T_f61) K_f61_ok T_f61_ok (by kernel_rfl) ?_
  refine Eq.trans ?_ h
  kernel_rfl

theorem f61_eq (c : Int) (r01 : List V) (hp : (room1 r01) = true) : f61 c r01 = some (.sc .nilIface, [⟨true, [.slf, .own 5 false (r01 ++ [.sc (.int .u8 c)])]⟩]) := by
  unfold room1 at hp
  have h := of_decide_eq_true hp
  unfold f61 roomy
  rw [Nat.mul_one, dec_true h]
  rfl
def k61 : PrimT := fun vs gs => match vs, gs with
  | [.ptrB (.par 0) 0, .sc (.int .u8 c)], [⟨true, [.slf, .own 5 false r01]⟩] => ((room1 r01), .sc .nilIface, [⟨true, [.slf, .own 5 false (r01 ++ [.sc (.int .u8 c)])]⟩])
  | _, _ => (false, .bad, [])
theorem k61_ok : ∀ vs gs x, k61 vs gs = (true, x) → CallR C prim 61 vs gs x := by
  intro vs gs x h
  unfold k61 at h
  split at h
  · simp only [Prod.mk.injEq] at h
    obtain ⟨hp, rfl⟩ := h
    exact f61_run _ _ _ (f61_eq _ _ hp)
  · cases h

def K_f24_l1 : CallK := kNil
theorem K_f24_l1_ok : KOK C prim K_f24_l1 := KOK.nil
def T_f24_l1 : Tab := tNil
theorem T_f24_l1_ok : TOK C prim 24 T_f24_l1 := TOK.nil
def f24_l1 : Nat → ByteArray → Int → Int → List V → (R : Type) → (Ex → St → Option R) → Option R
  | 0, _, _, _, _, _, _ => none
  | n + 1, s, n', v18, b1, R, κ =>
    bif (decide (v18 < 3)) then
      bif (decide (v18 < ((s.size : Nat) : Int))) then
        bif (((decide ((0 : Int) ≤ v18)) && (decide (v18 < ((s.size : Nat) : Int)))) && true) then
          f24_l1 n s (bitsI .or .i64 (IntKind.wrap .i64 (n' * (2 ^ (min 8 64)))) (IntKind.wrap .i64 ((s.data.getD (v18).toNat 0).toNat : Int))) (IntKind.wrap .i64 (v18 + 1)) b1 R κ
        else none
      else
        f24_l1 n s (IntKind.wrap .i64 (n' * (2 ^ (min 8 64)))) (IntKind.wrap .i64 (v18 + 1)) b1 R κ
    else
      κ (.ex 2) (mkS [(0, .sc (.string s)), (2, .bad), (3, .bad), (4, .ptrB (.loc 4) 0), (5, .sc (.int .i64 n'))] [(.loc 4, some ⟨true, [.slf, .own 5 false b1]⟩)])
def f24_l1_ls : List (Nat × Pat) := [(0, .s), (4, .is (.ptrB (.loc 4) 0)), (5, .i .i64), (18, .i .i64)]
def f24_l1_rs : List RPat := [⟨.loc 4, true, [.is (.slf), .own 5 false]⟩]
theorem f24_l1_ok (n : Nat) : ∀ (s : ByteArray) (n' : Int) (v18 : Int) (b1 : List V) (R : Type) (κ : Ex → St → Option R) (r : R), f24_l1 n s n' v18 b1 R κ = some r → ∃ ee ss, κ ee ss = some r ∧ RunP C prim 24 [0, 1, 0, 1, 0, 0, 1, 0, 0, 0, 1, 1, 1] (mkS [(0, .sc (.string s)), (4, .ptrB (.loc 4) 0), (5, .sc (.int .i64 n')), (18, .sc (.int .i64 v18))] [(.loc 4, some ⟨true, [.slf, .own 5 false b1]⟩)]) ee ss := by
  induction n with
  | zero => intro s n' v18 b1 R κ r h; cases h
  | succ n ih =>
    intro s n' v18 b1 R κ r h
    refine loop_round (K := K_f24_l1) (T := T_f24_l1) K_f24_l1_ok T_f24_l1_ok (p := [0, 1, 0, 1, 0, 0, 1, 0, 0, 0, 1, 1, 1]) (by kernel_rfl) (fun st => bif ckS f24_l1_ls f24_l1_rs st then f24_l1 n ((st.env 0).strOf) ((st.env 5).intOf) ((st.env 18).intOf) ((nthV (rowOf (st.regs (.loc 4))) 1).cellsOf) R κ else none) (fun st0 h0 => ?_) ?_
    · obtain ⟨hs, h0⟩ := cond_some h0
      rw [canon (ls := f24_l1_ls) (rs := f24_l1_rs) (by kernel_rfl) st0 hs]
      exact ih _ _ _ _ R κ r h0
    · refine Eq.trans ?_ h
      kernel_rfl

def f24_s1 (s : ByteArray) (n' : Int) (v18 : Int) (b1 : List V) (R : Type) (κ : Ex → St → Option R) : Option R :=
  κ (.ex 2) (mkS [(0, .sc (.string s)), (2, .bad), (3, .bad), (4, .ptrB (.loc 4) 0), (5, .sc (.int .i64 (grp3 s)))] [(.loc 4, some ⟨true, [.slf, .own 5 false b1]⟩)])
theorem shlByte (n : Nat) (hn : n < 2 ^ 30) : IntKind.wrap .i64 ((n : Int) * (2 ^ (min 8 64))) = ((n * 256 : Nat) : Int) := by
  have h1 : ((n : Int) * (2 ^ (min 8 64))) = ((n * 256 : Nat) : Int) := by
    have : ((2 : Int) ^ (min 8 64)) = 256 := by decide
    rw [this]; omega
  rw [h1, wrap_id (by omega) (by omega)]
theorem orByte (n b : Nat) (hn : n < 2 ^ 30) (hb : b < 256) : bitsI .or .i64 (IntKind.wrap .i64 ((n : Int) * (2 ^ (min 8 64)))) (IntKind.wrap .i64 (b : Int)) = ((n * 256 + b : Nat) : Int) := by
  rw [shlByte n hn, wrap_id (by omega) (by omega), or64 _ _ (by omega) (by omega)]
  have := Nat.two_pow_add_eq_or_of_lt (i := 8) (b := b) (by omega) n
  have e : 2 ^ 8 * n = n * 256 := by omega
  rw [e] at this
  rw [this]
theorem nthB_lt (l : List UInt8) (k : Nat) : nthB l k < 256 := by
  unfold nthB
  split
  · next b _ => exact b.toNat_lt
  · omega
theorem f24_r1 (n : Nat) (s : ByteArray) (v k : Nat) (b1 : List V) (hk : k < 3) (hv : v < 2 ^ 30) (R : Type) (κ : Ex → St → Option R) : f24_l1 (n + 1) s (v : Int) (k : Int) b1 R κ = f24_l1 n s ((v * 256 + nthB s.data.toList k : Nat) : Int) ((k + 1 : Nat) : Int) b1 R κ := by
  rw [f24_l1, dec_true (show (k : Int) < 3 by omega), wrap_succ (by omega)]
  by_cases h : k < s.size
  · have hl : k < s.data.toList.length := by rw [ba_size]; exact h
    have hn : nthB s.data.toList k = (s.data.toList[k]).toNat := by unfold nthB; rw [List.getElem?_eq_getElem hl]
    rw [dec_true (show (k : Int) < ((s.size : Nat) : Int) by omega), dec_true (show (0 : Int) ≤ (k : Int) by omega), Int.toNat_natCast, getD_list s k hl, orByte _ _ hv (UInt8.toNat_lt _), hn]
    rfl
  · have hn : nthB s.data.toList k = 0 := by unfold nthB; rw [List.getElem?_eq_none (by rw [ba_size]; omega)]
    rw [dec_false (show ¬ (k : Int) < ((s.size : Nat) : Int) by omega), shlByte _ hv, hn, cond_true, cond_false, Nat.add_zero (v * 256)]
theorem grpI_eq : ∀ l : List UInt8, grpI l = ((((0 * 256 + nthB l 0) * 256 + nthB l 1) * 256 + nthB l 2 : Nat) : Int)
  | [] => by
    have h0 : ∀ k, nthB [] k = 0 := fun _ => rfl
    rw [h0, h0, h0, grpI]
    omega
  | [a] => by
    have h0 : nthB [a] 0 = a.toNat := rfl
    have h1 : nthB [a] 1 = 0 := rfl
    have h2 : nthB [a] 2 = 0 := rfl
    rw [h0, h1, h2, grpI]
    omega
  | [a, b] => by
    have h0 : nthB [a, b] 0 = a.toNat := rfl
    have h1 : nthB [a, b] 1 = b.toNat := rfl
    have h2 : nthB [a, b] 2 = 0 := rfl
    rw [h0, h1, h2, grpI]
    omega
  | a :: b :: c :: l => by
    have h0 : nthB (a :: b :: c :: l) 0 = a.toNat := rfl
    have h1 : nthB (a :: b :: c :: l) 1 = b.toNat := rfl
    have h2 : nthB (a :: b :: c :: l) 2 = c.toNat := rfl
    rw [h0, h1, h2, grpI]
    omega
theorem f24_s1_eq (s : ByteArray) (n' : Int) (v18 : Int) (b1 : List V) (hp : ((n' == 0) && (v18 == 0)) = true) : ∃ n, ∀ (R : Type) (κ : Ex → St → Option R), f24_l1 n s n' v18 b1 R κ = f24_s1 s n' v18 b1 R κ := by
  simp only [Bool.and_eq_true, beq_iff_eq] at hp
  obtain ⟨rfl, rfl⟩ := hp
  have h0 := nthB_lt s.data.toList 0
  have h1 := nthB_lt s.data.toList (0 + 1)
  refine ⟨4, fun R κ => ?_⟩
  show f24_l1 4 s ((0 : Nat) : Int) ((0 : Nat) : Int) b1 R κ = _
  rw [f24_r1 3 _ _ _ _ (by omega) (by omega), f24_r1 2 _ _ _ _ (by omega) (by omega), f24_r1 1 _ _ _ _ (by omega) (by omega), f24_l1, dec_false (by omega)]
  unfold f24_s1 grp3
  rw [grpI_eq]
  rfl
def t_f24_l1 (st : St) (R : Type) (κ : Ex → St → Option R) : Option R := bif ckS f24_l1_ls f24_l1_rs st then (bif ((((st.env 5).intOf) == 0) && (((st.env 18).intOf) == 0)) then f24_s1 ((st.env 0).strOf) ((st.env 5).intOf) ((st.env 18).intOf) ((nthV (rowOf (st.regs (.loc 4))) 1).cellsOf) R κ else none) else none
theorem t_f24_l1_ok : ∀ st0 R κ r, t_f24_l1 (forget C 24 [0, 1, 0, 1, 0, 0, 1, 0, 0, 0, 1, 1, 1] st0) R κ = some r → ∃ ee ss, κ ee ss = some r ∧ RunP C prim 24 [0, 1, 0, 1, 0, 0, 1, 0, 0, 0, 1, 1, 1] (forget C 24 [0, 1, 0, 1, 0, 0, 1, 0, 0, 0, 1, 1, 1] st0) ee ss := by
  intro st0 R κ r h
  obtain ⟨hs, h⟩ := cond_some h
  obtain ⟨hp, h⟩ := cond_some h
  rw [canon (ls := f24_l1_ls) (rs := f24_l1_rs) (by kernel_rfl) st0 hs]
  obtain ⟨n, hn⟩ := f24_s1_eq _ _ _ _ hp
  rw [← hn] at h
  exact f24_l1_ok n _ _ _ _ R κ r h

def K_f24_l2 : CallK := kCons 61 k61 <| kNil
theorem K_f24_l2_ok : KOK C prim K_f24_l2 := KOK.cons k61_ok <| KOK.nil
def T_f24_l2 : Tab := tNil
theorem T_f24_l2_ok : TOK C prim 24 T_f24_l2 := TOK.nil
def f24_l2 : Nat → ByteArray → Int → Int → List V → (R : Type) → (Ex → St → Option R) → Option R
  | 0, _, _, _, _, _, _ => none
  | n + 1, s, n', v34, b1, R, κ =>
    bif (decide (v34 < 4)) then
      bif (decide (v34 > ((s.size : Nat) : Int))) then
        bif ((room1 b1) && true) then
          f24_l2 n s n' (IntKind.wrap .i64 (v34 + 1)) (b1 ++ [.sc (.int .u8 (61 : Int))]) R κ
        else none
      else
        bif ((decide ((0 : Int) ≤ (IntKind.wrap .i64 ((18 : Int) - (IntKind.wrap .i64 ((6 : Int) * v34)))))) && true) then
          bif (((decide ((0 : Int) ≤ (bitsI .and .i64 (Int.fdiv n' (2 ^ (min ((IntKind.wrap .i64 ((18 : Int) - (IntKind.wrap .i64 ((6 : Int) * v34))))).toNat 64))) 63))) && (decide ((bitsI .and .i64 (Int.fdiv n' (2 ^ (min ((IntKind.wrap .i64 ((18 : Int) - (IntKind.wrap .i64 ((6 : Int) * v34))))).toNat 64))) 63) < 64))) && true) then
            bif ((room1 b1) && true) then
              f24_l2 n s n' (IntKind.wrap .i64 (v34 + 1)) (b1 ++ [.sc (.int .u8 (((⟨#[65, 66, 67, 68, 69, 70, 71, 72, 73, 74, 75, 76, 77, 78, 79, 80, 81, 82, 83, 84, 85, 86, 87, 88, 89, 90, 97, 98, 99, 100, 101, 102, 103, 104, 105, 106, 107, 108, 109, 110, 111, 112, 113, 114, 115, 116, 117, 118, 119, 120, 121, 122, 48, 49, 50, 51, 52, 53, 54, 55, 56, 57, 43, 47]⟩ : ByteArray).data.getD ((bitsI .and .i64 (Int.fdiv n' (2 ^ (min ((IntKind.wrap .i64 ((18 : Int) - (IntKind.wrap .i64 ((6 : Int) * v34))))).toNat 64))) 63)).toNat 0).toNat : Int))]) R κ
            else none
          else none
        else none
    else
      κ (.ex 4) (mkS [(0, .sc (.string s)), (2, .bad), (3, .bad), (4, .ptrB (.loc 4) 0)] [(.loc 4, some ⟨true, [.slf, .own 5 false b1]⟩)])
def f24_l2_ls : List (Nat × Pat) := [(0, .s), (4, .is (.ptrB (.loc 4) 0)), (5, .i .i64), (34, .i .i64)]
def f24_l2_rs : List RPat := [⟨.loc 4, true, [.is (.slf), .own 5 false]⟩]
theorem f24_l2_ok (n : Nat) : ∀ (s : ByteArray) (n' : Int) (v34 : Int) (b1 : List V) (R : Type) (κ : Ex → St → Option R) (r : R), f24_l2 n s n' v34 b1 R κ = some r → ∃ ee ss, κ ee ss = some r ∧ RunP C prim 24 [0, 1, 1, 1, 0, 0, 1, 0, 0, 0, 1, 1, 1] (mkS [(0, .sc (.string s)), (4, .ptrB (.loc 4) 0), (5, .sc (.int .i64 n')), (34, .sc (.int .i64 v34))] [(.loc 4, some ⟨true, [.slf, .own 5 false b1]⟩)]) ee ss := by
  induction n with
  | zero => intro s n' v34 b1 R κ r h; cases h
  | succ n ih =>
    intro s n' v34 b1 R κ r h
    refine loop_round (K := K_f24_l2) (T := T_f24_l2) K_f24_l2_ok T_f24_l2_ok (p := [0, 1, 1, 1, 0, 0, 1, 0, 0, 0, 1, 1, 1]) (by kernel_rfl) (fun st => bif ckS f24_l2_ls f24_l2_rs st then f24_l2 n ((st.env 0).strOf) ((st.env 5).intOf) ((st.env 34).intOf) ((nthV (rowOf (st.regs (.loc 4))) 1).cellsOf) R κ else none) (fun st0 h0 => ?_) ?_
    · obtain ⟨hs, h0⟩ := cond_some h0
      rw [canon (ls := f24_l2_ls) (rs := f24_l2_rs) (by kernel_rfl) st0 hs]
      exact ih _ _ _ _ R κ r h0
    · refine Eq.trans ?_ h
      kernel_rfl

def f24_s2 (s : ByteArray) (n' : Int) (v34 : Int) (b1 : List V) (R : Type) (κ : Ex → St → Option R) : Option R :=
  κ (.ex 4) (mkS [(0, .sc (.string s)), (2, .bad), (3, .bad), (4, .ptrB (.loc 4) 0)] [(.loc 4, some ⟨true, [.slf, .own 5 false (b1 ++ u8V (let4 s.size n'.toNat))]⟩)])
theorem f24_r2 (n : Nat) (s : ByteArray) (v k : Nat) (b1 : List V) (hk : k < 4) (hv : v < 16777216) (hb : b1.length ≤ 2000000000000) (R : Type) (κ : Ex → St → Option R) : f24_l2 (n + 1) s (v : Int) (k : Int) b1 R κ = f24_l2 n s (v : Int) ((k + 1 : Nat) : Int) (b1 ++ [.sc (.int .u8 ((if k ≤ s.size then l64 (v / 2 ^ (18 - 6 * k)) else 61).toNat : Int))]) R κ := by
  have hr : room1 b1 = true := by unfold room1; exact dec_true (by omega)
  rw [f24_l2, dec_true (show (k : Int) < 4 by omega), wrap_succ (by omega), hr]
  by_cases h : k ≤ s.size
  · rw [dec_false (show ¬ (k : Int) > ((s.size : Nat) : Int) by omega), if_pos h]
    have e1 : IntKind.wrap .i64 ((18 : Int) - IntKind.wrap .i64 ((6 : Int) * (k : Int))) = ((18 - 6 * k : Nat) : Int) := by
      rw [wrap_id (n := (6 : Int) * (k : Int)) (by omega) (by omega), wrap_id (by omega) (by omega)]
      omega
    have hv2 : v / 2 ^ (18 - 6 * k) < 2 ^ 62 := Nat.lt_of_le_of_lt (Nat.div_le_self _ _) (by omega)
    have e2 : bitsI .and .i64 (((v / 2 ^ (18 - 6 * k) : Nat)) : Int) 63 = ((v / 2 ^ (18 - 6 * k) % 64 : Nat) : Int) := by
      show bitsI .and .i64 (((v / 2 ^ (18 - 6 * k) : Nat)) : Int) ((63 : Nat) : Int) = _
      rw [and64 _ _ hv2 (by omega)]
      have := Nat.and_two_pow_sub_one_eq_mod (v / 2 ^ (18 - 6 * k)) 6
      rw [show 2 ^ 6 - 1 = 63 by decide] at this
      rw [this]
    rw [e1, Int.toNat_natCast, shr v (18 - 6 * k) (by omega), e2, dec_true (show (0 : Int) ≤ ((18 - 6 * k : Nat) : Int) by omega)]
    have hm : v / 2 ^ (18 - 6 * k) % 64 < 64 := Nat.mod_lt _ (by omega)
    rw [dec_true (show (0 : Int) ≤ ((v / 2 ^ (18 - 6 * k) % 64 : Nat) : Int) by omega), dec_true (show ((v / 2 ^ (18 - 6 * k) % 64 : Nat) : Int) < 64 by omega), Int.toNat_natCast, tblGet _ hm, l64_mod]
    rfl
  · rw [dec_true (show (k : Int) > ((s.size : Nat) : Int) by omega), if_neg h]
    rfl
theorem f24_s2_eq (s : ByteArray) (n' : Int) (v34 : Int) (b1 : List V) (hp : ((v34 == 0) && decide (0 ≤ n') && decide (n' < 16777216) && decide (b1.length ≤ 1000000000000)) = true) : ∃ n, ∀ (R : Type) (κ : Ex → St → Option R), f24_l2 n s n' v34 b1 R κ = f24_s2 s n' v34 b1 R κ := by
  simp only [Bool.and_eq_true, beq_iff_eq, decide_eq_true_eq] at hp
  obtain ⟨⟨⟨rfl, h2⟩, h3⟩, h4⟩ := hp
  obtain ⟨v, rfl⟩ : ∃ v : Nat, n' = (v : Int) := ⟨n'.toNat, by omega⟩
  refine ⟨5, fun R κ => ?_⟩
  show f24_l2 5 s (v : Int) ((0 : Nat) : Int) b1 R κ = _
  rw [f24_r2 4 _ _ _ _ (by omega) (by omega) (by omega), f24_r2 3 _ _ _ _ (by omega) (by omega) (by simp only [List.length_append, List.length_cons, List.length_nil]; omega), f24_r2 2 _ _ _ _ (by omega) (by omega) (by simp only [List.length_append, List.length_cons, List.length_nil]; omega), f24_r2 1 _ _ _ _ (by omega) (by omega) (by simp only [List.length_append, List.length_cons, List.length_nil]; omega), f24_l2, dec_false (by omega), if_pos (Nat.zero_le _)]
  unfold f24_s2
  simp only [cond_false, Int.toNat_natCast, u8V, let4, List.map_cons, List.map_nil, List.append_assoc, List.cons_append, List.nil_append, Nat.zero_add, Nat.reduceAdd, Nat.reduceMul, Nat.reduceSub, Nat.reducePow, Nat.div_one]
def t_f24_l2 (st : St) (R : Type) (κ : Ex → St → Option R) : Option R := bif ckS f24_l2_ls f24_l2_rs st then (bif ((((st.env 34).intOf) == 0) && decide (0 ≤ ((st.env 5).intOf)) && decide (((st.env 5).intOf) < 16777216) && decide (((nthV (rowOf (st.regs (.loc 4))) 1).cellsOf).length ≤ 1000000000000)) then f24_s2 ((st.env 0).strOf) ((st.env 5).intOf) ((st.env 34).intOf) ((nthV (rowOf (st.regs (.loc 4))) 1).cellsOf) R κ else none) else none
theorem t_f24_l2_ok : ∀ st0 R κ r, t_f24_l2 (forget C 24 [0, 1, 1, 1, 0, 0, 1, 0, 0, 0, 1, 1, 1] st0) R κ = some r → ∃ ee ss, κ ee ss = some r ∧ RunP C prim 24 [0, 1, 1, 1, 0, 0, 1, 0, 0, 0, 1, 1, 1] (forget C 24 [0, 1, 1, 1, 0, 0, 1, 0, 0, 0, 1, 1, 1] st0) ee ss := by
  intro st0 R κ r h
  obtain ⟨hs, h⟩ := cond_some h
  obtain ⟨hp, h⟩ := cond_some h
  rw [canon (ls := f24_l2_ls) (rs := f24_l2_rs) (by kernel_rfl) st0 hs]
  obtain ⟨n, hn⟩ := f24_s2_eq _ _ _ _ hp
  rw [← hn] at h
  exact f24_l2_ok n _ _ _ _ R κ r h

def K_f24_l0 : CallK := kNil
theorem K_f24_l0_ok : KOK C prim K_f24_l0 := KOK.nil
def T_f24_l0 : Tab := tCons [0, 1, 0, 1, 0, 0, 1, 0, 0, 0, 1, 1, 1] t_f24_l1 <| tCons [0, 1, 1, 1, 0, 0, 1, 0, 0, 0, 1, 1, 1] t_f24_l2 <| tNil
theorem T_f24_l0_ok : TOK C prim 24 T_f24_l0 := TOK.cons t_f24_l1_ok <| TOK.cons t_f24_l2_ok <| TOK.nil
def f24_l0 : Nat → ByteArray → List V → (R : Type) → (Ex → St → Option R) → Option R
  | 0, _, _, _, _ => none
  | n + 1, s, b1, R, κ =>
    bif (!(strEq s (⟨#[]⟩ : ByteArray))) then
      bif (((0 : Int) == 0) && ((0 : Int) == 0)) then
        bif (((0 : Int) == 0) && decide (0 ≤ (grp3 s)) && decide ((grp3 s) < 16777216) && decide (b1.length ≤ 1000000000000)) then
          bif ((((decide ((0 : Int) ≤ (bif (decide (((s.size : Nat) : Int) < 3)) then ((s.size : Nat) : Int) else 3))) && (decide ((bif (decide (((s.size : Nat) : Int) < 3)) then ((s.size : Nat) : Int) else 3) ≤ ((s.size : Nat) : Int)))) && true) && true) then
            f24_l0 n (s.extract ((bif (decide (((s.size : Nat) : Int) < 3)) then ((s.size : Nat) : Int) else 3)).toNat (((s.size : Nat) : Int)).toNat) (b1 ++ u8V (let4 s.size (grp3 s).toNat)) R κ
          else none
        else none
      else none
    else
      κ (.ex 0) (mkS [(2, .bad), (3, .bad), (4, .ptrB (.loc 4) 0)] [(.loc 4, some ⟨true, [.slf, .own 5 false b1]⟩)])
def f24_l0_ls : List (Nat × Pat) := [(0, .s), (4, .is (.ptrB (.loc 4) 0))]
def f24_l0_rs : List RPat := [⟨.loc 4, true, [.is (.slf), .own 5 false]⟩]
theorem f24_l0_ok (n : Nat) : ∀ (s : ByteArray) (b1 : List V) (R : Type) (κ : Ex → St → Option R) (r : R), f24_l0 n s b1 R κ = some r → ∃ ee ss, κ ee ss = some r ∧ RunP C prim 24 [0, 0, 1, 1, 1] (mkS [(0, .sc (.string s)), (4, .ptrB (.loc 4) 0)] [(.loc 4, some ⟨true, [.slf, .own 5 false b1]⟩)]) ee ss := by
  induction n with
  | zero => intro s b1 R κ r h; cases h
  | succ n ih =>
    intro s b1 R κ r h
    refine loop_round (K := K_f24_l0) (T := T_f24_l0) K_f24_l0_ok T_f24_l0_ok (p := [0, 0, 1, 1, 1]) (by kernel_rfl) (fun st => bif ckS f24_l0_ls f24_l0_rs st then f24_l0 n ((st.env 0).strOf) ((nthV (rowOf (st.regs (.loc 4))) 1).cellsOf) R κ else none) (fun st0 h0 => ?_) ?_
    · obtain ⟨hs, h0⟩ := cond_some h0
      rw [canon (ls := f24_l0_ls) (rs := f24_l0_rs) (by kernel_rfl) st0 hs]
      exact ih _ _ R κ r h0
    · refine Eq.trans ?_ h
      kernel_rfl

def f24_s0 (s : ByteArray) (b1 : List V) (R : Type) (κ : Ex → St → Option R) : Option R :=
  κ (.ex 0) (mkS [(2, .bad), (3, .bad), (4, .ptrB (.loc 4) 0)] [(.loc 4, some ⟨true, [.slf, .own 5 false (b1 ++ u8V (enc64 s.data.toList))]⟩)])
theorem grpI_lt (l : List UInt8) : 0 ≤ grpI l ∧ grpI l < 16777216 := by
  rw [grpI_eq]
  have h0 := nthB_lt l 0
  have h1 := nthB_lt l 1
  have h2 := nthB_lt l 2
  omega
theorem enc64_step (l : List UInt8) (h : l ≠ []) : enc64 l = let4 l.length (grpI l).toNat ++ enc64 (l.drop (if l.length < 3 then l.length else 3)) := by
  match l, h with
  | [a], _ => rfl
  | [a, b], _ => rfl
  | a :: b :: c :: l, _ =>
    have e : let4 (a :: b :: c :: l).length (grpI (a :: b :: c :: l)).toNat = let4 3 (a.toNat * 65536 + b.toNat * 256 + c.toNat) := by
      unfold grpI let4
      rw [Int.toNat_natCast]
      have : (a :: b :: c :: l).length = l.length + 3 := rfl
      rw [this, if_pos (by omega), if_pos (by omega), if_pos (by omega)]
      rfl
    rw [e, if_neg (by simp only [List.length_cons]; omega)]
    rfl
theorem f24_l0_c : ∀ (m : Nat) (s : ByteArray) (b1 : List V), s.size ≤ m → b1.length + 4 * s.size ≤ 100000000000 → ∀ n, m < n → ∀ (R : Type) (κ : Ex → St → Option R), f24_l0 n s b1 R κ = f24_s0 s b1 R κ := by
  have base : ∀ (s : ByteArray) (b1 : List V), s.size = 0 → ∀ (n : Nat) (R : Type) (κ : Ex → St → Option R), f24_l0 (n + 1) s b1 R κ = f24_s0 s b1 R κ := by
    intro s b1 h n R κ
    obtain rfl : s = ⟨#[]⟩ := ba_ext (by rw [← ba_size] at h; exact List.eq_nil_of_length_eq_zero h)
    rw [f24_l0, (strEq_iff (⟨#[]⟩ : ByteArray) ⟨#[]⟩).2 rfl]
    unfold f24_s0
    show κ _ _ = κ _ _
    rw [show u8V (enc64 (⟨#[]⟩ : ByteArray).data.toList) = [] from rfl, List.append_nil]
  intro m
  induction m with
  | zero =>
    intro s b1 h _ n hn R κ
    obtain ⟨n, rfl⟩ : ∃ j, n = j + 1 := ⟨n - 1, by omega⟩
    exact base s b1 (by omega) n R κ
  | succ m ih =>
    intro s b1 h hb n hn R κ
    obtain ⟨n, rfl⟩ : ∃ j, n = j + 1 := ⟨n - 1, by omega⟩
    by_cases h0 : s.size = 0
    · exact base s b1 h0 n R κ
    have hne : strEq s (⟨#[]⟩ : ByteArray) = false := by
      rw [Bool.eq_false_iff]
      intro e
      rw [strEq_iff] at e
      rw [e] at h0
      exact h0 rfl
    have hl : s.data.toList ≠ [] := fun e => by rw [← ba_size, e] at h0; exact h0 rfl
    have hg := grpI_lt s.data.toList
    obtain ⟨k, hk, hk1, hk2⟩ : ∃ k : Nat, (bif decide (((s.size : Nat) : Int) < 3) then ((s.size : Nat) : Int) else 3) = (k : Int) ∧ k = (if s.data.toList.length < 3 then s.data.toList.length else 3) ∧ 1 ≤ k := by
      by_cases h3 : s.size < 3
      · exact ⟨s.size, by rw [dec_true (by omega)]; rfl, by rw [ba_size, if_pos h3], by omega⟩
      · exact ⟨3, by rw [dec_false (by omega)]; rfl, by rw [ba_size, if_neg h3], by omega⟩
    have hks : k ≤ s.size := by rw [ba_size] at hk1; split at hk1 <;> omega
    rw [f24_l0, hne, hk]
    have h1 : 0 ≤ grp3 s := hg.1
    have h2 : grp3 s < 16777216 := hg.2
    rw [dec_true h1, dec_true h2, dec_true (show b1.length ≤ 1000000000000 by omega), dec_true (show (0 : Int) ≤ (k : Int) by omega), dec_true (show (k : Int) ≤ ((s.size : Nat) : Int) by omega)]
    rw [Int.toNat_natCast, Int.toNat_natCast]
    show f24_l0 n _ _ R κ = _
    have hx : (s.extract k s.size).data.toList = s.data.toList.drop k := by
      rw [ByteArray.data_extract, Array.toList_extract, List.extract_eq_take_drop, List.take_of_length_le (by rw [List.length_drop, ba_size]; omega)]
    have hxs : (s.extract k s.size).size = s.size - k := by rw [← ba_size, hx, List.length_drop, ba_size]
    have hlen : (u8V (let4 s.size (grp3 s).toNat)).length = 4 := rfl
    rw [ih _ _ (by rw [hxs]; omega) (by rw [hxs, List.length_append, hlen]; omega) n (by omega) R κ]
    unfold f24_s0
    rw [hx, enc64_step _ hl, ← hk1, u8V_app, ba_size, ← List.append_assoc]
    rfl
theorem f24_s0_eq (s : ByteArray) (b1 : List V) (hp : (decide (b1.length + 2 * s.size + 4 ≤ 1000000000)) = true) : ∃ n, ∀ (R : Type) (κ : Ex → St → Option R), f24_l0 n s b1 R κ = f24_s0 s b1 R κ := by
  have h := of_decide_eq_true hp
  exact ⟨s.size + 1, fun R κ => f24_l0_c s.size s b1 (Nat.le_refl _) (by omega) _ (by omega) R κ⟩
def t_f24_l0 (st : St) (R : Type) (κ : Ex → St → Option R) : Option R := bif ckS f24_l0_ls f24_l0_rs st then (bif (decide (((nthV (rowOf (st.regs (.loc 4))) 1).cellsOf).length + 2 * ((st.env 0).strOf).size + 4 ≤ 1000000000)) then f24_s0 ((st.env 0).strOf) ((nthV (rowOf (st.regs (.loc 4))) 1).cellsOf) R κ else none) else none
theorem t_f24_l0_ok : ∀ st0 R κ r, t_f24_l0 (forget C 24 [0, 0, 1, 1, 1] st0) R κ = some r → ∃ ee ss, κ ee ss = some r ∧ RunP C prim 24 [0, 0, 1, 1, 1] (forget C 24 [0, 0, 1, 1, 1] st0) ee ss := by
  intro st0 R κ r h
  obtain ⟨hs, h⟩ := cond_some h
  obtain ⟨hp, h⟩ := cond_some h
  rw [canon (ls := f24_l0_ls) (rs := f24_l0_rs) (by kernel_rfl) st0 hs]
  obtain ⟨n, hn⟩ := f24_s0_eq _ _ hp
  rw [← hn] at h
  exact f24_l0_ok n _ _ R κ r h

def K_f24 : CallK := kCons 59 k59 <| kNil
theorem K_f24_ok : KOK C prim K_f24 := KOK.cons k59_ok <| KOK.nil
def T_f24 : Tab := tCons [0, 0, 1, 1, 1] t_f24_l0 <| tNil
theorem T_f24_ok : TOK C prim 24 T_f24 := TOK.cons t_f24_l0_ok <| TOK.nil
def f24 (s : ByteArray) : Option (V × List Rg) :=
  bif (decide (((s.size : Nat) : Int) > 262144)) then
    some (.tp [.sc (.string ⟨#[]⟩), .sc (.int .i64 2)], [])
  else
    bif (decide (([] : List V).length + 2 * s.size + 4 ≤ 1000000000)) then
      bif ((((([] : List V) ++ u8V (enc64 s.data.toList))).all okU8) && true) then
        some (.tp [.sc (.string (strOfCells (([] : List V) ++ u8V (enc64 s.data.toList)))), .sc (.int .i64 0)], [])
      else none
    else none
theorem f24_run (s : ByteArray) (x : V × List Rg) (h : f24 s = some x) : CallR C prim 24 [.sc (.string s)] [] x := by
  refine call_fn (K := K_f24) (T := T_f24) K_f24_ok T_f24_ok (by kernel_rfl) ?_
  refine Eq.trans ?_ h
  kernel_rfl

theorem okU8_u8V (l : List UInt8) : (u8V l).all okU8 = true := okU8_bytesV ⟨l.toArray⟩
theorem f24_eq (s : ByteArray) (hp : decide (s.size ≤ 10000000) = true) : f24 s = some (.tp [.sc (.string (t64s s)), .sc (.int .i64 (t64e s))], []) := by
  have h := of_decide_eq_true hp
  unfold f24 t64s t64e
  by_cases hs : 262144 < s.size
  · rw [dec_true (by omega), if_pos hs, if_pos hs]
    rfl
  · rw [dec_false (by omega), if_neg hs, if_neg hs, List.nil_append, dec_true (by simp only [List.length_nil]; omega), okU8_u8V, strOf_u8V]
    rfl
def k24 : PrimT := fun vs gs => match vs, gs with
  | [.sc (.string s)], [] => (decide (s.size ≤ 10000000), .tp [.sc (.string (t64s s)), .sc (.int .i64 (t64e s))], [])
  | _, _ => (false, .bad, [])
theorem k24_ok : ∀ vs gs x, k24 vs gs = (true, x) → CallR C prim 24 vs gs x := by
  intro vs gs x h
  unfold k24 at h
  split at h
  · simp only [Prod.mk.injEq] at h
    obtain ⟨hp, rfl⟩ := h
    exact f24_run _ _ (f24_eq _ hp)
  · cases h

def K_f55_l0 : CallK := kNil
theorem K_f55_l0_ok : KOK C prim K_f55_l0 := KOK.nil
def T_f55_l0 : Tab := tNil
theorem T_f55_l0_ok : TOK C prim 55 T_f55_l0 := TOK.nil
def f55_l0 : Nat → Int → ByteArray → Int → Int → (R : Type) → (Ex → St → Option R) → Option R
  | 0, _, _, _, _, _, _ => none
  | n + 1, v, s, v6, v7, R, κ =>
    bif (decide (v7 < v6)) then
      bif ((decide (((strOfCells [.sc (.int .u8 (IntKind.wrap .u8 (IntKind.wrap .i64 ((48 : Int) + (Int.tmod v 2)))))]).size + s.size) ≤ 9223372036854775807)) && true) then
        f55_l0 n (IntKind.wrap .i64 (Int.tdiv v 2)) ((strOfCells [.sc (.int .u8 (IntKind.wrap .u8 (IntKind.wrap .i64 ((48 : Int) + (Int.tmod v 2)))))]) ++ s) v6 (IntKind.wrap .i64 (v7 + 1)) R κ
      else none
    else
      κ (.ex 0) (mkS [(4, .bad), (5, .sc (.string s))] [])
def f55_l0_ls : List (Nat × Pat) := [(0, .i .i64), (5, .s), (6, .i .i64), (7, .i .i64)]
def f55_l0_rs : List RPat := []
theorem f55_l0_ok (n : Nat) : ∀ (v : Int) (s : ByteArray) (v6 : Int) (v7 : Int) (R : Type) (κ : Ex → St → Option R) (r : R), f55_l0 n v s v6 v7 R κ = some r → ∃ ee ss, κ ee ss = some r ∧ RunP C prim 55 [0, 1, 0, 1, 1] (mkS [(0, .sc (.int .i64 v)), (5, .sc (.string s)), (6, .sc (.int .i64 v6)), (7, .sc (.int .i64 v7))] []) ee ss := by
  induction n with
  | zero => intro v s v6 v7 R κ r h; cases h
  | succ n ih =>
    intro v s v6 v7 R κ r h
    refine loop_round (K := K_f55_l0) (T := T_f55_l0) K_f55_l0_ok T_f55_l0_ok (p := [0, 1, 0, 1, 1]) (by kernel_rfl) (fun st => bif ckS f55_l0_ls f55_l0_rs st then f55_l0 n ((st.env 0).intOf) ((st.env 5).strOf) ((st.env 6).intOf) ((st.env 7).intOf) R κ else none) (fun st0 h0 => ?_) ?_
    · obtain ⟨hs, h0⟩ := cond_some h0
      rw [canon (ls := f55_l0_ls) (rs := f55_l0_rs) (by kernel_rfl) st0 hs]
      exact ih _ _ _ _ R κ r h0
    · refine Eq.trans ?_ h
      kernel_rfl

def f55_s0 (v : Int) (s : ByteArray) (v6 : Int) (v7 : Int) (R : Type) (κ : Ex → St → Option R) : Option R :=
  κ (.ex 0) (mkS [(4, .bad), (5, .sc (.string (bitsM v v6 ++ s)))] [])
theorem bitStr (v : Nat) : strOfCells [.sc (.int .u8 (IntKind.wrap .u8 (IntKind.wrap .i64 ((48 : Int) + (Int.tmod (v : Int) 2)))))] = u8S [bit1 v] := by
  have e : ((48 : Int) + (Int.tmod (v : Int) 2)) = ((48 + v % 2 : Nat) : Int) := by
    rw [Int.tmod_eq_emod_of_nonneg (by omega)]; omega
  rw [e, wrap_id (by omega) (by omega), wrapU8]
  exact strOf_u8V [bit1 v]
theorem f55_l0_c : ∀ (m v k : Nat) (s : ByteArray), k + m ≤ 64 → s.size + m ≤ 2000 → v < 1000000 → ∀ n, m < n → ∀ (R : Type) (κ : Ex → St → Option R), f55_l0 n (v : Int) s ((k + m : Nat) : Int) (k : Int) R κ = κ (.ex 0) (mkS [(4, .bad), (5, .sc (.string (u8S (bitsN v m) ++ s)))] []) := by
  intro m
  induction m with
  | zero =>
    intro v k s _ _ _ n hn R κ
    obtain ⟨n, rfl⟩ : ∃ j, n = j + 1 := ⟨n - 1, by omega⟩
    rw [f55_l0, dec_false (by omega)]
    show κ _ _ = κ _ _
    rw [show u8S (bitsN v 0) = ⟨#[]⟩ from rfl, ba_nil]
  | succ m ih =>
    intro v k s hk hs hv n hn R κ
    obtain ⟨n, rfl⟩ : ∃ j, n = j + 1 := ⟨n - 1, by omega⟩
    have h1 : (u8S [bit1 v]).size = 1 := rfl
    have e : Int.tdiv (v : Int) 2 = ((v / 2 : Nat) : Int) := rfl
    rw [f55_l0, dec_true (by omega), bitStr, h1, dec_true (by omega), e, wrap_id (by omega) (by omega), wrap_succ (by omega)]
    show f55_l0 n _ _ _ _ R κ = _
    rw [show k + (m + 1) = k + 1 + m by omega, ih (v / 2) (k + 1) _ (by omega) (by rw [ba_size_append, h1]; omega) (by omega) n (by omega) R κ, ← ba_assoc]
    have : u8S (bitsN (v / 2) m) ++ u8S [bit1 v] = u8S (bitsN v (m + 1)) := by
      refine ba_ext ?_
      rw [ba_append]
      rfl
    rw [this]
theorem f55_s0_eq (v : Int) (s : ByteArray) (v6 : Int) (v7 : Int) (hp : (decide (0 ≤ v) && decide (v < 1000000) && decide (0 ≤ v6) && decide (v6 ≤ 64) && (v7 == 0) && decide (s.size ≤ 1000)) = true) : ∃ n, ∀ (R : Type) (κ : Ex → St → Option R), f55_l0 n v s v6 v7 R κ = f55_s0 v s v6 v7 R κ := by
  simp only [Bool.and_eq_true, decide_eq_true_eq, beq_iff_eq] at hp
  obtain ⟨⟨⟨⟨⟨h1, h2⟩, h3⟩, h4⟩, rfl⟩, h5⟩ := hp
  obtain ⟨c, rfl⟩ : ∃ c : Nat, v = (c : Int) := ⟨v.toNat, by omega⟩
  obtain ⟨m, rfl⟩ : ∃ m : Nat, v6 = (m : Int) := ⟨v6.toNat, by omega⟩
  refine ⟨m + 1, fun R κ => ?_⟩
  have := f55_l0_c m c 0 s (by omega) (by omega) (by omega) (m + 1) (by omega) R κ
  rw [Nat.zero_add] at this
  exact this
def t_f55_l0 (st : St) (R : Type) (κ : Ex → St → Option R) : Option R := bif ckS f55_l0_ls f55_l0_rs st then (bif (decide (0 ≤ ((st.env 0).intOf)) && decide (((st.env 0).intOf) < 1000000) && decide (0 ≤ ((st.env 6).intOf)) && decide (((st.env 6).intOf) ≤ 64) && (((st.env 7).intOf) == 0) && decide (((st.env 5).strOf).size ≤ 1000)) then f55_s0 ((st.env 0).intOf) ((st.env 5).strOf) ((st.env 6).intOf) ((st.env 7).intOf) R κ else none) else none
theorem t_f55_l0_ok : ∀ st0 R κ r, t_f55_l0 (forget C 55 [0, 1, 0, 1, 1] st0) R κ = some r → ∃ ee ss, κ ee ss = some r ∧ RunP C prim 55 [0, 1, 0, 1, 1] (forget C 55 [0, 1, 0, 1, 1] st0) ee ss := by
  intro st0 R κ r h
  obtain ⟨hs, h⟩ := cond_some h
  obtain ⟨hp, h⟩ := cond_some h
  rw [canon (ls := f55_l0_ls) (rs := f55_l0_rs) (by kernel_rfl) st0 hs]
  obtain ⟨n, hn⟩ := f55_s0_eq _ _ _ _ hp
  rw [← hn] at h
  exact f55_l0_ok n _ _ _ _ R κ r h

def K_f55 : CallK := kNil
theorem K_f55_ok : KOK C prim K_f55 := KOK.nil
def T_f55 : Tab := tCons [0, 1, 0, 1, 1] t_f55_l0 <| tNil
theorem T_f55_ok : TOK C prim 55 T_f55 := TOK.cons t_f55_l0_ok <| TOK.nil
def f55 (v : Int) (many : Int) : Option (V × List Rg) :=
  bif (decide (0 ≤ v) && decide (v < 1000000) && decide (0 ≤ many) && decide (many ≤ 64) && ((0 : Int) == 0) && decide ((⟨#[]⟩ : ByteArray).size ≤ 1000)) then
    some (.sc (.string (bitsM v many ++ (⟨#[]⟩ : ByteArray))), [])
  else none
theorem f55_run (v : Int) (many : Int) (x : V × List Rg) (h : f55 v many = some x) : CallR C prim 55 [.sc (.int .i64 v), .sc (.int .i64 many)] [] x := by
  refine call_fn (K := K_f55) (T := T_f55) K_f55_ok T_f55_ok (by kernel_rfl) ?_
  refine Eq.trans ?_ h
  kernel_rfl

theorem f55_eq (v : Int) (many : Int) (hp : (decide (0 ≤ v) && decide (v < 1000000) && decide (0 ≤ many) && decide (many ≤ 64)) = true) : f55 v many = some (.sc (.string (bitsM v many)), []) := by
  unfold f55
  rw [hp, ba_nil']
  rfl
def k55 : PrimT := fun vs gs => match vs, gs with
  | [.sc (.int .i64 v), .sc (.int .i64 many)], [] => ((decide (0 ≤ v) && decide (v < 1000000) && decide (0 ≤ many) && decide (many ≤ 64)), .sc (.string (bitsM v many)), [])
  | _, _ => (false, .bad, [])
theorem k55_ok : ∀ vs gs x, k55 vs gs = (true, x) → CallR C prim 55 vs gs x := by
  intro vs gs x h
  unfold k55 at h
  split at h
  · simp only [Prod.mk.injEq] at h
    obtain ⟨hp, rfl⟩ := h
    exact f55_run _ _ _ (f55_eq _ _ hp)
  · cases h

def K_f25_l0 : CallK := kCons 55 k55 <| kNil
theorem K_f25_l0_ok : KOK C prim K_f25_l0 := KOK.cons k55_ok <| KOK.nil
def T_f25_l0 : Tab := tNil
theorem T_f25_l0_ok : TOK C prim 25 T_f25_l0 := TOK.nil
def f25_l0 : Nat → ByteArray → ByteArray → Int → Int → (R : Type) → (Ex → St → Option R) → Option R
  | 0, _, _, _, _, _, _ => none
  | n + 1, s, all, v10, v11, R, κ =>
    bif (decide (v11 < v10)) then
      bif (((decide ((0 : Int) ≤ v11)) && (decide (v11 < ((s.size : Nat) : Int)))) && true) then
        bif ((decide (0 ≤ (IntKind.wrap .i64 ((s.data.getD (v11).toNat 0).toNat : Int))) && decide ((IntKind.wrap .i64 ((s.data.getD (v11).toNat 0).toNat : Int)) < 1000000) && decide (0 ≤ (8 : Int)) && decide ((8 : Int) ≤ 64)) && true) then
          bif ((decide ((all.size + (bitsM (IntKind.wrap .i64 ((s.data.getD (v11).toNat 0).toNat : Int)) (8 : Int)).size) ≤ 9223372036854775807)) && true) then
            f25_l0 n s (all ++ (bitsM (IntKind.wrap .i64 ((s.data.getD (v11).toNat 0).toNat : Int)) (8 : Int))) v10 (IntKind.wrap .i64 (v11 + 1)) R κ
          else none
        else none
      else none
    else
      κ (.ex 0) (mkS [(2, .bad), (3, .sc (.string all))] [])
def f25_l0_ls : List (Nat × Pat) := [(0, .s), (3, .s), (10, .i .i64), (11, .i .i64)]
def f25_l0_rs : List RPat := []
theorem f25_l0_ok (n : Nat) : ∀ (s : ByteArray) (all : ByteArray) (v10 : Int) (v11 : Int) (R : Type) (κ : Ex → St → Option R) (r : R), f25_l0 n s all v10 v11 R κ = some r → ∃ ee ss, κ ee ss = some r ∧ RunP C prim 25 [0, 1, 0, 1, 1] (mkS [(0, .sc (.string s)), (3, .sc (.string all)), (10, .sc (.int .i64 v10)), (11, .sc (.int .i64 v11))] []) ee ss := by
  induction n with
  | zero => intro s all v10 v11 R κ r h; cases h
  | succ n ih =>
    intro s all v10 v11 R κ r h
    refine loop_round (K := K_f25_l0) (T := T_f25_l0) K_f25_l0_ok T_f25_l0_ok (p := [0, 1, 0, 1, 1]) (by kernel_rfl) (fun st => bif ckS f25_l0_ls f25_l0_rs st then f25_l0 n ((st.env 0).strOf) ((st.env 3).strOf) ((st.env 10).intOf) ((st.env 11).intOf) R κ else none) (fun st0 h0 => ?_) ?_
    · obtain ⟨hs, h0⟩ := cond_some h0
      rw [canon (ls := f25_l0_ls) (rs := f25_l0_rs) (by kernel_rfl) st0 hs]
      exact ih _ _ _ _ R κ r h0
    · refine Eq.trans ?_ h
      kernel_rfl

def f25_s0 (s : ByteArray) (all : ByteArray) (v10 : Int) (v11 : Int) (R : Type) (κ : Ex → St → Option R) : Option R :=
  κ (.ex 0) (mkS [(2, .bad), (3, .sc (.string (⟨(bitsL s.data.toList).toArray⟩ : ByteArray)))] [])
theorem f25_l0_c (s : ByteArray) (hs : s.size ≤ 10000000) : ∀ (m k : Nat) (all : ByteArray), k + m = s.size → all.size + 8 * m ≤ 100000000 → ∀ n, m < n → ∀ (R : Type) (κ : Ex → St → Option R), f25_l0 n s all ((s.size : Nat) : Int) (k : Int) R κ = κ (.ex 0) (mkS [(2, .bad), (3, .sc (.string (all ++ u8S (bitsL (s.data.toList.drop k)))))] []) := by
  intro m
  induction m with
  | zero =>
    intro k all hk _ n hn R κ
    obtain ⟨n, rfl⟩ : ∃ j, n = j + 1 := ⟨n - 1, by omega⟩
    rw [f25_l0, dec_false (by omega), List.drop_of_length_le (by rw [ba_size]; omega)]
    show κ _ _ = κ _ _
    rw [show u8S (bitsL []) = ⟨#[]⟩ from rfl, ba_nil']
  | succ m ih =>
    intro k all hk ha n hn R κ
    obtain ⟨n, rfl⟩ : ∃ j, n = j + 1 := ⟨n - 1, by omega⟩
    have hl : k < s.data.toList.length := by rw [ba_size]; omega
    have hb : (s.data.toList[k]).toNat < 256 := UInt8.toNat_lt _
    rw [f25_l0, dec_true (show (k : Int) < ((s.size : Nat) : Int) by omega), dec_true (show (0 : Int) ≤ (k : Int) by omega), Int.toNat_natCast, getD_list s k hl, List.drop_eq_getElem_cons hl]
    generalize s.data.toList[k] = b at hb ⊢
    have h8 : bitsM ((b.toNat : Nat) : Int) 8 = u8S (bitsN b.toNat 8) := rfl
    have h8s : (u8S (bitsN b.toNat 8)).size = 8 := by rw [← ba_size]; exact bitsN_len 8 _
    rw [wrap_id (n := ((b.toNat : Nat) : Int)) (by omega) (by omega), h8, h8s, dec_true (show (0 : Int) ≤ ((b.toNat : Nat) : Int) by omega), dec_true (show ((b.toNat : Nat) : Int) < 1000000 by omega), dec_true (show all.size + 8 ≤ 9223372036854775807 by omega), wrap_succ (by omega)]
    show f25_l0 n _ _ _ _ R κ = _
    rw [ih (k + 1) _ (by omega) (by rw [ba_size_append, h8s]; omega) n (by omega) R κ, ba_assoc]
    have : u8S (bitsN b.toNat 8) ++ u8S (bitsL (s.data.toList.drop (k + 1))) = u8S (bitsL (b :: s.data.toList.drop (k + 1))) := by
      refine ba_ext ?_
      rw [ba_append]
      rfl
    rw [this]
theorem f25_s0_eq (s : ByteArray) (all : ByteArray) (v10 : Int) (v11 : Int) (hp : ((all.size == 0) && (v11 == 0) && (v10 == ((s.size : Nat) : Int)) && decide (s.size ≤ 10000000)) = true) : ∃ n, ∀ (R : Type) (κ : Ex → St → Option R), f25_l0 n s all v10 v11 R κ = f25_s0 s all v10 v11 R κ := by
  simp only [Bool.and_eq_true, decide_eq_true_eq, beq_iff_eq] at hp
  obtain ⟨⟨⟨h1, rfl⟩, rfl⟩, h4⟩ := hp
  obtain rfl : all = ⟨#[]⟩ := ba_ext (by rw [← ba_size] at h1; exact List.eq_nil_of_length_eq_zero h1)
  refine ⟨s.size + 1, fun R κ => ?_⟩
  have := f25_l0_c s h4 s.size 0 ⟨#[]⟩ (by omega) (by rw [show (⟨#[]⟩ : ByteArray).size = 0 from rfl]; omega) (s.size + 1) (by omega) R κ
  rw [ba_nil] at this
  exact this
def t_f25_l0 (st : St) (R : Type) (κ : Ex → St → Option R) : Option R := bif ckS f25_l0_ls f25_l0_rs st then (bif ((((st.env 3).strOf).size == 0) && (((st.env 11).intOf) == 0) && (((st.env 10).intOf) == ((((st.env 0).strOf).size : Nat) : Int)) && decide (((st.env 0).strOf).size ≤ 10000000)) then f25_s0 ((st.env 0).strOf) ((st.env 3).strOf) ((st.env 10).intOf) ((st.env 11).intOf) R κ else none) else none
theorem t_f25_l0_ok : ∀ st0 R κ r, t_f25_l0 (forget C 25 [0, 1, 0, 1, 1] st0) R κ = some r → ∃ ee ss, κ ee ss = some r ∧ RunP C prim 25 [0, 1, 0, 1, 1] (forget C 25 [0, 1, 0, 1, 1] st0) ee ss := by
  intro st0 R κ r h
  obtain ⟨hs, h⟩ := cond_some h
  obtain ⟨hp, h⟩ := cond_some h
  rw [canon (ls := f25_l0_ls) (rs := f25_l0_rs) (by kernel_rfl) st0 hs]
  obtain ⟨n, hn⟩ := f25_s0_eq _ _ _ _ hp
  rw [← hn] at h
  exact f25_l0_ok n _ _ _ _ R κ r h

def K_f25_l2 : CallK := kNil
theorem K_f25_l2_ok : KOK C prim K_f25_l2 := KOK.nil
def T_f25_l2 : Tab := tNil
theorem T_f25_l2_ok : TOK C prim 25 T_f25_l2 := TOK.nil
def f25_l2 : Nat → ByteArray → ByteArray → Int → Int → Int → (R : Type) → (Ex → St → Option R) → Option R
  | 0, _, _, _, _, _, _, _ => none
  | n + 1, all, out, i, v, v28, R, κ =>
    bif (decide (v28 < 6)) then
      bif (decide ((IntKind.wrap .i64 (i + v28)) < ((all.size : Nat) : Int))) then
        bif (((decide ((0 : Int) ≤ (IntKind.wrap .i64 (i + v28)))) && (decide ((IntKind.wrap .i64 (i + v28)) < ((all.size : Nat) : Int)))) && true) then
          f25_l2 n all out i (IntKind.wrap .i64 ((IntKind.wrap .i64 (v * 2)) + (IntKind.wrap .i64 (IntKind.wrap .u8 (((all.data.getD ((IntKind.wrap .i64 (i + v28))).toNat 0).toNat : Int) - 48))))) (IntKind.wrap .i64 (v28 + 1)) R κ
        else none
      else
        f25_l2 n all out i (IntKind.wrap .i64 (v * 2)) (IntKind.wrap .i64 (v28 + 1)) R κ
    else
      κ (.ex 4) (mkS [(2, .bad), (3, .sc (.string all)), (5, .sc (.string out)), (6, .sc (.int .i64 i)), (7, .sc (.int .i64 v))] [])
def f25_l2_ls : List (Nat × Pat) := [(3, .s), (5, .s), (6, .i .i64), (7, .i .i64), (28, .i .i64)]
def f25_l2_rs : List RPat := []
theorem f25_l2_ok (n : Nat) : ∀ (all : ByteArray) (out : ByteArray) (i : Int) (v : Int) (v28 : Int) (R : Type) (κ : Ex → St → Option R) (r : R), f25_l2 n all out i v v28 R κ = some r → ∃ ee ss, κ ee ss = some r ∧ RunP C prim 25 [0, 1, 0, 1, 0, 0, 1, 0, 0, 1, 0, 1, 1, 1, 1] (mkS [(3, .sc (.string all)), (5, .sc (.string out)), (6, .sc (.int .i64 i)), (7, .sc (.int .i64 v)), (28, .sc (.int .i64 v28))] []) ee ss := by
  induction n with
  | zero => intro all out i v v28 R κ r h; cases h
  | succ n ih =>
    intro all out i v v28 R κ r h
    refine loop_round (K := K_f25_l2) (T := T_f25_l2) K_f25_l2_ok T_f25_l2_ok (p := [0, 1, 0, 1, 0, 0, 1, 0, 0, 1, 0, 1, 1, 1, 1]) (by kernel_rfl) (fun st => bif ckS f25_l2_ls f25_l2_rs st then f25_l2 n ((st.env 3).strOf) ((st.env 5).strOf) ((st.env 6).intOf) ((st.env 7).intOf) ((st.env 28).intOf) R κ else none) (fun st0 h0 => ?_) ?_
    · obtain ⟨hs, h0⟩ := cond_some h0
      rw [canon (ls := f25_l2_ls) (rs := f25_l2_rs) (by kernel_rfl) st0 hs]
      exact ih _ _ _ _ _ R κ r h0
    · refine Eq.trans ?_ h
      kernel_rfl

def f25_s2 (all : ByteArray) (out : ByteArray) (i : Int) (v : Int) (v28 : Int) (R : Type) (κ : Ex → St → Option R) : Option R :=
  κ (.ex 4) (mkS [(2, .bad), (3, .sc (.string all)), (5, .sc (.string out)), (6, .sc (.int .i64 i)), (7, .sc (.int .i64 (six (all.data.toList.drop i.toNat))))] [])
theorem wrap64_twice (x : Int) : IntKind.wrap .i64 (IntKind.wrap .i64 x) = IntKind.wrap .i64 x := by
  rw [IntKind.wrap_i64, IntKind.wrap_i64]; omega
theorem bstep48 (v : Int) : bstep' v 48 = IntKind.wrap .i64 (v * 2) := by
  unfold bstep'
  show IntKind.wrap .i64 (IntKind.wrap .i64 (v * 2) + 0) = _
  rw [Int.add_zero, wrap64_twice]
theorem getD_app (l : List UInt8) (k : Nat) : (l ++ [48, 48, 48, 48, 48]).getD k 48 = l.getD k 48 := by
  rw [List.getD_eq_getElem?_getD, List.getD_eq_getElem?_getD]
  by_cases h : k < l.length
  · rw [List.getElem?_append_left h]
  · rw [List.getElem?_append_right (by omega), List.getElem?_eq_none (l := l) (by omega)]
    show (([48, 48, 48, 48, 48] : List UInt8)[k - l.length]?).getD 48 = 48
    match k - l.length with
    | 0 | 1 | 2 | 3 | 4 => rfl
    | j + 5 => rfl
theorem take6 : ∀ L : List UInt8, 6 ≤ L.length → L.take 6 = [L.getD 0 48, L.getD 1 48, L.getD 2 48, L.getD 3 48, L.getD 4 48, L.getD 5 48]
  | a :: b :: c :: d :: e :: f :: l, _ => rfl
  | [], h | [_], h | [_, _], h | [_, _, _], h | [_, _, _, _], h | [_, _, _, _, _], h => by simp at h
theorem six_eq (l : List UInt8) (h : 1 ≤ l.length) : six l = bstep' (bstep' (bstep' (bstep' (bstep' (bstep' 0 (l.getD 0 48)) (l.getD 1 48)) (l.getD 2 48)) (l.getD 3 48)) (l.getD 4 48)) (l.getD 5 48) := by
  unfold six
  rw [take6 _ (by rw [List.length_append]; simp only [List.length_cons, List.length_nil]; omega)]
  simp only [getD_app]
  rfl
theorem f25_r2 (n : Nat) (all out : ByteArray) (i k : Nat) (v : Int) (hi : i < all.size) (hk : k < 6) (h : all.size ≤ 1000000000) (R : Type) (κ : Ex → St → Option R) : f25_l2 (n + 1) all out (i : Int) v (k : Int) R κ = f25_l2 n all out (i : Int) (bstep' v ((all.data.toList.drop i).getD k 48)) ((k + 1 : Nat) : Int) R κ := by
  have e : IntKind.wrap .i64 ((i : Int) + (k : Int)) = ((i + k : Nat) : Int) := by rw [wrap_id (by omega) (by omega)]; simp
  rw [f25_l2, dec_true (show (k : Int) < 6 by omega), e, wrap_succ (by omega), Int.toNat_natCast]
  by_cases hl : i + k < all.size
  · have hl' : i + k < all.data.toList.length := by rw [ba_size]; exact hl
    rw [dec_true (show ((i + k : Nat) : Int) < ((all.size : Nat) : Int) by omega), dec_true (show (0 : Int) ≤ ((i + k : Nat) : Int) by omega), getD_list all _ hl']
    have : (all.data.toList.drop i).getD k 48 = all.data.toList[i + k] := by
      rw [List.getD_eq_getElem?_getD, List.getElem?_drop, List.getElem?_eq_getElem hl']
      rfl
    rw [this]
    rfl
  · rw [dec_false (show ¬ ((i + k : Nat) : Int) < ((all.size : Nat) : Int) by omega)]
    have : (all.data.toList.drop i).getD k 48 = 48 := by
      rw [List.getD_eq_getElem?_getD, List.getElem?_eq_none (by rw [List.length_drop, ba_size]; omega)]
      rfl
    rw [this, bstep48]
    rfl
theorem f25_s2_eq (all : ByteArray) (out : ByteArray) (i : Int) (v : Int) (v28 : Int) (hp : ((v == 0) && (v28 == 0) && decide (0 ≤ i) && decide (i < ((all.size : Nat) : Int)) && decide (all.size ≤ 1000000000)) = true) : ∃ n, ∀ (R : Type) (κ : Ex → St → Option R), f25_l2 n all out i v v28 R κ = f25_s2 all out i v v28 R κ := by
  simp only [Bool.and_eq_true, decide_eq_true_eq, beq_iff_eq] at hp
  obtain ⟨⟨⟨⟨rfl, rfl⟩, h3⟩, h4⟩, h5⟩ := hp
  obtain ⟨i, rfl⟩ : ∃ j : Nat, i = (j : Int) := ⟨i.toNat, by omega⟩
  have hi : i < all.size := by omega
  refine ⟨7, fun R κ => ?_⟩
  show f25_l2 7 all out (i : Int) 0 ((0 : Nat) : Int) R κ = _
  rw [f25_r2 6 _ _ _ _ _ hi (by omega) h5, f25_r2 5 _ _ _ _ _ hi (by omega) h5, f25_r2 4 _ _ _ _ _ hi (by omega) h5, f25_r2 3 _ _ _ _ _ hi (by omega) h5, f25_r2 2 _ _ _ _ _ hi (by omega) h5, f25_r2 1 _ _ _ _ _ hi (by omega) h5, f25_l2, dec_false (by omega)]
  unfold f25_s2
  rw [Int.toNat_natCast, six_eq _ (by rw [List.length_drop, ba_size]; omega)]
  rfl
def t_f25_l2 (st : St) (R : Type) (κ : Ex → St → Option R) : Option R := bif ckS f25_l2_ls f25_l2_rs st then (bif ((((st.env 7).intOf) == 0) && (((st.env 28).intOf) == 0) && decide (0 ≤ ((st.env 6).intOf)) && decide (((st.env 6).intOf) < ((((st.env 3).strOf).size : Nat) : Int)) && decide (((st.env 3).strOf).size ≤ 1000000000)) then f25_s2 ((st.env 3).strOf) ((st.env 5).strOf) ((st.env 6).intOf) ((st.env 7).intOf) ((st.env 28).intOf) R κ else none) else none
theorem t_f25_l2_ok : ∀ st0 R κ r, t_f25_l2 (forget C 25 [0, 1, 0, 1, 0, 0, 1, 0, 0, 1, 0, 1, 1, 1, 1] st0) R κ = some r → ∃ ee ss, κ ee ss = some r ∧ RunP C prim 25 [0, 1, 0, 1, 0, 0, 1, 0, 0, 1, 0, 1, 1, 1, 1] (forget C 25 [0, 1, 0, 1, 0, 0, 1, 0, 0, 1, 0, 1, 1, 1, 1] st0) ee ss := by
  intro st0 R κ r h
  obtain ⟨hs, h⟩ := cond_some h
  obtain ⟨hp, h⟩ := cond_some h
  rw [canon (ls := f25_l2_ls) (rs := f25_l2_rs) (by kernel_rfl) st0 hs]
  obtain ⟨n, hn⟩ := f25_s2_eq _ _ _ _ _ hp
  rw [← hn] at h
  exact f25_l2_ok n _ _ _ _ _ R κ r h

def K_f25_l1 : CallK := kNil
theorem K_f25_l1_ok : KOK C prim K_f25_l1 := KOK.nil
def T_f25_l1 : Tab := tCons [0, 1, 0, 1, 0, 0, 1, 0, 0, 1, 0, 1, 1, 1, 1] t_f25_l2 <| tNil
theorem T_f25_l1_ok : TOK C prim 25 T_f25_l1 := TOK.cons t_f25_l2_ok <| TOK.nil
def f25_l1 : Nat → ByteArray → ByteArray → Int → (R : Type) → (Ex → St → Option R) → Option R
  | 0, _, _, _, _, _ => none
  | n + 1, all, out, i, R, κ =>
    bif (decide (i < ((all.size : Nat) : Int))) then
      bif (((0 : Int) == 0) && ((0 : Int) == 0) && decide (0 ≤ i) && decide (i < ((all.size : Nat) : Int)) && decide (all.size ≤ 1000000000)) then
        bif (((((decide ((0 : Int) ≤ (six (all.data.toList.drop i.toNat)))) && (decide ((six (all.data.toList.drop i.toNat)) ≤ (IntKind.wrap .i64 ((six (all.data.toList.drop i.toNat)) + 1))))) && (decide ((IntKind.wrap .i64 ((six (all.data.toList.drop i.toNat)) + 1)) ≤ 64))) && true) && true) then
          bif ((decide ((out.size + ((⟨#[65, 66, 67, 68, 69, 70, 71, 72, 73, 74, 75, 76, 77, 78, 79, 80, 81, 82, 83, 84, 85, 86, 87, 88, 89, 90, 97, 98, 99, 100, 101, 102, 103, 104, 105, 106, 107, 108, 109, 110, 111, 112, 113, 114, 115, 116, 117, 118, 119, 120, 121, 122, 48, 49, 50, 51, 52, 53, 54, 55, 56, 57, 43, 47]⟩ : ByteArray).extract ((six (all.data.toList.drop i.toNat))).toNat ((IntKind.wrap .i64 ((six (all.data.toList.drop i.toNat)) + 1))).toNat).size) ≤ 9223372036854775807)) && true) then
            f25_l1 n all (out ++ ((⟨#[65, 66, 67, 68, 69, 70, 71, 72, 73, 74, 75, 76, 77, 78, 79, 80, 81, 82, 83, 84, 85, 86, 87, 88, 89, 90, 97, 98, 99, 100, 101, 102, 103, 104, 105, 106, 107, 108, 109, 110, 111, 112, 113, 114, 115, 116, 117, 118, 119, 120, 121, 122, 48, 49, 50, 51, 52, 53, 54, 55, 56, 57, 43, 47]⟩ : ByteArray).extract ((six (all.data.toList.drop i.toNat))).toNat ((IntKind.wrap .i64 ((six (all.data.toList.drop i.toNat)) + 1))).toNat)) (IntKind.wrap .i64 (i + 6)) R κ
          else none
        else none
      else none
    else
      κ (.ex 2) (mkS [(2, .bad), (5, .sc (.string out))] [])
def f25_l1_ls : List (Nat × Pat) := [(3, .s), (5, .s), (6, .i .i64)]
def f25_l1_rs : List RPat := []
theorem f25_l1_ok (n : Nat) : ∀ (all : ByteArray) (out : ByteArray) (i : Int) (R : Type) (κ : Ex → St → Option R) (r : R), f25_l1 n all out i R κ = some r → ∃ ee ss, κ ee ss = some r ∧ RunP C prim 25 [0, 1, 0, 1, 1, 1, 1] (mkS [(3, .sc (.string all)), (5, .sc (.string out)), (6, .sc (.int .i64 i))] []) ee ss := by
  induction n with
  | zero => intro all out i R κ r h; cases h
  | succ n ih =>
    intro all out i R κ r h
    refine loop_round (K := K_f25_l1) (T := T_f25_l1) K_f25_l1_ok T_f25_l1_ok (p := [0, 1, 0, 1, 1, 1, 1]) (by kernel_rfl) (fun st => bif ckS f25_l1_ls f25_l1_rs st then f25_l1 n ((st.env 3).strOf) ((st.env 5).strOf) ((st.env 6).intOf) R κ else none) (fun st0 h0 => ?_) ?_
    · obtain ⟨hs, h0⟩ := cond_some h0
      rw [canon (ls := f25_l1_ls) (rs := f25_l1_rs) (by kernel_rfl) st0 hs]
      exact ih _ _ _ R κ r h0
    · refine Eq.trans ?_ h
      kernel_rfl

def f25_s1 (all : ByteArray) (out : ByteArray) (i : Int) (R : Type) (κ : Ex → St → Option R) : Option R :=
  κ (.ex 2) (mkS [(2, .bad), (5, .sc (.string (u8S (let6s all.data.toList))))] [])
theorem bstep_01 (v : Nat) (b : UInt8) (hb : (b == 48 || b == 49) = true) (hv : v < 2 ^ 40) : ∃ w : Nat, bstep' (v : Int) b = (w : Int) ∧ w < 2 * v + 2 := by
  have h : b = bit1 (b.toNat) := by
    simp only [Bool.or_eq_true, beq_iff_eq] at hb
    rcases hb with rfl | rfl <;> rfl
  rw [h, bstep_eq, bstep_bit _ _ (by omega)]
  exact ⟨_, rfl, by omega⟩
theorem fold_01 : ∀ (l : List UInt8) (v : Nat), bin01 l = true → l.length ≤ 6 → v < 2 ^ (6 - l.length) → ∃ w : Nat, l.foldl bstep' (v : Int) = (w : Int) ∧ w < 64
  | [], v, _, _, h => ⟨v, rfl, by simpa using h⟩
  | b :: l, v, hb, hl, h => by
    unfold bin01 at hb
    rw [List.all_cons, Bool.and_eq_true] at hb
    simp only [List.length_cons] at hl h
    have h6 : 2 ^ (6 - (l.length + 1)) ≤ 2 ^ 6 := Nat.pow_le_pow_right (by omega) (by omega)
    obtain ⟨w, hw, hw2⟩ := bstep_01 v b hb.1 (by omega)
    rw [List.foldl_cons, hw]
    refine fold_01 l w hb.2 (by omega) ?_
    rw [show 6 - l.length = (6 - (l.length + 1)) + 1 by omega, Nat.pow_succ]
    omega
theorem six_01 (l : List UInt8) (hb : bin01 l = true) : ∃ w : Nat, six l = (w : Int) ∧ w < 64 := by
  unfold six
  refine fold_01 _ 0 ?_ (by rw [List.length_take]; omega) (Nat.two_pow_pos _)
  unfold bin01
  rw [List.all_eq_true]
  intro x hx
  have hx := List.mem_of_mem_take hx
  rw [List.mem_append] at hx
  rcases hx with hx | hx
  · exact List.all_eq_true.1 hb x hx
  · simp only [List.mem_cons, List.not_mem_nil, or_false] at hx
    rcases hx with rfl | rfl | rfl | rfl | rfl <;> rfl
theorem f25_l1_c (all : ByteArray) (hb : bin01 all.data.toList = true) (ha : all.size ≤ 100000000) : ∀ (m k : Nat) (out : ByteArray), all.size ≤ k + m → k ≤ all.size + 10 → out.size + m ≤ 1000000000 → ∀ n, m < n → ∀ (R : Type) (κ : Ex → St → Option R), f25_l1 n all out (k : Int) R κ = κ (.ex 2) (mkS [(2, .bad), (5, .sc (.string (out ++ u8S (let6N m (all.data.toList.drop k)))))] []) := by
  have base : ∀ (k m : Nat) (out : ByteArray), all.size ≤ k → ∀ (n : Nat) (R : Type) (κ : Ex → St → Option R), f25_l1 (n + 1) all out (k : Int) R κ = κ (.ex 2) (mkS [(2, .bad), (5, .sc (.string (out ++ u8S (let6N m (all.data.toList.drop k)))))] []) := by
    intro k m out hk n R κ
    rw [f25_l1, dec_false (by omega)]
    show κ _ _ = κ _ _
    rw [List.drop_of_length_le (by rw [ba_size]; omega), let6N_nil, show u8S [] = ⟨#[]⟩ from rfl, ba_nil']
  intro m
  induction m with
  | zero =>
    intro k out hk _ _ n hn R κ
    obtain ⟨n, rfl⟩ : ∃ j, n = j + 1 := ⟨n - 1, by omega⟩
    exact base k 0 out (by omega) n R κ
  | succ m ih =>
    intro k out hk hk2 ho n hn R κ
    obtain ⟨n, rfl⟩ : ∃ j, n = j + 1 := ⟨n - 1, by omega⟩
    by_cases hl : all.size ≤ k
    · exact base k _ out hl n R κ
    have hne : all.data.toList.drop k ≠ [] := fun e => by
      have := congrArg List.length e
      rw [List.length_drop, ba_size, List.length_nil] at this
      omega
    have hb' : bin01 (all.data.toList.drop k) = true := by
      unfold bin01 at hb ⊢
      rw [List.all_eq_true] at hb ⊢
      exact fun x hx => hb x (List.mem_of_mem_drop hx)
    obtain ⟨w, hw, hw2⟩ := six_01 _ hb'
    rw [f25_l1, Int.toNat_natCast, hw, dec_true (show (k : Int) < ((all.size : Nat) : Int) by omega), dec_true (show (0 : Int) ≤ (k : Int) by omega), dec_true (show all.size ≤ 1000000000 by omega), wrap_succ (by omega), dec_true (show (0 : Int) ≤ (w : Int) by omega), dec_true (show (w : Int) ≤ ((w + 1 : Nat) : Int) by omega), dec_true (show ((w + 1 : Nat) : Int) ≤ 64 by omega), Int.toNat_natCast, Int.toNat_natCast, tblCut w hw2]
    have h1 : (u8S [l64 w]).size = 1 := rfl
    have h6 : IntKind.wrap .i64 ((k : Int) + 6) = ((k + 6 : Nat) : Int) := by rw [wrap_id (by omega) (by omega)]; simp
    rw [h1, dec_true (show out.size + 1 ≤ 9223372036854775807 by omega), h6]
    show f25_l1 n _ _ _ R κ = _
    rw [ih (k + 6) _ (by omega) (by omega) (by rw [ba_size_append, h1]; omega) n (by omega) R κ, let6N_succ _ _ hne, hw, Int.toNat_natCast, List.drop_drop, ba_assoc]
    have : u8S [l64 w] ++ u8S (let6N m (all.data.toList.drop (k + 6))) = u8S (l64 w :: let6N m (all.data.toList.drop (k + 6))) := by
      refine ba_ext ?_
      rw [ba_append]
      rfl
    rw [this]
theorem f25_s1_eq (all : ByteArray) (out : ByteArray) (i : Int) (hp : ((i == 0) && (out.size == 0) && bin01 all.data.toList && decide (all.size ≤ 100000000)) = true) : ∃ n, ∀ (R : Type) (κ : Ex → St → Option R), f25_l1 n all out i R κ = f25_s1 all out i R κ := by
  simp only [Bool.and_eq_true, decide_eq_true_eq, beq_iff_eq] at hp
  obtain ⟨⟨⟨rfl, h1⟩, h3⟩, h4⟩ := hp
  obtain rfl : out = ⟨#[]⟩ := ba_ext (by rw [← ba_size] at h1; exact List.eq_nil_of_length_eq_zero h1)
  refine ⟨all.size + 1, fun R κ => ?_⟩
  have := f25_l1_c all h3 h4 all.size 0 ⟨#[]⟩ (by omega) (by omega) (by rw [show (⟨#[]⟩ : ByteArray).size = 0 from rfl]; omega) (all.size + 1) (by omega) R κ
  rw [ba_nil, List.drop_zero] at this
  unfold f25_s1 let6s
  rw [ba_size]
  exact this
def t_f25_l1 (st : St) (R : Type) (κ : Ex → St → Option R) : Option R := bif ckS f25_l1_ls f25_l1_rs st then (bif ((((st.env 6).intOf) == 0) && (((st.env 5).strOf).size == 0) && bin01 ((st.env 3).strOf).data.toList && decide (((st.env 3).strOf).size ≤ 100000000)) then f25_s1 ((st.env 3).strOf) ((st.env 5).strOf) ((st.env 6).intOf) R κ else none) else none
theorem t_f25_l1_ok : ∀ st0 R κ r, t_f25_l1 (forget C 25 [0, 1, 0, 1, 1, 1, 1] st0) R κ = some r → ∃ ee ss, κ ee ss = some r ∧ RunP C prim 25 [0, 1, 0, 1, 1, 1, 1] (forget C 25 [0, 1, 0, 1, 1, 1, 1] st0) ee ss := by
  intro st0 R κ r h
  obtain ⟨hs, h⟩ := cond_some h
  obtain ⟨hp, h⟩ := cond_some h
  rw [canon (ls := f25_l1_ls) (rs := f25_l1_rs) (by kernel_rfl) st0 hs]
  obtain ⟨n, hn⟩ := f25_s1_eq _ _ _ hp
  rw [← hn] at h
  exact f25_l1_ok n _ _ _ R κ r h

def K_f25_l3 : CallK := kNil
theorem K_f25_l3_ok : KOK C prim K_f25_l3 := KOK.nil
def T_f25_l3 : Tab := tNil
theorem T_f25_l3_ok : TOK C prim 25 T_f25_l3 := TOK.nil
def f25_l3 : Nat → ByteArray → (R : Type) → (Ex → St → Option R) → Option R
  | 0, _, _, _ => none
  | n + 1, out, R, κ =>
    bif ((Int.tmod ((out.size : Nat) : Int) 4) != 0) then
      bif ((decide ((out.size + 1) ≤ 9223372036854775807)) && true) then
        f25_l3 n (out ++ (⟨#[61]⟩ : ByteArray)) R κ
      else none
    else
      κ (.ex 6) (mkS [(2, .bad), (5, .sc (.string out))] [])
def f25_l3_ls : List (Nat × Pat) := [(5, .s)]
def f25_l3_rs : List RPat := []
theorem f25_l3_ok (n : Nat) : ∀ (out : ByteArray) (R : Type) (κ : Ex → St → Option R) (r : R), f25_l3 n out R κ = some r → ∃ ee ss, κ ee ss = some r ∧ RunP C prim 25 [0, 0, 1, 1, 1, 1, 1] (mkS [(5, .sc (.string out))] []) ee ss := by
  induction n with
  | zero => intro out R κ r h; cases h
  | succ n ih =>
    intro out R κ r h
    refine loop_round (K := K_f25_l3) (T := T_f25_l3) K_f25_l3_ok T_f25_l3_ok (p := [0, 0, 1, 1, 1, 1, 1]) (by kernel_rfl) (fun st => bif ckS f25_l3_ls f25_l3_rs st then f25_l3 n ((st.env 5).strOf) R κ else none) (fun st0 h0 => ?_) ?_
    · obtain ⟨hs, h0⟩ := cond_some h0
      rw [canon (ls := f25_l3_ls) (rs := f25_l3_rs) (by kernel_rfl) st0 hs]
      exact ih _ R κ r h0
    · refine Eq.trans ?_ h
      kernel_rfl

def f25_s3 (out : ByteArray) (R : Type) (κ : Ex → St → Option R) : Option R :=
  κ (.ex 6) (mkS [(2, .bad), (5, .sc (.string (pad4 out)))] [])
theorem pad4_more (out : ByteArray) (h : out.size % 4 ≠ 0) : pad4 (out ++ ⟨#[61]⟩) = pad4 out := by
  have h1 : (⟨#[61]⟩ : ByteArray).size = 1 := rfl
  unfold pad4
  rw [ba_size_append, h1, ba_assoc]
  congr 1
  refine ba_ext ?_
  rw [ba_append]
  show 61 :: List.replicate ((4 - (out.size + 1) % 4) % 4) (61 : UInt8) = List.replicate ((4 - out.size % 4) % 4) 61
  rw [← List.replicate_succ]
  congr 1
  omega
theorem f25_l3_c : ∀ (m : Nat) (out : ByteArray), (4 - out.size % 4) % 4 = m → out.size + m ≤ 2000000000 → ∀ n, m < n → ∀ (R : Type) (κ : Ex → St → Option R), f25_l3 n out R κ = f25_s3 out R κ := by
  intro m
  induction m with
  | zero =>
    intro out h _ n hn R κ
    obtain ⟨n, rfl⟩ : ∃ j, n = j + 1 := ⟨n - 1, by omega⟩
    have e : ((((out.size % 4 : Nat) : Int)) != 0) = false := by
      have : out.size % 4 = 0 := by omega
      rw [this]; rfl
    rw [f25_l3, tmod4, e]
    unfold f25_s3 pad4
    rw [h]
    show κ _ _ = κ _ _
    rw [show (⟨(List.replicate 0 (61 : UInt8)).toArray⟩ : ByteArray) = ⟨#[]⟩ from rfl, ba_nil']
  | succ m ih =>
    intro out h ho n hn R κ
    obtain ⟨n, rfl⟩ : ∃ j, n = j + 1 := ⟨n - 1, by omega⟩
    have e : ((((out.size % 4 : Nat) : Int)) != 0) = true := by
      rw [bne_iff_ne]; omega
    have h1 : (⟨#[61]⟩ : ByteArray).size = 1 := rfl
    rw [f25_l3, tmod4, e, dec_true (show out.size + 1 ≤ 9223372036854775807 by omega)]
    show f25_l3 n _ R κ = _
    rw [ih _ (by rw [ba_size_append, h1]; omega) (by rw [ba_size_append, h1]; omega) n (by omega) R κ]
    unfold f25_s3
    rw [pad4_more _ (by omega)]
theorem f25_s3_eq (out : ByteArray) (hp : (decide (out.size ≤ 1000000000)) = true) : ∃ n, ∀ (R : Type) (κ : Ex → St → Option R), f25_l3 n out R κ = f25_s3 out R κ := by
  have h := of_decide_eq_true hp
  exact ⟨5, fun R κ => f25_l3_c _ out rfl (by omega) 5 (by omega) R κ⟩
def t_f25_l3 (st : St) (R : Type) (κ : Ex → St → Option R) : Option R := bif ckS f25_l3_ls f25_l3_rs st then (bif (decide (((st.env 5).strOf).size ≤ 1000000000)) then f25_s3 ((st.env 5).strOf) R κ else none) else none
theorem t_f25_l3_ok : ∀ st0 R κ r, t_f25_l3 (forget C 25 [0, 0, 1, 1, 1, 1, 1] st0) R κ = some r → ∃ ee ss, κ ee ss = some r ∧ RunP C prim 25 [0, 0, 1, 1, 1, 1, 1] (forget C 25 [0, 0, 1, 1, 1, 1, 1] st0) ee ss := by
  intro st0 R κ r h
  obtain ⟨hs, h⟩ := cond_some h
  obtain ⟨hp, h⟩ := cond_some h
  rw [canon (ls := f25_l3_ls) (rs := f25_l3_rs) (by kernel_rfl) st0 hs]
  obtain ⟨n, hn⟩ := f25_s3_eq _ hp
  rw [← hn] at h
  exact f25_l3_ok n _ R κ r h

def K_f25 : CallK := kNil
theorem K_f25_ok : KOK C prim K_f25 := KOK.nil
def T_f25 : Tab := tCons [0, 1, 0, 1, 1] t_f25_l0 <| tCons [0, 1, 0, 1, 1, 1, 1] t_f25_l1 <| tCons [0, 0, 1, 1, 1, 1, 1] t_f25_l3 <| tNil
theorem T_f25_ok : TOK C prim 25 T_f25 := TOK.cons t_f25_l0_ok <| TOK.cons t_f25_l1_ok <| TOK.cons t_f25_l3_ok <| TOK.nil
def f25 (s : ByteArray) : Option (V × List Rg) :=
  bif (((⟨#[]⟩ : ByteArray).size == 0) && ((0 : Int) == 0) && (((s.size : Nat) : Int) == ((s.size : Nat) : Int)) && decide (s.size ≤ 10000000)) then
    bif (((0 : Int) == 0) && ((⟨#[]⟩ : ByteArray).size == 0) && bin01 (⟨(bitsL s.data.toList).toArray⟩ : ByteArray).data.toList && decide ((⟨(bitsL s.data.toList).toArray⟩ : ByteArray).size ≤ 100000000)) then
      bif (decide ((u8S (let6s (⟨(bitsL s.data.toList).toArray⟩ : ByteArray).data.toList)).size ≤ 1000000000)) then
        some (.sc (.string (pad4 (u8S (let6s (⟨(bitsL s.data.toList).toArray⟩ : ByteArray).data.toList)))), [])
      else none
    else none
  else none
theorem f25_run (s : ByteArray) (x : V × List Rg) (h : f25 s = some x) : CallR C prim 25 [.sc (.string s)] [] x := by
  refine call_fn (K := K_f25) (T := T_f25) K_f25_ok T_f25_ok (by kernel_rfl) ?_
  refine Eq.trans ?_ h
  kernel_rfl

theorem let6N_len : ∀ (k : Nat) (l : List UInt8), (let6N k l).length ≤ k
  | 0, _ => by simp [let6N]
  | k + 1, l => by
    rw [let6N]
    split
    · simp
    · rw [List.length_cons]
      have := let6N_len k (l.drop 6)
      omega
theorem f25_eq (s : ByteArray) (hp : decide (s.size ≤ 10000000) = true) : f25 s = some (.sc (.string (u8S (enc64 s.data.toList))), []) := by
  have h := of_decide_eq_true hp
  have h2 : (⟨(bitsL s.data.toList).toArray⟩ : ByteArray).size = 8 * s.size := by
    rw [← ba_size, ← ba_size]; exact bitsL_len _
  have h3 : bin01 (⟨(bitsL s.data.toList).toArray⟩ : ByteArray).data.toList = true := bin01_L _
  have h4 : (u8S (let6s (⟨(bitsL s.data.toList).toArray⟩ : ByteArray).data.toList)).size ≤ 8 * s.size := by
    rw [← h2, ← ba_size, ← ba_size]
    exact let6N_len _ _
  have h5 : pad4 (u8S (let6s (⟨(bitsL s.data.toList).toArray⟩ : ByteArray).data.toList)) = u8S (enc64 s.data.toList) := letters_eq _
  unfold f25
  rw [h3, h2, h5, dec_true h, dec_true (show 8 * s.size ≤ 100000000 by omega), dec_true (show (u8S (let6s (⟨(bitsL s.data.toList).toArray⟩ : ByteArray).data.toList)).size ≤ 1000000000 by omega), show (⟨#[]⟩ : ByteArray).size = 0 from rfl]
  simp only [beq_self_eq_true, Bool.and_true, Bool.true_and, cond_true]
def k25 : PrimT := fun vs gs => match vs, gs with
  | [.sc (.string s)], [] => (decide (s.size ≤ 10000000), .sc (.string (u8S (enc64 s.data.toList))), [])
  | _, _ => (false, .bad, [])
theorem k25_ok : ∀ vs gs x, k25 vs gs = (true, x) → CallR C prim 25 vs gs x := by
  intro vs gs x h
  unfold k25 at h
  split at h
  · simp only [Prod.mk.injEq] at h
    obtain ⟨hp, rfl⟩ := h
    exact f25_run _ _ (f25_eq _ hp)
  · cases h

def K_f17_l0 : CallK := kCons 54 k54 <| kNil
theorem K_f17_l0_ok : KOK C prim K_f17_l0 := KOK.cons k54_ok <| KOK.nil
def T_f17_l0 : Tab := tNil
theorem T_f17_l0_ok : TOK C prim 17 T_f17_l0 := TOK.nil
def f17_l0 : Nat → ByteArray → Int → Int → Int → Int → Int → List V → List V → (R : Type) → (Ex → St → Option R) → Option R
  | 0, _, _, _, _, _, _, _, _, _, _ => none
  | n + 1, text, n', count, filled, v17, v18, out, r16, R, κ =>
    bif (decide (v18 < v17)) then
      bif (((decide ((0 : Int) ≤ v18)) && (decide (v18 < ((r16.length : Nat) : Int)))) && true) then
        bif (((V.isInt .u8 (nthV r16 (((v18).toNat * 1) + 0))) && true) && true) then
          bif ((V.intOf (nthV r16 (((v18).toNat * 1) + 0))) == 10) then
            f17_l0 n text n' count filled v17 (IntKind.wrap .i64 (v18 + 1)) out r16 R κ
          else
            bif (decide ((idxB (⟨#[65, 66, 67, 68, 69, 70, 71, 72, 73, 74, 75, 76, 77, 78, 79, 80, 81, 82, 83, 84, 85, 86, 87, 88, 89, 90, 97, 98, 99, 100, 101, 102, 103, 104, 105, 106, 107, 108, 109, 110, 111, 112, 113, 114, 115, 116, 117, 118, 119, 120, 121, 122, 48, 49, 50, 51, 52, 53, 54, 55, 56, 57, 43, 47]⟩ : ByteArray) (V.intOf (nthV r16 (((v18).toNat * 1) + 0)))) ≥ 0)) then
              bif (filled == 0) then
                bif ((IntKind.wrap .i64 (count + 1)) == 4) then
                  bif (((roomy ((out.length + 3) * 1)) && (roomy (out.length + 3))) && true) then
                    f17_l0 n text (0 : Int) (0 : Int) filled v17 (IntKind.wrap .i64 (v18 + 1)) (out ++ [.sc (.int .u8 (IntKind.wrap .u8 (Int.fdiv (bitsI .or .i64 (IntKind.wrap .i64 (n' * (2 ^ (min 6 64)))) (idxB (⟨#[65, 66, 67, 68, 69, 70, 71, 72, 73, 74, 75, 76, 77, 78, 79, 80, 81, 82, 83, 84, 85, 86, 87, 88, 89, 90, 97, 98, 99, 100, 101, 102, 103, 104, 105, 106, 107, 108, 109, 110, 111, 112, 113, 114, 115, 116, 117, 118, 119, 120, 121, 122, 48, 49, 50, 51, 52, 53, 54, 55, 56, 57, 43, 47]⟩ : ByteArray) (V.intOf (nthV r16 (((v18).toNat * 1) + 0))))) (2 ^ (min 16 64))))), .sc (.int .u8 (IntKind.wrap .u8 (Int.fdiv (bitsI .or .i64 (IntKind.wrap .i64 (n' * (2 ^ (min 6 64)))) (idxB (⟨#[65, 66, 67, 68, 69, 70, 71, 72, 73, 74, 75, 76, 77, 78, 79, 80, 81, 82, 83, 84, 85, 86, 87, 88, 89, 90, 97, 98, 99, 100, 101, 102, 103, 104, 105, 106, 107, 108, 109, 110, 111, 112, 113, 114, 115, 116, 117, 118, 119, 120, 121, 122, 48, 49, 50, 51, 52, 53, 54, 55, 56, 57, 43, 47]⟩ : ByteArray) (V.intOf (nthV r16 (((v18).toNat * 1) + 0))))) (2 ^ (min 8 64))))), .sc (.int .u8 (IntKind.wrap .u8 (bitsI .or .i64 (IntKind.wrap .i64 (n' * (2 ^ (min 6 64)))) (idxB (⟨#[65, 66, 67, 68, 69, 70, 71, 72, 73, 74, 75, 76, 77, 78, 79, 80, 81, 82, 83, 84, 85, 86, 87, 88, 89, 90, 97, 98, 99, 100, 101, 102, 103, 104, 105, 106, 107, 108, 109, 110, 111, 112, 113, 114, 115, 116, 117, 118, 119, 120, 121, 122, 48, 49, 50, 51, 52, 53, 54, 55, 56, 57, 43, 47]⟩ : ByteArray) (V.intOf (nthV r16 (((v18).toNat * 1) + 0)))))))]) r16 R κ
                  else none
                else
                  f17_l0 n text (bitsI .or .i64 (IntKind.wrap .i64 (n' * (2 ^ (min 6 64)))) (idxB (⟨#[65, 66, 67, 68, 69, 70, 71, 72, 73, 74, 75, 76, 77, 78, 79, 80, 81, 82, 83, 84, 85, 86, 87, 88, 89, 90, 97, 98, 99, 100, 101, 102, 103, 104, 105, 106, 107, 108, 109, 110, 111, 112, 113, 114, 115, 116, 117, 118, 119, 120, 121, 122, 48, 49, 50, 51, 52, 53, 54, 55, 56, 57, 43, 47]⟩ : ByteArray) (V.intOf (nthV r16 (((v18).toNat * 1) + 0))))) (IntKind.wrap .i64 (count + 1)) filled v17 (IntKind.wrap .i64 (v18 + 1)) out r16 R κ
              else
                bif ((V.intOf (nthV r16 (((v18).toNat * 1) + 0))) == 61) then
                  bif (decide (count ≥ 2)) then
                    bif (decide ((IntKind.wrap .i64 (count + filled)) < 4)) then
                      bif ((decide ((0 : Int) ≤ (IntKind.wrap .i64 ((2 : Int) * (IntKind.wrap .i64 ((4 : Int) - count)))))) && true) then
                        bif ((bitsI .and .i64 n' (IntKind.wrap .i64 ((IntKind.wrap .i64 (1 * (2 ^ (min ((IntKind.wrap .i64 ((2 : Int) * (IntKind.wrap .i64 ((4 : Int) - count))))).toNat 64)))) - 1))) == 0) then
                          bif (count == 4) then
                            bif (((roomy ((out.length + 3) * 1)) && (roomy (out.length + 3))) && true) then
                              f17_l0 n text (0 : Int) (0 : Int) (IntKind.wrap .i64 (filled + 1)) v17 (IntKind.wrap .i64 (v18 + 1)) (out ++ [.sc (.int .u8 (IntKind.wrap .u8 (Int.fdiv n' (2 ^ (min 16 64))))), .sc (.int .u8 (IntKind.wrap .u8 (Int.fdiv n' (2 ^ (min 8 64))))), .sc (.int .u8 (IntKind.wrap .u8 n'))]) r16 R κ
                            else none
                          else
                            f17_l0 n text n' count (IntKind.wrap .i64 (filled + 1)) v17 (IntKind.wrap .i64 (v18 + 1)) out r16 R κ
                        else
                          κ .rt (mkS [(0, .sc (.string text)), (2, .sc (.string ⟨#[]⟩)), (3, .sc (.int .i64 v18)), (4, .sc (.int .i64 1)), (5, .ref ⟨.loc 5, 0, [], 5, false⟩), (6, .sc (.int .i64 n')), (7, .sc (.int .i64 count)), (8, .sc (.int .i64 filled))] [(.loc 5, some ⟨false, [.own 5 false out]⟩)])
                      else none
                    else
                      κ .rt (mkS [(0, .sc (.string text)), (2, .sc (.string ⟨#[]⟩)), (3, .sc (.int .i64 v18)), (4, .sc (.int .i64 1)), (5, .ref ⟨.loc 5, 0, [], 5, false⟩), (6, .sc (.int .i64 n')), (7, .sc (.int .i64 count)), (8, .sc (.int .i64 filled))] [(.loc 5, some ⟨false, [.own 5 false out]⟩)])
                  else
                    κ .rt (mkS [(0, .sc (.string text)), (2, .sc (.string ⟨#[]⟩)), (3, .sc (.int .i64 v18)), (4, .sc (.int .i64 1)), (5, .ref ⟨.loc 5, 0, [], 5, false⟩), (6, .sc (.int .i64 n')), (7, .sc (.int .i64 count)), (8, .sc (.int .i64 filled))] [(.loc 5, some ⟨false, [.own 5 false out]⟩)])
                else
                  κ .rt (mkS [(0, .sc (.string text)), (2, .sc (.string ⟨#[]⟩)), (3, .sc (.int .i64 v18)), (4, .sc (.int .i64 1)), (5, .ref ⟨.loc 5, 0, [], 5, false⟩), (6, .sc (.int .i64 n')), (7, .sc (.int .i64 count)), (8, .sc (.int .i64 filled))] [(.loc 5, some ⟨false, [.own 5 false out]⟩)])
            else
              bif ((V.intOf (nthV r16 (((v18).toNat * 1) + 0))) == 61) then
                bif (decide (count ≥ 2)) then
                  bif (decide ((IntKind.wrap .i64 (count + filled)) < 4)) then
                    bif ((decide ((0 : Int) ≤ (IntKind.wrap .i64 ((2 : Int) * (IntKind.wrap .i64 ((4 : Int) - count)))))) && true) then
                      bif ((bitsI .and .i64 n' (IntKind.wrap .i64 ((IntKind.wrap .i64 (1 * (2 ^ (min ((IntKind.wrap .i64 ((2 : Int) * (IntKind.wrap .i64 ((4 : Int) - count))))).toNat 64)))) - 1))) == 0) then
                        bif (count == 4) then
                          bif (((roomy ((out.length + 3) * 1)) && (roomy (out.length + 3))) && true) then
                            f17_l0 n text (0 : Int) (0 : Int) (IntKind.wrap .i64 (filled + 1)) v17 (IntKind.wrap .i64 (v18 + 1)) (out ++ [.sc (.int .u8 (IntKind.wrap .u8 (Int.fdiv n' (2 ^ (min 16 64))))), .sc (.int .u8 (IntKind.wrap .u8 (Int.fdiv n' (2 ^ (min 8 64))))), .sc (.int .u8 (IntKind.wrap .u8 n'))]) r16 R κ
                          else none
                        else
                          f17_l0 n text n' count (IntKind.wrap .i64 (filled + 1)) v17 (IntKind.wrap .i64 (v18 + 1)) out r16 R κ
                      else
                        κ .rt (mkS [(0, .sc (.string text)), (2, .sc (.string ⟨#[]⟩)), (3, .sc (.int .i64 v18)), (4, .sc (.int .i64 1)), (5, .ref ⟨.loc 5, 0, [], 5, false⟩), (6, .sc (.int .i64 n')), (7, .sc (.int .i64 count)), (8, .sc (.int .i64 filled))] [(.loc 5, some ⟨false, [.own 5 false out]⟩)])
                    else none
                  else
                    κ .rt (mkS [(0, .sc (.string text)), (2, .sc (.string ⟨#[]⟩)), (3, .sc (.int .i64 v18)), (4, .sc (.int .i64 1)), (5, .ref ⟨.loc 5, 0, [], 5, false⟩), (6, .sc (.int .i64 n')), (7, .sc (.int .i64 count)), (8, .sc (.int .i64 filled))] [(.loc 5, some ⟨false, [.own 5 false out]⟩)])
                else
                  κ .rt (mkS [(0, .sc (.string text)), (2, .sc (.string ⟨#[]⟩)), (3, .sc (.int .i64 v18)), (4, .sc (.int .i64 1)), (5, .ref ⟨.loc 5, 0, [], 5, false⟩), (6, .sc (.int .i64 n')), (7, .sc (.int .i64 count)), (8, .sc (.int .i64 filled))] [(.loc 5, some ⟨false, [.own 5 false out]⟩)])
              else
                κ .rt (mkS [(0, .sc (.string text)), (2, .sc (.string ⟨#[]⟩)), (3, .sc (.int .i64 v18)), (4, .sc (.int .i64 1)), (5, .ref ⟨.loc 5, 0, [], 5, false⟩), (6, .sc (.int .i64 n')), (7, .sc (.int .i64 count)), (8, .sc (.int .i64 filled))] [(.loc 5, some ⟨false, [.own 5 false out]⟩)])
        else none
      else none
    else
      κ (.ex 0) (mkS [(0, .sc (.string text)), (2, .bad), (3, .bad), (4, .bad), (5, .ref ⟨.loc 5, 0, [], 5, false⟩), (6, .sc (.int .i64 n')), (7, .sc (.int .i64 count)), (8, .sc (.int .i64 filled))] [(.loc 5, some ⟨false, [.own 5 false out]⟩)])
def f17_l0_ls : List (Nat × Pat) := [(0, .s), (5, .is (.ref ⟨.loc 5, 0, [], 5, false⟩)), (6, .i .i64), (7, .i .i64), (8, .i .i64), (16, .is (.ref ⟨.loc 16, 0, [], 5, false⟩)), (17, .i .i64), (18, .i .i64)]
def f17_l0_rs : List RPat := [⟨.loc 5, false, [.own 5 false]⟩, ⟨.loc 16, false, [.own 5 false]⟩]
theorem f17_l0_ok (n : Nat) : ∀ (text : ByteArray) (n' : Int) (count : Int) (filled : Int) (v17 : Int) (v18 : Int) (out : List V) (r16 : List V) (R : Type) (κ : Ex → St → Option R) (r : R), f17_l0 n text n' count filled v17 v18 out r16 R κ = some r → ∃ ee ss, κ ee ss = some r ∧ RunP C prim 17 [0, 1, 0, 1, 1, 1, 1] (mkS [(0, .sc (.string text)), (5, .ref ⟨.loc 5, 0, [], 5, false⟩), (6, .sc (.int .i64 n')), (7, .sc (.int .i64 count)), (8, .sc (.int .i64 filled)), (16, .ref ⟨.loc 16, 0, [], 5, false⟩), (17, .sc (.int .i64 v17)), (18, .sc (.int .i64 v18))] [(.loc 5, some ⟨false, [.own 5 false out]⟩), (.loc 16, some ⟨false, [.own 5 false r16]⟩)]) ee ss := by
  induction n with
  | zero => intro text n' count filled v17 v18 out r16 R κ r h; cases h
  | succ n ih =>
    intro text n' count filled v17 v18 out r16 R κ r h
    refine loop_round (K := K_f17_l0) (T := T_f17_l0) K_f17_l0_ok T_f17_l0_ok (p := [0, 1, 0, 1, 1, 1, 1]) (by kernel_rfl) (fun st => bif ckS f17_l0_ls f17_l0_rs st then f17_l0 n ((st.env 0).strOf) ((st.env 6).intOf) ((st.env 7).intOf) ((st.env 8).intOf) ((st.env 17).intOf) ((st.env 18).intOf) ((nthV (rowOf (st.regs (.loc 5))) 0).cellsOf) ((nthV (rowOf (st.regs (.loc 16))) 0).cellsOf) R κ else none) (fun st0 h0 => ?_) ?_
    · obtain ⟨hs, h0⟩ := cond_some h0
      rw [canon (ls := f17_l0_ls) (rs := f17_l0_rs) (by kernel_rfl) st0 hs]
      exact ih _ _ _ _ _ _ _ _ R κ r h0
    · refine Eq.trans ?_ h
      kernel_rfl

def f17_s0 (text : ByteArray) (n' : Int) (count : Int) (filled : Int) (v17 : Int) (v18 : Int) (out : List V) (r16 : List V) (R : Type) (κ : Ex → St → Option R) : Option R :=
  bif (zr r16).bad then
    κ .rt (mkS [(0, .sc (.string text)), (2, .sc (.string ⟨#[]⟩)), (3, .sc (.int .i64 ((zr r16).p : Int))), (4, .sc (.int .i64 1)), (5, .ref ⟨.loc 5, 0, [], 5, false⟩), (6, .sc (.int .i64 ((zr r16).z.n : Int))), (7, .sc (.int .i64 ((zr r16).z.c : Int))), (8, .sc (.int .i64 ((zr r16).z.f : Int)))] [(.loc 5, some ⟨false, [.own 5 false (u8V (zr r16).z.out)]⟩)])
  else
    κ (.ex 0) (mkS [(0, .sc (.string text)), (2, .bad), (3, .bad), (4, .bad), (5, .ref ⟨.loc 5, 0, [], 5, false⟩), (6, .sc (.int .i64 ((zr r16).z.n : Int))), (7, .sc (.int .i64 ((zr r16).z.c : Int))), (8, .sc (.int .i64 ((zr r16).z.f : Int)))] [(.loc 5, some ⟨false, [.own 5 false (u8V (zr r16).z.out)]⟩)])
def fin17 (text : ByteArray) (r : ZR) (R : Type) (κ : Ex → St → Option R) : Option R :=
  bif r.bad then
    κ .rt (mkS [(0, .sc (.string text)), (2, .sc (.string ⟨#[]⟩)), (3, .sc (.int .i64 (r.p : Int))), (4, .sc (.int .i64 1)), (5, .ref ⟨.loc 5, 0, [], 5, false⟩), (6, .sc (.int .i64 (r.z.n : Int))), (7, .sc (.int .i64 (r.z.c : Int))), (8, .sc (.int .i64 (r.z.f : Int)))] [(.loc 5, some ⟨false, [.own 5 false (u8V r.z.out)]⟩)])
  else
    κ (.ex 0) (mkS [(0, .sc (.string text)), (2, .bad), (3, .bad), (4, .bad), (5, .ref ⟨.loc 5, 0, [], 5, false⟩), (6, .sc (.int .i64 (r.z.n : Int))), (7, .sc (.int .i64 (r.z.c : Int))), (8, .sc (.int .i64 (r.z.f : Int)))] [(.loc 5, some ⟨false, [.own 5 false (u8V r.z.out)]⟩)])
theorem f17_l0_c (text : ByteArray) (r16 : List V) (hu : allB r16 = true) (hl : r16.length ≤ 1000000000) : ∀ (m k : Nat) (z : Z), k + m = r16.length → ZOk z → z.out.length ≤ 3 * k → ∀ n, m < n → ∀ (R : Type) (κ : Ex → St → Option R),
    f17_l0 n text (z.n : Int) (z.c : Int) (z.f : Int) ((r16.length : Nat) : Int) (k : Int) (u8V z.out) r16 R κ = fin17 text (zrun ((r16.map byteOfV).drop k) k z) R κ := by
  intro m
  induction m with
  | zero =>
    intro k z hk hz ho n hn R κ
    obtain ⟨n, rfl⟩ : ∃ j, n = j + 1 := ⟨n - 1, by omega⟩
    rw [List.drop_of_length_le (by rw [List.length_map]; omega), f17_l0, dec_false (by omega)]
    rfl
  | succ m ih =>
    intro k z hk hz ho n hn R κ
    obtain ⟨n, rfl⟩ : ∃ j, n = j + 1 := ⟨n - 1, by omega⟩
    have hlt : k < r16.length := by omega
    have hok : okB r16[k] = true := List.all_eq_true.1 hu _ (List.getElem_mem hlt)
    have hx := okB_eq hok
    have hdrop : (r16.map byteOfV).drop k = byteOfV r16[k] :: (r16.map byteOfV).drop (k + 1) := by
      rw [List.drop_eq_getElem_cons (by rw [List.length_map]; exact hlt), List.getElem_map]
    have hnth : nthV r16 ((k : Int).toNat * 1 + 0) = .sc (.int .u8 ((byteOfV r16[k]).toNat : Int)) := by
      rw [Int.toNat_natCast, Nat.mul_one, Nat.add_zero, nthV_lt hlt]; exact hx
    rw [hdrop]
    generalize byteOfV r16[k] = b at hnth
    have hb : b.toNat < 256 := b.toNat_lt
    obtain ⟨g1, g2, g3⟩ := lt64_facts b.toNat hb
    have hzn := zok_n hz
    have hc3 := hz.c3
    have hcf := hz.cf
    have IH : ∀ z', zstep b z = some z' → f17_l0 n text (z'.n : Int) (z'.c : Int) (z'.f : Int) ((r16.length : Nat) : Int) ((k + 1 : Nat) : Int) (u8V z'.out) r16 R κ = fin17 text (zrun (b :: (r16.map byteOfV).drop (k + 1)) k z) R κ := by
      intro z' hs
      obtain ⟨q1, q2, _⟩ := zstep_ok hz hs
      rw [zrun_some hs]
      exact ih (k + 1) z' (by omega) q1 (by omega) n (by omega) R κ
    have BAD : zstep b z = none → fin17 text (zrun (b :: (r16.map byteOfV).drop (k + 1)) k z) R κ = κ .rt (mkS [(0, .sc (.string text)), (2, .sc (.string ⟨#[]⟩)), (3, .sc (.int .i64 (k : Int))), (4, .sc (.int .i64 1)), (5, .ref ⟨.loc 5, 0, [], 5, false⟩), (6, .sc (.int .i64 (z.n : Int))), (7, .sc (.int .i64 (z.c : Int))), (8, .sc (.int .i64 (z.f : Int)))] [(.loc 5, some ⟨false, [.own 5 false (u8V z.out)]⟩)]) := by
      intro hs
      rw [zrun_none hs]
      rfl
    rw [f17_l0, dec_true (show (k : Int) < ((r16.length : Nat) : Int) by omega), dec_true (show (0 : Int) ≤ (k : Int) by omega), hnth, wrap_succ (by omega)]
    simp only [V.isInt, V.intOf, decide_true, Bool.and_true, cond_true, idxB_lt]
    by_cases h10 : b.toNat = 10
    · have e : ((b.toNat : Int) == 10) = true := by rw [h10]; rfl
      rw [e]
      exact IH z (by unfold zstep; rw [if_pos h10])
    have e10 : ((b.toNat : Int) == 10) = false := by rw [beq_eq_false_iff_ne]; omega
    rw [e10, cond_false]
    by_cases hl0 : 0 ≤ lt64 (b.toNat : Int)
    · have h61 : b.toNat ≠ 61 := fun h => by rw [g3 (.inr h)] at hl0; omega
      have e61 : ((b.toNat : Int) == 61) = false := by rw [beq_eq_false_iff_ne]; omega
      obtain ⟨l, hl⟩ : ∃ l : Nat, lt64 (b.toNat : Int) = (l : Int) := ⟨(lt64 (b.toNat : Int)).toNat, by omega⟩
      have hl64 : l < 64 := by omega
      rw [dec_true (show lt64 (b.toNat : Int) ≥ 0 from hl0), cond_true]
      by_cases hf : z.f = 0
      · have ef : ((z.f : Int) == 0) = true := by rw [hf]; rfl
        have hs := hz
        rw [ef, cond_true, wrap_succ (by omega), hl, orLetter _ _ (by omega) hl64]
        by_cases hc : z.c = 3
        · have ec : (((z.c + 1 : Nat) : Int) == 4) = true := by rw [hc]; rfl
          have hr : (roomy (((u8V z.out).length + 3) * 1) && roomy ((u8V z.out).length + 3)) = true := by
            unfold roomy
            rw [u8V_len, dec_true (by omega), dec_true (by omega)]
            rfl
          rw [ec, cond_true, hr, cond_true, shr _ 16 (by omega), shr _ 8 (by omega), wrapU8, wrapU8, wrapU8]
          have hst : zstep b z = some ⟨0, 0, z.f, z.m + 1, z.out ++ [UInt8.ofNat ((z.n * 64 + l) / 65536), UInt8.ofNat ((z.n * 64 + l) / 256), UInt8.ofNat (z.n * 64 + l)]⟩ := by
            unfold zstep
            rw [if_neg h10, if_pos ⟨hl0, hf⟩, if_pos hc, hl, Int.toNat_natCast]
          have := IH _ hst
          rw [u8V_app] at this
          exact this
        · have ec : (((z.c + 1 : Nat) : Int) == 4) = false := by rw [beq_eq_false_iff_ne]; omega
          rw [ec, cond_false]
          have hst : zstep b z = some ⟨z.n * 64 + l, z.c + 1, z.f, z.m + 1, z.out⟩ := by
            unfold zstep
            rw [if_neg h10, if_pos ⟨hl0, hf⟩, if_neg hc, hl, Int.toNat_natCast]
          exact IH _ hst
      · have ef : ((z.f : Int) == 0) = false := by rw [beq_eq_false_iff_ne]; omega
        rw [ef, cond_false, e61, cond_false]
        refine (BAD ?_).symm
        unfold zstep
        rw [if_neg h10, if_neg (fun h => hf h.2), if_neg (fun h => h61 h.1)]
    · rw [dec_false (show ¬ lt64 (b.toNat : Int) ≥ 0 by omega), cond_false]
      by_cases h61 : b.toNat = 61
      · have e61 : ((b.toNat : Int) == 61) = true := by rw [h61]; rfl
        rw [e61, cond_true]
        by_cases hc2 : 2 ≤ z.c
        · rw [dec_true (show (z.c : Int) ≥ 2 by omega), cond_true, wrap_id (n := (z.c : Int) + (z.f : Int)) (by omega) (by omega)]
          by_cases hcf4 : z.c + z.f < 4
          · obtain ⟨m1, m2⟩ := maskZero hz hc2
            have e4 : ((z.c : Int) == 4) = false := by rw [beq_eq_false_iff_ne]; omega
            rw [dec_true (show (z.c : Int) + (z.f : Int) < 4 by omega), cond_true, m1, cond_true, m2, e4, cond_false, wrap_succ (by omega)]
            by_cases hz0 : z.n % 2 ^ (2 * (4 - z.c)) = 0
            · rw [dec_true hz0, cond_true]
              have hst : zstep b z = some ⟨z.n, z.c, z.f + 1, z.m + 1, z.out⟩ := by
                unfold zstep
                rw [if_neg h10, if_neg (fun h => hl0 h.1), if_pos ⟨h61, hc2, hcf4, hz0⟩]
              exact IH _ hst
            · rw [dec_false hz0, cond_false]
              refine (BAD ?_).symm
              unfold zstep
              rw [if_neg h10, if_neg (fun h => hl0 h.1), if_neg (fun h => hz0 h.2.2.2)]
          · rw [dec_false (show ¬ (z.c : Int) + (z.f : Int) < 4 by omega), cond_false]
            refine (BAD ?_).symm
            unfold zstep
            rw [if_neg h10, if_neg (fun h => hl0 h.1), if_neg (fun h => hcf4 h.2.2.1)]
        · rw [dec_false (show ¬ (z.c : Int) ≥ 2 by omega), cond_false]
          refine (BAD ?_).symm
          unfold zstep
          rw [if_neg h10, if_neg (fun h => hl0 h.1), if_neg (fun h => hc2 h.2.1)]
      · have e61 : ((b.toNat : Int) == 61) = false := by rw [beq_eq_false_iff_ne]; omega
        rw [e61, cond_false]
        refine (BAD ?_).symm
        unfold zstep
        rw [if_neg h10, if_neg (fun h => hl0 h.1), if_neg (fun h => h61 h.1)]
theorem f17_s0_eq (text : ByteArray) (n' : Int) (count : Int) (filled : Int) (v17 : Int) (v18 : Int) (out : List V) (r16 : List V) (hp : ((n' == 0) && (count == 0) && (filled == 0) && (v18 == 0) && (v17 == ((r16.length : Nat) : Int)) && (out.length == 0) && allB r16 && decide (r16.length ≤ 1000000000)) = true) : ∃ n, ∀ (R : Type) (κ : Ex → St → Option R), f17_l0 n text n' count filled v17 v18 out r16 R κ = f17_s0 text n' count filled v17 v18 out r16 R κ := by
  simp only [Bool.and_eq_true, decide_eq_true_eq, beq_iff_eq] at hp
  obtain ⟨⟨⟨⟨⟨⟨⟨rfl, rfl⟩, rfl⟩, rfl⟩, rfl⟩, h6⟩, h7⟩, h8⟩ := hp
  obtain rfl : out = [] := List.eq_nil_of_length_eq_zero h6
  exact ⟨r16.length + 1, fun R κ => f17_l0_c text r16 h7 h8 r16.length 0 ⟨0, 0, 0, 0, []⟩ (by omega) zok0 (by simp) _ (by omega) R κ⟩
def t_f17_l0 (st : St) (R : Type) (κ : Ex → St → Option R) : Option R := bif ckS f17_l0_ls f17_l0_rs st then (bif ((((st.env 6).intOf) == 0) && (((st.env 7).intOf) == 0) && (((st.env 8).intOf) == 0) && (((st.env 18).intOf) == 0) && (((st.env 17).intOf) == ((((nthV (rowOf (st.regs (.loc 16))) 0).cellsOf).length : Nat) : Int)) && (((nthV (rowOf (st.regs (.loc 5))) 0).cellsOf).length == 0) && allB ((nthV (rowOf (st.regs (.loc 16))) 0).cellsOf) && decide (((nthV (rowOf (st.regs (.loc 16))) 0).cellsOf).length ≤ 1000000000)) then f17_s0 ((st.env 0).strOf) ((st.env 6).intOf) ((st.env 7).intOf) ((st.env 8).intOf) ((st.env 17).intOf) ((st.env 18).intOf) ((nthV (rowOf (st.regs (.loc 5))) 0).cellsOf) ((nthV (rowOf (st.regs (.loc 16))) 0).cellsOf) R κ else none) else none
theorem t_f17_l0_ok : ∀ st0 R κ r, t_f17_l0 (forget C 17 [0, 1, 0, 1, 1, 1, 1] st0) R κ = some r → ∃ ee ss, κ ee ss = some r ∧ RunP C prim 17 [0, 1, 0, 1, 1, 1, 1] (forget C 17 [0, 1, 0, 1, 1, 1, 1] st0) ee ss := by
  intro st0 R κ r h
  obtain ⟨hs, h⟩ := cond_some h
  obtain ⟨hp, h⟩ := cond_some h
  rw [canon (ls := f17_l0_ls) (rs := f17_l0_rs) (by kernel_rfl) st0 hs]
  obtain ⟨n, hn⟩ := f17_s0_eq _ _ _ _ _ _ _ _ hp
  rw [← hn] at h
  exact f17_l0_ok n _ _ _ _ _ _ _ _ R κ r h

def K_f17 : CallK := kNil
theorem K_f17_ok : KOK C prim K_f17 := KOK.nil
def T_f17 : Tab := tCons [0, 1, 0, 1, 1, 1, 1] t_f17_l0 <| tNil
theorem T_f17_ok : TOK C prim 17 T_f17 := TOK.cons t_f17_l0_ok <| TOK.nil
def f17 (text : ByteArray) : Option (V × List Rg) :=
  bif (decide (((text.size : Nat) : Int) > 262144)) then
    some (.tp [.sc (.string ⟨#[]⟩), .sc (.int .i64 0), .sc (.int .i64 2)], [])
  else
    bif (((roomy text.size) && true) && true) then
      bif (((0 : Int) == 0) && ((0 : Int) == 0) && ((0 : Int) == 0) && ((0 : Int) == 0) && (((((bytesV text)).length : Nat) : Int) == (((bytesV text).length : Nat) : Int)) && (([] : List V).length == 0) && allB (bytesV text) && decide ((bytesV text).length ≤ 1000000000)) then
        bif (zr (bytesV text)).bad then
          some (.tp [.sc (.string ⟨#[]⟩), .sc (.int .i64 ((zr (bytesV text)).p : Int)), .sc (.int .i64 1)], [])
        else
          bif ((IntKind.wrap .i64 (((zr (bytesV text)).z.c : Int) + ((zr (bytesV text)).z.f : Int))) == 0) then
            bif ((allU8 (u8V (zr (bytesV text)).z.out)) && true) then
              some (.tp [.sc (.string (strOfCells (u8V (zr (bytesV text)).z.out))), .sc (.int .i64 0), .sc (.int .i64 0)], [])
            else none
          else
            bif (decide ((IntKind.wrap .i64 (((zr (bytesV text)).z.c : Int) + ((zr (bytesV text)).z.f : Int))) < 4)) then
              some (.tp [.sc (.string ⟨#[]⟩), .sc (.int .i64 ((text.size : Nat) : Int)), .sc (.int .i64 1)], [])
            else
              bif (((zr (bytesV text)).z.c : Int) == 2) then
                bif (((roomy ((((u8V (zr (bytesV text)).z.out)).length + 1) * 1)) && (roomy (((u8V (zr (bytesV text)).z.out)).length + 1))) && true) then
                  bif ((allU8 ((u8V (zr (bytesV text)).z.out) ++ [.sc (.int .u8 (IntKind.wrap .u8 (Int.fdiv ((zr (bytesV text)).z.n : Int) (2 ^ (min 4 64)))))])) && true) then
                    some (.tp [.sc (.string (strOfCells ((u8V (zr (bytesV text)).z.out) ++ [.sc (.int .u8 (IntKind.wrap .u8 (Int.fdiv ((zr (bytesV text)).z.n : Int) (2 ^ (min 4 64)))))]))), .sc (.int .i64 0), .sc (.int .i64 0)], [])
                  else none
                else none
              else
                bif (((roomy ((((u8V (zr (bytesV text)).z.out)).length + 2) * 1)) && (roomy (((u8V (zr (bytesV text)).z.out)).length + 2))) && true) then
                  bif ((allU8 ((u8V (zr (bytesV text)).z.out) ++ [.sc (.int .u8 (IntKind.wrap .u8 (Int.fdiv ((zr (bytesV text)).z.n : Int) (2 ^ (min 10 64))))), .sc (.int .u8 (IntKind.wrap .u8 (Int.fdiv ((zr (bytesV text)).z.n : Int) (2 ^ (min 2 64)))))])) && true) then
                    some (.tp [.sc (.string (strOfCells ((u8V (zr (bytesV text)).z.out) ++ [.sc (.int .u8 (IntKind.wrap .u8 (Int.fdiv ((zr (bytesV text)).z.n : Int) (2 ^ (min 10 64))))), .sc (.int .u8 (IntKind.wrap .u8 (Int.fdiv ((zr (bytesV text)).z.n : Int) (2 ^ (min 2 64)))))]))), .sc (.int .i64 0), .sc (.int .i64 0)], [])
                  else none
                else none
      else none
    else none
theorem f17_run (text : ByteArray) (x : V × List Rg) (h : f17 text = some x) : CallR C prim 17 [.sc (.string text)] [] x := by
  refine call_fn (K := K_f17) (T := T_f17) K_f17_ok T_f17_ok (by kernel_rfl) ?_
  refine Eq.trans ?_ h
  kernel_rfl

theorem f17_eq (text : ByteArray) (hp : decide (text.size ≤ 10000000) = true) : f17 text = some (.tp [.sc (.string (b64s text)), .sc (.int .i64 (b64p text)), .sc (.int .i64 (b64e text))], []) := by
  simp only [decide_eq_true_eq] at hp
  unfold f17 b64s b64p b64e
  by_cases h : 262144 < text.size
  · rw [dec_true (show ((text.size : Nat) : Int) > 262144 by omega), if_pos h, if_pos h, if_pos h]
    rfl
  · rw [dec_false (show ¬ ((text.size : Nat) : Int) > 262144 by omega), if_neg h, if_neg h, if_neg h]
    have hr : roomy text.size = true := by unfold roomy; exact dec_true (by omega)
    obtain ⟨k1, k2, k3⟩ := zrun_ok ((bytesV text).map byteOfV) 0 ⟨0, 0, 0, 0, []⟩ zok0
    have hlen : ((bytesV text).map byteOfV).length = text.size := by rw [List.length_map, bytesV_len]
    rw [hlen] at k2 k3
    have e1 : zrun ((bytesV text).map byteOfV) 0 ⟨0, 0, 0, 0, []⟩ = zr (bytesV text) := rfl
    rw [e1] at k1 k2 k3
    rw [hr, allB_bytesV, dec_true (show (bytesV text).length ≤ 1000000000 by rw [bytesV_len]; omega)]
    unfold o64
    generalize zr (bytesV text) = r at k1 k2 k3
    obtain ⟨bad, p, z⟩ := r
    simp only at k1 k2 k3
    have hz0 : z.out.length ≤ 786432 := by simp at k2; omega
    have hc3 := k1.c3
    have hcf := k1.cf
    have hfc := k1.fc
    have hzn := zok_n k1
    cases bad with
    | true => simp; rfl
    | false =>
      simp only [beq_self_eq_true, Bool.and_true, Bool.true_and, cond_true, cond_false, List.length_nil, Bool.false_eq_true, if_false]
      rw [wrap_id (n := (z.c : Int) + (z.f : Int)) (by omega) (by omega)]
      by_cases h0 : z.c + z.f = 0
      · have e0 : ((z.c : Int) + (z.f : Int) == 0) = true := by rw [beq_iff_eq]; omega
        have hz : ztail z = [] := by unfold ztail; rw [if_neg (by omega), if_neg (by omega)]
        rw [e0, cond_true, allU8_u8V, cond_true, strOf_u8V, if_neg (by omega), hz, List.append_nil]
        rfl
      · have e0 : ((z.c : Int) + (z.f : Int) == 0) = false := by rw [beq_eq_false_iff_ne]; omega
        rw [e0, cond_false]
        by_cases h4 : z.c + z.f < 4
        · rw [dec_true (show (z.c : Int) + (z.f : Int) < 4 by omega), cond_true, if_pos (by omega)]
          rfl
        · rw [dec_false (show ¬ (z.c : Int) + (z.f : Int) < 4 by omega), cond_false, if_neg (by omega)]
          by_cases h2 : z.c = 2
          · have e2 : ((z.c : Int) == 2) = true := by rw [h2]; rfl
            have hr2 : (roomy (((u8V z.out).length + 1) * 1) && roomy ((u8V z.out).length + 1)) = true := by
              unfold roomy; rw [u8V_len, dec_true (by omega), dec_true (by omega)]; rfl
            have e3 : u8V z.out ++ [V.sc (.int .u8 (IntKind.wrap .u8 (Int.fdiv (z.n : Int) (2 ^ (min 4 64)))))] = u8V (z.out ++ ztail z) := by
              rw [shr _ 4 (by omega), wrapU8, u8V_app]
              unfold ztail
              rw [if_pos h2]
              rfl
            rw [e2, cond_true, hr2, cond_true, e3, allU8_u8V, cond_true, strOf_u8V]
            rfl
          · have h3 : z.c = 3 := by omega
            have e2 : ((z.c : Int) == 2) = false := by rw [h3]; rfl
            have hr2 : (roomy (((u8V z.out).length + 2) * 1) && roomy ((u8V z.out).length + 2)) = true := by
              unfold roomy; rw [u8V_len, dec_true (by omega), dec_true (by omega)]; rfl
            have e3 : u8V z.out ++ [V.sc (.int .u8 (IntKind.wrap .u8 (Int.fdiv (z.n : Int) (2 ^ (min 10 64))))), V.sc (.int .u8 (IntKind.wrap .u8 (Int.fdiv (z.n : Int) (2 ^ (min 2 64)))))] = u8V (z.out ++ ztail z) := by
              rw [shr _ 10 (by omega), shr _ 2 (by omega), wrapU8, wrapU8, u8V_app]
              unfold ztail
              rw [if_neg h2, if_pos h3]
              rfl
            rw [e2, cond_false, hr2, cond_true, e3, allU8_u8V, cond_true, strOf_u8V]
            rfl
def k17 : PrimT := fun vs gs => match vs, gs with
  | [.sc (.string text)], [] => (decide (text.size ≤ 10000000), .tp [.sc (.string (b64s text)), .sc (.int .i64 (b64p text)), .sc (.int .i64 (b64e text))], [])
  | _, _ => (false, .bad, [])
theorem k17_ok : ∀ vs gs x, k17 vs gs = (true, x) → CallR C prim 17 vs gs x := by
  intro vs gs x h
  unfold k17 at h
  split at h
  · simp only [Prod.mk.injEq] at h
    obtain ⟨hp, rfl⟩ := h
    exact f17_run _ _ (f17_eq _ hp)
  · cases h

def K_f6_l0 : CallK := kNil
theorem K_f6_l0_ok : KOK C prim K_f6_l0 := KOK.nil
def T_f6_l0 : Tab := tNil
theorem T_f6_l0_ok : TOK C prim 6 T_f6_l0 := TOK.nil
def f6_l0 : Nat → ByteArray → ByteArray → List V → Int → Int → (R : Type) → (Ex → St → Option R) → Option R
  | 0, _, _, _, _, _, _, _ => none
  | n + 1, s, t, v52, v53, v54, R, κ =>
    bif (decide (v54 < v53)) then
      bif (((decide ((0 : Int) ≤ v54)) && (decide (v54 < ((v52.length : Nat) : Int)))) && true) then
        bif (((V.isInt .i64 (nthV v52 (((v54).toNat * 1) + 0))) && true) && true) then
          bif (((IntKind.wrap .i64 (((t.size : Nat) : Int) + 1)) != 0) && true) then
            bif (((IntKind.wrap .i64 (((t.size : Nat) : Int) + 1)) != 0) && true) then
              bif ((((decide ((0 : Int) ≤ (Int.tmod (IntKind.wrap .i64 ((IntKind.wrap .i64 ((Int.tmod (V.intOf (nthV v52 (((v54).toNat * 1) + 0))) (IntKind.wrap .i64 (((t.size : Nat) : Int) + 1))) + ((t.size : Nat) : Int))) + 1)) (IntKind.wrap .i64 (((t.size : Nat) : Int) + 1))))) && (decide ((Int.tmod (IntKind.wrap .i64 ((IntKind.wrap .i64 ((Int.tmod (V.intOf (nthV v52 (((v54).toNat * 1) + 0))) (IntKind.wrap .i64 (((t.size : Nat) : Int) + 1))) + ((t.size : Nat) : Int))) + 1)) (IntKind.wrap .i64 (((t.size : Nat) : Int) + 1))) ≤ ((t.size : Nat) : Int)))) && true) && true) then
                bif ((decide (((t.extract 0 ((Int.tmod (IntKind.wrap .i64 ((IntKind.wrap .i64 ((Int.tmod (V.intOf (nthV v52 (((v54).toNat * 1) + 0))) (IntKind.wrap .i64 (((t.size : Nat) : Int) + 1))) + ((t.size : Nat) : Int))) + 1)) (IntKind.wrap .i64 (((t.size : Nat) : Int) + 1)))).toNat).size + 1) ≤ 9223372036854775807)) && true) then
                  bif ((((decide ((0 : Int) ≤ (Int.tmod (IntKind.wrap .i64 ((IntKind.wrap .i64 ((Int.tmod (V.intOf (nthV v52 (((v54).toNat * 1) + 0))) (IntKind.wrap .i64 (((t.size : Nat) : Int) + 1))) + ((t.size : Nat) : Int))) + 1)) (IntKind.wrap .i64 (((t.size : Nat) : Int) + 1))))) && (decide ((Int.tmod (IntKind.wrap .i64 ((IntKind.wrap .i64 ((Int.tmod (V.intOf (nthV v52 (((v54).toNat * 1) + 0))) (IntKind.wrap .i64 (((t.size : Nat) : Int) + 1))) + ((t.size : Nat) : Int))) + 1)) (IntKind.wrap .i64 (((t.size : Nat) : Int) + 1))) ≤ ((t.size : Nat) : Int)))) && true) && true) then
                    bif ((decide ((((t.extract 0 ((Int.tmod (IntKind.wrap .i64 ((IntKind.wrap .i64 ((Int.tmod (V.intOf (nthV v52 (((v54).toNat * 1) + 0))) (IntKind.wrap .i64 (((t.size : Nat) : Int) + 1))) + ((t.size : Nat) : Int))) + 1)) (IntKind.wrap .i64 (((t.size : Nat) : Int) + 1)))).toNat) ++ (⟨#[10]⟩ : ByteArray)).size + (t.extract ((Int.tmod (IntKind.wrap .i64 ((IntKind.wrap .i64 ((Int.tmod (V.intOf (nthV v52 (((v54).toNat * 1) + 0))) (IntKind.wrap .i64 (((t.size : Nat) : Int) + 1))) + ((t.size : Nat) : Int))) + 1)) (IntKind.wrap .i64 (((t.size : Nat) : Int) + 1)))).toNat (((t.size : Nat) : Int)).toNat).size) ≤ 9223372036854775807)) && true) then
                      f6_l0 n s (((t.extract 0 ((Int.tmod (IntKind.wrap .i64 ((IntKind.wrap .i64 ((Int.tmod (V.intOf (nthV v52 (((v54).toNat * 1) + 0))) (IntKind.wrap .i64 (((t.size : Nat) : Int) + 1))) + ((t.size : Nat) : Int))) + 1)) (IntKind.wrap .i64 (((t.size : Nat) : Int) + 1)))).toNat) ++ (⟨#[10]⟩ : ByteArray)) ++ (t.extract ((Int.tmod (IntKind.wrap .i64 ((IntKind.wrap .i64 ((Int.tmod (V.intOf (nthV v52 (((v54).toNat * 1) + 0))) (IntKind.wrap .i64 (((t.size : Nat) : Int) + 1))) + ((t.size : Nat) : Int))) + 1)) (IntKind.wrap .i64 (((t.size : Nat) : Int) + 1)))).toNat (((t.size : Nat) : Int)).toNat)) v52 v53 (IntKind.wrap .i64 (v54 + 1)) R κ
                    else none
                  else none
                else none
              else none
            else none
          else none
        else none
      else none
    else
      κ (.ex 0) (mkS [(0, .sc (.string s)), (4, .bad), (5, .sc (.string t))] [])
def f6_l0_ls : List (Nat × Pat) := [(0, .s), (5, .s), (52, .sl 1), (53, .i .i64), (54, .i .i64)]
def f6_l0_rs : List RPat := []
theorem f6_l0_ok (n : Nat) : ∀ (s : ByteArray) (t : ByteArray) (v52 : List V) (v53 : Int) (v54 : Int) (R : Type) (κ : Ex → St → Option R) (r : R), f6_l0 n s t v52 v53 v54 R κ = some r → ∃ ee ss, κ ee ss = some r ∧ RunP C prim 6 [0, 1, 0, 1, 1, 1, 1, 1] (mkS [(0, .sc (.string s)), (5, .sc (.string t)), (52, .sl 1 v52), (53, .sc (.int .i64 v53)), (54, .sc (.int .i64 v54))] []) ee ss := by
  induction n with
  | zero => intro s t v52 v53 v54 R κ r h; cases h
  | succ n ih =>
    intro s t v52 v53 v54 R κ r h
    refine loop_round (K := K_f6_l0) (T := T_f6_l0) K_f6_l0_ok T_f6_l0_ok (p := [0, 1, 0, 1, 1, 1, 1, 1]) (by kernel_rfl) (fun st => bif ckS f6_l0_ls f6_l0_rs st then f6_l0 n ((st.env 0).strOf) ((st.env 5).strOf) ((st.env 52).cellsOf) ((st.env 53).intOf) ((st.env 54).intOf) R κ else none) (fun st0 h0 => ?_) ?_
    · obtain ⟨hs, h0⟩ := cond_some h0
      rw [canon (ls := f6_l0_ls) (rs := f6_l0_rs) (by kernel_rfl) st0 hs]
      exact ih _ _ _ _ _ R κ r h0
    · refine Eq.trans ?_ h
      kernel_rfl

def f6_s0 (s : ByteArray) (t : ByteArray) (v52 : List V) (v53 : Int) (v54 : Int) (R : Type) (κ : Ex → St → Option R) : Option R :=
  κ (.ex 0) (mkS [(0, .sc (.string s)), (4, .bad), (5, .sc (.string (brks t v52)))] [])
theorem f6_l0_c (s : ByteArray) (v52 : List V) (hl : v52.length ≤ 1000) (hv : v52.all (V.isInt .i64) = true) : ∀ (m k : Nat) (t : ByteArray), k + m = v52.length → t.size + m ≤ 2000000 → ∀ n, m < n → ∀ (R : Type) (κ : Ex → St → Option R), f6_l0 n s t v52 ((v52.length : Nat) : Int) (k : Int) R κ = κ (.ex 0) (mkS [(0, .sc (.string s)), (4, .bad), (5, .sc (.string (brks t (v52.drop k))))] []) := by
  intro m
  induction m with
  | zero =>
    intro k t hk _ n hn R κ
    obtain ⟨n, rfl⟩ : ∃ j, n = j + 1 := ⟨n - 1, by omega⟩
    rw [f6_l0, dec_false (by omega), List.drop_of_length_le (by omega)]
    rfl
  | succ m ih =>
    intro k t hk ht n hn R κ
    obtain ⟨n, rfl⟩ : ∃ j, n = j + 1 := ⟨n - 1, by omega⟩
    have hlt : k < v52.length := by omega
    have hi : V.isInt .i64 v52[k] = true := List.all_eq_true.1 hv _ (List.getElem_mem hlt)
    rw [List.drop_eq_getElem_cons hlt]
    rw [f6_l0, nth_at hlt, dec_true (show (k : Int) < ((v52.length : Nat) : Int) by omega), dec_true (show (0 : Int) ≤ (k : Int) by omega), hi]
    generalize v52[k] = x
    have hw : IntKind.wrap .i64 (((t.size : Nat) : Int) + 1) = ((t.size + 1 : Nat) : Int) := wrap_succ (by omega)
    have hne : ((((t.size + 1 : Nat) : Int)) != 0) = true := by rw [bne_iff_ne]; omega
    have hb : (Int.tmod (IntKind.wrap .i64 (IntKind.wrap .i64 (Int.tmod (V.intOf x) (IntKind.wrap .i64 ((t.size : Int) + 1)) + (t.size : Int)) + 1)) (IntKind.wrap .i64 ((t.size : Int) + 1))) = ((brkAt t x.intOf : Nat) : Int) ∧ brkAt t x.intOf ≤ t.size := by
      unfold brkAt
      rw [hw]
      have h1 := Int.tmod_lt_of_pos (V.intOf x) (show (0 : Int) < ((t.size + 1 : Nat) : Int) by omega)
      have h2 := Int.lt_tmod_of_pos (V.intOf x) (show (0 : Int) < ((t.size + 1 : Nat) : Int) by omega)
      generalize Int.tmod (V.intOf x) ((t.size + 1 : Nat) : Int) = y at h1 h2 ⊢
      rw [wrap_id (n := y + (t.size : Int)) (by omega) (by omega), wrap_id (n := y + (t.size : Int) + 1) (by omega) (by omega)]
      rw [Int.tmod_eq_emod_of_nonneg (by omega)]
      have h3 := Int.emod_nonneg (y + (t.size : Int) + 1) (show ((t.size + 1 : Nat) : Int) ≠ 0 by omega)
      have h4 := Int.emod_lt_of_pos (y + (t.size : Int) + 1) (show (0 : Int) < ((t.size + 1 : Nat) : Int) by omega)
      omega
    obtain ⟨hb1, hb2⟩ := hb
    rw [hb1, hw, hne, dec_true (show (0 : Int) ≤ ((brkAt t x.intOf : Nat) : Int) by omega), dec_true (show ((brkAt t x.intOf : Nat) : Int) ≤ ((t.size : Nat) : Int) by omega), Int.toNat_natCast, Int.toNat_natCast]
    have e1 : (t.extract 0 (brkAt t x.intOf)).size ≤ t.size := by rw [ByteArray.size_extract]; omega
    have e2 := brk_size t x
    unfold brk at e2
    rw [ba_size_append] at e2
    rw [dec_true (show (t.extract 0 (brkAt t x.intOf)).size + 1 ≤ 9223372036854775807 by omega), dec_true (show ((t.extract 0 (brkAt t x.intOf)) ++ (⟨#[10]⟩ : ByteArray)).size + (t.extract (brkAt t x.intOf) t.size).size ≤ 9223372036854775807 by omega), wrap_succ (by omega)]
    show f6_l0 n _ (brk t x) _ _ _ R κ = _
    have := brk_size t x
    rw [ih (k + 1) _ (by omega) (by omega) n (by omega) R κ]
    rfl
theorem f6_s0_eq (s : ByteArray) (t : ByteArray) (v52 : List V) (v53 : Int) (v54 : Int) (hp : ((v53 == ((v52.length : Nat) : Int)) && (v54 == 0) && v52.all (V.isInt .i64) && decide (v52.length ≤ 1000) && decide (t.size ≤ 1000000)) = true) : ∃ n, ∀ (R : Type) (κ : Ex → St → Option R), f6_l0 n s t v52 v53 v54 R κ = f6_s0 s t v52 v53 v54 R κ := by
  simp only [Bool.and_eq_true, decide_eq_true_eq, beq_iff_eq] at hp
  obtain ⟨⟨⟨⟨rfl, rfl⟩, h3⟩, h4⟩, h5⟩ := hp
  exact ⟨v52.length + 1, fun R κ => f6_l0_c s v52 h4 h3 v52.length 0 t (by omega) (by omega) _ (by omega) R κ⟩
def t_f6_l0 (st : St) (R : Type) (κ : Ex → St → Option R) : Option R := bif ckS f6_l0_ls f6_l0_rs st then (bif ((((st.env 53).intOf) == ((((st.env 52).cellsOf).length : Nat) : Int)) && (((st.env 54).intOf) == 0) && ((st.env 52).cellsOf).all (V.isInt .i64) && decide (((st.env 52).cellsOf).length ≤ 1000) && decide (((st.env 5).strOf).size ≤ 1000000)) then f6_s0 ((st.env 0).strOf) ((st.env 5).strOf) ((st.env 52).cellsOf) ((st.env 53).intOf) ((st.env 54).intOf) R κ else none) else none
theorem t_f6_l0_ok : ∀ st0 R κ r, t_f6_l0 (forget C 6 [0, 1, 0, 1, 1, 1, 1, 1] st0) R κ = some r → ∃ ee ss, κ ee ss = some r ∧ RunP C prim 6 [0, 1, 0, 1, 1, 1, 1, 1] (forget C 6 [0, 1, 0, 1, 1, 1, 1, 1] st0) ee ss := by
  intro st0 R κ r h
  obtain ⟨hs, h⟩ := cond_some h
  obtain ⟨hp, h⟩ := cond_some h
  rw [canon (ls := f6_l0_ls) (rs := f6_l0_rs) (by kernel_rfl) st0 hs]
  obtain ⟨n, hn⟩ := f6_s0_eq _ _ _ _ _ hp
  rw [← hn] at h
  exact f6_l0_ok n _ _ _ _ _ R κ r h

def K_f6 : CallK := kCons 13 k13 <| kCons 17 k17 <| kCons 24 k24 <| kCons 25 k25 <| kNil
theorem K_f6_ok : KOK C prim K_f6 := KOK.cons k13_ok <| KOK.cons k17_ok <| KOK.cons k24_ok <| KOK.cons k25_ok <| KOK.nil
def T_f6 : Tab := tCons [0, 1, 0, 1, 1, 1, 1, 1] t_f6_l0 <| tNil
theorem T_f6_ok : TOK C prim 6 T_f6 := TOK.cons t_f6_l0_ok <| TOK.nil
def f6 (s : ByteArray) (breaks : List V) : Option (V × List Rg) :=
  bif (decide (s.size ≤ 10000000) && true) then
    bif (decide (((s.size : Nat) : Int) > 262144)) then
      bif (strEq (t64s s) (⟨#[]⟩ : ByteArray)) then
        some (.sc (.bool ((t64e s) == 2)), [])
      else
        some (.sc (.bool false), [])
    else
      bif (decide (((s.size : Nat) : Int) > 3000)) then
        some (.sc (.bool ((t64e s) == 0)), [])
      else
        bif (decide (((breaks.length : Nat) : Int) > 50)) then
          some (.sc (.bool ((t64e s) == 0)), [])
        else
          bif ((t64e s) != 0) then
            some (.sc (.bool false), [])
          else
            bif (decide (s.size ≤ 10000000) && true) then
              bif (!(strEq (t64s s) (u8S (enc64 s.data.toList)))) then
                some (.sc (.bool false), [])
              else
                bif ((((breaks.length : Nat) : Int) == ((breaks.length : Nat) : Int)) && ((0 : Int) == 0) && breaks.all (V.isInt .i64) && decide (breaks.length ≤ 1000) && decide ((t64s s).size ≤ 1000000)) then
                  bif (decide ((brks (t64s s) breaks).size ≤ 10000000) && true) then
                    bif ((b64e (brks (t64s s) breaks)) == 0) then
                      bif ((b64p (brks (t64s s) breaks)) == 0) then
                        some (.sc (.bool (strEq (b64s (brks (t64s s) breaks)) s)), [])
                      else
                        some (.sc (.bool false), [])
                    else
                      some (.sc (.bool false), [])
                  else none
                else none
            else none
  else none
theorem f6_run (s : ByteArray) (breaks : List V) (x : V × List Rg) (h : f6 s breaks = some x) : CallR C prim 6 [.sc (.string s), .sl 1 breaks] [] x := by
  refine call_fn (K := K_f6) (T := T_f6) K_f6_ok T_f6_ok (by kernel_rfl) ?_
  refine Eq.trans ?_ h
  kernel_rfl

theorem f6_eq (s : ByteArray) (breaks : List V) (hp : (decide (s.size ≤ 10000000) && breaks.all (V.isInt .i64) && decide (breaks.length ≤ 10000000)) = true) : f6 s breaks = some (.sc (.bool true), []) := by
  simp only [Bool.and_eq_true, decide_eq_true_eq] at hp
  obtain ⟨⟨h1, h2⟩, h3⟩ := hp
  unfold f6
  rw [dec_true h1, h2]
  by_cases hs : 262144 < s.size
  · have e1 : t64s s = ⟨#[]⟩ := by unfold t64s; rw [if_pos hs]
    have e2 : t64e s = 2 := by unfold t64e; rw [if_pos hs]
    rw [dec_true (show ((s.size : Nat) : Int) > 262144 by omega), e1, e2, (strEq_iff (⟨#[]⟩ : ByteArray) ⟨#[]⟩).2 rfl]
    rfl
  have e1 : t64s s = u8S (enc64 s.data.toList) := by unfold t64s; rw [if_neg hs]
  have e2 : t64e s = 0 := by unfold t64e; rw [if_neg hs]
  rw [dec_false (show ¬ ((s.size : Nat) : Int) > 262144 by omega), e1, e2]
  by_cases hs2 : 3000 < s.size
  · rw [dec_true (show ((s.size : Nat) : Int) > 3000 by omega)]
    rfl
  rw [dec_false (show ¬ ((s.size : Nat) : Int) > 3000 by omega)]
  by_cases hb : 50 < breaks.length
  · rw [dec_true (show ((breaks.length : Nat) : Int) > 50 by omega)]
    rfl
  rw [dec_false (show ¬ ((breaks.length : Nat) : Int) > 50 by omega)]
  have hz : (u8S (enc64 s.data.toList)).size ≤ 2 * s.size + 4 := by
    rw [← ba_size, ← ba_size]; exact enc64_len _
  have hq := brks_size breaks (u8S (enc64 s.data.toList))
  have ho := o64_brks s breaks
  have e3 : b64s (brks (u8S (enc64 s.data.toList)) breaks) = s := by
    unfold b64s
    rw [if_neg (by omega), ho]
    rfl
  have e4 : b64p (brks (u8S (enc64 s.data.toList)) breaks) = 0 := by
    unfold b64p
    rw [if_neg (by omega), ho]
    rfl
  have e5 : b64e (brks (u8S (enc64 s.data.toList)) breaks) = 0 := by
    unfold b64e
    rw [if_neg (by omega), ho]
    rfl
  have e6 : ∀ x : ByteArray, strEq x x = true := fun x => (strEq_iff x x).2 rfl
  rw [e3, e4, e5, dec_true (show breaks.length ≤ 1000 by omega), dec_true (show (u8S (enc64 s.data.toList)).size ≤ 1000000 by omega), dec_true (show (brks (u8S (enc64 s.data.toList)) breaks).size ≤ 10000000 by omega)]
  simp only [e6, beq_self_eq_true, bne_self_eq_false, Bool.and_true, Bool.true_and, Bool.not_true, cond_true, cond_false]
def k6 : PrimT := fun vs gs => match vs, gs with
  | [.sc (.string s), .sl 1 breaks], [] => ((decide (s.size ≤ 10000000) && breaks.all (V.isInt .i64) && decide (breaks.length ≤ 10000000)), .sc (.bool true), [])
  | _, _ => (false, .bad, [])
theorem k6_ok : ∀ vs gs x, k6 vs gs = (true, x) → CallR C prim 6 vs gs x := by
  intro vs gs x h
  unfold k6 at h
  split at h
  · simp only [Prod.mk.injEq] at h
    obtain ⟨hp, rfl⟩ := h
    exact f6_run _ _ _ (f6_eq _ _ hp)
  · cases h
end Go.Ab
