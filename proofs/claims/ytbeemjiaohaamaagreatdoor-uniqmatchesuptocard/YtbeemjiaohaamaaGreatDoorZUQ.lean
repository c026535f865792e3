/- Groups of lines that are alike, in plain words. -/
import Derived.Test.YtbeemjiaohaamaaGreatDoorZNU
namespace Go.Ab
open Go Go.Proofs Go.RowKit
set_option linter.unusedSimpArgs false
set_option linter.unusedVariables false

def rngI (n : Int) : Bool := decide (n ≥ 0) && decide (n ≤ 4096)
def rngV (x : V) : Bool := rngI x.intOf
def okU (F S B : Int) : Bool := rngI F && (rngI S && rngI B)
def fldN (line : ByteArray) : Nat := lenE 2 (fieldsV line ⟨#[]⟩).length
def begU (F : Int) (line : ByteArray) : Int := bif decide (F < ((fldN line : Nat) : Int)) then fstC (fieldsV line ⟨#[]⟩) F else ((line.size : Nat) : Int)
def clipT (E : ByteArray) (B : Int) : ByteArray := bif decide (B > 0) && decide (B < ((E.size : Nat) : Int)) then E.extract 0 B.toNat else E
def keyT (E : ByteArray) (B : Int) (fold : Bool) : ByteArray := bif fold then capB (clipT E B) else clipT E B
def keyU (F S B : Int) (fold : Bool) (line : ByteArray) : ByteArray := keyT (line.extract (mnI ((line.size : Nat) : Int) (begU F line + S)).toNat (((line.size : Nat) : Int)).toNat) B fold
def runU (F S B : Int) (fold : Bool) (y : ByteArray) : List V → Nat
  | [] => 0
  | x :: l => bif strEq (keyU F S B fold x.strOf) y then runU F S B fold y l + 1 else 0
/-- The same count as an Int that the kernel does not compute. -/
def runI (F S B : Int) (fold : Bool) (y : ByteArray) : List V → Int
  | [] => 0
  | x :: l => bif strEq (keyU F S B fold x.strOf) y then runI F S B fold y l + 1 else 0
def cntU (F S B : Int) (fold : Bool) (l : List V) (i : Int) : Int := runI F S B fold (keyU F S B fold (nthV l (i.toNat * 1 + 0)).strOf) (l.drop (i.toNat + 1)) + 1
def linU (cnt : Bool) (n : Int) (x : ByteArray) : ByteArray := bif cnt then (itoaB n ++ (⟨#[32]⟩ : ByteArray)) ++ x else x
def outU (rep alone : Bool) (n : Int) : Bool := !(rep && (n == 1)) && !(alone && decide (n > 1))
def grpU (F S B : Int) (fold cnt rep alone : Bool) : Nat → List V → List V
  | 0, _ => []
  | _ + 1, [] => []
  | k + 1, x :: l => (bif outU rep alone ((runU F S B fold (keyU F S B fold x.strOf) l + 1 : Nat) : Int) then [.sc (.string (linU cnt ((runU F S B fold (keyU F S B fold x.strOf) l + 1 : Nat) : Int) x.strOf))] else []) ++ grpU F S B fold cnt rep alone k (l.drop (runU F S B fold (keyU F S B fold x.strOf) l))
def uniE (F S B : Int) (s : ByteArray) : Int := bif okU F S B then (bif largeB s then 2 else 0) else 3
def uniS (F S B : Int) (fold cnt rep alone : Bool) (s : ByteArray) : ByteArray := bif uniE F S B s == 0 then resB (grpU F S B fold cnt rep alone (linesV s).length (linesV s)) else ⟨#[]⟩

/-! ### where a field begins -/
def chn : Int → Int → List V → Prop
  | a, z, [] => a = z
  | _, _, [_] => False
  | a, z, x :: y :: r => x.intOf = a ∧ chn y.intOf z r
def bnd : Int → List V → Nat → Int
  | a, _, 0 => a
  | _, x :: y :: r, j + 1 => bnd y.intOf r j
  | a, _, _ + 1 => a
theorem chn_app : ∀ (l r : List V) (a m z : Int), chn a m l → chn m z r → chn a z (l ++ r)
  | [], r, a, m, z, h, h2 => by
    have h' : a = m := h
    rw [h']; exact h2
  | [_], r, a, m, z, h, h2 => absurd h id
  | x :: y :: l, r, a, m, z, h, h2 => ⟨h.1, chn_app l r y.intOf m z h.2 h2⟩
theorem chn_bnd : ∀ (l : List V) (a z : Int), chn a z l → (∀ j : Nat, j < l.length / 2 → (nthV l (j * 2 + 0)).intOf = bnd a l j ∧ (nthV l (j * 2 + 0 + 1)).intOf = bnd a l (j + 1)) ∧ ∀ j : Nat, l.length / 2 ≤ j → bnd a l j = z
  | [], a, z, h => ⟨fun j hj => absurd hj (by simp), fun j _ => by
      have h' : a = z := h
      cases j <;> exact h'⟩
  | [_], a, z, h => absurd h id
  | x :: y :: r, a, z, h => by
    obtain ⟨g1, g2⟩ := chn_bnd r y.intOf z h.2
    have e : (x :: y :: r).length / 2 = r.length / 2 + 1 := by simp only [List.length_cons]; omega
    refine ⟨fun j hj => ?_, fun j hj => ?_⟩
    · cases j with
      | zero => exact ⟨h.1, by simp [bnd, nthV]⟩
      | succ j =>
        rw [e] at hj
        have e2 : (j + 1) * 2 + 0 = (j * 2 + 0) + 2 := by omega
        rw [e2]
        exact g1 j (by omega)
    · cases j with
      | zero => rw [e] at hj; omega
      | succ j => rw [e] at hj; exact g2 j (by omega)
theorem fld_chn (line : ByteArray) : ∀ (k i fr : Nat), chn ((fr : Nat) : Int) (((fldF line ⟨#[]⟩ k i fr).2 : Nat) : Int) (fldF line ⟨#[]⟩ k i fr).1
  | 0, i, fr => rfl
  | k + 1, i, fr => by
    have hn : nxF ⟨#[]⟩ i = i := by unfold nxF; rw [strEq_self]; rfl
    have IH := fld_chn line k (i + 1)
    rw [fldF]
    cases cutAt line ⟨#[]⟩ i
    · exact IH fr
    · rw [hn]; exact ⟨rfl, IH i⟩
theorem fields_chn (line : ByteArray) : chn 0 ((line.size : Nat) : Int) (fieldsV line ⟨#[]⟩) :=
  chn_app _ _ _ _ _ (fld_chn line line.size 0 0) ⟨rfl, rfl⟩
theorem fldN_eq (line : ByteArray) : fldN line = (fieldsV line ⟨#[]⟩).length / 2 := rfl
theorem fldN_pos (line : ByteArray) : 0 < fldN line := by
  rw [fldN_eq]
  unfold fieldsV
  rw [List.length_append]
  show 0 < (_ + 2) / 2
  omega
theorem begU_eq {F : Int} (line : ByteArray) (h : 0 ≤ F) : begU F line = bnd 0 (fieldsV line ⟨#[]⟩) F.toNat := by
  obtain ⟨g1, g2⟩ := chn_bnd _ _ _ (fields_chn line)
  unfold begU
  by_cases hF : F < ((fldN line : Nat) : Int)
  · rw [dec_true hF, cond_true]
    exact (g1 F.toNat (by rw [← fldN_eq]; omega)).1
  · rw [dec_false hF, cond_false]
    exact (g2 F.toNat (by rw [← fldN_eq]; omega)).symm
theorem begU_snd {F : Int} (line : ByteArray) (h : 0 < F) : (nthV (fieldsV line ⟨#[]⟩) ((mnI ((fldN line : Nat) : Int) F - 1).toNat * 2 + 1)).intOf = begU F line := by
  have hp := fldN_pos line
  obtain ⟨g1, g2⟩ := chn_bnd _ _ _ (fields_chn line)
  rw [begU_eq line (by omega)]
  have hm : mnI ((fldN line : Nat) : Int) F = min ((fldN line : Nat) : Int) F := mnI_eq _ _
  have := (g1 (mnI ((fldN line : Nat) : Int) F - 1).toNat (by rw [← fldN_eq]; omega)).2
  refine this.trans ?_
  by_cases hF : F < ((fldN line : Nat) : Int)
  · rw [show (mnI ((fldN line : Nat) : Int) F - 1).toNat + 1 = F.toNat by omega]
  · rw [g2 _ (by rw [← fldN_eq]; omega), g2 _ (by rw [← fldN_eq]; omega)]
theorem begU_ok {F : Int} (line : ByteArray) (h : 0 ≤ F) : 0 ≤ begU F line ∧ begU F line ≤ ((line.size : Nat) : Int) := by
  unfold begU
  by_cases hF : F < ((fldN line : Nat) : Int)
  · rw [dec_true hF, cond_true]
    obtain ⟨_, _, a3, a4, a5⟩ := okSp_at line.size (fieldsV line ⟨#[]⟩) F.toNat (fieldsV_ok line ⟨#[]⟩) (show F.toNat < fldN line by omega)
    have b3 : 0 ≤ fstC (fieldsV line ⟨#[]⟩) F := a3
    have b4 : fstC (fieldsV line ⟨#[]⟩) F ≤ (nthV (fieldsV line ⟨#[]⟩) (F.toNat * 2 + 0 + 1)).intOf := a4
    omega
  · rw [dec_false hF, cond_false]; omega

/-! ### groups -/
theorem rngI_spec {n : Int} (h : rngI n = true) : 0 ≤ n ∧ n ≤ 4096 := by
  unfold rngI at h
  simpa only [Bool.and_eq_true, decide_eq_true_eq] using h
theorem okU_spec {F S B : Int} (h : okU F S B = true) : (0 ≤ F ∧ F ≤ 4096) ∧ (0 ≤ S ∧ S ≤ 4096) ∧ (0 ≤ B ∧ B ≤ 4096) := by
  unfold okU at h
  simp only [Bool.and_eq_true] at h
  exact ⟨rngI_spec h.1, rngI_spec h.2.1, rngI_spec h.2.2⟩
theorem runU_le (F S B : Int) (fold : Bool) (y : ByteArray) : ∀ l : List V, runU F S B fold y l ≤ l.length
  | [] => Nat.le_refl _
  | x :: l => by
    have := runU_le F S B fold y l
    rw [runU, List.length_cons]
    cases strEq (keyU F S B fold x.strOf) y
    · rw [cond_false]; omega
    · rw [cond_true]; omega
theorem runI_eq (F S B : Int) (fold : Bool) (y : ByteArray) : ∀ l : List V, runI F S B fold y l = ((runU F S B fold y l : Nat) : Int)
  | [] => rfl
  | x :: l => by
    rw [runI, runU, runI_eq F S B fold y l]
    cases strEq (keyU F S B fold x.strOf) y <;> rfl
theorem linU_le (cnt : Bool) {n : Int} (x : ByteArray) (h1 : -10000000000000 < n) (h2 : n < 10000000000000) : (linU cnt n x).size ≤ x.size + 15 := by
  have := itoa_le h1 h2
  have h32 : (⟨#[32]⟩ : ByteArray).size = 1 := rfl
  unfold linU
  cases cnt
  · rw [cond_false]; omega
  · rw [cond_true, ba_size_append, ba_size_append, h32]; omega
theorem grpU_ok (F S B : Int) (fold cnt rep alone : Bool) (M : Nat) : ∀ (k : Nat) (l : List V), l.length ≤ 1000000 → l.all (leS M) = true → (grpU F S B fold cnt rep alone k l).all (leS (M + 15)) = true ∧ (grpU F S B fold cnt rep alone k l).length ≤ l.length
  | 0, l, _, _ => ⟨rfl, Nat.zero_le _⟩
  | _ + 1, [], _, _ => ⟨rfl, Nat.zero_le _⟩
  | k + 1, x :: l, hn, h => by
    rw [List.all_cons, Bool.and_eq_true] at h
    rw [List.length_cons] at hn
    have hx := (leS_spec h.1).2
    have hr := runU_le F S B fold (keyU F S B fold x.strOf) l
    obtain ⟨a1, a2⟩ := grpU_ok F S B fold cnt rep alone M k (l.drop (runU F S B fold (keyU F S B fold x.strOf) l)) (by rw [List.length_drop]; omega) (List.all_eq_true.2 fun v hv => List.all_eq_true.1 h.2 v (List.mem_of_mem_drop hv))
    rw [List.length_drop] at a2
    rw [grpU, List.all_append, List.length_append, a1, List.length_cons]
    have hl := linU_le cnt (n := ((runU F S B fold (keyU F S B fold x.strOf) l + 1 : Nat) : Int)) x.strOf (by omega) (by omega)
    cases outU rep alone ((runU F S B fold (keyU F S B fold x.strOf) l + 1 : Nat) : Int)
    · refine ⟨rfl, ?_⟩
      show 0 + _ ≤ _
      omega
    · refine ⟨?_, ?_⟩
      · show (((true && decide ((linU cnt ((runU F S B fold (keyU F S B fold x.strOf) l + 1 : Nat) : Int) x.strOf).size ≤ M + 15)) && true) && true) = true
        rw [dec_true (show (linU cnt ((runU F S B fold (keyU F S B fold x.strOf) l + 1 : Nat) : Int) x.strOf).size ≤ M + 15 from Nat.le_trans hl (by omega))]; rfl
      · show 1 + _ ≤ _
        omega
theorem uni_ok {F S B : Int} {s : ByteArray} (fold cnt rep alone : Bool) (h : largeB s = false) : (grpU F S B fold cnt rep alone (linesV s).length (linesV s)).all V.isStr = true ∧ (grpU F S B fold cnt rep alone (linesV s).length (linesV s)).length ≤ 1000000000 ∧ (resB (grpU F S B fold cnt rep alone (linesV s).length (linesV s))).size ≤ 100000000000 := by
  obtain ⟨a1, a2⟩ := large_no h
  obtain ⟨b1, b2⟩ := grpU_ok F S B fold cnt rep alone 65536 (linesV s).length (linesV s) (by omega) (all_leS a1 (linesV_leS s))
  have b3 := resB_le _ _ b1
  have b4 : (grpU F S B fold cnt rep alone (linesV s).length (linesV s)).length * (65536 + 15 + 1) ≤ 4096 * (65536 + 15 + 1) := Nat.mul_le_mul_right _ (by omega)
  exact ⟨leS_str b1, by omega, by omega⟩
theorem ext_le (E : ByteArray) (a b : Nat) : (E.extract a b).size ≤ E.size := by
  have hb := bl_size E
  rw [bl_size (E.extract a b), bl_extract, List.length_drop, List.length_take]; omega
theorem bnd_zero (a : Int) (l : List V) : bnd a l 0 = a := by
  cases l with
  | nil => simp [bnd]
  | cons x r => cases r <;> simp [bnd]
end Go.Ab
