/- Texts to the base 64, in plain words: what both readers compute. -/
import Derived.Test.YtnjgofgogeileaaP1
namespace Go.Ab
open Go Go.Proofs Go.RowKit
set_option linter.unusedSimpArgs false
set_option linter.unusedVariables false

def ixA : List UInt8 → UInt8 → Int → Int
  | [], _, _ => -1
  | b :: l, c, k => if b == c then k else ixA l c (k + 1)
def tbl64 : List UInt8 := [65, 66, 67, 68, 69, 70, 71, 72, 73, 74, 75, 76, 77, 78, 79, 80, 81, 82, 83, 84, 85, 86, 87, 88, 89, 90, 97, 98, 99, 100, 101, 102, 103, 104, 105, 106, 107, 108, 109, 110, 111, 112, 113, 114, 115, 116, 117, 118, 119, 120, 121, 122, 48, 49, 50, 51, 52, 53, 54, 55, 56, 57, 43, 47]
def lt64 (c : Int) : Int := ixA tbl64 c.toNat.toUInt8 0
def bit1 (v : Nat) : UInt8 := UInt8.ofNat (48 + v % 2)
def bitsN : Nat → Nat → List UInt8
  | _, 0 => []
  | n, k + 1 => bitsN (n / 2) k ++ [bit1 n]
def bits6 (v : Int) : ByteArray := ⟨(bitsN v.toNat 6).toArray⟩
def has1 (all : ByteArray) (i : Int) : Bool := (all.data.toList.drop i.toNat).any fun b => b.toNat == 49
def zt (all : ByteArray) (letters : Int) : Bool := !(has1 all ((all.size : Int) - (bif letters == 3 then 2 else 4)))

structure Z where
  (n c f m : Nat)
  out : List UInt8
structure ZR where
  bad : Bool
  p : Nat
  z : Z
def zstep (b : UInt8) (z : Z) : Option Z :=
  if b.toNat = 10 then some z
  else if 0 ≤ lt64 (b.toNat : Int) ∧ z.f = 0 then
    if z.c = 3 then some ⟨0, 0, z.f, z.m + 1, z.out ++ [UInt8.ofNat ((z.n * 64 + (lt64 (b.toNat : Int)).toNat) / 65536), UInt8.ofNat ((z.n * 64 + (lt64 (b.toNat : Int)).toNat) / 256), UInt8.ofNat (z.n * 64 + (lt64 (b.toNat : Int)).toNat)]⟩
    else some ⟨z.n * 64 + (lt64 (b.toNat : Int)).toNat, z.c + 1, z.f, z.m + 1, z.out⟩
  else if b.toNat = 61 ∧ 2 ≤ z.c ∧ z.c + z.f < 4 ∧ z.n % 2 ^ (2 * (4 - z.c)) = 0 then some ⟨z.n, z.c, z.f + 1, z.m + 1, z.out⟩
  else none
def zrun : List UInt8 → Nat → Z → ZR
  | [], p, z => ⟨false, p, z⟩
  | b :: l, p, z => match zstep b z with
    | some z' => zrun l (p + 1) z'
    | none => ⟨true, p, z⟩
def zr (l : List V) : ZR := zrun (l.map byteOfV) 0 ⟨0, 0, 0, 0, []⟩
def u8V (l : List UInt8) : List V := l.map fun b => .sc (.int .u8 (b.toNat : Int))
def u8S (l : List UInt8) : ByteArray := ⟨l.toArray⟩
def bitsL : List UInt8 → List UInt8
  | [] => []
  | b :: l => bitsN b.toNat 8 ++ bitsL l
def zallL (z : Z) : List UInt8 := bitsL z.out ++ bitsN z.n (6 * z.c)
def zall (z : Z) : ByteArray := ⟨(zallL z).toArray⟩
def bstep (v : Int) (b : UInt8) : Int := IntKind.wrap .i64 (IntKind.wrap .i64 ((2 : Int) * v) + IntKind.wrap .i64 (IntKind.wrap .u8 ((b.toNat : Int) - 48)))
def byte8 (l : List UInt8) : Int := (l.take 8).foldl bstep 0
def ch8N : Nat → List UInt8 → List V
  | 0, _ => []
  | k + 1, l => if 8 ≤ l.length then .sc (.int .u8 (IntKind.wrap .u8 (byte8 l))) :: ch8N k (l.drop 8) else []
def ch8 (l : List UInt8) : List V := ch8N l.length l
structure O64 where
  ok : Bool
  at_ : Nat
  bs : List UInt8
def ztail (z : Z) : List UInt8 :=
  if z.c = 2 then [UInt8.ofNat (z.n / 16)] else if z.c = 3 then [UInt8.ofNat (z.n / 1024), UInt8.ofNat (z.n / 4)] else []
def o64 (s : ByteArray) : O64 :=
  if (zr (bytesV s)).bad then ⟨false, (zr (bytesV s)).p, []⟩
  else if ((zr (bytesV s)).z.c + (zr (bytesV s)).z.f) % 4 ≠ 0 then ⟨false, s.size, []⟩
  else ⟨true, 0, (zr (bytesV s)).z.out ++ ztail (zr (bytesV s)).z⟩
def b64s (s : ByteArray) : ByteArray := if 262144 < s.size then ⟨#[]⟩ else u8S (o64 s).bs
def b64p (s : ByteArray) : Int := if 262144 < s.size then 0 else ((o64 s).at_ : Int)
def b64e (s : ByteArray) : Int := if 262144 < s.size then 2 else if (o64 s).ok then 0 else 1

/-! ### the table -/
theorem ixA_eq (c : UInt8) : ∀ (l : List UInt8) (k : Int), ixA l c k = if Lib.indexByte l c = -1 then -1 else Lib.indexByte l c + k := by
  intro l
  induction l with
  | nil => intro k; rfl
  | cons b l ih =>
    intro k
    have hg := Lib.indexByte_ge l c
    unfold ixA Lib.indexByte
    cases hb : b == c with
    | true => simp
    | false =>
      simp only [Bool.false_eq_true, if_false, ih (k + 1), beq_iff_eq]
      by_cases h : Lib.indexByte l c = -1
      · simp [h]
      · have : Lib.indexByte l c + 1 ≠ -1 := by omega
        rw [if_neg h, if_neg h, if_neg this]
        omega
theorem idxB_lt (c : Int) : idxB ⟨#[65, 66, 67, 68, 69, 70, 71, 72, 73, 74, 75, 76, 77, 78, 79, 80, 81, 82, 83, 84, 85, 86, 87, 88, 89, 90, 97, 98, 99, 100, 101, 102, 103, 104, 105, 106, 107, 108, 109, 110, 111, 112, 113, 114, 115, 116, 117, 118, 119, 120, 121, 122, 48, 49, 50, 51, 52, 53, 54, 55, 56, 57, 43, 47]⟩ c = lt64 c := by
  have h := ixA_eq c.toNat.toUInt8 tbl64 0
  unfold lt64 idxB
  show Lib.indexByte tbl64 c.toNat.toUInt8 = _
  rw [h]
  split
  · next h => exact h
  · omega
set_option maxRecDepth 100000 in
theorem lt64_all : ((List.range 256).all fun c => decide (-1 ≤ lt64 (c : Int)) && decide (lt64 (c : Int) < 64) && (!(Nat.beq c 10 || Nat.beq c 61) || lt64 (c : Int) == -1)) = true := by kernel_rfl
theorem lt64_facts (c : Nat) (h : c < 256) : -1 ≤ lt64 (c : Int) ∧ lt64 (c : Int) < 64 ∧ (c = 10 ∨ c = 61 → lt64 (c : Int) = -1) := by
  have := List.all_eq_true.1 lt64_all c (List.mem_range.2 h)
  simp only [Bool.and_eq_true, decide_eq_true_eq, Bool.or_eq_true, Bool.not_eq_true', beq_iff_eq] at this
  refine ⟨this.1.1, this.1.2, fun hc => ?_⟩
  rcases this.2 with h1 | h1
  · rcases hc with rfl | rfl <;> simp at h1
  · exact h1

/-! ### numbers -/
theorem wrapU8 (n : Nat) : IntKind.wrap .u8 ((n : Nat) : Int) = ((UInt8.ofNat n).toNat : Int) := by
  simp [IntKind.wrap, IntKind.bits, IntKind.signed, UInt8.toNat_ofNat]
theorem ofInt_nat (a : Nat) (h : a < 2 ^ 64) : (BitVec.ofInt 64 (a : Int)).toNat = a := by
  rw [BitVec.toNat_ofInt]
  omega
theorem or64 (a b : Nat) (ha : a < 2 ^ 62) (hb : b < 2 ^ 62) : bitsI .or .i64 (a : Int) (b : Int) = ((a ||| b : Nat) : Int) := by
  have hab : a ||| b < 2 ^ 62 := Nat.or_lt_two_pow ha hb
  show IntKind.wrap .i64 (((BitVec.ofInt 64 (a : Int) ||| BitVec.ofInt 64 (b : Int)).toNat : Nat) : Int) = _
  rw [BitVec.toNat_or, ofInt_nat a (by omega), ofInt_nat b (by omega)]
  rw [wrap_id (n := ((a ||| b : Nat) : Int)) (by omega) (by omega)]
theorem and64 (a b : Nat) (ha : a < 2 ^ 62) (hb : b < 2 ^ 62) : bitsI .and .i64 (a : Int) (b : Int) = ((a &&& b : Nat) : Int) := by
  have hab : a &&& b < 2 ^ 62 := Nat.and_lt_two_pow a hb
  show IntKind.wrap .i64 (((BitVec.ofInt 64 (a : Int) &&& BitVec.ofInt 64 (b : Int)).toNat : Nat) : Int) = _
  rw [BitVec.toNat_and, ofInt_nat a (by omega), ofInt_nat b (by omega)]
  rw [wrap_id (n := ((a &&& b : Nat) : Int)) (by omega) (by omega)]
theorem orLetter (n k : Nat) (hn : n < 2 ^ 30) (hk : k < 64) : bitsI .or .i64 (IntKind.wrap .i64 ((n : Int) * (2 ^ (min 6 64)))) (k : Int) = ((n * 64 + k : Nat) : Int) := by
  have h1 : ((n : Int) * (2 ^ (min 6 64))) = ((n * 64 : Nat) : Int) := by
    have : ((2 : Int) ^ (min 6 64)) = 64 := by decide
    rw [this]; omega
  rw [h1, wrap_id (by omega) (by omega), or64 _ _ (by omega) (by omega)]
  have := Nat.two_pow_add_eq_or_of_lt (i := 6) (b := k) (by omega) n
  have e : 2 ^ 6 * n = n * 64 := by omega
  rw [e] at this
  rw [this]
theorem shr (n k : Nat) (hk : k ≤ 64) : Int.fdiv (n : Int) (2 ^ (min k 64)) = ((n / 2 ^ k : Nat) : Int) := by
  rw [Nat.min_eq_left hk]
  have : ((2 : Int) ^ k) = ((2 ^ k : Nat) : Int) := by simp
  rw [this, Int.fdiv_eq_ediv_of_nonneg _ (Int.natCast_nonneg _)]
  exact (Int.natCast_ediv _ _).symm

/-! ### bits -/
theorem bitsN_len : ∀ (k n : Nat), (bitsN n k).length = k
  | 0, _ => rfl
  | k + 1, n => by rw [bitsN, List.length_append, bitsN_len k]; rfl
theorem bitsN_add (a : Nat) : ∀ (b n : Nat), bitsN n (a + b) = bitsN (n / 2 ^ b) a ++ bitsN n b
  | 0, n => by simp [bitsN]
  | b + 1, n => by
    rw [← Nat.add_assoc, bitsN, bitsN_add a b, bitsN, List.append_assoc, Nat.div_div_eq_div_mul, Nat.pow_succ, Nat.mul_comm 2]
theorem bitsN_mod : ∀ (k j n : Nat), k ≤ j → bitsN (n % 2 ^ j) k = bitsN n k
  | 0, _, _, _ => rfl
  | k + 1, j, n, h => by
    obtain ⟨j, rfl⟩ : ∃ i, j = i + 1 := ⟨j - 1, by omega⟩
    have h1 : n % 2 ^ (j + 1) / 2 = n / 2 % 2 ^ j := by
      rw [Nat.pow_succ, Nat.mul_comm, Nat.mod_mul_right_div_self]
    have h2 : n % 2 ^ (j + 1) % 2 = n % 2 := by
      rw [Nat.pow_succ, Nat.mul_comm]
      exact Nat.mod_mul_right_mod _ _ _
    rw [bitsN, bitsN, h1, bitsN_mod k j _ (by omega)]
    unfold bit1
    rw [h2]
theorem bits8_of (n : Nat) : bitsN (UInt8.ofNat n).toNat 8 = bitsN n 8 := by
  have : (UInt8.ofNat n).toNat = n % 2 ^ 8 := UInt8.toNat_ofNat'
  rw [this]; exact bitsN_mod 8 8 n (by omega)
theorem bitsN_letter (n l c : Nat) (hl : l < 64) : bitsN (n * 64 + l) (6 * c + 6) = bitsN n (6 * c) ++ bitsN l 6 := by
  rw [bitsN_add, show (n * 64 + l) / 2 ^ 6 = n by omega]
  congr 1
  rw [← bitsN_mod 6 6 (n * 64 + l) (by omega), show (n * 64 + l) % 2 ^ 6 = l by omega]
theorem bitsL_app : ∀ a b : List UInt8, bitsL (a ++ b) = bitsL a ++ bitsL b
  | [], _ => rfl
  | x :: a, b => by simp only [List.cons_append, bitsL, bitsL_app a b, List.append_assoc]
theorem bitsL_len : ∀ a : List UInt8, (bitsL a).length = 8 * a.length
  | [] => rfl
  | x :: a => by simp only [bitsL, List.length_append, bitsN_len, bitsL_len a, List.length_cons]; omega
theorem any_bits : ∀ (k n : Nat), ((bitsN n k).any fun b => b.toNat == 49) = decide (n % 2 ^ k ≠ 0)
  | 0, n => by simp [bitsN, Nat.mod_one]
  | k + 1, n => by
    rw [bitsN, List.any_append, any_bits k]
    have h1 : n % 2 ^ (k + 1) = 2 * (n / 2 % 2 ^ k) + n % 2 := by
      rw [Nat.pow_succ, Nat.mul_comm, Nat.mod_mul]; omega
    have h2 : ((bit1 n).toNat == 49) = decide (n % 2 = 1) := by
      unfold bit1
      rcases Nat.mod_two_eq_zero_or_one n with h | h <;> rw [h] <;> rfl
    simp only [List.any_cons, List.any_nil, Bool.or_false, h2, h1]
    by_cases ha : n / 2 % 2 ^ k = 0 <;> by_cases hb : n % 2 = 1 <;> simp [ha, hb] <;> omega

/-! ### steps -/
structure ZOk (z : Z) : Prop where
  c3 : z.c ≤ 3
  n : z.n < 64 ^ z.c
  cf : z.c + z.f ≤ 4
  fc : 0 < z.f → 2 ≤ z.c
  m : z.m % 4 = (z.c + z.f) % 4
  z0 : 0 < z.f → z.n % 2 ^ (2 * (4 - z.c)) = 0
theorem zok0 : ZOk ⟨0, 0, 0, 0, []⟩ := ⟨by simp, by simp, by simp, by simp, by simp, by simp⟩
theorem zok_n {z : Z} (h : ZOk z) : z.n < 262144 := by
  have := h.n
  have h2 := h.c3
  have : 64 ^ z.c ≤ 64 ^ 3 := Nat.pow_le_pow_right (by omega) h2
  omega

theorem zall_letter {z : Z} (h : ZOk z) (l : Nat) (hl : l < 64) :
    (z.c = 3 → bitsL (z.out ++ [UInt8.ofNat ((z.n * 64 + l) / 65536), UInt8.ofNat ((z.n * 64 + l) / 256), UInt8.ofNat (z.n * 64 + l)]) = zallL z ++ bitsN l 6) ∧
    bitsL z.out ++ bitsN (z.n * 64 + l) (6 * (z.c + 1)) = zallL z ++ bitsN l 6 := by
  have h2 : bitsL z.out ++ bitsN (z.n * 64 + l) (6 * (z.c + 1)) = zallL z ++ bitsN l 6 := by
    unfold zallL
    rw [show 6 * (z.c + 1) = 6 * z.c + 6 by omega, bitsN_letter _ _ _ hl, List.append_assoc]
  refine ⟨fun hc => ?_, h2⟩
  rw [← h2, hc, bitsL_app]
  generalize z.n * 64 + l = m
  have e1 : bitsN m 24 = bitsN (m / 65536) 8 ++ bitsN m 16 := bitsN_add 8 16 m
  have e2 : bitsN m 16 = bitsN (m / 256) 8 ++ bitsN m 8 := bitsN_add 8 8 m
  have e3 : bitsL [UInt8.ofNat (m / 65536), UInt8.ofNat (m / 256), UInt8.ofNat m] = bitsN (m / 65536) 8 ++ (bitsN (m / 256) 8 ++ (bitsN m 8 ++ [])) := by
    unfold bitsL bitsL bitsL bitsL
    rw [bits8_of, bits8_of, bits8_of]
  show bitsL z.out ++ _ = bitsL z.out ++ bitsN m 24
  rw [e3, e1, e2, List.append_nil]

theorem zt_zall {z : Z} (h : ZOk z) (hf : z.f = 0) (hc : 2 ≤ z.c) (letters : Int) (hl : letters = (z.c : Int)) : 4 ≤ (zall z).size ∧ zt (zall z) letters = decide (z.n % 2 ^ (2 * (4 - z.c)) = 0) := by
  have hlen : (zallL z).length = 8 * z.out.length + 6 * z.c := by unfold zallL; rw [List.length_append, bitsL_len, bitsN_len]
  have hsz : (zall z).size = 8 * z.out.length + 6 * z.c := by rw [← hlen]; rfl
  refine ⟨by omega, ?_⟩
  have key : ∀ k j, 6 * z.c = j + k → has1 (zall z) (((zall z).size : Int) - (k : Int)) = decide (z.n % 2 ^ k ≠ 0) := by
    intro k j hk
    unfold has1
    have : (((zall z).size : Int) - (k : Int)).toNat = (bitsL z.out ++ bitsN (z.n / 2 ^ k) j).length := by
      rw [List.length_append, bitsL_len, bitsN_len]; omega
    rw [this]
    have e : (zall z).data.toList = (bitsL z.out ++ bitsN (z.n / 2 ^ k) j) ++ bitsN z.n k := by
      show zallL z = _
      unfold zallL
      rw [hk, bitsN_add, List.append_assoc]
    rw [e, List.drop_left, any_bits]
  have h3 := h.c3
  subst hl
  unfold zt
  obtain hc2 | hc3 : z.c = 2 ∨ z.c = 3 := by omega
  · have := key 4 8 (by omega)
    rw [hc2]
    have e : (bif (((2 : Nat) : Int) == 3) then (2 : Int) else 4) = ((4 : Nat) : Int) := rfl
    rw [e, this]
    by_cases hz : z.n % 2 ^ 4 = 0 <;> simp [hz]
  · have := key 2 16 (by omega)
    rw [hc3]
    have e : (bif (((3 : Nat) : Int) == 3) then (2 : Int) else 4) = ((2 : Nat) : Int) := rfl
    rw [e, this]
    by_cases hz : z.n % 2 ^ 2 = 0 <;> simp [hz]

theorem zstep_ok {z z' : Z} {b : UInt8} (h : ZOk z) (hs : zstep b z = some z') : ZOk z' ∧ z'.out.length ≤ z.out.length + 3 ∧ z'.m ≤ z.m + 1 := by
  obtain ⟨h1, h2, h3, h4, h5, h6⟩ := h
  have hb : b.toNat < 256 := b.toNat_lt
  obtain ⟨g1, g2, g3⟩ := lt64_facts b.toNat hb
  unfold zstep at hs
  split at hs
  · cases hs; exact ⟨⟨h1, h2, h3, h4, h5, h6⟩, by omega, by omega⟩
  · split at hs
    · next hl =>
      split at hs
      · next hc =>
        cases hs
        refine ⟨⟨by simp, by simp, by simp [hl.2], by simp [hl.2], ?_, by simp [hl.2]⟩, by simp, by simp⟩
        simp only [hl.2]
        have := hl.2
        omega
      · next hc =>
        cases hs
        refine ⟨⟨by simp only; omega, ?_, by simp only [hl.2]; omega, by simp only [hl.2]; omega, ?_, by simp [hl.2]⟩, by simp, by simp⟩
        · simp only [Nat.pow_succ]; omega
        · simp only; have := hl.2; omega
    · split at hs
      · next hq =>
        cases hs
        exact ⟨⟨h1, h2, by simp only; omega, by simp only; omega, by simp only; omega, fun _ => hq.2.2.2⟩, by simp, by simp⟩
      · cases hs

/-! ### from bits to bytes -/
theorem byteOf_u8 (b : UInt8) : byteOfV (.sc (.int .u8 (b.toNat : Int))) = b := by simp [byteOfV, V.intOf]
theorem strOf_u8V (l : List UInt8) : strOfCells (u8V l) = u8S l := by
  unfold strOfCells u8V u8S
  rw [List.map_map]
  congr 2
  induction l with
  | nil => rfl
  | cons x l ih => rw [List.map_cons, ih]; simp only [Function.comp, byteOf_u8]
theorem allU8_u8V : ∀ l : List UInt8, allU8 (u8V l) = true
  | [] => rfl
  | x :: l => by
    show (V.isInt .u8 _ && allU8 (u8V l)) = true
    rw [allU8_u8V l]; rfl
theorem u8V_len (l : List UInt8) : (u8V l).length = l.length := List.length_map ..
theorem u8V_app (a b : List UInt8) : u8V (a ++ b) = u8V a ++ u8V b := List.map_append ..
theorem wrap_u8_id (n : Nat) (h : n < 256) : IntKind.wrap .u8 ((n : Nat) : Int) = (n : Int) := by
  rw [wrapU8]; simp; omega
theorem bstep_bit (v n : Nat) (h : v < 2 ^ 60) : bstep (v : Int) (bit1 n) = ((2 * v + n % 2 : Nat) : Int) := by
  unfold bstep
  have h1 : (((bit1 n).toNat : Int) - 48) = ((n % 2 : Nat) : Int) := by
    unfold bit1
    rcases Nat.mod_two_eq_zero_or_one n with h | h <;> rw [h] <;> rfl
  rw [h1, wrap_u8_id _ (by omega), wrap_id (n := ((n % 2 : Nat) : Int)) (by omega) (by omega), wrap_id (n := (2 : Int) * (v : Int)) (by omega) (by omega), wrap_id (by omega) (by omega)]
  omega
theorem foldl_bits : ∀ (k n v : Nat), (v + 1) * 2 ^ k < 2 ^ 59 → (bitsN n k).foldl bstep (v : Int) = ((v * 2 ^ k + n % 2 ^ k : Nat) : Int)
  | 0, n, v, _ => by simp [bitsN, Nat.mod_one]
  | k + 1, n, v, h => by
    have hp : (v + 1) * 2 ^ k < 2 ^ 59 := by rw [Nat.pow_succ, ← Nat.mul_assoc] at h; omega
    have hq : n / 2 % 2 ^ k < 2 ^ k := Nat.mod_lt _ (Nat.two_pow_pos k)
    rw [bitsN, List.foldl_append, foldl_bits k _ _ hp, List.foldl_cons, List.foldl_nil, bstep_bit _ _ (by rw [Nat.add_mul] at hp; omega)]
    have h1 : n % 2 ^ (k + 1) = 2 * (n / 2 % 2 ^ k) + n % 2 := by
      rw [Nat.pow_succ, Nat.mul_comm, Nat.mod_mul]; omega
    rw [h1, Nat.pow_succ]
    congr 1
    rw [← Nat.mul_assoc]
    omega
theorem byte8_bits (n : Nat) (r : List UInt8) : byte8 (bitsN n 8 ++ r) = ((n % 256 : Nat) : Int) := by
  unfold byte8
  rw [List.take_append_of_le_length (by rw [bitsN_len]; omega), List.take_of_length_le (by rw [bitsN_len]; omega)]
  have := foldl_bits 8 n 0 (by decide)
  rw [show (0 : Int) = ((0 : Nat) : Int) by rfl, this]
  simp
theorem ch8N_succ (k : Nat) (l : List UInt8) : ch8N (k + 1) l = if 8 ≤ l.length then .sc (.int .u8 (IntKind.wrap .u8 (byte8 l))) :: ch8N k (l.drop 8) else [] := rfl
theorem ch8N_bits : ∀ (l : List UInt8) (k : Nat), l.length ≤ k → ch8N k (bitsL l) = u8V l
  | [], 0, _ => rfl
  | [], k + 1, _ => rfl
  | b :: l, 0, h => by simp at h
  | b :: l, k + 1, h => by
    rw [bitsL, ch8N_succ]
    rw [if_pos (by rw [List.length_append, bitsN_len]; omega), byte8_bits, List.drop_append_of_le_length (by rw [bitsN_len]; omega), List.drop_of_length_le (by rw [bitsN_len]; omega), List.nil_append, ch8N_bits l k (by simpa using h)]
    have : b.toNat < 256 := b.toNat_lt
    rw [wrap_u8_id _ (by omega), Nat.mod_eq_of_lt this]
    rfl
theorem ch8_bits (l : List UInt8) : ch8 (bitsL l) = u8V l := ch8N_bits l _ (by rw [bitsL_len]; omega)

/-- The bits that count, of what was read to its end. -/
theorem zall_tail {z : Z} (h : ZOk z) (he : (z.c + z.f) % 4 = 0) :
    (z.f = 0 → zallL z = bitsL (z.out ++ ztail z)) ∧ (0 < z.f → (zallL z).take ((zallL z).length - (zallL z).length % 8) = bitsL (z.out ++ ztail z)) := by
  obtain ⟨h1, h2, h3, h4, h5, h6⟩ := h
  have hlen : (zallL z).length = 8 * z.out.length + 6 * z.c := by unfold zallL; rw [List.length_append, bitsL_len, bitsN_len]
  refine ⟨fun hf => ?_, fun hf => ?_⟩
  · have hc : z.c = 0 := by omega
    unfold zallL ztail
    rw [hc]
    simp [bitsN]
  · have hc := h4 hf
    rw [bitsL_app]
    obtain hc | hc : z.c = 2 ∨ z.c = 3 := by omega
    · rw [show (zallL z).length - (zallL z).length % 8 = (bitsL z.out ++ bitsN (z.n / 16) 8).length by rw [hlen, List.length_append, bitsL_len, bitsN_len, hc]; omega]
      have e0 : bitsN z.n (6 * 2) = bitsN (z.n / 16) 8 ++ bitsN z.n 4 := bitsN_add 8 4 z.n
      have e : zallL z = (bitsL z.out ++ bitsN (z.n / 16) 8) ++ bitsN z.n 4 := by
        unfold zallL
        rw [hc, e0, List.append_assoc]
      have e2 : ztail z = [UInt8.ofNat (z.n / 16)] := by unfold ztail; rw [if_pos hc]
      have e3 : bitsL [UInt8.ofNat (z.n / 16)] = bitsN (z.n / 16) 8 := by
        unfold bitsL bitsL; rw [bits8_of, List.append_nil]
      rw [e, List.take_left, e2, e3]
    · rw [show (zallL z).length - (zallL z).length % 8 = (bitsL z.out ++ (bitsN (z.n / 1024) 8 ++ bitsN (z.n / 4) 8)).length by rw [hlen, List.length_append, List.length_append, bitsL_len, bitsN_len, bitsN_len, hc]; omega]
      have e0 : bitsN z.n (6 * 3) = bitsN (z.n / 4) 16 ++ bitsN z.n 2 := bitsN_add 16 2 z.n
      have e1 : bitsN (z.n / 4) 16 = bitsN (z.n / 4 / 256) 8 ++ bitsN (z.n / 4) 8 := bitsN_add 8 8 _
      have e : zallL z = (bitsL z.out ++ (bitsN (z.n / 1024) 8 ++ bitsN (z.n / 4) 8)) ++ bitsN z.n 2 := by
        unfold zallL
        rw [hc, e0, e1, Nat.div_div_eq_div_mul, List.append_assoc, List.append_assoc, List.append_assoc]
      have e2 : ztail z = [UInt8.ofNat (z.n / 1024), UInt8.ofNat (z.n / 4)] := by unfold ztail; rw [if_neg (by omega), if_pos hc]
      have e3 : bitsL [UInt8.ofNat (z.n / 1024), UInt8.ofNat (z.n / 4)] = bitsN (z.n / 1024) 8 ++ bitsN (z.n / 4) 8 := by
        unfold bitsL bitsL bitsL; rw [bits8_of, bits8_of, List.append_nil]
      rw [e, List.take_left, e2, e3]

theorem zrun_ok : ∀ (l : List UInt8) (p : Nat) (z : Z), ZOk z → ZOk (zrun l p z).z ∧ (zrun l p z).z.out.length ≤ z.out.length + 3 * l.length ∧ (zrun l p z).p ≤ p + l.length
  | [], p, z, h => ⟨h, by simp [zrun], by simp [zrun]⟩
  | b :: l, p, z, h => by
    unfold zrun
    cases hs : zstep b z with
    | none => exact ⟨h, by simp, by simp⟩
    | some z' =>
      obtain ⟨h1, h2, _⟩ := zstep_ok h hs
      obtain ⟨g1, g2, g3⟩ := zrun_ok l (p + 1) z' h1
      refine ⟨g1, ?_, ?_⟩ <;> simp only [List.length_cons] <;> omega

theorem o64_bs {s : ByteArray} (h : (o64 s).ok = false) : (o64 s).bs = [] := by
  unfold o64 at h ⊢
  by_cases h1 : (zr (bytesV s)).bad = true
  · rw [if_pos h1]
  · rw [if_neg h1] at h ⊢
    by_cases h2 : ((zr (bytesV s)).z.c + (zr (bytesV s)).z.f) % 4 ≠ 0
    · rw [if_pos h2]
    · rw [if_neg h2] at h; cases h
theorem o64_at {s : ByteArray} (h : (o64 s).ok = true) : (o64 s).at_ = 0 := by
  unfold o64 at h ⊢
  by_cases h1 : (zr (bytesV s)).bad = true
  · rw [if_pos h1] at h; cases h
  · rw [if_neg h1] at h ⊢
    by_cases h2 : ((zr (bytesV s)).z.c + (zr (bytesV s)).z.f) % 4 ≠ 0
    · rw [if_pos h2] at h; cases h
    · rw [if_neg h2]
theorem zrun_some {b : UInt8} {l : List UInt8} {p : Nat} {z z' : Z} (h : zstep b z = some z') : zrun (b :: l) p z = zrun l (p + 1) z' := by
  rw [zrun, h]
theorem zrun_none {b : UInt8} {l : List UInt8} {p : Nat} {z : Z} (h : zstep b z = none) : zrun (b :: l) p z = ⟨true, p, z⟩ := by
  rw [zrun, h]
def okB : V → Bool
  | .sc (.int .u8 n) => decide (0 ≤ n) && decide (n < 256)
  | _ => false
def allB (l : List V) : Bool := l.all okB
theorem okB_eq {x : V} (h : okB x = true) : x = .sc (.int .u8 ((byteOfV x).toNat : Int)) := by
  unfold okB at h
  split at h
  · next n =>
    simp only [Bool.and_eq_true, decide_eq_true_eq] at h
    have : (byteOfV (V.sc (.int .u8 n))).toNat = n.toNat := by
      show (UInt8.ofNat n.toNat).toNat = n.toNat
      have := UInt8.toNat_ofNat' (n := n.toNat)
      omega
    rw [this]
    congr 2
    omega
  · cases h
theorem allB_bytesV (s : ByteArray) : allB (bytesV s) = true := by
  unfold allB bytesV
  rw [List.all_map, List.all_eq_true]
  intro b _
  have := b.toNat_lt
  simp [okB]
  omega
theorem map_bytesV (s : ByteArray) : (bytesV s).map byteOfV = s.data.toList := by
  have := strOf_bytesV s
  unfold strOfCells at this
  have h2 := congrArg (fun t : ByteArray => t.data.toList) this
  simpa using h2
/-- The test of the zeros. -/
theorem maskZero {z : Z} (h : ZOk z) (hc : 2 ≤ z.c) :
    (decide ((0 : Int) ≤ IntKind.wrap .i64 ((2 : Int) * IntKind.wrap .i64 ((4 : Int) - (z.c : Int))))) = true ∧
    (bitsI .and .i64 (z.n : Int) (IntKind.wrap .i64 ((IntKind.wrap .i64 (1 * (2 ^ (min ((IntKind.wrap .i64 ((2 : Int) * (IntKind.wrap .i64 ((4 : Int) - (z.c : Int)))))).toNat 64)))) - 1)) == 0) = decide (z.n % 2 ^ (2 * (4 - z.c)) = 0) := by
  have hn := zok_n h
  have h3 := h.c3
  have key : ∀ j : Nat, j ≤ 10 → (bitsI .and .i64 (z.n : Int) (((2 ^ j - 1 : Nat) : Nat) : Int) == 0) = decide (z.n % 2 ^ j = 0) := by
    intro j hj
    have hj2 : 2 ^ j ≤ 2 ^ 10 := Nat.pow_le_pow_right (by omega) hj
    rw [and64 _ _ (by omega) (by omega), Nat.and_two_pow_sub_one_eq_mod]
    rw [Bool.eq_iff_iff, beq_iff_eq, decide_eq_true_eq]
    omega
  obtain hc | hc : z.c = 2 ∨ z.c = 3 := by omega
  · rw [hc]
    exact ⟨by decide, key 4 (by omega)⟩
  · rw [hc]
    exact ⟨by decide, key 2 (by omega)⟩

theorem tmod4 (m : Nat) : Int.tmod (m : Int) 4 = ((m % 4 : Nat) : Int) := by
  rw [Int.tmod_eq_emod_of_nonneg (by omega)]; omega
theorem tmod8 (m : Nat) : Int.tmod (m : Int) 8 = ((m % 8 : Nat) : Int) := by
  rw [Int.tmod_eq_emod_of_nonneg (by omega)]; omega
theorem bits6_size (l : Nat) : (bits6 (l : Int)).size = 6 := by
  rw [← ba_size]
  show (bitsN (l : Int).toNat 6).length = 6
  exact bitsN_len 6 _
theorem zall_size (z : Z) : (zall z).size = 8 * z.out.length + 6 * z.c := by
  rw [← ba_size]
  show (zallL z).length = _
  unfold zallL
  rw [List.length_append, bitsL_len, bitsN_len]
theorem zall_app (z z' : Z) (l : Nat) (h : zallL z' = zallL z ++ bitsN l 6) : zall z ++ bits6 (l : Int) = zall z' := by
  refine ba_ext ?_
  rw [ba_append]
  show zallL z ++ bitsN (l : Int).toNat 6 = zallL z'
  rw [h, Int.toNat_natCast]
theorem getD_list (s : ByteArray) (k : Nat) (h : k < s.data.toList.length) : s.data.getD k 0 = s.data.toList[k] := by
  rw [Array.getElem_toList]
  simp only [Array.getD]
  rw [dif_pos (by rw [← Array.length_toList]; exact h)]
  rfl
end Go.Ab
