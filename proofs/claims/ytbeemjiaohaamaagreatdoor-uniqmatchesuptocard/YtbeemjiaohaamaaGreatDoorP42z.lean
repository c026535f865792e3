/- strconv.Itoa: a primitive, by the library's contract. -/
import Derived.Test.YtbeemjiaohaamaaGreatDoorPC2
import Derived.Shelf.Strconv.Itoa3
namespace Go.Proofs
open Go.Shelf
def Tryz.layItoa_ren : Go.Shelf.Ren := ⟨fun | 129 => 151 | 171 => 42 | 243 => 74 | 246 => 105 | 283 => 134 | 284 => 135 | 285 => 136 | 286 => 137 | 317 => 150 | 318 => 152 | 319 => 153 | 320 => 154 | 337 => 160 | 338 => 161 | n => n, fun | 22 => 54 | 23 => 97 | 24 => 36 | 25 => 123 | 26 => 127 | 27 => 96 | 28 => 73 | 31 => 34 | 37 => 99 | 40 => 188 | 41 => 117 | 43 => 149 | 46 => 145 | 47 => 181 | 51 => 171 | 52 => 187 | 53 => 165 | 54 => 166 | 55 => 150 | 59 => 124 | 60 => 125 | 61 => 58 | 63 => 170 | 64 => 182 | 67 => 60 | 68 => 35 | 69 => 122 | 70 => 98 | 71 => 100 | 72 => 101 | 73 => 111 | 74 => 102 | 75 => 103 | 76 => 104 | 77 => 105 | 78 => 106 | 80 => 107 | 81 => 130 | 83 => 75 | 84 => 137 | 102 => 136 | 103 => 126 | 104 => 31 | 105 => 154 | 106 => 155 | 109 => 146 | 110 => 147 | 111 => 71 | 113 => 108 | 114 => 151 | 115 => 139 | 116 => 140 | 117 => 141 | 118 => 142 | 119 => 183 | 122 => 138 | 123 => 143 | 124 => 144 | 127 => 131 | 137 => 184 | 138 => 185 | 139 => 186 | 146 => 172 | 147 => 173 | 148 => 174 | 149 => 175 | 150 => 132 | 151 => 176 | 164 => 152 | 165 => 153 | 166 => 156 | 171 => 164 | 172 => 167 | 173 => 168 | 174 => 169 | 211 => 178 | 212 => 179 | 213 => 180 | 232 => 189 | 233 => 190 | 238 => 191 | 239 => 192 | 240 => 193 | 241 => 194 | 242 => 195 | 243 => 196 | 244 => 197 | 245 => 198 | 246 => 199 | 247 => 200 | 248 => 201 | 249 => 202 | n => n, fun | 1 => 0 | 3 => 2 | 4 => 3 | 17 => 1 | 18 => 4 | 19 => 5 | n => n⟩
theorem Tryz.layItoa : Go.Proofs.LaysM.n171 Tryz.prog Tryz.layItoa_ren := {
  mixed := by kernel_rfl
  f129 := Tryz.func151.trans (congrArg some (by kernel_rfl))
  f171 := Tryz.func42.trans (congrArg some (by kernel_rfl))
  f243 := Tryz.func74.trans (congrArg some (by kernel_rfl))
  f246 := Tryz.func105.trans (congrArg some (by kernel_rfl))
  f283 := Tryz.func134.trans (congrArg some (by kernel_rfl))
  f284 := Tryz.func135.trans (congrArg some (by kernel_rfl))
  f285 := Tryz.func136.trans (congrArg some (by kernel_rfl))
  f286 := Tryz.func137.trans (congrArg some (by kernel_rfl))
  f317 := Tryz.func150.trans (congrArg some (by kernel_rfl))
  f318 := Tryz.func152.trans (congrArg some (by kernel_rfl))
  f319 := Tryz.func153.trans (congrArg some (by kernel_rfl))
  f320 := Tryz.func154.trans (congrArg some (by kernel_rfl))
  f337 := Tryz.func160.trans (congrArg some (by kernel_rfl))
  f338 := Tryz.func161.trans (congrArg some (by kernel_rfl))
  t0 := Tryz.underlying0
  a0 := Tryz.isAgg0
  z0 := Tryz.sizeOf0
  v0 := Tryz.zeroValue0
  t2 := Tryz.underlying2
  a2 := Tryz.isAgg2
  z2 := Tryz.sizeOf2
  v2 := Tryz.zeroValue2
  t3 := Tryz.underlying3
  a3 := Tryz.isAgg3
  z3 := Tryz.sizeOf3
  v3 := Tryz.zeroValue3
  t4 := Tryz.underlying4
  a4 := Tryz.isAgg4
  z4 := Tryz.sizeOf4
  v4 := Tryz.zeroValue4
  t5 := Tryz.underlying5
  a5 := Tryz.isAgg5
  z5 := Tryz.sizeOf5
  v5 := Tryz.zeroValue5
  t9 := Tryz.underlying9
  a9 := Tryz.isAgg9
  z9 := Tryz.sizeOf9
  v9 := Tryz.zeroValue9
  t20 := Tryz.underlying20
  a20 := Tryz.isAgg20
  z20 := Tryz.sizeOf20
  v20 := Tryz.zeroValue20
  t37 := Tryz.underlying99
  a37 := Tryz.isAgg99
  z37 := Tryz.sizeOf99
  v37 := Tryz.zeroValue99
  t46 := Tryz.underlying145
  a46 := Tryz.isAgg145
  z46 := Tryz.sizeOf145
  v46 := Tryz.zeroValue145
  t51 := Tryz.underlying171
  a51 := Tryz.isAgg171
  z51 := Tryz.sizeOf171
  v51 := Tryz.zeroValue171
  t53 := Tryz.underlying165
  a53 := Tryz.isAgg165
  z53 := Tryz.sizeOf165
  v53 := Tryz.zeroValue165
  t171 := Tryz.underlying164
  a171 := Tryz.isAgg164
  z171 := Tryz.sizeOf164
  v171 := Tryz.zeroValue164
  t173 := Tryz.underlying168
  a173 := Tryz.isAgg168
  z173 := Tryz.sizeOf168
  v173 := Tryz.zeroValue168
  t212 := Tryz.underlying179
  a212 := Tryz.isAgg179
  z212 := Tryz.sizeOf179
  v212 := Tryz.zeroValue179
  t213 := Tryz.underlying180
  a213 := Tryz.isAgg180
  z213 := Tryz.sizeOf180
  t232 := Tryz.underlying189
  a232 := Tryz.isAgg189
  z232 := Tryz.sizeOf189
  v232 := Tryz.zeroValue189
  t233 := Tryz.underlying190
  a233 := Tryz.isAgg190
  z233 := Tryz.sizeOf190
  v233 := Tryz.zeroValue190
  g17 := by kernel_rfl
  g18 := by kernel_rfl
  g19 := by kernel_rfl
  i0 := by kernel_rfl
  i2 := by kernel_rfl
  i3 := by kernel_rfl
  i4 := by kernel_rfl
  i5 := by kernel_rfl
  i9 := by kernel_rfl
  i20 := by kernel_rfl
  i37 := by kernel_rfl
  i46 := by kernel_rfl
  i51 := by kernel_rfl
  i53 := by kernel_rfl
  i171 := by kernel_rfl
  i173 := by kernel_rfl
  i212 := by kernel_rfl
  i232 := by kernel_rfl
  i233 := by kernel_rfl
  m17 := by kernel_rfl
  m18 := by kernel_rfl
  m19 := by kernel_rfl }

end Go.Proofs
namespace Go.Ab
open Go Go.Proofs Go.RowKit
set_option linter.unusedSimpArgs false
set_option linter.unusedVariables false
def itoaB (n : Int) : ByteArray := ⟨(Lib.itoa n).toArray⟩
def inR (n : Int) : Bool := decide (-9223372036854775808 ≤ n) && decide (n ≤ 9223372036854775807)
def p42 : PrimT := fun vs gs => match vs, gs with
  | [.sc (.int .i64 n)], [] => (inR n, .sc (.string (itoaB n)), [])
  | _, _ => (false, .bad, [])
open Go.Sort in
theorem below_grow (w : World) (k : Nat) (os : Array Obj) : Below w.heap.size w (grow (w.drewN k) os) := by
  refine ⟨rfl, rfl, rfl, ?_, fun j hj => ?_⟩
  · show w.heap.size ≤ (w.heap ++ os).size
    rw [Array.size_append]; omega
  · show (w.heap ++ os)[j]? = w.heap[j]?
    rw [Array.getElem?_append_left hj]
set_option maxRecDepth 100000 in
theorem p42_ok : PrimOk Tryz.prog 42 p42 := by
  intro vs gs v gs' h args w F Rs hR hv
  unfold p42 at h
  split at h
  · next n =>
    simp only [Prod.mk.injEq] at h
    obtain ⟨hr, rfl, rfl⟩ := h
    unfold inR at hr
    simp only [Bool.and_eq_true, decide_eq_true_eq] at hr
    obtain ⟨a, rfl, ha⟩ := args1 hv
    obtain ⟨rfl, _⟩ := ha
    have htab : Lib.TabIs Tryz.prog w "internal/strconv.uint64pow10" .u64 Lib.pow10Tab := (hR.tabs _ (List.mem_cons_self ..)).1
    refine enter_of_calls (fn := Tryz.f42) Tryz.func42 (by kernel_rfl) (by kernel_rfl) ?_
    refine (Any.strconv_Itoa Tryz.layItoa n hr.1 hr.2 w htab).mono ?_
    rintro e w' ⟨rfl, k, os, rfl⟩
    exact ⟨_, rfl, back_val rfl rfl hR (below_grow w k os) ⟨rfl, rfl⟩⟩
  · cases h
end Go.Ab
