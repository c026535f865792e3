/- strings.Index with a text of one byte: a primitive, by the library's contract. -/
import Derived.Test.YtbeemjiaohaamaaGreatDoorPC2
import Derived.Shelf.Strings.Search3
namespace Go.Proofs
open Go.Shelf
def Tryz.layIndex_ren : Go.Shelf.Ren := ⟨fun | 143 => 57 | 217 => 118 | 219 => 91 | 224 => 120 | 225 => 119 | 266 => 144 | 267 => 121 | 314 => 145 | n => n, fun | 22 => 54 | 23 => 97 | 24 => 36 | 25 => 123 | 26 => 127 | 27 => 96 | 28 => 73 | 31 => 34 | 37 => 99 | 40 => 188 | 41 => 117 | 43 => 149 | 46 => 145 | 47 => 181 | 51 => 171 | 52 => 187 | 53 => 165 | 54 => 166 | 55 => 150 | 59 => 124 | 60 => 125 | 61 => 58 | 63 => 170 | 64 => 182 | 67 => 60 | 68 => 35 | 69 => 122 | 70 => 98 | 71 => 100 | 72 => 101 | 73 => 111 | 74 => 102 | 75 => 103 | 76 => 104 | 77 => 105 | 78 => 106 | 80 => 107 | 81 => 130 | 83 => 75 | 84 => 137 | 102 => 136 | 103 => 126 | 104 => 31 | 105 => 154 | 106 => 155 | 109 => 146 | 110 => 147 | 111 => 71 | 113 => 108 | 114 => 151 | 115 => 139 | 116 => 140 | 117 => 141 | 118 => 142 | 119 => 183 | 122 => 138 | 123 => 143 | 124 => 144 | 127 => 131 | 137 => 184 | 138 => 185 | 139 => 186 | 146 => 172 | 147 => 173 | 148 => 174 | 149 => 175 | 150 => 132 | 151 => 176 | 164 => 152 | 165 => 153 | 166 => 156 | 171 => 164 | 172 => 167 | 173 => 168 | 174 => 169 | 211 => 178 | 212 => 179 | 213 => 180 | 232 => 189 | 233 => 190 | 238 => 191 | 239 => 192 | 240 => 193 | 241 => 194 | 242 => 195 | 243 => 196 | 244 => 197 | 245 => 198 | 246 => 199 | 247 => 200 | 248 => 201 | 249 => 202 | n => n, fun | 1 => 0 | 3 => 2 | 4 => 3 | 17 => 1 | 18 => 4 | 19 => 5 | n => n⟩
theorem Tryz.layIndex : Go.Proofs.Lays.n143 Tryz.prog Tryz.layIndex_ren := {
  mixed := by kernel_rfl
  f143 := Tryz.func57.trans (congrArg some (by kernel_rfl))
  f217 := Tryz.func118.trans (congrArg some (by kernel_rfl))
  f219 := Tryz.func91.trans (congrArg some (by kernel_rfl))
  f224 := Tryz.func120.trans (congrArg some (by kernel_rfl))
  f225 := Tryz.func119.trans (congrArg some (by kernel_rfl))
  f266 := Tryz.func144.trans (congrArg some (by kernel_rfl))
  f267 := Tryz.func121.trans (congrArg some (by kernel_rfl))
  f314 := Tryz.func145.trans (congrArg some (by kernel_rfl))
  t3 := Tryz.underlying3
  a3 := Tryz.isAgg3
  z3 := Tryz.sizeOf3
  v3 := Tryz.zeroValue3
  t4 := Tryz.underlying4
  a4 := Tryz.isAgg4
  z4 := Tryz.sizeOf4
  v4 := Tryz.zeroValue4
  t5 := Tryz.underlying5
  a5 := Tryz.isAgg5
  z5 := Tryz.sizeOf5
  v5 := Tryz.zeroValue5
  t9 := Tryz.underlying9
  a9 := Tryz.isAgg9
  z9 := Tryz.sizeOf9
  v9 := Tryz.zeroValue9
  t46 := Tryz.underlying145
  a46 := Tryz.isAgg145
  z46 := Tryz.sizeOf145
  v46 := Tryz.zeroValue145
  t51 := Tryz.underlying171
  a51 := Tryz.isAgg171
  z51 := Tryz.sizeOf171
  v51 := Tryz.zeroValue171
  t146 := Tryz.underlying172
  a146 := Tryz.isAgg172
  z146 := Tryz.sizeOf172
  v146 := Tryz.zeroValue172
  g1 := by kernel_rfl }

end Go.Proofs
namespace Go.Ab
open Go Go.Proofs Go.RowKit
/-- The first byte of a text, as the machine reads it. -/
def byt0 (c : ByteArray) : UInt8 := match c.data.toList with
  | b :: _ => b
  | [] => 0
def idxS (s c : ByteArray) : Int := Lib.indexByte s.data.toList (byt0 c)
def p57 : PrimT := fun vs gs => match vs, gs with
  | [.sc (.string s), .sc (.string c)], [] => (one1 c, .sc (.int .i64 (idxS s c)), [])
  | _, _ => (false, .bad, [])
set_option maxRecDepth 100000 in
theorem p57_ok : PrimOk Tryz.prog 57 p57 := by
  intro vs gs v gs' h args w F Rs hR hv
  unfold p57 at h
  split at h
  · next s c =>
    simp only [Prod.mk.injEq] at h
    obtain ⟨ho, rfl, rfl⟩ := h
    obtain ⟨a, b, rfl, ha, hb⟩ := args2 hv
    obtain ⟨rfl, _⟩ := ha
    obtain ⟨rfl, _⟩ := hb
    obtain ⟨x, rfl⟩ : ∃ x : UInt8, c = ⟨#[x]⟩ := by
      unfold one1 at ho
      split at ho
      · next x hx => exact ⟨x, ba_ext hx⟩
      · cases ho
    refine enter_of_calls (fn := Tryz.f57) Tryz.func57 (by kernel_rfl) (by kernel_rfl) ?_
    refine (Any.strings_Index_one Tryz.layIndex s x w).mono ?_
    rintro e w' ⟨rfl, rfl⟩
    exact ⟨_, rfl, back_val rfl rfl hR (Below.refl _ _) ⟨rfl, rfl⟩⟩
  · cases h
/-- strings.explode: never reached here. -/
def p94 : PrimT := fun _ _ => (false, .bad, [])
theorem p94_ok : PrimOk Tryz.prog 94 p94 := by
  intro vs gs v gs' h
  cases h
end Go.Ab
