/- strings.Repeat: a primitive, by the library's contract. -/
import Derived.Test.YtbeemjiaohaamaaGreatDoorZNU
import Derived.Shelf.Strings.Repeat
namespace Go.Proofs
open Go.Shelf
def Tryz.layRep_ren : Go.Shelf.Ren := ⟨fun | 99 => 113 | 105 => 81 | 165 => 65 | 166 => 59 | 169 => 61 | 170 => 114 | 206 => 138 | 212 => 112 | 240 => 93 | 241 => 97 | 263 => 141 | 264 => 142 | 276 => 123 | 277 => 127 | n => n, fun | 22 => 54 | 23 => 97 | 24 => 36 | 25 => 123 | 26 => 127 | 27 => 96 | 28 => 73 | 31 => 34 | 37 => 99 | 40 => 188 | 41 => 117 | 43 => 149 | 46 => 145 | 47 => 181 | 51 => 171 | 52 => 187 | 53 => 165 | 54 => 166 | 55 => 150 | 59 => 124 | 60 => 125 | 61 => 58 | 63 => 170 | 64 => 182 | 67 => 60 | 68 => 35 | 69 => 122 | 70 => 98 | 71 => 100 | 72 => 101 | 73 => 111 | 74 => 102 | 75 => 103 | 76 => 104 | 77 => 105 | 78 => 106 | 80 => 107 | 81 => 130 | 83 => 75 | 84 => 137 | 102 => 136 | 103 => 126 | 104 => 31 | 105 => 154 | 106 => 155 | 109 => 146 | 110 => 147 | 111 => 71 | 113 => 108 | 114 => 151 | 115 => 139 | 116 => 140 | 117 => 141 | 118 => 142 | 119 => 183 | 122 => 138 | 123 => 143 | 124 => 144 | 127 => 131 | 137 => 184 | 138 => 185 | 139 => 186 | 146 => 172 | 147 => 173 | 148 => 174 | 149 => 175 | 150 => 132 | 151 => 176 | 164 => 152 | 165 => 153 | 166 => 156 | 171 => 164 | 172 => 167 | 173 => 168 | 174 => 169 | 211 => 178 | 212 => 179 | 213 => 180 | 232 => 189 | 233 => 190 | 238 => 191 | 239 => 192 | 240 => 193 | 241 => 194 | 242 => 195 | 243 => 196 | 244 => 197 | 245 => 198 | 246 => 199 | 247 => 200 | 248 => 201 | 249 => 202 | n => n, fun | 1 => 0 | 3 => 2 | 4 => 3 | 17 => 1 | 18 => 4 | 19 => 5 | n => n⟩
theorem Tryz.layRep : Go.Proofs.Lays.n105 Tryz.prog Tryz.layRep_ren := {
  mixed := by kernel_rfl
  f99 := Tryz.func113.trans (congrArg some (by kernel_rfl))
  f105 := Tryz.func81.trans (congrArg some (by kernel_rfl))
  f165 := Tryz.func65.trans (congrArg some (by kernel_rfl))
  f166 := Tryz.func59.trans (congrArg some (by kernel_rfl))
  f169 := Tryz.func61.trans (congrArg some (by kernel_rfl))
  f170 := Tryz.func114.trans (congrArg some (by kernel_rfl))
  f206 := Tryz.func138.trans (congrArg some (by kernel_rfl))
  f212 := Tryz.func112.trans (congrArg some (by kernel_rfl))
  f240 := Tryz.func93.trans (congrArg some (by kernel_rfl))
  f241 := Tryz.func97.trans (congrArg some (by kernel_rfl))
  f263 := Tryz.func141.trans (congrArg some (by kernel_rfl))
  f264 := Tryz.func142.trans (congrArg some (by kernel_rfl))
  f276 := Tryz.func123.trans (congrArg some (by kernel_rfl))
  f277 := Tryz.func127.trans (congrArg some (by kernel_rfl))
  t0 := Tryz.underlying0
  a0 := Tryz.isAgg0
  z0 := Tryz.sizeOf0
  v0 := Tryz.zeroValue0
  t3 := Tryz.underlying3
  a3 := Tryz.isAgg3
  z3 := Tryz.sizeOf3
  v3 := Tryz.zeroValue3
  t4 := Tryz.underlying4
  a4 := Tryz.isAgg4
  z4 := Tryz.sizeOf4
  v4 := Tryz.zeroValue4
  t5 := Tryz.underlying5
  a5 := Tryz.isAgg5
  z5 := Tryz.sizeOf5
  v5 := Tryz.zeroValue5
  t9 := Tryz.underlying9
  a9 := Tryz.isAgg9
  z9 := Tryz.sizeOf9
  v9 := Tryz.zeroValue9
  t20 := Tryz.underlying20
  a20 := Tryz.isAgg20
  z20 := Tryz.sizeOf20
  v20 := Tryz.zeroValue20
  t37 := Tryz.underlying99
  a37 := Tryz.isAgg99
  z37 := Tryz.sizeOf99
  v37 := Tryz.zeroValue99
  t46 := Tryz.underlying145
  a46 := Tryz.isAgg145
  z46 := Tryz.sizeOf145
  v46 := Tryz.zeroValue145
  t51 := Tryz.underlying171
  a51 := Tryz.isAgg171
  z51 := Tryz.sizeOf171
  v51 := Tryz.zeroValue171
  t53 := Tryz.underlying165
  a53 := Tryz.isAgg165
  z53 := Tryz.sizeOf165
  v53 := Tryz.zeroValue165
  t70 := Tryz.underlying98
  a70 := Tryz.isAgg98
  z70 := Tryz.sizeOf98
  v70 := Tryz.zeroValue98
  t72 := Tryz.underlying101
  a72 := Tryz.isAgg101
  z72 := Tryz.sizeOf101
  v72 := Tryz.zeroValue101
  t75 := Tryz.underlying103
  a75 := Tryz.isAgg103
  z75 := Tryz.sizeOf103
  v75 := Tryz.zeroValue103
  t76 := Tryz.underlying104
  a76 := Tryz.isAgg104
  z76 := Tryz.sizeOf104
  v76 := Tryz.zeroValue104
  t109 := Tryz.underlying146
  a109 := Tryz.isAgg146
  z109 := Tryz.sizeOf146
  v109 := Tryz.zeroValue146
  t127 := Tryz.underlying131
  a127 := Tryz.isAgg131
  z127 := Tryz.sizeOf131
  v127 := Tryz.zeroValue131
  t146 := Tryz.underlying172
  a146 := Tryz.isAgg172
  z146 := Tryz.sizeOf172
  v146 := Tryz.zeroValue172
  t148 := Tryz.underlying174
  a148 := Tryz.isAgg174
  z148 := Tryz.sizeOf174
  v148 := Tryz.zeroValue174
  t164 := Tryz.underlying152
  a164 := Tryz.isAgg152
  z164 := Tryz.sizeOf152
  v164 := Tryz.zeroValue152 }
theorem Tryz.layRepX : Builder.Extra Tryz.prog Tryz.layRep_ren := {
  sizeBuilder := by kernel_rfl
  liesBuilder := by kernel_rfl
  t5 := Tryz.underlying5
  a5 := Tryz.isAgg5
  z5 := Tryz.sizeOf5
  v5 := Tryz.zeroValue5
  infoByte := by kernel_rfl
  cellsByte := by kernel_rfl
  sizeByte := by kernel_rfl
  neB5 := by decide }

end Go.Proofs
namespace Go.Ab
open Go Go.Proofs Go.RowKit
set_option linter.unusedSimpArgs false
set_option linter.unusedVariables false
def p81 : PrimT := fun vs gs => match vs, gs with
  | [.sc (.string s), .sc (.int .i64 n)], [] => (decide (0 ≤ n) && decide (s.size * n.toNat ≤ 140737488355328) && decide (n ≤ 140737488355328), .sc (.string (repB s n)), [])
  | _, _ => (false, .bad, [])
set_option maxRecDepth 100000 in
theorem p81_ok : PrimOk Tryz.prog 81 p81 := by
  intro vs gs v gs' h args w F Rs hR hv
  unfold p81 at h
  split at h
  · next s n =>
    simp only [Prod.mk.injEq, Bool.and_eq_true, decide_eq_true_eq] at h
    obtain ⟨⟨⟨h1, h2⟩, h3⟩, rfl, rfl⟩ := h
    obtain ⟨a, b, rfl, ha, hb⟩ := args2 hv
    obtain ⟨rfl, _⟩ := ha
    obtain ⟨rfl, _⟩ := hb
    obtain ⟨c, rfl⟩ : ∃ c : Nat, n = (c : Int) := ⟨n.toNat, by omega⟩
    refine enter_of_calls (fn := Tryz.f81) Tryz.func81 (by kernel_rfl) (by kernel_rfl) ?_
    refine (Any.strings_Repeat Tryz.layRep Tryz.layRepX s c w (by omega) (by simpa using h2)).mono ?_
    rintro e w' ⟨rfl, hb⟩
    exact ⟨_, rfl, back_val rfl rfl hR hb ⟨rfl, rfl⟩⟩
  · cases h
end Go.Ab
