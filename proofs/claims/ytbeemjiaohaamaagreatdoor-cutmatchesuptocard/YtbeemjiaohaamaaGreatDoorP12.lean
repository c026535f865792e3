/- Functions of the library that are taken by their contracts. -/
import Derived.Test.YtbeemjiaohaamaaGreatDoorEngD
import Derived.Test.YtbeemjiaohaamaaGreatDoorSP2
namespace Go.Ab
open Go Go.Proofs Go.RowKit
set_option linter.unusedSimpArgs false
set_option linter.unusedVariables false

def idxB (s : ByteArray) (c : Int) : Int := Lib.indexByte s.data.toList c.toNat.toUInt8
def p118 : PrimT := fun vs gs => match vs, gs with
  | [.sc (.string s), .sc (.int .u8 c)], [] => (true, .sc (.int .i64 (idxB s c)), [])
  | _, _ => (false, .bad, [])
def p102 : PrimT := fun vs gs => match vs, gs with
  | [.sl 1 xs], [] => (decide (xs.length * 16 ≤ 140737488355328) && xs.all V.isStr, .sl 1 xs, [])
  | _, _ => (false, .bad, [])

set_option maxRecDepth 100000 in
theorem p118_ok : PrimOk Tryz.prog 118 p118 := by
  intro vs gs v gs' h args w F Rs hR hv
  unfold p118 at h
  split at h
  · next s c =>
    simp only [Prod.mk.injEq, true_and] at h
    obtain ⟨rfl, rfl⟩ := h
    obtain ⟨a, b, rfl, ha, hb⟩ := args2 hv
    obtain ⟨rfl, _⟩ := ha
    obtain ⟨rfl, _⟩ := hb
    refine enter_of_calls (fn := Tryz.f118) Tryz.func118 (by kernel_rfl) (by kernel_rfl) ?_
    refine (Tryz.stringslite_IndexByte s c w).mono ?_
    rintro e w' ⟨rfl, rfl⟩
    exact ⟨_, rfl, back_val rfl rfl hR (Below.refl _ _) ⟨rfl, rfl⟩⟩
  · cases h

theorem strs_of : ∀ {cs : List Value} {xs : List V} {w : World} {G : Nat → Prop}, RvL w G noGM cs xs → xs.all V.isStr = true → ∃ zs : List ByteArray, cs = zs.map Value.string ∧ xs = zs.map fun s => V.sc (.string s)
  | [], [], _, _, _, _ => ⟨[], rfl, rfl⟩
  | v :: cs, x :: xs, w, G, h, ha => by
    simp only [List.all_cons, Bool.and_eq_true] at ha
    obtain ⟨zs, h1, h2⟩ := strs_of h.2 ha.2
    have hx := isStr_eq ha.1
    have hv := h.1
    rw [hx] at hv
    obtain ⟨hv, _⟩ := hv
    exact ⟨x.strOf :: zs, by rw [h1, hv]; rfl, by rw [h2, List.map_cons, ← hx]⟩
  | [], _ :: _, _, _, h, _ => h.elim
  | _ :: _, [], _, _, h, _ => h.elim

theorem strs_rv {w : World} {G : Nat → Prop} : ∀ (zs : List ByteArray), RvL w G noGM (zs.map Value.string) (zs.map fun s => V.sc (.string s))
  | [] => trivial
  | z :: zs => ⟨⟨rfl, rfl⟩, strs_rv zs⟩

set_option maxRecDepth 100000 in
theorem p102_ok : PrimOk Tryz.prog 102 p102 := by
  intro vs gs v gs' h args w F Rs hR hv
  unfold p102 at h
  split at h
  · next xs =>
    simp only [Prod.mk.injEq, Bool.and_eq_true, decide_eq_true_eq] at h
    obtain ⟨⟨hbig, hstr⟩, rfl, rfl⟩ := h
    obtain ⟨a, rfl, ha⟩ := args1 hv
    refine enter_of_calls (fn := Tryz.f102) Tryz.func102 (by kernel_rfl) (by kernel_rfl) ?_
    rcases ha with ⟨rfl, rfl⟩ | ⟨ad, n, c, cs, rfl, k2, k3, k4, k5, k6, k7, k8, k9, k900010⟩
    · refine (Tryz.slices_Clone_string_nil 0 0 w).mono ?_
      rintro e w' ⟨rfl, rfl⟩
      exact ⟨_, rfl, back_val rfl rfl hR (Below.refl _ _) (.inl ⟨rfl, rfl⟩)⟩
    · rw [Nat.mul_one] at k4
      obtain ⟨zs, rfl, hxs⟩ := strs_of k8 hstr
      have hzl : zs.length = n := by rw [hxs, List.length_map] at k4; exact k4
      have fin : ∀ (w' : World) (v' : Value), w'.ownsRow w.heap.size 9 1 v' n (zs.map Value.string) → Below w.heap.size w w' → Rv w' (fun b => F.g b ∨ (w.heap.size ≤ b ∧ b < w'.heap.size)) noGM v' (.sl 1 xs) := by
        intro w' v' ho hb
        rw [hxs]
        obtain ⟨h1, ho⟩ := ho
        rcases ho with ⟨rfl, h0⟩ | ⟨g, cap, cur, h2, h3, h4, h5, h6, h7, h8⟩
        · refine .inl ⟨rfl, ?_⟩
          have : zs = [] := List.eq_nil_of_length_eq_zero (by omega)
          rw [this]; rfl
        · have hcl : ∀ (j : Nat) (z : Value), (zs.map Value.string)[j]? = some z → cur[j]? = some z := by
            intro j z hz
            rw [← h8, Nat.mul_one] at hz
            have hj : j < n := by
              rcases Nat.lt_or_ge j n with h | h
              · exact h
              · rw [List.getElem?_eq_none (by rw [List.length_take]; omega)] at hz; cases hz
            rw [List.getElem?_take_of_lt hj, Array.getElem?_toList] at hz
            exact hz
          have hgl : g < w'.heap.size := by
            rcases Nat.lt_or_ge g w'.heap.size with h | h
            · exact h
            · rw [Array.getElem?_eq_none h] at h4; cases h4
          refine .inr ⟨⟨g, 0, none⟩, n, cap, zs.map Value.string, h2, fun _ => rfl, h5, by rw [List.length_map, hzl, Nat.mul_one], Nat.one_pos, ?_, fun _ => .inr ⟨h3, hgl⟩, strs_rv zs, ?_, ?_⟩
          · intro j z hz
            have := hcl j z hz
            unfold World.cell?
            simp only [h4, Nat.zero_add]
            simpa using this
          · rw [← hxs]; exact k9
          · intro u hu; obtain ⟨z, _, rfl⟩ := List.mem_map.1 hu; rfl
      by_cases hn : n = 0
      · subst hn
        have hz : zs = [] := List.eq_nil_of_length_eq_zero hzl
        subst hz
        refine (Tryz.slices_Clone_string_zero ad c w).mono ?_
        rintro e w' ⟨v', rfl, ho, _, hb⟩
        exact ⟨_, rfl, back_val rfl rfl hR hb (fin w' v' (by simpa using ho) hb)⟩
      · have hxne : xs ≠ [] := by
          intro h; rw [h] at k4; exact hn k4.symm
        obtain ⟨b, off, sp⟩ := ad
        have hsp : sp = none := k2 hxne
        subst hsp
        have := Tryz.slices_Clone_string b off n c zs w (by omega) (by rw [← k4]; exact hbig) (by
          intro j hj
          refine k6 j _ ?_
          rw [List.getElem?_map, List.getD_eq_getElem?_getD, List.getElem?_eq_getElem hj]
          rfl)
        refine this.mono ?_
        rintro e w' ⟨v', rfl, ho, _, hb⟩
        rw [List.take_of_length_le (by omega)] at ho
        exact ⟨_, rfl, back_val rfl rfl hR hb (fin w' v' ho hb)⟩
  · cases h

def one1 (c : ByteArray) : Bool := match c.data.toList with
  | [_] => true
  | _ => false
def cntB (s c : ByteArray) : Int := match c.data.toList with
  | [b] => ((Lib.countByte s.data.toList b : Nat) : Int)
  | _ => 0
def p95 : PrimT := fun vs gs => match vs, gs with
  | [.sc (.string s), .sc (.string c)], [] => (one1 c, .sc (.int .i64 (cntB s c)), [])
  | _, _ => (false, .bad, [])
set_option maxRecDepth 100000 in
theorem p95_ok : PrimOk Tryz.prog 95 p95 := by
  intro vs gs v gs' h args w F Rs hR hv
  unfold p95 at h
  split at h
  · next s c =>
    simp only [Prod.mk.injEq] at h
    obtain ⟨ho, rfl, rfl⟩ := h
    obtain ⟨a, b, rfl, ha, hb⟩ := args2 hv
    obtain ⟨rfl, _⟩ := ha
    obtain ⟨rfl, _⟩ := hb
    obtain ⟨x, rfl⟩ : ∃ x : UInt8, c = ⟨#[x]⟩ := by
      unfold one1 at ho
      split at ho
      · next x hx => exact ⟨x, ba_ext hx⟩
      · cases ho
    refine enter_of_calls (fn := Tryz.f95) Tryz.func95 (by kernel_rfl) (by kernel_rfl) ?_
    refine (Tryz.strings_Count_one s x w).mono ?_
    rintro e w' ⟨rfl, rfl⟩
    exact ⟨_, rfl, back_val rfl rfl hR (Below.refl _ _) ⟨rfl, rfl⟩⟩
  · cases h
end Go.Ab
