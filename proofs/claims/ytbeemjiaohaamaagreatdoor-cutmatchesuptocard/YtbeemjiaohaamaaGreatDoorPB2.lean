/- strings.Builder's copyCheck, taken by its contract: only the Builder's own address is written. -/
import Derived.Test.YtbeemjiaohaamaaGreatDoorP12
import Derived.Test.YtbeemjiaohaamaaGreatDoorSB2
namespace Go.Ab
open Go Go.Proofs Go.RowKit
set_option linter.unusedSimpArgs false
set_option linter.unusedVariables false

section
variable {P : Program} {w w' : World} {F : FG} {Rs : List RG} {x : V}

/-- A Builder that was handed in. -/
structure Bld (P : Program) (w : World) (F : FG) (Rs : List RG) (x : V) (b : Nat) (v0 v1 : Value) (s1 : Sk) (t : TypeId) : Prop where
  at0 : Rs[0]? = some ⟨some b, [v0, v1], [.leaf, s1]⟩
  heap : w.heap[b]? = some (.cells #[v0, v1] t (0, 0))
  self : selfT P t = true
  addr : v0 = .pointer none ∨ v0 = .pointer (some ⟨b, 0, none⟩)
  own : OwnC w F.g P v1 x s1

theorem bld_of {args : Array Value} (hR : Regs P w F (parR [⟨true, [.slf, x]⟩]) w F.g (parG Rs)) (hv : RvL w F.g (parG Rs) args.toList [.ptrB (.par 0) 0]) :
    ∃ b v0 v1 s1 t, args = #[.pointer (some ⟨b, 0, none⟩)] ∧ Bld P w F Rs x b v0 v1 s1 t := by
  obtain ⟨a, rfl, ha⟩ := args1 hv
  obtain ⟨R, b, h1, h2, rfl⟩ := ha
  obtain ⟨rg, h3, h4, h5, h6⟩ := hR.ok' h1
  have h3' : (some (⟨true, [.slf, x]⟩ : Rg)) = some rg := h3
  obtain rfl := Option.some.inj h3'
  obtain ⟨⟨t, ht, hty⟩, hs⟩ := h6 b h2
  obtain ⟨Rb, vals, sks⟩ := R
  simp only at h2 h5 ht hs
  subst h2
  rcases vals with _ | ⟨v0, _ | ⟨v1, _ | ⟨v2, vals⟩⟩⟩ <;> rcases sks with _ | ⟨s0, _ | ⟨s1, _ | ⟨s2, sks⟩⟩⟩ <;> simp only [OwnL, and_false, and_true] at h5
  obtain ⟨⟨rfl, _⟩, o1⟩ := h5
  refine ⟨b, v0, v1, s1, t, rfl, h1, ht, hty 0 rfl, ?_, o1⟩
  have := hs 0 rfl
  simpa using this

theorem bld_back {b : Nat} {v0 v1 : Value} {s1 : Sk} {t : TypeId} (hR : Regs P w F (parR [⟨true, [.slf, x]⟩]) w F.g (parG Rs)) (hB : Bld P w F Rs x b v0 v1 s1 t)
    (hw : ∀ k, k ≠ b → w'.heap[k]? = w.heap[k]?) (hb : w'.heap[b]? = some (.cells #[.pointer (some ⟨b, 0, none⟩), v1] t (0, 0))) (hsz : w'.heap.size = w.heap.size)
    (hos : w'.os = w.os) (htape : w'.tape = w.tape) (hout : w'.output = w.output) : Back P w F (.tp []) [⟨true, [.slf, x]⟩] (.tuple #[]) w' := by
  have hgm : parG Rs (.par 0) = some ⟨some b, [v0, v1], [.leaf, s1]⟩ := hB.at0
  have hnd := hR.nodup _ _ hgm
  have hbs : b ∉ s1.fp := by
    simp only [RG.fp, fpL, Sk.fp, Option.toList_some, List.nil_append, List.append_nil, List.cons_append, List.nodup_cons] at hnd
    exact hnd.1
  have hG : ¬ F.g b := hR.apart _ _ b hgm (by simp [RG.fp])
  have hin : InC (fun r => r = .hand ∨ r = .par 0) (parG Rs) b := ⟨.par 0, _, .inr rfl, hgm, by simp [RG.fp]⟩
  refine ⟨F.g, setG (setG (parG Rs) (.par 0) (some ⟨some b, [.pointer (some ⟨b, 0, none⟩), v1], [.leaf, s1]⟩)) .hand (some ⟨none, [], []⟩), ?_, ⟨#[], rfl, trivial⟩⟩
  have hl : ((V.tp []).land .hand 0).2 = [] := rfl
  rw [hl]
  have g0 : setG (setG (parG Rs) (.par 0) (some ⟨some b, [.pointer (some ⟨b, 0, none⟩), v1], [.leaf, s1]⟩)) .hand (some ⟨none, [], []⟩) (.par 0) = some ⟨some b, [.pointer (some ⟨b, 0, none⟩), v1], [.leaf, s1]⟩ := by
    rw [setG_ne _ _ (by simp), setG_self]
  have gh : setG (setG (parG Rs) (.par 0) (some ⟨some b, [.pointer (some ⟨b, 0, none⟩), v1], [.leaf, s1]⟩)) .hand (some ⟨none, [], []⟩) .hand = some ⟨none, [], []⟩ := setG_self _ _ _
  refine hR.change (fun r => r = .hand ∨ r = .par 0) ?_ hos htape hout (by omega) ?_ ?_ ?_ ?_ ?_ (fun _ h => h) (fun _ h => .inl h) ?_
  · intro k hk hn
    refine hw k (fun e => hn (e ▸ hin))
  · intro r hr
    refine ⟨withHand_ne _ _ (fun e => hr (.inl e)), ?_⟩
    rw [setG_ne _ _ (fun e => hr (.inl e)), setG_ne _ _ (fun e => hr (.inr e))]
  · rintro r (rfl | rfl)
    · rw [withHand_hand, gh]
      exact ⟨rfl, trivial, fun b hb => by cases hb⟩
    · rw [withHand_ne _ _ (by simp), g0]
      refine ⟨rfl, ?_, fun b' hb' => ?_⟩
      · refine ⟨⟨rfl, rfl⟩, ?_, trivial⟩
        refine OwnC.frame (fun k hk => hw k (fun e => hG (e ▸ hk))) (fun _ h => h) _ _ _ (fun k hk => hw k (fun e => hbs (e ▸ hk))) hB.own
      · obtain rfl := Option.some.inj hb'
        refine ⟨⟨t, hb, fun _ _ => hB.self⟩, fun k hk => ?_⟩
        match k, hk with
        | 0, _ => exact .inr rfl
        | 1, hk =>
          have hx : x = .slf := Option.some.inj hk
          have := hB.own
          have hpar := (hR.ok' hgm)
          obtain ⟨rg, q1, q2, q3, q4⟩ := hpar
          have q1' : (some (⟨true, [.slf, x]⟩ : Rg)) = some rg := q1
          obtain rfl := Option.some.inj q1'
          exact (q4 _ rfl).2 1 hk
  · rintro r R (rfl | rfl) h
    · rw [gh] at h; obtain rfl := Option.some.inj h; simp [RG.fp, fpL]
    · rw [g0] at h; obtain rfl := Option.some.inj h
      exact hnd
  · rintro r r' R R' (rfl | rfl) (rfl | rfl) hne h h' c hc
    · exact absurd rfl hne
    · rw [gh] at h; obtain rfl := Option.some.inj h; simp [RG.fp, fpL] at hc
    · rw [gh] at h'; obtain rfl := Option.some.inj h'; simp [RG.fp, fpL]
    · exact absurd rfl hne
  · rintro r R c (rfl | rfl) h hc
    · rw [gh] at h; obtain rfl := Option.some.inj h; simp [RG.fp, fpL] at hc
    · rw [g0] at h; obtain rfl := Option.some.inj h
      exact .inl ⟨.par 0, _, .inr rfl, hgm, hc⟩
  · rintro i R (h | h) hr
    · cases h
    · cases h
      rw [g0] at hr
      obtain rfl := Option.some.inj hr
      have := hR.par 0 _ hgm
      refine ⟨this.1, fun s hs => ?_⟩
      have := (this.2 s hs).1
      cases this
end

set_option maxRecDepth 100000 in
theorem selfT_all : ((List.range Tryz.prog.types.size).all fun t => !selfT Tryz.prog t || Nat.beq t 101) = true := by kernel_rfl
theorem selfT_only : ∀ t, selfT Tryz.prog t = true → t = 101 := by
  intro t h
  have hl : t < Tryz.prog.types.size := by
    unfold selfT at h
    rw [Bool.and_eq_true] at h
    exact nblt h.1
  have := List.all_eq_true.1 selfT_all t (List.mem_range.2 hl)
  rw [h] at this
  simpa using nbeq this

def p93 : PrimT := fun vs gs => match vs, gs with
  | [.ptrB (.par 0) 0], [⟨true, [.slf, x]⟩] => (true, .tp [], [⟨true, [.slf, x]⟩])
  | _, _ => (false, .bad, [])

set_option maxRecDepth 100000 in
theorem p93_ok : PrimOk Tryz.prog 93 p93 := by
  intro vs gs v gs' h args w F Rs hR hv
  unfold p93 at h
  split at h
  · next x =>
    simp only [Prod.mk.injEq, true_and] at h
    obtain ⟨rfl, rfl⟩ := h
    obtain ⟨b, v0, v1, s1, t, rfl, hB⟩ := bld_of hR hv
    obtain rfl := selfT_only t hB.self
    refine enter_of_calls (fn := Tryz.f93) Tryz.func93 (by kernel_rfl) (by kernel_rfl) ?_
    have hc0 : w.cell? ⟨b, 0, none⟩ = some v0 := by
      unfold World.cell?
      simp only [hB.heap]
      rfl
    rcases hB.addr with rfl | rfl
    · refine (Any.Builder_copyCheck_fresh Tryz.lays240 Tryz.x72 b w hc0 (by unfold World.shape?; simp only [hB.heap]; rfl) (by unfold World.frozen?; simp only [hB.heap]; rfl)).mono ?_
      rintro e w' ⟨rfl, rfl⟩
      refine ⟨_, rfl, bld_back hR hB (fun k hk => Below.heap_setCell _ _ _ _ hk) ?_ ?_ rfl rfl rfl⟩
      · simp only [World.setCell, Array.getElem?_modify, if_true, hB.heap, Option.map_some]
        rfl
      · simp [World.setCell]
    · refine (Any.Builder_copyCheck_used Tryz.lays240 Tryz.x72 b w hc0).mono ?_
      rintro e w' ⟨rfl, rfl⟩
      exact ⟨_, rfl, bld_back hR hB (fun _ _ => rfl) hB.heap rfl rfl rfl rfl⟩
  · cases h
end Go.Ab
