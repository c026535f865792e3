/- Results are taken. -/
import Derived.Test.YtnjgofgogeileaaE37
namespace Go.Ab
open Go
set_option linter.unusedSimpArgs false
set_option linter.unusedVariables false

section
variable {C : Cfg} {deep : TypeId → Bool} {w0 w : World} {F : FG} {N : Nat} {st : St} {a : Act} {G G0 : Nat → Prop} {gm gm0 : GM} {rd : Nm → Option Rg}

theorem takeRes_ok {row : List V} {vals : List Value} {sks : List Sk} {v : Value} {x : V} (h : Regs C.P w0 F (withHand rd row) w G gm) (hh : gm .hand = some ⟨none, vals, sks⟩) (hl : vals.length = row.length) (hls : sks.length = row.length)
    (hrd : rd .hand = none) (hTh : Nm.hand ∉ x.names) (hv : Rv w G0 gm0 v x) (hG0 : ∀ b, G0 b → G b) (hlive : Live rd gm0 gm) (hok : (takeRes C deep rd x).1 = true) :
    ∃ G' gm' ss, (∀ b, G b → G' b) ∧ Regs C.P w0 F (withHand (takeRes C deep rd x).2.2 (row ++ (absV C.P deep true (only x.names rd) x).xs)) w G' gm' ∧ gm' .hand = some ⟨none, vals ++ v.cells.toList, sks ++ ss⟩ ∧
      Live (takeRes C deep rd x).2.2 gm gm' ∧ (takeRes C deep rd x).2.2 .hand = none ∧ (∀ q t, ownAt (takeRes C deep rd x).2.2 q = some t → ∃ t', ownAt rd q = some t') ∧ (absV C.P deep true (only x.names rd) x).xs.length = v.cells.toList.length := by
  have hT : Nm.hand.mem x.names = false := (Nm.mem_false _ _).2 hTh
  have h' : Regs C.P w0 F (withHand (mix x.names (only x.names rd) rd) row) w G gm := by rw [mix_only]; exact h
  have hlive' : Live (only x.names rd) gm0 gm := by
    intro q e d xs hq
    refine hlive q e d xs ?_
    obtain ⟨rg, h1, h2⟩ := ownAt_some hq
    simp only [ownAt, only_some h1, h2]
  obtain ⟨htook, _⟩ := absV_ok (deep := deep) (keep := true) h' hh hl hls (only_within x.names rd) hT hv hG0 hlive' hok
  obtain ⟨G', gm', ss, k1, k2, k3, k4, k5⟩ := htook.ex
  refine ⟨G', gm', ss, k1, k2, k3, ?_, by simp only [takeRes, hT, cond_false]; exact hrd, ?_, htook.len⟩
  rotate_left
  · rintro q ⟨e, d, xs⟩ hq
    obtain ⟨rg, h1, h2⟩ := ownAt_some hq
    simp only [takeRes] at h1
    cases hm : q.r.mem x.names with
    | true =>
      rw [hm] at h1
      obtain ⟨⟨e', d', xs'⟩, ht⟩ := htook.own q (e, d, xs) (by simp only [ownAt]; rw [show (absV C.P deep true (only x.names rd) x).rd q.r = some rg from h1]; simp only [h2])
      obtain ⟨rg', g1, g2⟩ := ownAt_some ht
      exact ⟨(e', d', xs'), by simp only [ownAt, only_some g1, g2]⟩
    | false =>
      rw [hm] at h1
      exact ⟨(e, d, xs), by simp only [ownAt]; rw [show rd q.r = some rg from h1]; simp only [h2]⟩
  intro q e d xs hq
  obtain ⟨rg, h1, h2⟩ := ownAt_some hq
  simp only [takeRes] at h1
  cases hm : q.r.mem x.names with
  | true =>
    rw [hm] at h1
    exact k5 q e d xs (by simp only [ownAt]; rw [show (absV C.P deep true (only x.names rd) x).rd q.r = some rg from h1]; simp only [h2])
  | false =>
    rw [hm] at h1
    have hkn : q.r ∉ (absV C.P deep true (only x.names rd) x).k.names := by
      intro hk
      have := (absV_within (P := C.P) (deep := deep) (keep := true) (only_within x.names rd) x).2 q.r hk
      rw [hm] at this; cases this
    have hne : q.r ≠ .hand ∨ q.r = .hand := by by_cases e : q.r = .hand <;> simp [e]
    rcases hne with hne | hhd
    · obtain ⟨R, hR, hRok⟩ := h.ok (show withHand rd row q.r = some rg by rw [withHand_ne _ _ hne]; exact h1)
      obtain ⟨u, hu, _⟩ := OwnL.at q.p rg.row q.j R.vals R.sks hRok.2.1 (by rw [h2]; simp)
      rw [h2] at hu
      refine k4.own q (hits_false hkn) ?_
      simp only [skAt, hR]
      intro e'
      rw [e'] at hu; exact hu.elim
    · have h1 : rd q.r = some rg := h1
      rw [hhd, hrd] at h1; cases h1
end
end Go.Ab
