/- What is on its way: cells are taken into the hand, frozen there, or put there. -/
import Derived.Test.YtnjgofgogeileaaE6
namespace Go.Ab
open Go

section
variable {P : Program} {w0 w : World} {F : FG} {rd regs : Nm → Option Rg} {G G' : Nat → Prop} {gm gm' : GM} {T : List Nm}

theorem hand_ok {row : List V} (h : Regs P w0 F (withHand rd row) w G gm) {R : RG} (hh : gm .hand = some R) : R.b = none ∧ OwnL w G P R.vals row R.sks := by
  obtain ⟨R', h1, h2⟩ := h.ok (withHand_hand rd row)
  rw [hh] at h1
  obtain rfl := Option.some.inj h1
  refine ⟨?_, h2.2.1⟩
  have := h2.1
  cases hb : R.b with
  | none => rfl
  | some b => rw [hb] at this; simp at this

/-- What is on its way last is taken for something else. -/
theorem hand_last {row : List V} {y y' : V} {vals : List Value} {v v' : Value} {sks : List Sk} {S S' : Sk}
    (h : Regs P w0 F (withHand rd (row ++ [y])) w G gm) (hh : gm .hand = some ⟨none, vals ++ [v], sks ++ [S]⟩) (hl : vals.length = row.length) (hls : sks.length = row.length)
    (hS : S'.fp.Sublist S.fp) (hG1 : ∀ b, G b → G' b) (hG2 : ∀ b, G' b → G b ∨ (b ∈ S.fp ∧ b ∉ S'.fp)) (ho : OwnC w G' P v' y' S') :
    Regs P w0 F (withHand rd (row ++ [y'])) w G' (setG gm .hand (some ⟨none, vals ++ [v'], sks ++ [S']⟩)) := by
  obtain ⟨_, hown⟩ := hand_ok h hh
  have hnd := h.nodup _ _ hh
  simp only [RG.fp, Option.toList_none, List.nil_append, fpL_append, fpL, List.append_nil] at hnd
  have hsplit : OwnL w G P vals row sks ∧ OwnC w G P v y S := by
    have key : ∀ (row : List V) (vals : List Value) (sks : List Sk), vals.length = row.length → sks.length = row.length →
        OwnL w G P (vals ++ [v]) (row ++ [y]) (sks ++ [S]) → OwnL w G P vals row sks ∧ OwnC w G P v y S := by
      intro row
      induction row with
      | nil =>
        intro vals sks h1 h2 h3
        obtain rfl := List.eq_nil_of_length_eq_zero h1
        obtain rfl := List.eq_nil_of_length_eq_zero h2
        exact ⟨trivial, h3.1⟩
      | cons x xs ih =>
        intro vals sks h1 h2 h3
        cases vals with
        | nil => simp at h1
        | cons u us =>
          cases sks with
          | nil => simp at h2
          | cons s ss =>
            have := ih us ss (by simpa using h1) (by simpa using h2) h3.2
            exact ⟨⟨h3.1, this.1⟩, this.2⟩
    exact key row vals sks hl hls hown
  have hin : ∀ b, InC (fun r => r = .hand) gm b ↔ b ∈ fpL sks ∨ b ∈ S.fp := by
    intro b
    constructor
    · rintro ⟨r, R, rfl, hr, hb⟩
      rw [hh] at hr
      obtain rfl := Option.some.inj hr
      simpa [RG.fp, fpL_append, fpL] using hb
    · intro hb
      exact ⟨.hand, _, rfl, hh, by simpa [RG.fp, fpL_append, fpL] using hb⟩
  refine h.change (fun r => r = .hand) (fun _ _ _ => rfl) rfl rfl rfl (Nat.le_refl _) ?_ ?_ ?_ ?_ ?_ hG1 ?_
  · intro r hr
    exact ⟨by rw [withHand_ne _ _ hr, withHand_ne _ _ hr], setG_ne _ _ hr⟩
  · rintro r rfl
    rw [withHand_hand, setG_self]
    refine ⟨rfl, ?_, fun b hb => by simp at hb⟩
    exact OwnL.append (OwnL.frame (fun _ _ => rfl) hG1 _ _ _ (fun _ _ => rfl) hsplit.1) ⟨ho, trivial⟩
  · rintro r R rfl hr
    rw [setG_self] at hr
    obtain rfl := Option.some.inj hr
    simp only [RG.fp, Option.toList_none, List.nil_append, fpL_append, fpL, List.append_nil]
    exact hnd.sublist (List.Sublist.append (List.Sublist.refl _) hS)
  · rintro r r' R R' rfl rfl hne
    exact absurd rfl hne
  · rintro r R b rfl hr hb
    rw [setG_self] at hr
    obtain rfl := Option.some.inj hr
    simp only [RG.fp, Option.toList_none, List.nil_append, fpL_append, fpL, List.append_nil, List.mem_append] at hb
    exact .inl ((hin b).2 (hb.imp id (fun h => hS.subset h)))
  · intro b hb
    rcases hG2 b hb with h1 | ⟨h1, h2⟩
    · exact .inl h1
    · refine .inr ⟨.inl ((hin b).2 (.inr h1)), h.lt hh b (by simpa [RG.fp, fpL_append, fpL] using Or.inr h1), ?_⟩
      rintro ⟨r, R, rfl, hr, hb'⟩
      rw [setG_self] at hr
      obtain rfl := Option.some.inj hr
      simp only [RG.fp, Option.toList_none, List.nil_append, fpL_append, fpL, List.append_nil, List.mem_append] at hb'
      rcases hb' with hb' | hb'
      · exact (List.nodup_append.1 hnd).2.2 b hb' b h1 rfl
      · exact h2 hb'

/-- A cell that owns nothing comes into the hand. -/
theorem hand_push {row : List V} {y : V} {vals : List Value} {v : Value} {sks : List Sk} {S : Sk}
    (h : Regs P w0 F (withHand rd row) w G gm) (hh : gm .hand = some ⟨none, vals, sks⟩) (hS : S.fp = []) (ho : OwnC w G P v y S) :
    Regs P w0 F (withHand rd (row ++ [y])) w G (setG gm .hand (some ⟨none, vals ++ [v], sks ++ [S]⟩)) := by
  obtain ⟨_, hown⟩ := hand_ok h hh
  have hin : ∀ b, InC (fun r => r = .hand) gm b ↔ b ∈ fpL sks := by
    intro b
    constructor
    · rintro ⟨r, R, rfl, hr, hb⟩
      rw [hh] at hr
      obtain rfl := Option.some.inj hr
      simpa [RG.fp] using hb
    · intro hb
      exact ⟨.hand, _, rfl, hh, by simpa [RG.fp] using hb⟩
  refine h.change (fun r => r = .hand) (fun _ _ _ => rfl) rfl rfl rfl (Nat.le_refl _) ?_ ?_ ?_ ?_ ?_ (fun _ h => h) (fun _ h => .inl h)
  · intro r hr
    exact ⟨by rw [withHand_ne _ _ hr, withHand_ne _ _ hr], setG_ne _ _ hr⟩
  · rintro r rfl
    rw [withHand_hand, setG_self]
    exact ⟨rfl, OwnL.append hown ⟨ho, trivial⟩, fun b hb => by simp at hb⟩
  · rintro r R rfl hr
    rw [setG_self] at hr
    obtain rfl := Option.some.inj hr
    have := h.nodup _ _ hh
    simpa [RG.fp, fpL_append, fpL, hS] using this
  · rintro r r' R R' rfl rfl hne
    exact absurd rfl hne
  · rintro r R b rfl hr hb
    rw [setG_self] at hr
    obtain rfl := Option.some.inj hr
    refine .inl ((hin b).2 ?_)
    simpa [RG.fp, fpL_append, fpL, hS] using hb

def Within (T : List Nm) (rd : Nm → Option Rg) : Prop := ∀ n, n.mem T = false → rd n = none

theorem Within.mem (h : Within T rd) {n : Nm} {g : Rg} (hn : rd n = some g) : n.mem T = true := by
  cases e : n.mem T
  · rw [h n e] at hn; cases hn
  · rfl

theorem mix_mem {n : Nm} (h : n.mem T = true) : mix T rd regs n = rd n := by simp [mix, h]
theorem mix_not {n : Nm} (h : n.mem T = false) : mix T rd regs n = regs n := by simp [mix, h]

theorem ownAt_some {q : Pl} {e : TypeId} {d : Bool} {xs : List V} (h : ownAt rd q = some (e, d, xs)) : ∃ rg, rd q.r = some rg ∧ getV q.p rg.row q.j = .own e d xs := by
  unfold ownAt at h
  cases hr : rd q.r with
  | none => rw [hr] at h; cases h
  | some rg =>
    rw [hr] at h
    refine ⟨rg, rfl, ?_⟩
    simp only at h
    cases hg : getV q.p rg.row q.j <;> rw [hg] at h <;> simp at h
    obtain ⟨rfl, rfl, rfl⟩ := h
    rfl

theorem ownB_some {q : Pl} (h : (ownB rd q).1 = true) : ∃ e d xs, q.e = e ∧ q.d = d ∧ (ownB rd q).2 = xs ∧ ownAt rd q = some (e, d, xs) := by
  refine ⟨_, _, _, rfl, rfl, rfl, ?_⟩
  unfold ownB at h ⊢
  unfold ownAt
  cases hr : rd q.r with
  | none => rw [hr] at h; cases h
  | some rg =>
    rw [hr] at h
    simp only at h ⊢
    cases hg : getV q.p rg.row q.j <;> rw [hg] at h <;> simp only [V.isOwnD] at h <;> try cases h
    next e d xs =>
      simp only [Bool.and_eq_true] at h
      have h1 := Nat.eq_of_beq_eq_true h.1
      have h2 : d = q.d := by simpa using h.2
      rw [h1, h2]
      rfl

/-- The own slice at a place comes into the hand. -/
theorem take_ok {row : List V} {vals : List Value} {sks : List Sk} {q : Pl} {e : TypeId} {d : Bool} {xs : List V}
    (h : Regs P w0 F (withHand (mix T rd regs) row) w G gm) (hh : gm .hand = some ⟨none, vals, sks⟩) (hT : Within T rd) (hTh : Nm.hand.mem T = false)
    (hq : ownAt rd q = some (e, d, xs)) :
    ∃ v gm1, OwnC w G P v (.own e d xs) (skAt gm q) ∧ skAt gm q ≠ .leaf ∧
      Regs P w0 F (withHand (mix T (takeAt rd q).1 regs) (row ++ [.own e d xs])) w G gm1 ∧
      gm1 .hand = some ⟨none, vals ++ [v], sks ++ [skAt gm q]⟩ ∧ Stay (takeAt rd q).2 gm gm1 ∧
      (∀ q' e' d' xs', ownAt (takeAt rd q).1 q' = some (e', d', xs') → skHead (skAt gm1 q') = skHead (skAt gm q')) ∧
      Within T (takeAt rd q).1 ∧ (∀ n, n ∉ (takeAt rd q).2.names → (takeAt rd q).1 n = rd n) := by
  obtain ⟨rg, hr, hx⟩ := ownAt_some hq
  have hm := hT.mem hr
  have hne : q.r ≠ .hand := fun e => by rw [e, hTh] at hm; cases hm
  have hreg : withHand (mix T rd regs) row q.r = some rg := by rw [withHand_ne _ _ hne, mix_mem hm, hr]
  obtain ⟨R, hR, hok⟩ := h.ok hreg
  obtain ⟨_, hown⟩ := hand_ok h hh
  have hsk : skAt gm q = getSk q.p R.sks q.j := by simp only [skAt, hR]
  obtain ⟨v, hv, hv0⟩ := OwnL.at q.p rg.row q.j R.vals R.sks hok.2.1 (by rw [hx]; simp)
  rw [hx, ← hsk] at hv
  have hleaf : skAt gm q ≠ .leaf := by intro e; rw [e] at hv; exact hv.elim
  obtain ⟨rest, hp1, hp2⟩ := getSk_perm q.p R.sks q.j (by rwa [← hsk])
  rw [← hsk] at hp1
  have hndR := h.nodup _ _ hR
  have hndH := h.nodup _ _ hh
  have hdj := h.disj _ _ _ _ hne hR hh
  simp only [RG.fp, Option.toList_none, List.nil_append] at hndH
  have hfpsub : ∀ b ∈ (skAt gm q).fp, b ∈ R.fp := fun b hb => by simp only [RG.fp, List.mem_append]; exact .inr (hp1.mem_iff.2 (List.mem_append_left _ hb))
  have hin : ∀ b, (b ∈ R.fp ∨ b ∈ fpL sks) → InC (fun r => r = q.r ∨ r = .hand) gm b := by
    rintro b (hb | hb)
    · exact ⟨q.r, R, .inl rfl, hR, hb⟩
    · exact ⟨.hand, _, .inr rfl, hh, by simpa [RG.fp] using hb⟩
  -- what is left of the region
  have step : ∀ (g' : Option Rg) (R' : Option RG), (match g', R' with | some rg, some R => RgOk w G P rg R | none, none => True | _, _ => False) →
      (∀ R1, R' = some R1 → (R1.fp.Nodup ∧ ∀ b ∈ R1.fp, b ∈ R.fp ∧ b ∉ (skAt gm q).fp) ∧ ∀ i, q.r = .par i → ParOk F i R1) →
      Regs P w0 F (withHand (mix T (setR rd q.r g') regs) (row ++ [.own e d xs])) w G
        (setG (setG gm q.r R') .hand (some ⟨none, vals ++ [v], sks ++ [skAt gm q]⟩)) := by
    intro g' R' hg' hR'
    refine h.change (fun r => r = q.r ∨ r = .hand) (fun _ _ _ => rfl) rfl rfl rfl (Nat.le_refl _) ?_ ?_ ?_ ?_ ?_ (fun _ h => h) (fun _ h => .inl h) ?_
    rotate_right
    · rintro i R1 (hi | hi) hr1
      · rw [hi, setG_ne _ _ hne, setG_self] at hr1
        exact (hR' R1 hr1).2 i hi.symm
      · cases hi
    · intro r hrr
      simp only [not_or] at hrr
      refine ⟨?_, by rw [setG_ne _ _ hrr.2, setG_ne _ _ hrr.1]⟩
      rw [withHand_ne _ _ hrr.2, withHand_ne _ _ hrr.2]
      simp only [mix, setR_ne _ _ hrr.1]
    · rintro r (rfl | rfl)
      · rw [withHand_ne _ _ hne, mix_mem hm, setR_self, setG_ne _ _ hne, setG_self]
        exact hg'
      · rw [withHand_hand, setG_self]
        exact ⟨rfl, OwnL.append hown ⟨hv, trivial⟩, fun b hb => by simp at hb⟩
    · rintro r R1 (rfl | rfl) hr1
      · rw [setG_ne _ _ hne, setG_self] at hr1
        exact (hR' R1 hr1).1.1
      · rw [setG_self] at hr1
        obtain rfl := Option.some.inj hr1
        simp only [RG.fp, Option.toList_none, List.nil_append, fpL_append, fpL, List.append_nil]
        refine List.nodup_append.2 ⟨hndH, ?_, ?_⟩
        · have : (fpL R.sks).Nodup := (List.nodup_append.1 hndR).2.1
          exact (List.nodup_append.1 (hp1.nodup_iff.1 this)).1
        · rintro b hb c hc rfl
          exact hdj b (hfpsub b hc) (by simpa [RG.fp] using hb)
    · rintro r r' R1 R2 (rfl | rfl) (rfl | rfl) hne' hr1 hr2 b hb hb'
      · exact hne' rfl
      · rw [setG_ne _ _ hne, setG_self] at hr1
        rw [setG_self] at hr2
        obtain rfl := Option.some.inj hr2
        simp only [RG.fp, Option.toList_none, List.nil_append, fpL_append, fpL, List.append_nil, List.mem_append] at hb'
        obtain ⟨h1, h2⟩ := (hR' R1 hr1).1.2 b hb
        rcases hb' with hb' | hb'
        · exact hdj b h1 (by simpa [RG.fp] using hb')
        · exact h2 hb'
      · rw [setG_ne _ _ hne, setG_self] at hr2
        rw [setG_self] at hr1
        obtain rfl := Option.some.inj hr1
        simp only [RG.fp, Option.toList_none, List.nil_append, fpL_append, fpL, List.append_nil, List.mem_append] at hb
        obtain ⟨h1, h2⟩ := (hR' R2 hr2).1.2 b hb'
        rcases hb with hb | hb
        · exact hdj b h1 (by simpa [RG.fp] using hb)
        · exact h2 hb
      · exact hne' rfl
    · rintro r R1 b (rfl | rfl) hr1 hb
      · rw [setG_ne _ _ hne, setG_self] at hr1
        exact .inl (hin b (.inl ((hR' R1 hr1).1.2 b hb).1))
      · rw [setG_self] at hr1
        obtain rfl := Option.some.inj hr1
        simp only [RG.fp, Option.toList_none, List.nil_append, fpL_append, fpL, List.append_nil, List.mem_append] at hb
        exact .inl (hin b (hb.elim .inr (fun h => .inl (hfpsub b h))))
  have hwithin : ∀ g', Within T (setR rd q.r g') := by
    intro g' n hn
    have : n ≠ q.r := fun e => by rw [e, hm] at hn; cases hn
    rw [setR_ne _ _ this]; exact hT n hn
  have handStay : ∀ (R' : Option RG) (q' : Pl), q'.r = .hand → skAt gm q' ≠ .leaf →
      skHead (skAt (setG (setG gm q.r R') .hand (some ⟨none, vals ++ [v], sks ++ [skAt gm q]⟩)) q') = skHead (skAt gm q') := by
    intro R' q' hq' hl
    simp only [skAt, hq', setG_self, hh] at hl ⊢
    have key : ∀ (p : List Nat) (sks : List Sk) (j : Nat) (s : Sk), getSk p sks j ≠ .leaf → getSk p (sks ++ [s]) j = getSk p sks j := by
      intro p sks j s hl
      have hj : j < sks.length := by
        rcases Nat.lt_or_ge j sks.length with h' | h'
        · exact h'
        · cases p with
          | nil => exact absurd (by simp only [getSk, nthS_out _ _ h']) hl
          | cons i p => exact absurd (by simp only [getSk, nthS_out _ _ h', skCells, getSk_nil]) hl
      have hn : ∀ (l : List Sk) (j : Nat), j < l.length → nthS (l ++ [s]) j = nthS l j := by
        intro l
        induction l with
        | nil => intro j h; simp at h
        | cons a l ih => intro j h; cases j with
          | zero => rfl
          | succ j => simpa using ih j (by simpa using h)
      cases p with
      | nil => simp only [getSk, hn _ _ hj]
      | cons i p => simp only [getSk, hn _ _ hj]
    rw [key _ _ _ _ hl]
  -- the part of the region, where it is not dropped
  have part : (q.p ≠ [] ∨ rg.box = true ∨ rg.row.length ≠ 1) → ∀ (kl : Kl), (kl = ⟨[q.r], [], []⟩ ∧ q.p ≠ [] ∨ kl = ⟨[], [q.r], []⟩) →
      ∃ gm1, Regs P w0 F (withHand (mix T (setR rd q.r ((rd q.r).map fun g => { g with row := setV q.p g.row q.j .bad })) regs) (row ++ [.own e d xs])) w G gm1 ∧
      gm1 .hand = some ⟨none, vals ++ [v], sks ++ [skAt gm q]⟩ ∧ Stay kl gm gm1 ∧
      (∀ q' e' d' xs', ownAt (setR rd q.r ((rd q.r).map fun g => { g with row := setV q.p g.row q.j .bad })) q' = some (e', d', xs') → skHead (skAt gm1 q') = skHead (skAt gm q')) ∧
      Within T (setR rd q.r ((rd q.r).map fun g => { g with row := setV q.p g.row q.j .bad })) ∧ (∀ n, n ∉ kl.names → (setR rd q.r ((rd q.r).map fun g => { g with row := setV q.p g.row q.j .bad })) n = rd n) := by
    intro hns kl hkl
    have hnd2 : (fpL R.sks).Nodup := (List.nodup_append.1 hndR).2.1
    have hput := OwnL.put (w' := w) (G' := G) (fun _ _ => rfl) (fun _ h => h) .bad .leaf e d xs q.p rg.row q.j R.vals R.sks hok.2.1 hnd2 hx
      (fun v hv => ⟨rfl, hv.one⟩) (fun _ _ _ => rfl)
    have hfp2 := hp2 .leaf
    simp only [Sk.fp, List.nil_append] at hfp2
    refine ⟨_, step _ (some { R with sks := setSk q.p R.sks q.j .leaf }) ?_ ?_, setG_self _ _ _, ?_, ?_, hwithin _, ?_⟩
    · rw [hr]
      exact ⟨hok.1, hput, fun b hb => ⟨(hok.2.2 b hb).1, (hok.2.2 b hb).2.of (fun k hk => setV_slf q.p rg.row q.j .bad (by simp) k hk)⟩⟩
    · rintro R1 rfl_
      obtain rfl := Option.some.inj rfl_
      have hnd1 := List.nodup_append.1 hndR
      have hnd3 := List.nodup_append.1 (hp1.nodup_iff.1 hnd2)
      refine ⟨⟨List.nodup_append.2 ⟨hnd1.1, hfp2.nodup_iff.2 hnd3.2.1, fun b hb c hc hbc => hnd1.2.2 b hb c (hp1.mem_iff.2 (List.mem_append_right _ (hfp2.mem_iff.1 hc))) hbc⟩, ?_⟩, ?_⟩
      rotate_left
      · intro i hi
        obtain ⟨hpb, hps⟩ := h.par i R (hi ▸ hR)
        refine ⟨hpb, fun s hs => ?_⟩
        obtain ⟨h1, h2, h3⟩ := hps s hs
        refine ⟨h1, h2, ?_⟩
        rcases hns with hns | hns | hns
        · cases hqp : q.p with
          | nil => exact absurd hqp hns
          | cons i p => rw [← h3]; exact put_head_root p i R.sks q.j 0 .leaf
        · rw [hok.1, h1] at hns; cases hns
        · exact absurd (by rw [← hok.2.1.length.1]; exact h2) hns
      intro b hb
      simp only [RG.fp, List.mem_append] at hb
      rcases hb with hb | hb
      · refine ⟨by simp only [RG.fp, List.mem_append]; exact .inl hb, fun hb' => ?_⟩
        exact hnd1.2.2 b hb b (hp1.mem_iff.2 (List.mem_append_left _ hb')) rfl
      · have hb2 := hfp2.mem_iff.1 hb
        refine ⟨by simp only [RG.fp, List.mem_append]; exact .inr (hp1.mem_iff.2 (List.mem_append_right _ hb2)), fun hb' => ?_⟩
        exact hnd3.2.2 b hb' b hb2 rfl
    · constructor
      · intro q' hq' hl
        by_cases hh' : q'.r = .hand
        · exact handStay _ q' hh' hl
        · by_cases hrr : q'.r = q.r
          · rcases hkl with ⟨rfl, hp⟩ | rfl
            · have hp' : q'.p = [] := by
                simp only [Kl.hits, hrr, Nm.mem, Nm.eq_self, Bool.or_false, Bool.and_true, Bool.false_or, Bool.not_eq_false', List.isEmpty_iff] at hq'
                exact hq'
              simp only [skAt, hrr, setG_ne _ _ hne, setG_self, hR, hp', getSk]
              cases hqp : q.p with
              | nil => exact absurd hqp hp
              | cons i p => exact put_head_root p i R.sks q.j q'.j .leaf
            · simp [Kl.hits, hrr, Nm.mem, Nm.eq_self] at hq'
          · rw [skAt_ne (gm := gm) (by rw [setG_ne _ _ hh', setG_ne _ _ hrr])]
      · intro r R1 b _ hr1 hb1
        by_cases hh' : r = .hand
        · subst hh'
          rw [hh] at hr1
          obtain rfl := Option.some.inj hr1
          simp at hb1
        · by_cases hrr : r = q.r
          · subst hrr
            rw [hR] at hr1
            obtain rfl := Option.some.inj hr1
            exact ⟨{ R with sks := setSk q.p R.sks q.j .leaf }, by rw [setG_ne _ _ hh', setG_self], hb1⟩
          · exact ⟨R1, by rw [setG_ne _ _ hh', setG_ne _ _ hrr]; exact hr1, hb1⟩
    · intro q' e' d' xs' hq'
      obtain ⟨rg', hr', hx'⟩ := ownAt_some hq'
      by_cases hrr : q'.r = q.r
      · rw [hrr, setR_self, hr] at hr'
        obtain rfl := Option.some.inj hr'
        have hh' : q'.r ≠ .hand := by rw [hrr]; exact hne
        simp only [skAt, hrr, setG_ne _ _ hne, setG_self, hR]
        exact put_head q.p q'.p R.vals rg.row R.sks q.j q'.j e' d' xs' hok.2.1 hx'
      · rw [setR_ne _ _ hrr] at hr'
        have hh' : q'.r ≠ .hand := fun e => by have := hT.mem hr'; rw [e, hTh] at this; cases this
        rw [skAt_ne (gm := gm) (by rw [setG_ne _ _ hh', setG_ne _ _ hrr])]
    · intro n hn
      have : n ≠ q.r := by
        rintro rfl
        rcases hkl with ⟨rfl, _⟩ | rfl <;> simp [Kl.names] at hn
      exact setR_ne _ _ this
  refine ⟨v, ?_⟩
  have hfin : ∀ (x : (Nm → Option Rg) × Kl), (∃ gm1, Regs P w0 F (withHand (mix T x.1 regs) (row ++ [.own e d xs])) w G gm1 ∧
      gm1 .hand = some ⟨none, vals ++ [v], sks ++ [skAt gm q]⟩ ∧ Stay x.2 gm gm1 ∧
      (∀ q' e' d' xs', ownAt x.1 q' = some (e', d', xs') → skHead (skAt gm1 q') = skHead (skAt gm q')) ∧
      Within T x.1 ∧ (∀ n, n ∉ x.2.names → x.1 n = rd n)) → ∃ gm1, OwnC w G P v (.own e d xs) (skAt gm q) ∧ skAt gm q ≠ .leaf ∧
      Regs P w0 F (withHand (mix T x.1 regs) (row ++ [.own e d xs])) w G gm1 ∧
      gm1 .hand = some ⟨none, vals ++ [v], sks ++ [skAt gm q]⟩ ∧ Stay x.2 gm gm1 ∧
      (∀ q' e' d' xs', ownAt x.1 q' = some (e', d', xs') → skHead (skAt gm1 q') = skHead (skAt gm q')) ∧
      Within T x.1 ∧ (∀ n, n ∉ x.2.names → x.1 n = rd n) := by
    rintro x ⟨gm1, h1, h2, h3, h4, h5, h6⟩
    exact ⟨gm1, hv, hleaf, h1, h2, h3, h4, h5, h6⟩
  refine hfin _ ?_
  unfold takeAt
  rw [hr]
  have other : (rg.box = true ∨ rg.row.length ≠ 1) → ∃ gm1, Regs P w0 F (withHand (mix T (setR rd q.r ((some rg).map fun g => { g with row := setV q.p g.row q.j .bad })) regs) (row ++ [.own e d xs])) w G gm1 ∧
      gm1 .hand = some ⟨none, vals ++ [v], sks ++ [skAt gm q]⟩ ∧ Stay (match q.p with | [] => ⟨[], [q.r], []⟩ | _ => ⟨[q.r], [], []⟩) gm gm1 ∧
      (∀ q' e' d' xs', ownAt (setR rd q.r ((some rg).map fun g => { g with row := setV q.p g.row q.j .bad })) q' = some (e', d', xs') → skHead (skAt gm1 q') = skHead (skAt gm q')) ∧
      Within T (setR rd q.r ((some rg).map fun g => { g with row := setV q.p g.row q.j .bad })) ∧
      (∀ n, n ∉ Kl.names (match q.p with | [] => ⟨[], [q.r], []⟩ | _ => ⟨[q.r], [], []⟩) → (setR rd q.r ((some rg).map fun g => { g with row := setV q.p g.row q.j .bad })) n = rd n) := by
    intro hns
    have := part (.inr hns) (match q.p with | [] => ⟨[], [q.r], []⟩ | _ => ⟨[q.r], [], []⟩) (by cases hqp : q.p <;> simp)
    rwa [hr] at this
  rcases rg with ⟨box, rrow⟩
  cases box with
  | true => exact other (.inl rfl)
  | false =>
    rcases rrow with _ | ⟨y0, _ | ⟨y1, tl⟩⟩
    · exact other (.inr (by simp))
    · cases hqp : q.p with
      | cons i p =>
        simp only
        have := part (.inl (by rw [hqp]; simp)) ⟨[q.r], [], []⟩ (.inl ⟨rfl, by rw [hqp]; simp⟩)
        rw [hr, hqp] at this
        exact this
      | nil =>
        simp only
        have hb : R.b = none := by
          have := hok.1
          cases hb : R.b with
          | none => rfl
          | some b => rw [hb] at this; simp at this
        refine ⟨_, step none none trivial (fun R1 h1 => by cases h1), setG_self _ _ _, ?_, ?_, hwithin _, ?_⟩
        · constructor
          · intro q' hq' hl
            by_cases hh' : q'.r = .hand
            · exact handStay _ q' hh' hl
            · have hrr : q'.r ≠ q.r := fun e => by simp [Kl.hits, e, Nm.mem, Nm.eq_self] at hq'
              rw [skAt_ne (gm := gm) (by rw [setG_ne _ _ hh', setG_ne _ _ hrr])]
          · intro r R1 b hk hr1 hb1
            have hrr : r ≠ q.r := fun e => by simp [e, Nm.mem, Nm.eq_self] at hk
            by_cases hh' : r = .hand
            · subst hh'
              rw [hh] at hr1
              obtain rfl := Option.some.inj hr1
              simp at hb1
            · exact ⟨R1, by rw [setG_ne _ _ hh', setG_ne _ _ hrr]; exact hr1, hb1⟩
        · intro q' e' d' xs' hq'
          obtain ⟨rg', hr', hx'⟩ := ownAt_some hq'
          have hrr : q'.r ≠ q.r := fun e => by rw [e, setR_self] at hr'; cases hr'
          rw [setR_ne _ _ hrr] at hr'
          have hh' : q'.r ≠ .hand := fun e => by have := hT.mem hr'; rw [e, hTh] at this; cases this
          rw [skAt_ne (gm := gm) (by rw [setG_ne _ _ hh', setG_ne _ _ hrr])]
        · intro n hn
          have : n ≠ q.r := by rintro rfl; simp [Kl.names] at hn
          exact setR_ne _ _ this
    · exact other (.inr (by simp))
end
end Go.Ab
