/- Cells of a slot's value are taken into the hand. -/
import Derived.Test.YtnjgofgogeileaaE7
namespace Go.Ab
open Go

theorem Kl.names_and (x y : Kl) (n : Nm) : n ∈ (x.and y).names ↔ n ∈ x.names ∨ n ∈ y.names := by
  simp only [Kl.names, Kl.and, List.mem_append]
  grind

section
variable {P : Program} {w0 w : World} {F : FG} {rd regs : Nm → Option Rg} {G G' : Nat → Prop} {gm gm' : GM} {T : List Nm} {deep : TypeId → Bool}

/-- The own slices that are still there are named as they were at the beginning. -/
def Live (rd : Nm → Option Rg) (gm0 gm : GM) : Prop := ∀ q e d xs, ownAt rd q = some (e, d, xs) → skHead (skAt gm q) = skHead (skAt gm0 q)

/-- What taking cells into the hand comes to. -/
structure Took (P : Program) (w0 w : World) (F : FG) (T : List Nm) (regs : Nm → Option Rg) (rd : Nm → Option Rg) (row : List V) (vals : List Value) (sks : List Sk) (G : Nat → Prop) (gm : GM)
    (a : Abs) (vs : List Value) : Prop where
  ex : ∃ G' gm' ss, (∀ b, G b → G' b) ∧ Regs P w0 F (withHand (mix T a.rd regs) (row ++ a.xs)) w G' gm' ∧ gm' .hand = some ⟨none, vals ++ vs, sks ++ ss⟩ ∧ Stay a.k gm gm' ∧ Live a.rd gm gm'
  len : a.xs.length = vs.length
  within : Within T a.rd
  same : ∀ n, n ∉ a.k.names → a.rd n = rd n
  own : ∀ q t, ownAt a.rd q = some t → ∃ t', ownAt rd q = some t'

theorem getV_setV_own : ∀ (p p' : List Nat) (row : List V) (j j' : Nat) (e : TypeId) (d : Bool) (xs : List V), getV p' (setV p row j .bad) j' = .own e d xs →
    ∃ e' d' xs', getV p' row j' = .own e' d' xs'
  | [], p', row, j, j', e, d, xs, h => by
    by_cases hj : j = j'
    · subst hj
      have hb : nthV (row.set j .bad) j = .bad := (nthV_set_self row j .bad).elim id id
      cases p' with
      | nil => simp only [getV, setV, hb] at h; cases h
      | cons i p => simp only [getV, setV, hb, ownXs, getV_nil] at h; cases h
    · refine ⟨e, d, xs, ?_⟩
      cases p' with
      | nil => simpa only [getV, setV, nthV_set_ne _ _ _ _ hj] using h
      | cons i p => simpa only [getV, setV, nthV_set_ne _ _ _ _ hj] using h
  | i :: p, p', row, j, j', e, d, xs, h => by
    by_cases hj : j = j'
    · subst hj
      by_cases hlt : j < row.length
      · cases p' with
        | nil =>
          simp only [getV, setV, nthV_set_lt _ _ _ hlt] at h ⊢
          cases hr : nthV row j with
          | own e1 d1 xs1 => exact ⟨_, _, _, rfl⟩
          | _ => rw [hr] at h; simp only [setOwn] at h; cases h
        | cons i' p' =>
          simp only [getV, setV, nthV_set_lt _ _ _ hlt] at h ⊢
          cases hr : nthV row j with
          | own e1 d1 xs1 =>
            rw [hr] at h
            simp only [setOwn, ownXs] at h ⊢
            exact getV_setV_own p p' xs1 i i' e d xs h
          | _ => rw [hr] at h; simp only [setOwn, ownXs, getV_nil] at h; cases h
      · have h1 : row.set j (setOwn (fun xs => setV p xs i .bad) (nthV row j)) = row := List.set_eq_of_length_le (by omega)
        rw [setV, h1] at h
        exact ⟨_, _, _, h⟩
    · refine ⟨e, d, xs, ?_⟩
      cases p' with
      | nil => simpa only [getV, setV, nthV_set_ne _ _ _ _ hj] using h
      | cons i p => simpa only [getV, setV, nthV_set_ne _ _ _ _ hj] using h

theorem takeAt_own {rd : Nm → Option Rg} {q q' : Pl} {t : TypeId × Bool × List V} (h : ownAt (takeAt rd q).1 q' = some t) : ∃ t', ownAt rd q' = some t' := by
  obtain ⟨e, d, xs⟩ := t
  obtain ⟨rg, hr, hx⟩ := ownAt_some h
  have part : ∀ (hr : setR rd q.r ((rd q.r).map fun g => { g with row := setV q.p g.row q.j .bad }) q'.r = some rg), ∃ t', ownAt rd q' = some t' := by
    intro hr
    by_cases hrr : q'.r = q.r
    · rw [hrr, setR_self] at hr
      cases hq : rd q.r with
      | none => rw [hq] at hr; cases hr
      | some g =>
        rw [hq] at hr
        obtain rfl := Option.some.inj hr
        obtain ⟨e', d', xs', h'⟩ := getV_setV_own q.p q'.p g.row q.j q'.j e d xs hx
        exact ⟨(e', d', xs'), by unfold ownAt; rw [hrr, hq]; simp only [h']⟩
    · rw [setR_ne _ _ hrr] at hr
      exact ⟨(e, d, xs), by unfold ownAt; rw [hr]; simp only [hx]⟩
  unfold takeAt at hr
  split at hr
  · exact ⟨(e, d, xs), by unfold ownAt; rw [show rd q'.r = some rg from hr]; simp only [hx]⟩
  · split at hr
    · replace hr : setR rd q.r none q'.r = some rg := hr
      by_cases hrr : q'.r = q.r
      · rw [hrr, setR_self] at hr; cases hr
      · rw [setR_ne _ _ hrr] at hr
        exact ⟨(e, d, xs), by unfold ownAt; rw [hr]; simp only [hx]⟩
    · exact part hr
  · exact part hr

theorem szT_pos_of {e : TypeId} {d : Bool} {xs : List V} {v : Value} {g n cap sz : Nat} {cs : List Sk} (h : OwnC w G P v (.own e d xs) (.node g n cap sz cs)) : 0 < szT P e ∧ szT P e = sz ∧ xs.length = n * sz := by
  obtain ⟨_, _, _, _, _, _, h5, h6, _, _, h9, _⟩ := h
  exact ⟨by omega, h6, h9⟩

theorem getSk_append : ∀ (p : List Nat) (sks : List Sk) (j : Nat) (t : List Sk), getSk p sks j ≠ .leaf → getSk p (sks ++ t) j = getSk p sks j := by
  intro p sks j t hl
  have hj : j < sks.length := by
    rcases Nat.lt_or_ge j sks.length with h' | h'
    · exact h'
    · cases p with
      | nil => exact absurd (by simp only [getSk, nthS_out _ _ h']) hl
      | cons i p => exact absurd (by simp only [getSk, nthS_out _ _ h', skCells, getSk_nil]) hl
  have hn : ∀ (l : List Sk) (j : Nat), j < l.length → nthS (l ++ t) j = nthS l j := by
    intro l
    induction l with
    | nil => intro j h; simp at h
    | cons a l ih => intro j h; cases j with
      | zero => rfl
      | succ j => simpa using ih j (by simpa using h)
  cases p with
  | nil => simp only [getSk, hn _ _ hj]
  | cons i p => simp only [getSk, hn _ _ hj]

/-- Names but the hand's stand, where only the hand is changed, and that behind what it held. -/
theorem hand_stay' {vals vals' : List Value} {sks t : List Sk} (hh : gm .hand = some ⟨none, vals, sks⟩) : Stay .no gm (setG gm .hand (some ⟨none, vals', sks ++ t⟩)) := by
  constructor
  · intro q _ hl
    by_cases hq : q.r = .hand
    · simp only [skAt, hq, setG_self, hh] at hl ⊢
      rw [getSk_append _ _ _ _ hl]
    · rw [skAt_ne (setG_ne _ _ hq)]
  · intro r R b _ h1 h2
    by_cases hr : r = .hand
    · subst hr; rw [hh] at h1; obtain rfl := Option.some.inj h1; simp at h2
    · exact ⟨R, by rw [setG_ne _ _ hr]; exact h1, h2⟩

theorem Live.of_stay (hs : Stay .no gm gm') (hr : ∀ q e d xs, ownAt rd q = some (e, d, xs) → skAt gm q ≠ .leaf) : Live rd gm gm' :=
  fun q e d xs hq => hs.own q (Kl.hits_no q) (hr q e d xs hq)

theorem Regs.own_leaf {row : List V} (h : Regs P w0 F (withHand (mix T rd regs) row) w G gm) (hT : Within T rd) (hTh : Nm.hand.mem T = false) {q : Pl} {e : TypeId} {d : Bool} {xs : List V}
    (hq : ownAt rd q = some (e, d, xs)) : skAt gm q ≠ .leaf ∧ ∃ v, OwnC w G P v (.own e d xs) (skAt gm q) := by
  obtain ⟨rg, hr, hx⟩ := ownAt_some hq
  have hm := hT.mem hr
  have hne : q.r ≠ .hand := fun e => by rw [e, hTh] at hm; cases hm
  obtain ⟨R, hR, hok⟩ := h.ok (show withHand (mix T rd regs) row q.r = some rg by rw [withHand_ne _ _ hne, mix_mem hm, hr])
  obtain ⟨v, hv, _⟩ := OwnL.at q.p rg.row q.j R.vals R.sks hok.2.1 (by rw [hx]; simp)
  have hsk : skAt gm q = getSk q.p R.sks q.j := by simp only [skAt, hR]
  rw [hx, ← hsk] at hv
  exact ⟨by intro e; rw [e] at hv; exact hv.elim, v, hv⟩

theorem Stay.no_trans {k : Kl} {gm'' : GM} (h : Stay k gm gm') (h' : Stay .no gm' gm'') : Stay k gm gm'' := by
  refine ⟨fun q hq hl => ?_, fun r R b hr h1 h2 => ?_⟩
  · have e := h.own q hq hl
    rw [← e]
    refine h'.own q (Kl.hits_no q) (fun e' => hl ?_)
    rw [e'] at e
    exact skHead_leaf.1 e.symm
  · obtain ⟨R', g1, g2⟩ := h.box r R b hr h1 h2
    exact h'.box r R' b (by simp [Kl.no, Nm.mem]) g1 g2

/-- An own slice that was taken, in any shape that owns no more. -/
theorem took_last {row : List V} {vals : List Value} {sks : List Sk} {q : Pl} {e : TypeId} {d : Bool} {xs : List V}
    (h : Regs P w0 F (withHand (mix T rd regs) row) w G gm) (hh : gm .hand = some ⟨none, vals, sks⟩) (hl : vals.length = row.length) (hls : sks.length = row.length)
    (hT : Within T rd) (hTh : Nm.hand.mem T = false) (hq : ownAt rd q = some (e, d, xs)) (y' : V) (v' : Value)
    (hy : ∀ v, OwnC w G P v (.own e d xs) (skAt gm q) → ∃ S' G', S'.fp.Sublist (skAt gm q).fp ∧ (∀ b, G b → G' b) ∧ (∀ b, G' b → G b ∨ (b ∈ (skAt gm q).fp ∧ b ∉ S'.fp)) ∧ OwnC w G' P v' y' S') :
    ∀ b, Took P w0 w F T regs rd row vals sks G gm ⟨b, [y'], (takeAt rd q).1, (takeAt rd q).2⟩ [v'] := by
  intro _
  obtain ⟨v, gm1, h1, h2, h3, h4, h5, h6, h7, h8⟩ := take_ok h hh hT hTh hq
  obtain ⟨S', G', k1, k2, k3, k4⟩ := hy v h1
  have hr := hand_last h3 h4 hl hls k1 k2 k3 k4
  have hst : ∀ (x : RG), (∃ a b, x = ⟨none, a, sks ++ [b]⟩) → ∀ q', q'.r = .hand → skAt gm q' ≠ .leaf → skHead (skAt (setG gm1 .hand (some x)) q') = skHead (skAt gm q') := by
    rintro x ⟨a, b, rfl⟩ q' hq' hle
    simp only [skAt, hq', setG_self, hh] at hle ⊢
    rw [getSk_append _ _ _ _ hle]
  refine ⟨⟨G', _, [S'], k2, hr, setG_self _ _ _, ?_, ?_⟩, rfl, h7, h8, fun _ _ h => takeAt_own h⟩
  · constructor
    · intro q' hq' hle
      by_cases hqh : q'.r = .hand
      · exact hst _ ⟨_, _, rfl⟩ q' hqh hle
      · rw [skAt_ne (gm := gm1) (setG_ne _ _ hqh)]; exact h5.own q' hq' hle
    · intro r R b hk g1 g2
      obtain ⟨R', g3, g4⟩ := h5.box r R b hk g1 g2
      by_cases hrh : r = .hand
      · subst hrh; rw [hh] at g1; obtain rfl := Option.some.inj g1; simp at g2
      · exact ⟨R', by rw [setG_ne _ _ hrh]; exact g3, g4⟩
  · intro q' e' d' xs' hq'
    have := h6 q' e' d' xs' hq'
    have hqh : q'.r ≠ .hand := by
      obtain ⟨rg', hr', _⟩ := ownAt_some hq'
      intro e; have := h7.mem hr'; rw [e, hTh] at this; cases this
    rw [skAt_ne (gm := gm1) (setG_ne _ _ hqh)]
    exact this

/-- A cell that owns nothing. -/
theorem took_push {row : List V} {vals : List Value} {sks : List Sk} (h : Regs P w0 F (withHand (mix T rd regs) row) w G gm) (hh : gm .hand = some ⟨none, vals, sks⟩)
    (hT : Within T rd) (hTh : Nm.hand.mem T = false) (y : V) (v : Value) (S : Sk) (hS : S.fp = []) (ho : OwnC w G P v y S) :
    ∀ b, Took P w0 w F T regs rd row vals sks G gm ⟨b, [y], rd, .no⟩ [v] := by
  intro _
  have hs := hand_stay' (vals' := vals ++ [v]) (t := [S]) hh
  exact ⟨⟨G, _, [S], fun _ h => h, hand_push h hh hS ho, setG_self _ _ _, hs, Live.of_stay hs (fun q e d xs hq => (h.own_leaf hT hTh hq).1)⟩, rfl, hT, fun _ _ => rfl, fun _ t h => ⟨t, h⟩⟩

theorem OwnC.of_imm {v : Value} {x : V} (h : Rv w G noGM v x) (hi : x.cim = true) : OwnC w G P v x .leaf := by
  cases x <;> first | (simp [V.cim, V.imm] at hi; done) | exact ⟨rfl, hi, h⟩

theorem cim_imm {x : V} (h : x.cim = true) : x.imm = true := by
  simp only [V.cim, Bool.and_eq_true] at h; exact h.2

theorem hdr_zero {g cap sz hi : Nat} {v : Value} (h : isHdr g cap sz 0 hi v) : v = .slice (some ⟨g, 0, none⟩) hi cap := by
  obtain ⟨o, h1, h2⟩ := h
  have := h2 (.inr rfl)
  simp only [Nat.zero_mul] at this
  subst this
  simpa using h1

/-- One cell of a slot's value. -/
theorem absC_ok {row : List V} {vals : List Value} {sks : List Sk} {keep : Bool} {v : Value} {x : V} {gm0 : GM} {G0 : Nat → Prop}
    (h : Regs P w0 F (withHand (mix T rd regs) row) w G gm) (hh : gm .hand = some ⟨none, vals, sks⟩) (hl : vals.length = row.length) (hls : sks.length = row.length)
    (hT : Within T rd) (hTh : Nm.hand.mem T = false)
    (hv : Rv w G0 gm0 v x) (hG0 : ∀ b, G0 b → G b) (hlive : Live rd gm0 gm) (hok : (absC P deep keep rd x).ok = true) :
    Took P w0 w F T regs rd row vals sks G gm (absC P deep keep rd x) [v] ∧ (keep = false → cimL (absC P deep keep rd x).xs = true) ∧ (absC P deep keep rd x).xs.length = 1 := by
  cases x with
  | nl e =>
    simp only [Rv] at hv
    subst hv
    cases keep with
    | true => exact ⟨took_push h hh hT hTh (.own e (deep e) []) (.slice none 0 0) .nil rfl ⟨rfl, rfl⟩ _, by simp, rfl⟩
    | false => exact ⟨took_push h hh hT hTh (.sl (szT P e) []) (.slice none 0 0) .leaf rfl ⟨rfl, rfl, .inl ⟨rfl, rfl⟩⟩ _, by simp [absC, cimL, V.cim, V.imm, V.isCell], rfl⟩
  | ref q =>
    simp only [absC] at hok ⊢
    obtain ⟨e, d, xs, he, hd, hxx, hq⟩ := ownB_some hok
    focus
      simp only [he, hd, hxx]
      have hhd := hlive q e d xs hq
      obtain ⟨hle, _⟩ := h.own_leaf hT hTh hq
      have hval : ∀ u, OwnC w G P u (.own e d xs) (skAt gm q) → u = v := by
        intro u hu
        have hn : nameRef gm q v := nameRef_head hhd hv
        unfold nameRef at hn
        cases hs : skAt gm q with
        | leaf => exact absurd hs hle
        | nil => rw [hs] at hn hu; exact hu.1.trans hn.symm
        | node g n cap sz cs => rw [hs] at hn hu; obtain ⟨_, _, h1, _⟩ := hu; exact h1.trans hn.symm
      cases keep with
      | true =>
        refine ⟨took_last h hh hl hls hT hTh hq _ v (fun u hu => ⟨skAt gm q, G, List.Sublist.refl _, fun _ h => h, fun _ h => .inl h, by rw [← hval u hu]; exact hu⟩) _, by simp, rfl⟩
      | false =>
        refine ⟨took_last h hh hl hls hT hTh hq _ v (fun u hu => ⟨.leaf, fun b => G b ∨ b ∈ (skAt gm q).fp, by simp [Sk.fp], fun _ h => .inl h, ?_, ?_⟩) _, by simp [cimL, frz_imm], rfl⟩
        · rintro b (hb | hb)
          · exact .inl hb
          · exact .inr ⟨hb, by simp [Sk.fp]⟩
        · rw [← hval u hu]
          exact OwnC.of_imm (OwnC.frz (fun _ h => .inl h) _ _ _ hu (fun k hk => .inr hk)) (frz_imm e d xs)
  | vw q lo hi =>
    simp only [absC] at hok ⊢
    rw [Bool.and_eq_true] at hok
    obtain ⟨hok1, hok⟩ := hok
    obtain ⟨e, d, xs, he, hd, hxx, hq⟩ := ownB_some hok1
    focus
      simp only [he, hd, hxx]
      have hhd := hlive q e d xs hq
      obtain ⟨hle, _⟩ := h.own_leaf hT hTh hq
      have hn : nameVw gm q lo hi v := nameVw_head hhd hv
      unfold nameVw at hn
      cases keep with
      | true =>
        simp only [Bool.not_true, Bool.false_or] at hok
        have hlo : lo = 0 := by simpa using hok
        subst hlo
        refine ⟨took_last h hh hl hls hT hTh hq _ v (fun u hu => ?_) _, by simp, rfl⟩
        cases hs : skAt gm q with
        | leaf => exact absurd hs hle
        | nil =>
          rw [hs] at hn hu
          obtain ⟨_, rfl, rfl⟩ := hn
          obtain ⟨_, rfl⟩ := hu
          exact ⟨.nil, G, by simp [Sk.fp], fun _ h => h, fun _ h => .inl h, ⟨rfl, by simp⟩⟩
        | node g n cap sz cs =>
          rw [hs] at hn hu
          obtain ⟨_, hn2, hn3⟩ := hn
          obtain ⟨cur, fr, h1, h2, h3, h4, h5, h6, h7, h8, h9, h10, h11⟩ := hu
          have hle : hi * sz ≤ n * sz := Nat.mul_le_mul_right _ hn2
          refine ⟨.node g hi cap sz (cs.take (hi * sz)), G, ?_, fun _ h => h, fun _ h => .inl h, ?_⟩
          · simp only [Sk.fp]; exact List.Sublist.cons_cons _ (fpL_take_sub _ _)
          · refine ⟨cur, fr, hdr_zero hn3, h2, h3, h4, h5, h6, Nat.le_trans hn2 h7, h8, ?_, ?_, ?_⟩
            · simp [h6, h9, hle]
            · have := h10.take (hi * sz)
              rw [List.take_take, Nat.min_eq_left hle] at this
              simpa [h6] using this
            · intro hd
              have hi' := h11 hd
              simpa [h6] using cibL_take xs (hi * sz) hi'
      | false =>
        refine ⟨took_last h hh hl hls hT hTh hq _ v (fun u hu => ⟨.leaf, fun b => G b ∨ b ∈ (skAt gm q).fp, by simp [Sk.fp], fun _ h => .inl h, ?_, ?_⟩) _, by simp [cimL, frz_imm], rfl⟩
        · rintro b (hb | hb)
          · exact .inl hb
          · exact .inr ⟨hb, by simp [Sk.fp]⟩
        · refine OwnC.of_imm ?_ (frz_imm e d _)
          cases hs : skAt gm q with
          | leaf => exact absurd hs hle
          | nil =>
            rw [hs] at hn hu
            obtain ⟨rfl, rfl, rfl⟩ := hn
            obtain ⟨_, rfl⟩ := hu
            refine .inl ⟨rfl, ?_⟩
            cases d <;> simp [frzL]
          | node g n cap sz cs =>
            rw [hs] at hn hu
            obtain ⟨hn1, hn2, oo, rfl, hn3⟩ := hn
            obtain ⟨cur, fr, h1, h2, h3, h4, h5, h6, h7, h8, h9, h10, h11⟩ := hu
            have hfrz := OwnC.frz (G' := fun b => G b ∨ b ∈ (Sk.node g n cap sz cs).fp) (fun _ h => .inl h) (.own e d xs) _ (.node g n cap sz cs) ⟨cur, fr, h1, h2, h3, h4, h5, h6, h7, h8, h9, h10, h11⟩ (fun k hk => .inr hk)
            -- the cells of the whole, frozen
            obtain ⟨ys, hys, hyl, hyc⟩ : ∃ ys, Ab.frz P (.own e d ((xs.drop (lo * szT P e)).take ((hi - lo) * szT P e))) = .sl sz ((ys.drop (lo * sz)).take ((hi - lo) * sz)) ∧
                (RvL w (fun b => G b ∨ b ∈ (Sk.node g n cap sz cs).fp) noGM (cur.toList.take (n * sz)) ys) ∧ cibL ys = true := by
              have fd : ∀ (l : List V) (k : Nat), frzL P (l.drop k) = (frzL P l).drop k := by
                intro l
                induction l with
                | nil => intro k; cases k <;> simp [frzL]
                | cons a l ih => intro k; cases k with
                  | zero => rfl
                  | succ k => simpa [frzL] using ih k
              have ft : ∀ (l : List V) (k : Nat), frzL P (l.take k) = (frzL P l).take k := by
                intro l
                induction l with
                | nil => intro k; cases k <;> simp [frzL]
                | cons a l ih => intro k; cases k with
                  | zero => rfl
                  | succ k => simpa [frzL] using ih k
              cases d with
              | true => exact ⟨frzL P xs, by simp [Ab.frz, h6, fd, ft], OwnL.frz (fun _ h => .inl h) xs _ cs h10 (fun k hk => .inr (by simp [Sk.fp, hk])), h10.cib⟩
              | false => exact ⟨xs, by simp [Ab.frz, h6], OwnL.imm (fun _ h => .inl h) xs _ cs h10 (h11 rfl), h11 rfl⟩
            rw [hys]
            have hyn : ys.length = n * sz := by
              have := hyl.length
              rw [← this, h10.length.1, h9]
            have hm : (hi - lo) * sz ≤ (n - lo) * sz := Nat.mul_le_mul_right _ (by omega)
            have hm2 : (n - lo) * sz = n * sz - lo * sz := Nat.sub_mul _ _ _
            have rd1 : ∀ (l : List V) (m : List Value) (k : Nat), RvL w (fun b => G b ∨ b ∈ (Sk.node g n cap sz cs).fp) noGM m l → RvL w (fun b => G b ∨ b ∈ (Sk.node g n cap sz cs).fp) noGM (m.drop k) (l.drop k) := by
              intro l
              induction l with
              | nil => intro m k hr; rw [RvL.nil_of hr]; cases k <;> exact trivial
              | cons a l ih => intro m k hr; cases m with
                | nil => exact hr.elim
                | cons b m => cases k with
                  | zero => exact hr
                  | succ k => exact ih m k hr.2
            have rt1 : ∀ (l : List V) (m : List Value) (k : Nat), RvL w (fun b => G b ∨ b ∈ (Sk.node g n cap sz cs).fp) noGM m l → RvL w (fun b => G b ∨ b ∈ (Sk.node g n cap sz cs).fp) noGM (m.take k) (l.take k) := by
              intro l
              induction l with
              | nil => intro m k hr; rw [RvL.nil_of hr]; cases k <;> exact trivial
              | cons a l ih => intro m k hr; cases m with
                | nil => exact hr.elim
                | cons b m => cases k with
                  | zero => exact trivial
                  | succ k => exact ⟨hr.1, ih m k hr.2⟩
            refine .inr ⟨⟨g, oo, none⟩, hi - lo, cap - lo, ((cur.toList.take (n * sz)).drop (lo * sz)).take ((hi - lo) * sz), rfl, fun _ => rfl, by omega, ?_, h5, ?_, ?_, rt1 _ _ _ (rd1 _ _ _ hyl), cibL_take _ _ (cibL_drop _ _ hyc), fun u hu => h10.one u (List.mem_of_mem_drop (List.mem_of_mem_take hu))⟩
            · simp only [List.length_take, List.length_drop, hyn]; omega
            · intro j u hu
              rw [List.getElem?_take] at hu
              split at hu
              · rename_i hj
                rw [List.getElem?_drop, List.getElem?_take] at hu
                split at hu
                · have hne : ¬ cap = lo := by
                    intro e
                    have : hi - lo = 0 := by omega
                    rw [this] at hj; simp at hj
                  rw [hn3 (.inl hne)]
                  simp only [World.cell?, h2]
                  simpa using hu
                · cases hu
              · cases hu
            · intro _
              right
              simp [Sk.fp]
  | sc u => exact ⟨took_push h hh hT hTh _ _ .leaf rfl (OwnC.of_imm (Rv.frame (fun _ _ => rfl) hG0 gm0 noGM _ v (fun n hn => by simp [V.names] at hn) hv) hok) _, fun _ => by simp [absC, cimL, V.cim, V.imm, V.isCell], rfl⟩
  | sl sz xs => exact ⟨took_push h hh hT hTh _ _ .leaf rfl (OwnC.of_imm (Rv.frame (fun _ _ => rfl) hG0 gm0 noGM _ v (fun n hn => by simp [V.names] at hn) hv) hok) _, fun _ => by simp [absC, cimL, V.cim, V.imm, V.isCell], rfl⟩
  | own e d xs => cases hok
  | slf => cases hok
  | ag xs => cases hok
  | tp xs => cases hok
  | fn f a b =>
    have hi : (V.fn f a b).imm = true := cim_imm hok
    exact ⟨took_push h hh hT hTh _ _ .leaf rfl (OwnC.of_imm (Rv.frame (fun _ _ => rfl) hG0 gm0 noGM _ v (fun n hn => by rw [imm_names _ hi] at hn; simp at hn) hv) hok) _, fun _ => by simp only [absC, cimL, Bool.and_true]; exact hok, rfl⟩
  | ifc t y =>
    have hi : (V.ifc t y).imm = true := cim_imm hok
    exact ⟨took_push h hh hT hTh _ _ .leaf rfl (OwnC.of_imm (Rv.frame (fun _ _ => rfl) hG0 gm0 noGM _ v (fun n hn => by rw [imm_names _ hi] at hn; simp at hn) hv) hok) _, fun _ => by simp only [absC, cimL, Bool.and_true]; exact hok, rfl⟩
  | ptrB r j => cases hok
  | ptrE q i off => cases hok
  | pim n xs off => exact ⟨took_push h hh hT hTh _ _ .leaf rfl (OwnC.of_imm (Rv.frame (fun _ _ => rfl) hG0 gm0 noGM _ v (fun n hn => by simp [V.names] at hn) hv) hok) _, fun _ => by simp [absC, cimL, V.cim, V.imm, V.isCell], rfl⟩
  | bad => cases hok

theorem cimL_append (a b : List V) : cimL (a ++ b) = (cimL a && cimL b) := by
  induction a with
  | nil => simp [cimL]
  | cons x a ih => simp [cimL, ih, Bool.and_assoc]

theorem Live.trans {rd' : Nm → Option Rg} {gm0 : GM} (h : Live rd gm0 gm) (h' : Live rd' gm gm') (ho : ∀ q t, ownAt rd' q = some t → ∃ t', ownAt rd q = some t') : Live rd' gm0 gm' := by
  intro q e d xs hq
  obtain ⟨⟨e', d', xs'⟩, hq'⟩ := ho q _ hq
  rw [h' q e d xs hq, h q e' d' xs' hq']

theorem Took.nil {row : List V} {vals : List Value} {sks : List Sk} (h : Regs P w0 F (withHand (mix T rd regs) row) w G gm) (hh : gm .hand = some ⟨none, vals, sks⟩) (hT : Within T rd) :
    ∀ b, Took P w0 w F T regs rd row vals sks G gm ⟨b, [], rd, .no⟩ [] :=
  fun _ => ⟨⟨G, gm, [], fun _ h => h, by simpa using h, by simpa using hh, Stay.refl _ _, fun _ _ _ _ _ => rfl⟩, rfl, hT, fun _ _ => rfl, fun _ t h => ⟨t, h⟩⟩

theorem Took.trans {row : List V} {vals : List Value} {sks : List Sk} {a b : Abs} {vs vs' : List Value} {G1 : Nat → Prop} {gm1 : GM} {ss : List Sk}
    (ha : Took P w0 w F T regs rd row vals sks G gm a vs) (hG : ∀ b, G b → G1 b) (hs : Stay a.k gm gm1) (hl : Live a.rd gm gm1)
    (hb : Took P w0 w F T regs a.rd (row ++ a.xs) (vals ++ vs) (sks ++ ss) G1 gm1 b vs') :
    ∀ o, Took P w0 w F T regs rd row vals sks G gm ⟨o, a.xs ++ b.xs, b.rd, a.k.and b.k⟩ (vs ++ vs') := by
  intro o
  obtain ⟨G2, gm2, ss2, h1, h2, h3, h4, h5⟩ := hb.ex
  refine ⟨⟨G2, gm2, ss ++ ss2, fun b hb => h1 b (hG b hb), by simpa [List.append_assoc] using h2, by simpa [List.append_assoc] using h3, hs.trans h4, hl.trans h5 hb.own⟩, ?_, hb.within, ?_, ?_⟩
  · simp [ha.len, hb.len]
  · intro n hn
    rw [Kl.names_and, not_or] at hn
    rw [hb.same n hn.2, ha.same n hn.1]
  · intro q t hq
    obtain ⟨t', hq'⟩ := hb.own q t hq
    exact ha.own q t' hq'

theorem absL_ok {keep : Bool} {gm0 : GM} {G0 : Nat → Prop} : ∀ (xs : List V) (vs : List Value) {rd : Nm → Option Rg} {G : Nat → Prop} {gm : GM} {row : List V} {vals : List Value} {sks : List Sk}
    (_ : Regs P w0 F (withHand (mix T rd regs) row) w G gm) (_ : gm .hand = some ⟨none, vals, sks⟩) (_ : vals.length = row.length) (_ : sks.length = row.length)
    (_ : Within T rd) (_ : Nm.hand.mem T = false)
    (_ : RvL w G0 gm0 vs xs) (_ : ∀ b, G0 b → G b) (_ : Live rd gm0 gm) (_ : (absL P deep keep xs rd).ok = true),
    Took P w0 w F T regs rd row vals sks G gm (absL P deep keep xs rd) vs ∧ (keep = false → cimL (absL P deep keep xs rd).xs = true)
  | [], [], rd, G, gm, row, vals, sks, h, hh, hl, hls, hT, hTh, _, _, _, _ => ⟨Took.nil h hh hT _, fun _ => rfl⟩
  | x :: xs, v :: vs, rd, G, gm, row, vals, sks, h, hh, hl, hls, hT, hTh, hv, hG0, hlive, hok => by
    simp only [absL, Bool.and_eq_true] at hok ⊢
    obtain ⟨h1, i1, n1⟩ := absC_ok (deep := deep) (keep := keep) h hh hl hls hT hTh hv.1 hG0 hlive hok.1
    obtain ⟨G1, gm1, ss1, k1, k2, k3, k4, k5⟩ := h1.ex
    have hlen := h1.len
    obtain ⟨hb0, hown⟩ := hand_ok k2 k3
    have hss : (sks ++ ss1).length = (row ++ (absC P deep keep rd x).xs).length := hown.length.2
    obtain ⟨h2, i2⟩ := absL_ok xs vs k2 k3 (by simp only [List.length_append, hl, hlen]) hss h1.within hTh hv.2 (fun b hb => k1 b (hG0 b hb)) (hlive.trans k5 h1.own) hok.2
    refine ⟨h1.trans k1 k4 k5 h2 _, fun hk => ?_⟩
    rw [cimL_append, i1 hk, i2 hk]; rfl
  | [], _ :: _, _, _, _, _, _, _, _, _, _, _, _, _, hv, _, _, _ => hv.elim
  | _ :: _, [], _, _, _, _, _, _, _, _, _, _, _, _, hv, _, _, _ => hv.elim

/-- A slot's value, as cells. -/
theorem absV_ok {row : List V} {vals : List Value} {sks : List Sk} {keep : Bool} {v : Value} {x : V} {gm0 : GM} {G0 : Nat → Prop}
    (h : Regs P w0 F (withHand (mix T rd regs) row) w G gm) (hh : gm .hand = some ⟨none, vals, sks⟩) (hl : vals.length = row.length) (hls : sks.length = row.length)
    (hT : Within T rd) (hTh : Nm.hand.mem T = false)
    (hv : Rv w G0 gm0 v x) (hG0 : ∀ b, G0 b → G b) (hlive : Live rd gm0 gm) (hok : (absV P deep keep rd x).ok = true) :
    Took P w0 w F T regs rd row vals sks G gm (absV P deep keep rd x) v.cells.toList ∧ (keep = false → cimL (absV P deep keep rd x).xs = true) := by
  cases x with
  | ag xs =>
    obtain ⟨cs, rfl, h2⟩ := hv
    exact absL_ok xs cs.toList h hh hl hls hT hTh h2 hG0 hlive hok
  | _ =>
    have hc : v.cells.toList = [v] := by
      have key : ∀ cs : Array Value, v ≠ .agg cs := by
        rintro cs rfl
        clear h hh hl hls hlive
        simp only [Rv] at hv <;> revert hok <;> first
          | (obtain ⟨hv, hf⟩ := hv; subst hv; cases hf; done)
          | (intro hok; cases hok; done)
          | (cases hv; done)
          | (rcases hv with ⟨hv, _⟩ | ⟨_, _, _, _, hv, _⟩ <;> cases hv; done)
          | (obtain ⟨_, hv, _⟩ := hv; cases hv; done)
          | (obtain ⟨_, _, hv, _⟩ := hv; cases hv; done)
          | (obtain ⟨_, _, _, hv, _⟩ := hv; cases hv; done)
          | (unfold nameRef at hv; split at hv <;> first | (cases hv; done) | exact hv.elim)
          | (unfold nameVw at hv; split at hv <;> first | (cases hv.2.2; done) | (obtain ⟨_, _, _, hv, _⟩ := hv; cases hv; done) | exact hv.elim)
      cases v <;> first | rfl | exact absurd rfl (key _)
    rw [hc]
    have := absC_ok (deep := deep) (keep := keep) h hh hl hls hT hTh hv hG0 hlive hok
    exact ⟨this.1, this.2.1⟩
end
end Go.Ab
