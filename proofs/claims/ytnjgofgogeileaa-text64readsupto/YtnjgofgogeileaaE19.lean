/- Appending. -/
import Derived.Test.YtnjgofgogeileaaE18
namespace Go.Ab
open Go
set_option linter.unusedSimpArgs false
set_option linter.unusedVariables false

section
variable {P : Program} {w0 w : World} {F : FG} {N : Nat} {st : St} {a : Act} {G : Nat → Prop} {gm : GM} {deep : TypeId → Bool} {T : List Nm} {rd regs : Nm → Option Rg}

theorem RvL.own {vs : List Value} {xs : List V} (h : RvL w G noGM vs xs) (hc : cibL xs = true) (h1 : ∀ u ∈ vs, u.oneCell' = true) : ∃ ss, fpL ss = [] ∧ OwnL w G P vs xs ss := by
  induction vs generalizing xs with
  | nil => cases xs with
    | nil => exact ⟨[], rfl, trivial⟩
    | cons x xs => exact h.elim
  | cons v vs ih => cases xs with
    | nil => exact h.elim
    | cons x xs =>
      simp only [cibL, Bool.and_eq_true] at hc
      obtain ⟨ss, h2, h3⟩ := ih h.2 hc.2 (fun u hu => h1 u (by simp [hu]))
      refine ⟨.leaf :: ss, by simp [fpL, Sk.fp, h2], ?_, h3⟩
      rcases cib_or hc.1 with rfl | hc'
      · exact ⟨rfl, h1 v (by simp)⟩
      · exact OwnC.of_imm h.1 hc'

theorem bytesV_length (s : ByteArray) : (bytesV s).length = s.size := by
  rw [bytesV, List.length_map, Array.length_toList]; rfl

theorem bytesV_cib (s : ByteArray) : cibL (bytesV s) = true := by
  unfold bytesV
  induction s.data.toList with
  | nil => rfl
  | cons b l ih => simpa [cibL, V.cib, V.cim, V.isCell, V.imm] using ih

theorem OwnL.leafs {vs : List Value} {xs : List V} {ss : List Sk} (h : OwnL w G P vs xs ss) (hc : cibL xs = true) : fpL ss = [] := by
  induction vs generalizing xs ss with
  | nil => cases xs with
    | nil => cases ss with
      | nil => rfl
      | cons s ss => simp [OwnL] at h
    | cons x xs => simp [OwnL] at h
  | cons v vs ih => cases xs with
    | nil => simp [OwnL] at h
    | cons x xs => cases ss with
      | nil => simp [OwnL] at h
      | cons s ss =>
        simp only [cibL, Bool.and_eq_true] at hc
        have hs : s = .leaf := by
          have h1 := h.1
          cases x <;> first | (simp [V.cib, V.cim, V.imm] at hc; done) | exact h1.1
        subst hs
        simp [fpL, Sk.fp, ih h.2 hc.2]

theorem bytesV_own (s : ByteArray) : ∃ ss, fpL ss = [] ∧ OwnL w G P (Lib.strCells s) (bytesV s) ss := by
  refine RvL.own ?_ ?_ (Lib.strCells_oneCell s)
  · unfold Lib.strCells bytesV
    induction s.data.toList with
    | nil => exact trivial
    | cons b l ih => exact ⟨⟨rfl, rfl⟩, ih⟩
  · exact bytesV_cib s

/-- What is read of a slice's cells. -/
structure SlRd (P : Program) (w : World) (G : Nat → Prop) (v : Value) (sz : Nat) (d : Bool) (xs : List V) (fp : List Nat) (m : Nat) (news : List Value) (cs : List Sk) : Prop where
  hlen : (Builtin.lenOf v).run P w = .ok m w
  first : ∀ w', w'.heap = w.heap → (Builtin.firstCells sz m v).run P w' = .ok news.toArray w'
  num : news.length = m * sz
  own : OwnL w G P news xs cs
  sub : ∀ b ∈ fpL cs, b ∈ fp
  nd : fp.Nodup → (fpL cs).Nodup
  cib : d = false → cibL xs = true

theorem cell_of_heap {w w' : World} (h : w'.heap = w.heap) (a : Addr) : w'.cell? a = w.cell? a := by
  simp only [World.cell?, h]

theorem SlRd.of_slice {ad : Option Addr} {m c sz : Nat} {news : List Value} {d : Bool} {xs : List V} {fp : List Nat} {cs : List Sk}
    (h1 : ad = none → news = []) (h2 : ∀ a, ad = some a → (news ≠ [] → a.spot = none) ∧ CellsAt w a news) (hn : news.length = m * sz) (ho : OwnL w G P news xs cs) (hs : ∀ b ∈ fpL cs, b ∈ fp) (hd : fp.Nodup → (fpL cs).Nodup) (hc : d = false → cibL xs = true) :
    SlRd P w G (.slice ad m c) sz d xs fp m news cs := by
  refine ⟨rfl, fun w' hw => ?_, hn, ho, hs, hd, hc⟩
  cases ad with
  | none => rw [h1 rfl]; exact run_firstCells_none w' sz m m c
  | some a =>
    obtain ⟨h3, h4⟩ := h2 a rfl
    refine run_firstCells_some (P := P) w' sz m a m c news hn (fun j v hj => ?_)
    have h3 := h3 (by rintro rfl; simp at hj)
    obtain ⟨b, o, sp⟩ := a
    simp only at h3
    subst h3
    rw [add_addr, cell_of_heap hw]
    exact h4 j v hj

theorem node_cells {g n cap sz : Nat} {e : TypeId} {d : Bool} {xs : List V} {cs : List Sk} {v : Value} (h : OwnC w G P v (.own e d xs) (.node g n cap sz cs)) :
    ∃ cur fr, v = .slice (some ⟨g, 0, none⟩) n cap ∧ w.heap[g]? = some (.cells cur e fr) ∧ (cur.toList.take (n * sz)).length = n * sz ∧ OwnL w G P (cur.toList.take (n * sz)) xs cs ∧ CellsAt w ⟨g, 0, none⟩ (cur.toList.take (n * sz)) ∧ szT P e = sz ∧ 0 < sz ∧
      xs.length = n * sz ∧ n ≤ cap ∧ (d = false → cibL xs = true) := by
  obtain ⟨cur, fr, h1, h2, h3, h4, h5, h6, h7, h8, h9, h10, h11⟩ := h
  refine ⟨cur, fr, h1, h2, by rw [h10.length.1, h9], h10, ?_, h6, h5, h9, h7, h11⟩
  intro j u hu
  rw [List.getElem?_take] at hu
  split at hu
  · simp only [World.cell?, h2, Nat.zero_add]
    simpa using hu
  · cases hu

theorem OwnL.drop {vs : List Value} {xs : List V} {ss : List Sk} (h : OwnL w G P vs xs ss) (k : Nat) : OwnL w G P (vs.drop k) (xs.drop k) (ss.drop k) := by
  induction vs generalizing xs ss k with
  | nil => cases xs with
    | nil => cases ss with
      | nil => cases k <;> exact trivial
      | cons s ss => simp [OwnL] at h
    | cons x xs => simp [OwnL] at h
  | cons v vs ih => cases xs with
    | nil => simp [OwnL] at h
    | cons x xs => cases ss with
      | nil => simp [OwnL] at h
      | cons s ss => cases k with
        | zero => exact h
        | succ k => exact ih h.2 k

theorem fpL_drop_sub : ∀ (ss : List Sk) (k : Nat), (fpL (ss.drop k)).Sublist (fpL ss)
  | [], k => by cases k <;> exact List.Sublist.refl _
  | s :: ss, 0 => List.Sublist.refl _
  | s :: ss, k + 1 => (fpL_drop_sub ss k).trans (by simp only [fpL]; exact List.sublist_append_right _ _)

/-- A slice's cells, read as they lie. -/
theorem sliOf_ok {e : TypeId} {v : Value} {x : V} {G0 : Nat → Prop} {gm0 : GM} (hv : Rv w G0 gm0 v x) (hG0 : ∀ b, G0 b → G b) (hlive : Live rd gm0 gm)
    (hown : ∀ q e d xs, ownAt rd q = some (e, d, xs) → skAt gm q ≠ .leaf ∧ ∃ v, OwnC w G P v (.own e d xs) (skAt gm q)) (hsz : 0 < szT P e)
    (hok : (sliOf P rd e x).ok = true) :
    ∃ m news cs, SlRd P w G v (szT P e) (sliOf P rd e x).d (sliOf P rd e x).xs (match x with | .ref q => (skAt gm q).fp | .vw q _ _ => (skAt gm q).fp | _ => []) m news cs := by
  have nil : ∀ (d : Bool) (fp : List Nat), v = .slice none 0 0 → SlRd P w G v (szT P e) d [] fp 0 [] [] := by
    rintro d fp rfl
    exact SlRd.of_slice (fun _ => rfl) (fun a h => by cases h) (by simp) trivial (fun b hb => by simp [fpL] at hb) (fun _ => by simp [fpL]) (fun _ => rfl)
  cases x <;> try (cases hok; done)
  case nl e' => exact ⟨0, [], [], nil _ _ hv⟩
  case sl sz xs =>
    have hsz' := nbeq hok
    subst hsz'
    rcases hv with ⟨rfl, rfl⟩ | ⟨ad, n, c, cs, rfl, k2, k3, k4, k5, k6, k7, k8, k9, k10⟩
    · exact ⟨0, [], [], nil _ _ rfl⟩
    · obtain ⟨ss, h1, h2⟩ := RvL.own (P := P) (G := G) (RvL.frame (fun _ _ => rfl) hG0 noGM noGM xs cs (fun _ _ => rfl) k8) k9 k10
      refine ⟨n, cs, ss, SlRd.of_slice (fun h => by cases h) (fun a h => ?_) (by rw [k8.length, k4]) h2 (fun b hb => by rw [h1] at hb; simp at hb) (fun _ => by rw [h1]; exact List.nodup_nil) (fun _ => k9)⟩
      obtain rfl := Option.some.inj h
      exact ⟨fun hc => k2 (by rintro rfl; exact hc (List.eq_nil_of_length_eq_zero (by have := k8.length; simpa using this))), k6⟩
  case ref q =>
    simp only [sliOf] at hok ⊢
    rw [Bool.and_eq_true] at hok
    obtain ⟨e', d, xs, hqe, hqd, hqx, hq⟩ := ownB_some hok.1
    focus
      have he := nbeq hok.2
      rw [hqe] at he
      subst he
      simp only [hqd, hqx]
      obtain ⟨hl, u, hu⟩ := hown q e' d xs hq
      have hn : nameRef gm q v := nameRef_head (hlive q e' d xs hq) hv
      unfold nameRef at hn
      cases hs : skAt gm q with
      | leaf => exact absurd hs hl
      | nil =>
        rw [hs] at hn hu
        obtain ⟨_, rfl⟩ := hu
        exact ⟨0, [], [], nil _ _ hn⟩
      | node g n cap sz cs =>
        rw [hs] at hn hu
        obtain ⟨cur, fr, h1, h2, h3, h4, h5, h6, h7, h8, h80, h9⟩ := node_cells hu
        simp only at hn
        subst hn
        subst h6
        refine ⟨n, _, cs, SlRd.of_slice (fun h => by cases h) (fun a h => ?_) h3 h4 (fun b hb => by simp [Sk.fp, hb]) (fun h => by simp only [Sk.fp, List.nodup_cons] at h; exact h.2) h9⟩
        obtain rfl := Option.some.inj h
        exact ⟨fun _ => rfl, h5⟩
  case vw q lo hi =>
    simp only [sliOf] at hok ⊢
    rw [Bool.and_eq_true] at hok
    obtain ⟨e', d, xs, hqe, hqd, hqx, hq⟩ := ownB_some hok.1
    focus
      have he := nbeq hok.2
      rw [hqe] at he
      subst he
      simp only [hqd, hqx]
      obtain ⟨hl, u, hu⟩ := hown q e' d xs hq
      have hn : nameVw gm q lo hi v := nameVw_head (hlive q e' d xs hq) hv
      unfold nameVw at hn
      cases hs : skAt gm q with
      | leaf => exact absurd hs hl
      | nil =>
        rw [hs] at hn hu
        obtain ⟨rfl, rfl, hn⟩ := hn
        obtain ⟨_, rfl⟩ := hu
        simp only [List.drop_nil, List.take_nil]
        exact ⟨0, [], [], nil _ _ hn⟩
      | node g n cap sz cs =>
        rw [hs] at hn hu
        obtain ⟨hn1, hn2, oo, rfl, hn3⟩ := hn
        obtain ⟨cur, fr, h1, h2, h3, h4, h5, h6, h7, h8, h80, h9⟩ := node_cells hu
        subst h6
        have hm : (hi - lo) * szT P e' ≤ n * szT P e' - lo * szT P e' := by rw [← Nat.sub_mul]; exact Nat.mul_le_mul_right _ (by omega)
        have hle : (cs.drop (lo * szT P e')).take ((hi - lo) * szT P e') = (cs.drop (lo * szT P e')).take ((hi - lo) * szT P e') := rfl
        refine ⟨hi - lo, _, _, SlRd.of_slice (fun h => by cases h) (fun a h => ?_) (by rw [List.length_take, List.length_drop, h3]; omega) ((h4.drop (lo * szT P e')).take ((hi - lo) * szT P e'))
          (fun b hb => by
            have := ((fpL_take_sub _ _).trans (fpL_drop_sub _ _)).subset hb
            simp [Sk.fp, this]) (fun h => by simp only [Sk.fp, List.nodup_cons] at h; exact ((fpL_take_sub _ _).trans (fpL_drop_sub _ _)).nodup h.2) (fun hd => cibL_take _ _ (cibL_drop _ _ (h9 hd)))⟩
        obtain rfl := Option.some.inj h
        refine ⟨fun _ => rfl, fun j u hu => ?_⟩
        have hj : j < (hi - lo) * szT P e' := by
          rcases Nat.lt_or_ge j ((hi - lo) * szT P e') with h' | h'
          · exact h'
          · rw [List.getElem?_take, if_neg (by omega)] at hu; cases hu
        rw [List.getElem?_take_of_lt hj, List.getElem?_drop] at hu
        have hne : ¬ cap = lo := by
          intro e
          have : hi - lo = 0 := by omega
          rw [this] at hj; simp at hj
        rw [hn3 (.inl hne)]
        have := h5 _ _ hu
        simpa using this

/-- The cells that are appended. -/
theorem srcOf_ok {e : TypeId} {keep : Bool} {v : Value} {x : V} {G0 : Nat → Prop} {gm0 : GM} {row : List V} {vals : List Value} {sks : List Sk}
    (h : Regs P w0 F (withHand (mix T rd regs) row) w G gm) (hh : gm .hand = some ⟨none, vals, sks⟩) (hT : Within T rd) (hTh : Nm.hand.mem T = false)
    (hv : Rv w G0 gm0 v x) (hG0 : ∀ b, G0 b → G b) (hlive : Live rd gm0 gm) (hsz : 0 < szT P e) (hok : (srcOf P rd e keep x).ok = true) :
    ∃ gm' row' vals' so m news cs, Regs P w0 F (withHand (mix T (srcOf P rd e keep x).rd regs) (row ++ row')) w G gm' ∧ gm' .hand = some ⟨none, vals ++ vals', sks ++ so⟩ ∧ vals'.length = row'.length ∧ Stay (srcOf P rd e keep x).k gm gm' ∧
      Live (srcOf P rd e keep x).rd gm gm' ∧ Within T (srcOf P rd e keep x).rd ∧ (∀ n, n ∉ (srcOf P rd e keep x).k.names → (srcOf P rd e keep x).rd n = rd n) ∧ (∀ n, n ∈ (srcOf P rd e keep x).k.names → n.mem T = true) ∧
      (∀ q t, ownAt (srcOf P rd e keep x).rd q = some t → ∃ t', ownAt rd q = some t') ∧ SlRd P w G v (szT P e) keep (srcOf P rd e keep x).xs (fpL so) m news cs := by
  have plain : ∀ {ys : List V} {m : Nat} {news : List Value} {cs : List Sk}, SlRd P w G v (szT P e) keep ys [] m news cs →
    ∃ gm' row' vals' so m news cs, Regs P w0 F (withHand (mix T rd regs) (row ++ row')) w G gm' ∧ gm' .hand = some ⟨none, vals ++ vals', sks ++ so⟩ ∧ vals'.length = row'.length ∧ Stay Kl.no gm gm' ∧
      Live rd gm gm' ∧ Within T rd ∧ (∀ n, n ∉ Kl.no.names → rd n = rd n) ∧ (∀ n, n ∈ Kl.no.names → n.mem T = true) ∧
      (∀ q t, ownAt rd q = some t → ∃ t', ownAt rd q = some t') ∧ SlRd P w G v (szT P e) keep ys (fpL so) m news cs := by
    intro ys m news cs hr
    exact ⟨gm, [], [], [], m, news, cs, by simpa using h, by simpa using hh, rfl, Stay.refl _ _, fun _ _ _ _ _ => rfl, hT, fun _ _ => rfl, fun n hn => (no_names hn).elim, fun q t ht => ⟨t, ht⟩, hr⟩
  by_cases hstr : ∃ s, x = .sc (.string s)
  · obtain ⟨s, rfl⟩ := hstr
    obtain ⟨rfl, _⟩ := hv
    have h1 := nbeq hok
    obtain ⟨ss, h2, h3⟩ := bytesV_own (w := w) (G := G) (P := P) s
    refine plain (m := s.size) (news := Lib.strCells s) (cs := ss) ⟨rfl, fun w' _ => Lib.run_firstCells_string w' _ s, by rw [Lib.strCells_length, h1]; omega, h3, fun b hb => by rw [h2] at hb; exact hb, fun _ => by rw [h2]; exact List.nodup_nil, fun _ => bytesV_cib s⟩
  · have hun : srcOf P rd e keep x = (bif (sliOf P rd e x).d then srcDeep (sliOf P rd e x) keep rd x else ⟨(sliOf P rd e x).ok, (sliOf P rd e x).xs, rd, .no⟩) := by
      unfold srcOf
      split
      · next s => exact absurd ⟨s, rfl⟩ hstr
      · rfl
    rw [hun] at hok ⊢
    cases hd : (sliOf P rd e x).d with
    | false =>
      rw [hd] at hok
      simp only [cond_false] at hok ⊢
      obtain ⟨m, news, cs, hr⟩ := sliOf_ok hv hG0 hlive (fun q e d xs hq => h.own_leaf hT hTh hq) hsz hok
      rw [hd] at hr
      have hf := hr.own.leafs (hr.cib rfl)
      have := plain (m := m) (news := news) (cs := cs) ⟨hr.hlen, hr.first, hr.num, hr.own, fun b hb => by rw [hf] at hb; exact hb, fun _ => by rw [hf]; exact List.nodup_nil, fun _ => hr.cib rfl⟩
      simpa only [implies_true] using this
    | true =>
      rw [hd] at hok
      simp only [cond_true] at hok ⊢
      cases x <;> try (cases hok; done)
      rename_i q
      simp only [srcDeep, Bool.and_eq_true] at hok ⊢
      obtain ⟨m, news, cs, hr⟩ := sliOf_ok hv hG0 hlive (fun q e d xs hq => h.own_leaf hT hTh hq) hsz hok.1
      obtain ⟨e', d', xs', hqe, hqd, hqx, hq⟩ : ∃ e d xs, q.e = e ∧ q.d = d ∧ (ownB rd q).2 = xs ∧ ownAt rd q = some (e, d, xs) := by
        refine ownB_some ?_
        have := hok.1
        simp only [sliOf, Bool.and_eq_true] at this
        exact this.1
      obtain ⟨u, gm1, h1, h2, h3, h4, h5, h6, h7, h8⟩ := take_ok h hh hT hTh hq
      refine ⟨gm1, [.own e' d' xs'], [u], [skAt gm q], m, news, cs, h3, h4, rfl, h5, fun q' e'' d'' xs'' hq' => h6 q' e'' d'' xs'' hq', h7, h8, fun n hn => ?_, fun q' t' ht' => takeAt_own ht', ?_⟩
      · obtain ⟨rfl, rg, hr'⟩ := takeAt_names rd q n hn
        exact hT.mem hr'
      · have hk := hok.2
        subst hk
        rw [hd] at hr
        refine ⟨hr.hlen, hr.first, hr.num, hr.own, fun b hb => by simpa [fpL] using hr.sub b hb, fun hn => hr.nd (by simpa [fpL] using hn), fun h => by cases h⟩
end
end Go.Ab
