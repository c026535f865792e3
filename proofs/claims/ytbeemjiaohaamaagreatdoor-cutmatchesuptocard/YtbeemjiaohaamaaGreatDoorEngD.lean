/- The engine, part D: an abstract machine for Go code in its Lean form, and that what it computes is what the code does. -/
import Derived.Test.YtbeemjiaohaamaaGreatDoorEngC
import Derived.OpenShut
import Derived.ChangeArms
import Derived.ChangeShapes
import Derived.ChangeSame
import Derived.WideKeyArgs
import Derived.Below
import Derived.Test.YtbeemjiaohaamaaGreatDoorRows
import Derived.RowKit
import Derived.Carry
import Derived.WalkKit
import Derived.ProofKit
import Derived.KernelRfl
import Derived.IntWalk
import Derived.Laws.Strings
/- Own slices that go out as values. -/
namespace Go.Ab
open Go
set_option linter.unusedSimpArgs false
set_option linter.unusedVariables false

section
variable {P : Program} {w0 w : World} {F : FG} {N : Nat} {st : St} {a : Act} {G : Nat → Prop} {gm : GM}

/-- Some own slices are values now. -/
def CoeR (P : Program) : List V → List V → Prop
  | [], [] => True
  | x :: xs, y :: ys => (y = x ∨ ∃ e d zs, x = .own e d zs ∧ y = Ab.frz P x) ∧ CoeR P xs ys
  | _, _ => False

theorem CoeR.refl : ∀ xs : List V, CoeR P xs xs
  | [] => trivial
  | _ :: xs => ⟨.inl rfl, CoeR.refl xs⟩
theorem CoeR.append : ∀ {xs ys xs' ys' : List V}, CoeR P xs ys → CoeR P xs' ys' → CoeR P (xs ++ xs') (ys ++ ys')
  | [], [], _, _, _, h => h
  | _ :: _, _ :: _, _, _, h, h' => ⟨h.1, CoeR.append h.2 h'⟩
  | [], _ :: _, _, _, h, _ => h.elim
  | _ :: _, [], _, _, h, _ => h.elim

theorem retire : ∀ (xs ys : List V) (vals : List Value) (sks : List Sk), OwnL w G P vals xs sks → (fpL sks).Nodup → CoeR P xs ys →
    ∃ sks' : List Sk, (fpL sks').Sublist (fpL sks) ∧ ∀ G' : Nat → Prop, (∀ b, G b → G' b) → (∀ b ∈ fpL sks, b ∉ fpL sks' → G' b) → OwnL w G' P vals ys sks'
  | [], [], [], [], _, _, _ => ⟨[], List.Sublist.refl _, fun _ _ _ => trivial⟩
  | x :: xs, y :: ys, v :: vals, s :: sks, h, hnd, hc => by
    simp only [fpL, List.nodup_append] at hnd
    obtain ⟨sks', h1, h2⟩ := retire xs ys vals sks h.2 hnd.2.1 hc.2
    rcases hc.1 with rfl | ⟨e, d, zs, rfl, rfl⟩
    · refine ⟨s :: sks', ?_, fun G' hG hf => ⟨OwnC.frame (fun _ _ => rfl) hG _ _ _ (fun _ _ => rfl) h.1, h2 G' hG (fun b hb hn => hf b ?_ ?_)⟩⟩
      · simp only [fpL]; exact List.Sublist.append (List.Sublist.refl _) h1
      · simp only [fpL, List.mem_append]; exact .inr hb
      · simp only [fpL, List.mem_append, not_or]
        exact ⟨fun hs => hnd.2.2 b hs b hb rfl, hn⟩
    · refine ⟨.leaf :: sks', ?_, fun G' hG hf => ⟨OwnC.of_imm (OwnC.frz hG _ _ _ h.1 (fun k hk => hf k ?_ ?_)) (frz_imm e d zs), h2 G' hG (fun b hb hn => hf b ?_ ?_)⟩⟩
      · simp only [fpL, Sk.fp, List.nil_append]; exact h1.trans (List.sublist_append_right _ _)
      · simp only [fpL, List.mem_append]; exact .inl hk
      · simp only [fpL, Sk.fp, List.nil_append]
        exact fun hm => hnd.2.2 k hk k (h1.subset hm) rfl
      · simp only [fpL, List.mem_append]; exact .inr hb
      · simp only [fpL, Sk.fp, List.nil_append]; exact hn
  | [], _ :: _, _, _, _, _, h => h.elim
  | _ :: _, [], _, _, _, _, h => h.elim
  | [], [], [], _ :: _, h, _, _ => by simp [OwnL] at h
  | [], [], _ :: _, _, h, _, _ => by simp [OwnL] at h
  | _ :: _, _ :: _, [], _, h, _, _ => by simp [OwnL] at h
  | _ :: _, _ :: _, _ :: _, [], h, _, _ => by simp [OwnL] at h
end
end Go.Ab
/- Results are taken. -/
namespace Go.Ab
open Go
set_option linter.unusedSimpArgs false
set_option linter.unusedVariables false

section
variable {C : Cfg} {deep : TypeId → Bool} {w0 w : World} {F : FG} {N : Nat} {st : St} {a : Act} {G G0 : Nat → Prop} {gm gm0 : GM} {rd : Nm → Option Rg}

theorem takeRes_ok {row : List V} {vals : List Value} {sks : List Sk} {v : Value} {x : V} (h : Regs C.P w0 F (withHand rd row) w G gm) (hh : gm .hand = some ⟨none, vals, sks⟩) (hl : vals.length = row.length) (hls : sks.length = row.length)
    (hrd : rd .hand = none) (hTh : Nm.hand ∉ x.names) (hv : Rv w G0 gm0 v x) (hG0 : ∀ b, G0 b → G b) (hlive : Live rd gm0 gm) (hok : (takeRes C deep rd x).1 = true) :
    ∃ G' gm' ss, (∀ b, G b → G' b) ∧ Regs C.P w0 F (withHand (takeRes C deep rd x).2.2 (row ++ (absV C.P deep true (only x.names rd) x).xs)) w G' gm' ∧ gm' .hand = some ⟨none, vals ++ v.cells.toList, sks ++ ss⟩ ∧
      Live (takeRes C deep rd x).2.2 gm gm' ∧ (takeRes C deep rd x).2.2 .hand = none ∧ (∀ q t, ownAt (takeRes C deep rd x).2.2 q = some t → ∃ t', ownAt rd q = some t') ∧ (absV C.P deep true (only x.names rd) x).xs.length = v.cells.toList.length := by
  have hT : Nm.hand.mem x.names = false := (Nm.mem_false _ _).2 hTh
  have h' : Regs C.P w0 F (withHand (mix x.names (only x.names rd) rd) row) w G gm := by rw [mix_only]; exact h
  have hlive' : Live (only x.names rd) gm0 gm := by
    intro q e d xs hq
    refine hlive q e d xs ?_
    obtain ⟨rg, h1, h2⟩ := ownAt_some hq
    simp only [ownAt, only_some h1, h2]
  obtain ⟨htook, _⟩ := absV_ok (deep := deep) (keep := true) h' hh hl hls (only_within x.names rd) hT hv hG0 hlive' hok
  obtain ⟨G', gm', ss, k1, k2, k3, k4, k5⟩ := htook.ex
  refine ⟨G', gm', ss, k1, k2, k3, ?_, by simp only [takeRes, hT, cond_false]; exact hrd, ?_, htook.len⟩
  rotate_left
  · rintro q ⟨e, d, xs⟩ hq
    obtain ⟨rg, h1, h2⟩ := ownAt_some hq
    simp only [takeRes] at h1
    cases hm : q.r.mem x.names with
    | true =>
      rw [hm] at h1
      obtain ⟨⟨e', d', xs'⟩, ht⟩ := htook.own q (e, d, xs) (by simp only [ownAt]; rw [show (absV C.P deep true (only x.names rd) x).rd q.r = some rg from h1]; simp only [h2])
      obtain ⟨rg', g1, g2⟩ := ownAt_some ht
      exact ⟨(e', d', xs'), by simp only [ownAt, only_some g1, g2]⟩
    | false =>
      rw [hm] at h1
      exact ⟨(e, d, xs), by simp only [ownAt]; rw [show rd q.r = some rg from h1]; simp only [h2]⟩
  intro q e d xs hq
  obtain ⟨rg, h1, h2⟩ := ownAt_some hq
  simp only [takeRes] at h1
  cases hm : q.r.mem x.names with
  | true =>
    rw [hm] at h1
    exact k5 q e d xs (by simp only [ownAt]; rw [show (absV C.P deep true (only x.names rd) x).rd q.r = some rg from h1]; simp only [h2])
  | false =>
    rw [hm] at h1
    have hkn : q.r ∉ (absV C.P deep true (only x.names rd) x).k.names := by
      intro hk
      have := (absV_within (P := C.P) (deep := deep) (keep := true) (only_within x.names rd) x).2 q.r hk
      rw [hm] at this; cases this
    have hne : q.r ≠ .hand ∨ q.r = .hand := by by_cases e : q.r = .hand <;> simp [e]
    rcases hne with hne | hhd
    · obtain ⟨R, hR, hRok⟩ := h.ok (show withHand rd row q.r = some rg by rw [withHand_ne _ _ hne]; exact h1)
      obtain ⟨u, hu, _⟩ := OwnL.at q.p rg.row q.j R.vals R.sks hRok.2.1 (by rw [h2]; simp)
      rw [h2] at hu
      refine k4.own q (hits_false hkn) ?_
      simp only [skAt, hR]
      intro e'
      rw [e'] at hu; exact hu.elim
    · have h1 : rd q.r = some rg := h1
      rw [hhd, hrd] at h1; cases h1
end
end Go.Ab
/- Results, one after the other. -/
namespace Go.Ab
open Go
set_option linter.unusedSimpArgs false
set_option linter.unusedVariables false

section
variable {C : Cfg} {deep : TypeId → Bool} {fid : FuncId} {w0 w : World} {F : FG} {N : Nat} {st : St} {a : Act} {G G0 : Nat → Prop} {gm gm0 : GM} {rd : Nm → Option Rg}

/-- The cells of a result. -/
def resCells : V → List V
  | .ag xs => xs
  | x => [x]

/-- A result has the shape of its value. -/
def ResV (u : Value) (y : V) : Prop := (∃ (xs : List V) (cs : Array Value), y = .ag xs ∧ u = .agg cs ∧ cs.toList.length = xs.length) ∨ ((∀ xs, y ≠ .ag xs) ∧ u.cells.toList = [u])
def ResL : List Value → List V → Prop
  | [], [] => True
  | u :: us, y :: ys => ResV u y ∧ ResL us ys
  | _, _ => False

theorem Rv.cells_one {v : Value} {x : V} (hv : Rv w G gm v x) (hc : x.isCell = true) (hb : x ≠ .bad) : v.cells.toList = [v] := by
  have key : ∀ cs : Array Value, v ≠ .agg cs := by
    rintro cs rfl
    have := hv.one hc hb
    simp [Value.oneCell'] at this
  cases v <;> first | rfl | exact absurd rfl (key _)

theorem absC_single {P : Program} {keep : Bool} {x : V} (hx : ∀ xs, x ≠ .ag xs) (hok : (absC P deep keep rd x).ok = true) :
    x.isCell = true ∧ x ≠ .bad ∧ ∃ y, (absC P deep keep rd x).xs = [y] ∧ ∀ ys, y ≠ .ag ys := by
  cases x with
  | ag xs => exact absurd rfl (hx xs)
  | nl e => exact ⟨rfl, by simp, _, rfl, by cases keep <;> simp⟩
  | ref q =>
    simp only [absC] at hok ⊢
    exact ⟨rfl, by simp, _, rfl, by cases keep <;> simp [Ab.frz]⟩
  | vw q lo hi =>
    simp only [absC] at hok ⊢
    exact ⟨rfl, by simp, _, rfl, by cases keep <;> simp [Ab.frz]⟩
  | bad => cases hok
  | _ => first | exact ⟨rfl, by simp, _, rfl, by simp⟩ | cases hok

theorem takeRes_shape {v : Value} {x : V} (hv : Rv w G gm v x) (hok : (takeRes C deep rd x).1 = true) (hlen : (absV C.P deep true (only x.names rd) x).xs.length = v.cells.toList.length) :
    ResV v (takeRes C deep rd x).2.1 ∧ resCells (takeRes C deep rd x).2.1 = (absV C.P deep true (only x.names rd) x).xs := by
  by_cases h : ∃ xs, x = .ag xs
  · obtain ⟨xs, rfl⟩ := h
    obtain ⟨cs, rfl, _⟩ := hv
    exact ⟨.inl ⟨_, cs, rfl, rfl, hlen.symm⟩, rfl⟩
  · have hne : ∀ xs, x ≠ .ag xs := fun xs e => h ⟨xs, e⟩
    have hav : absV C.P deep true (only x.names rd) x = absC C.P deep true (only x.names rd) x := by cases x <;> first | rfl | exact absurd rfl (hne _)
    have hr : (takeRes C deep rd x).2.1 = nthV (absC C.P deep true (only x.names rd) x).xs 0 := by
      unfold takeRes
      simp only [hav]
    obtain ⟨h1, h2, y, h3, h4⟩ := absC_single hne (by rw [← hav]; exact hok)
    rw [hr, hav, h3]
    refine ⟨.inr ⟨h4, hv.cells_one h1 h2⟩, ?_⟩
    show resCells y = [y]
    cases y <;> first | rfl | exact absurd rfl (h4 _)

theorem takeAll_ok : ∀ (xs : List V) (us : List Value) {rd : Nm → Option Rg} {G : Nat → Prop} {gm : GM} {row : List V} {vals : List Value} {sks : List Sk}, RvL w G0 gm0 us xs → (∀ x ∈ xs, Nm.hand ∉ x.names) →
    Regs C.P w0 F (withHand rd row) w G gm → gm .hand = some ⟨none, vals, sks⟩ → vals.length = row.length → sks.length = row.length → rd .hand = none → (∀ b, G0 b → G b) → Live rd gm0 gm → (takeAll C deep xs rd).1 = true →
    ∃ (G' : Nat → Prop) (gm' : GM) (ss : List Sk), (∀ b, G b → G' b) ∧ Regs C.P w0 F (withHand (takeAll C deep xs rd).2.2 (row ++ (takeAll C deep xs rd).2.1.flatMap resCells)) w G' gm' ∧
      gm' .hand = some ⟨none, vals ++ us.flatMap (fun u => u.cells.toList), sks ++ ss⟩ ∧ (takeAll C deep xs rd).2.2 .hand = none ∧ ResL us (takeAll C deep xs rd).2.1 ∧ ∀ y ∈ (takeAll C deep xs rd).2.1.flatMap resCells, y ≠ .slf
  | [], [], rd, G, gm, row, vals, sks, hu, hnm, h, hh, hl, hls, hrd, hG, hlive, hok =>
    ⟨G, gm, [], fun _ h => h, by simpa [takeAll] using h, by simpa using hh, hrd, trivial, by simp [takeAll]⟩
  | x :: xs, u :: us, rd, G, gm, row, vals, sks, hu, hnm, h, hh, hl, hls, hrd, hG, hlive, hok => by
    simp only [takeAll, Bool.and_eq_true] at hok ⊢
    obtain ⟨G1, gm1, ss1, k1, k2, k3, k4, k5, k7, k6⟩ := takeRes_ok h hh hl hls hrd (hnm x (by simp)) hu.1 hG hlive hok.1
    obtain ⟨s1, s2⟩ := takeRes_shape (rd := rd) (deep := deep) hu.1 hok.1 k6
    obtain ⟨_, hown⟩ := hand_ok k2 k3
    have hlen := hown.length
    simp only [List.length_append] at hlen
    have hlive1 : Live (takeRes C deep rd x).2.2 gm0 gm1 := hlive.trans k4 k7
    obtain ⟨G2, gm2, ss2, q1, q2, q3, q4, q5, q6⟩ := takeAll_ok xs us hu.2 (fun y hy => hnm y (by simp [hy])) k2 k3 (by simpa using hlen.1) (by simpa using hlen.2) k5 (fun b hb => k1 b (hG b hb)) hlive1 hok.2
    refine ⟨G2, gm2, ss1 ++ ss2, fun b hb => q1 b (k1 b hb), ?_, by simpa [List.append_assoc] using q3, q4, ⟨s1, q5⟩, ?_⟩
    · simp only [List.flatMap_cons, s2]
      rw [← List.append_assoc]; exact q2
    · intro y hy
      simp only [List.flatMap_cons, s2, List.mem_append] at hy
      rcases hy with hy | hy
      · exact absV_slf hok.1 y hy
      · exact q6 y hy
  | [], _ :: _, _, _, _, _, _, _, hu, _, _, _, _, _, _, _, _, _ => hu.elim
  | _ :: _, [], _, _, _, _, _, _, hu, _, _, _, _, _, _, _, _, _ => hu.elim
end
end Go.Ab
/- A function's call: its body, its results. -/
namespace Go.Ab
open Go
set_option linter.unusedSimpArgs false
set_option linter.unusedVariables false

section
variable {C : Cfg} {P : Program} {fid : FuncId} {w0 w : World} {F : FG} {N : Nat} {st : St} {a : Act} {G : Nat → Prop} {gm : GM} {rd : Nm → Option Rg}

/-- What a result reads in memory. -/
def resRun (P : Program) (tmps : Array Value) (w : World) : ResultVar → Value → Prop
  | .tmp t, u => u = tmps.getD t undef
  | .cell x t, u => ∃ ad, (asAddr (tmps[x]?.getD undef)).run P w = .ok ad w ∧ (loadVar t ad).run P w = .ok u w
def resRuns (P : Program) (tmps : Array Value) (w : World) : List ResultVar → List Value → Prop
  | [], [] => True
  | r :: rs, u :: us => resRun P tmps w r u ∧ resRuns P tmps w rs us
  | _, _ => False

def resOf : List Value → Value
  | [u] => u
  | us => .tuple us.toArray

theorem results_run {fn : Func} {rs : List ResultVar} (h : fn.results.toList = rs) {tmps : Array Value} {us : List Value} (hl : rs.length ≤ 4) (hr : resRuns P tmps w rs us) :
    (results fn tmps).run P w = .ok (resOf us) w := by
  have hrs : fn.results = rs.toArray := by rw [← h]
  match rs, us, hr, hl with
  | [], [], _, _ => simp [results, hrs, resOf]
  | [r], [u], hr, _ =>
    obtain ⟨h1, _⟩ := hr
    cases r with
    | tmp t => simp only [resRun] at h1; subst h1; simp [results, hrs, resOf]
    | cell x t => obtain ⟨ad, h2, h3⟩ := h1; simp [results, hrs, resOf, h2, h3, Result.andThen]
  | [r, r'], [u, u'], hr, _ =>
    obtain ⟨h1, h1', _⟩ := hr
    cases r with
    | tmp t =>
      simp only [resRun] at h1; subst h1
      cases r' with
      | tmp t' => simp only [resRun] at h1'; subst h1'; simp [results, hrs, resOf, Result.andThen]
      | cell x' t' => obtain ⟨ad', h2', h3'⟩ := h1'; simp [results, hrs, resOf, h2', h3', Result.andThen]
    | cell x t =>
      obtain ⟨ad, h2, h3⟩ := h1
      cases r' with
      | tmp t' => simp only [resRun] at h1'; subst h1'; simp [results, hrs, resOf, h2, h3, Result.andThen]
      | cell x' t' => obtain ⟨ad', h2', h3'⟩ := h1'; simp [results, hrs, resOf, h2, h3, h2', h3', Result.andThen]
  | [r, r', r''], [u, u', u''], hr, _ =>
    obtain ⟨h1, h1', h1'', _⟩ := hr
    cases r with
    | tmp t =>
      simp only [resRun] at h1; subst h1
      cases r' with
      | tmp t' =>
        simp only [resRun] at h1'; subst h1'
        cases r'' with
        | tmp t'' => simp only [resRun] at h1''; subst h1''; simp [results, hrs, resOf, Result.andThen]
        | cell x'' t'' => obtain ⟨ad'', h2'', h3''⟩ := h1''; simp [results, hrs, resOf, h2'', h3'', Result.andThen]
      | cell x' t' =>
        obtain ⟨ad', h2', h3'⟩ := h1'
        cases r'' with
        | tmp t'' => simp only [resRun] at h1''; subst h1''; simp [results, hrs, resOf, h2', h3', Result.andThen]
        | cell x'' t'' => obtain ⟨ad'', h2'', h3''⟩ := h1''; simp [results, hrs, resOf, h2', h3', h2'', h3'', Result.andThen]
    | cell x t =>
      obtain ⟨ad, h2, h3⟩ := h1
      cases r' with
      | tmp t' =>
        simp only [resRun] at h1'; subst h1'
        cases r'' with
        | tmp t'' => simp only [resRun] at h1''; subst h1''; simp [results, hrs, resOf, h2, h3, Result.andThen]
        | cell x'' t'' => obtain ⟨ad'', h2'', h3''⟩ := h1''; simp [results, hrs, resOf, h2, h3, h2'', h3'', Result.andThen]
      | cell x' t' =>
        obtain ⟨ad', h2', h3'⟩ := h1'
        cases r'' with
        | tmp t'' => simp only [resRun] at h1''; subst h1''; simp [results, hrs, resOf, h2, h3, h2', h3', Result.andThen]
        | cell x'' t'' => obtain ⟨ad'', h2'', h3''⟩ := h1''; simp [results, hrs, resOf, h2, h3, h2', h3', h2'', h3'', Result.andThen]
  | [r, r', r'', s], [u, u', u'', v], hr, _ =>
    obtain ⟨h1, h1', h1'', h5, _⟩ := hr
    cases r <;> cases r' <;> cases r'' <;> cases s <;> simp only [resRun] at h1 h1' h1'' h5 <;>
      (try obtain ⟨ad1, p1, q1⟩ := h1) <;> (try obtain ⟨ad2, p2, q2⟩ := h1') <;> (try obtain ⟨ad3, p3, q3⟩ := h1'') <;> (try obtain ⟨ad4, p4, q4⟩ := h5) <;>
      (try subst h1) <;> (try subst h1') <;> (try subst h1'') <;> (try subst h5) <;>
      simp [results, hrs, resOf, Result.andThen, *]
  | [], _ :: _, hr, _ => exact hr.elim
  | _ :: _, [], hr, _ => exact hr.elim
  | [_], _ :: _ :: _, hr, _ => exact hr.2.elim
  | [_, _], [_], hr, _ => exact hr.2.elim
  | [_, _], _ :: _ :: _ :: _, hr, _ => exact hr.2.2.elim
  | [_, _, _], [_], hr, _ => exact hr.2.elim
  | [_, _, _], [_, _], hr, _ => exact hr.2.2.elim
  | [_, _, _], _ :: _ :: _ :: _ :: _, hr, _ => exact hr.2.2.2.elim
  | [_, _, _, _], [_], hr, _ => exact hr.2.elim
  | [_, _, _, _], [_, _], hr, _ => exact hr.2.2.elim
  | [_, _, _, _], [_, _, _], hr, _ => exact hr.2.2.2.elim
  | [_, _, _, _], _ :: _ :: _ :: _ :: _ :: _, hr, _ => exact hr.2.2.2.2.elim
  | _ :: _ :: _ :: _ :: _ :: _, _, _, hl => simp at hl

theorem resVals_ok {deep : TypeId → Bool} (hI : Inv C.P w0 F N st a w G gm) : ∀ (rs : List ResultVar), (resVals C deep st rs).1 = true → ∃ us, RvL w G gm us (resVals C deep st rs).2 ∧ resRuns C.P a.tmps w rs us
  | [], _ => ⟨[], trivial, trivial⟩
  | r :: rs, h => by
    simp only [resVals, Bool.and_eq_true] at h ⊢
    obtain ⟨us, h1, h2⟩ := resVals_ok hI rs h.2
    cases r with
    | tmp t => exact ⟨a.tmps.getD t undef :: us, ⟨hI.env t, h1⟩, rfl, h2⟩
    | cell x t =>
      obtain ⟨b, o, v, k1, k2, k3, _⟩ := semLoad_ok hI (hI.env x) h.1
      exact ⟨v :: us, ⟨k3, h1⟩, ⟨_, by rw [← Array.getD_eq_getD_getElem?, k1]; simp [asAddr], k2⟩, h2⟩

/-! ### landing of results -/
theorem OwnL.split : ∀ (xs : List V) (vs : List Value) {ys : List V} {us : List Value} {ss : List Sk}, vs.length = xs.length → OwnL w G P (vs ++ us) (xs ++ ys) ss →
    ∃ s1 s2, ss = s1 ++ s2 ∧ OwnL w G P vs xs s1 ∧ OwnL w G P us ys s2
  | [], [], ys, us, ss, _, h => ⟨[], ss, rfl, trivial, h⟩
  | x :: xs, v :: vs, ys, us, s :: ss, hl, h => by
    obtain ⟨s1, s2, rfl, h1, h2⟩ := OwnL.split xs vs (by simpa using hl) h.2
    exact ⟨s :: s1, s2, rfl, ⟨h.1, h1⟩, h2⟩
  | x :: xs, v :: vs, ys, us, [], _, h => h.elim
  | [], _ :: _, _, _, _, hl, _ => by simp at hl
  | _ :: _, [], _, _, _, hl, _ => by simp at hl

theorem fpL_app (a b : List Sk) : fpL (a ++ b) = fpL a ++ fpL b := fpL_append a b

theorem nthS_app : ∀ (a b : List Sk) (i : Nat), nthS (a ++ b) (a.length + i) = nthS b i
  | [], b, i => by simp
  | x :: a, b, i => by
    rw [show (x :: a).length + i = (a.length + i) + 1 by simp; omega]
    exact nthS_app a b i
theorem nthS_app_lt : ∀ (a b : List Sk) (i : Nat), i < a.length → nthS (a ++ b) i = nthS a i
  | [], b, i, h => by simp at h
  | x :: a, b, 0, _ => rfl
  | x :: a, b, i + 1, h => nthS_app_lt a b i (by simpa using h)

theorem ResL.length : ∀ {us : List Value} {ys : List V}, ResL us ys → us.length = ys.length
  | [], [], _ => rfl
  | _ :: _, _ :: _, h => by simp [ResL.length h.2]
  | [], _ :: _, h => h.elim
  | _ :: _, [], h => h.elim

theorem compressR : ∀ (us : List Value) (ys : List V) (sks : List Sk) (j : Nat), ResL us ys → OwnL w G P (us.flatMap fun u => u.cells.toList) (ys.flatMap resCells) sks → (∀ y ∈ ys.flatMap resCells, y ≠ .slf) →
    ∃ (ovals : List Value) (osks : List Sk), OwnL w G P ovals (landL .hand j ys).2 osks ∧ fpL osks = fpL sks ∧
      ∀ gm' : GM, (∀ i, i < osks.length → ∃ R, gm' .hand = some R ∧ nthS R.sks (j + i) = nthS osks i) → RvL w G gm' us (landL .hand j ys).1
  | [], [], sks, j, _, h, _ => by
    cases sks with
    | nil => exact ⟨[], [], trivial, rfl, fun _ _ => trivial⟩
    | cons s ss => exact h.elim
  | u :: us, y :: ys, sks, j, hr, h, hns => by
    simp only [List.flatMap_cons] at h hns
    obtain ⟨hr1, hr2⟩ := hr
    have hlen : u.cells.toList.length = (resCells y).length := by
      rcases hr1 with ⟨xs, cs, rfl, rfl, hl⟩ | ⟨h1, h2⟩
      · exact hl
      · rw [h2]; cases y <;> first | rfl | exact absurd rfl (h1 _)
    obtain ⟨s1, s2, rfl, o1, o2⟩ := OwnL.split _ _ hlen h
    obtain ⟨ov1, os1, a1, a2, a3⟩ := compress (resCells y) u.cells.toList s1 j o1 (fun z hz => hns z (List.mem_append_left _ hz))
    obtain ⟨ov2, os2, b1, b2, b3⟩ := compressR us ys s2 (j + (y.land .hand j).2.length) hr2 o2 (fun z hz => hns z (List.mem_append_right _ hz))
    have hrow : (landL .hand j (resCells y)).2 = (y.land .hand j).2 := by
      rcases hr1 with ⟨xs, cs, rfl, rfl, hl⟩ | ⟨h1, h2⟩
      · rfl
      · have : resCells y = [y] := by cases y <;> first | rfl | exact absurd rfl (h1 _)
        rw [this]; simp [landL]
    rw [hrow] at a1
    have hl1 : os1.length = (y.land .hand j).2.length := a1.length.2
    refine ⟨ov1 ++ ov2, os1 ++ os2, ?_, by simp [fpL_app, a2, b2], fun gm' hg => ?_⟩
    · simp only [landL]
      exact OwnL.append a1 b1
    · simp only [landL]
      have hg1 : ∀ i, i < os1.length → ∃ R, gm' .hand = some R ∧ nthS R.sks (j + i) = nthS os1 i := fun i hi => by
        obtain ⟨R, h1, h2⟩ := hg i (by simp; omega)
        exact ⟨R, h1, by rw [h2, nthS_app_lt _ _ _ hi]⟩
      have hg2 : ∀ i, i < os2.length → ∃ R, gm' .hand = some R ∧ nthS R.sks (j + (y.land .hand j).2.length + i) = nthS os2 i := fun i hi => by
        obtain ⟨R, h1, h2⟩ := hg (os1.length + i) (by simp; omega)
        refine ⟨R, h1, ?_⟩
        rw [nthS_app] at h2
        rw [← h2, ← hl1, Nat.add_assoc]
      refine ⟨?_, b3 gm' hg2⟩
      have k := a3 gm' hg1
      rcases hr1 with ⟨xs, cs, rfl, rfl, hl⟩ | ⟨h1, h2⟩
      · exact ⟨cs, rfl, k⟩
      · have e : resCells y = [y] := by cases y <;> first | rfl | exact absurd rfl (h1 _)
        rw [h2, e] at k
        exact k.1
  | [], _ :: _, _, _, hr, _, _ => hr.elim
  | _ :: _, [], _, _, hr, _, _ => hr.elim

/-! ### own slices that go out as values -/
def notAg (x : V) : Prop := ∀ xs, x ≠ .ag xs

theorem coe_one (P : Program) (h : Sh) {y : V} (hy : notAg y) : (h.coe P y = y ∨ ∃ e d zs, y = .own e d zs ∧ h.coe P y = Ab.frz P y) ∧ notAg (h.coe P y) := by
  cases h <;> cases y <;> first
    | exact absurd rfl (hy _)
    | exact ⟨.inl rfl, hy⟩
    | exact ⟨.inr ⟨_, _, _, rfl, rfl⟩, fun xs => by simp [Sh.coe, Ab.frz]⟩

theorem coeL_cells (P : Program) : ∀ (l : List Sh) (xs : List V), (∀ x ∈ xs, notAg x) → CoeR P xs (Sh.coeL P l xs)
  | [], xs, _ => by simp only [Sh.coeL]; exact CoeR.refl xs
  | h :: l, [], _ => by simp only [Sh.coeL]; trivial
  | h :: l, x :: xs, hx => by
    simp only [Sh.coeL]
    exact ⟨(coe_one P h (hx x (by simp))).1, coeL_cells P l xs (fun y hy => hx y (by simp [hy]))⟩

theorem coeL_length (P : Program) : ∀ (l : List Sh) (xs : List V), (Sh.coeL P l xs).length = xs.length
  | [], xs => by simp [Sh.coeL]
  | h :: l, [] => by simp [Sh.coeL]
  | h :: l, x :: xs => by simp [Sh.coeL, coeL_length P l xs]

theorem coe_res (P : Program) (h : Sh) {u : Value} {y : V} (hr : ResV u y) (hc : ∀ x ∈ resCells y, notAg x) : ResV u (h.coe P y) ∧ CoeR P (resCells y) (resCells (h.coe P y)) := by
  rcases hr with ⟨xs, cs, rfl, rfl, hl⟩ | ⟨h1, h2⟩
  · cases h with
    | ag l => exact ⟨.inl ⟨_, cs, rfl, rfl, by rw [coeL_length]; exact hl⟩, coeL_cells P l xs hc⟩
    | _ => exact ⟨.inl ⟨xs, cs, rfl, rfl, hl⟩, CoeR.refl _⟩
  · obtain ⟨k1, k2⟩ := coe_one P h h1
    have e : ∀ z : V, notAg z → resCells z = [z] := fun z hz => by cases z <;> first | rfl | exact absurd rfl (hz _)
    refine ⟨.inr ⟨k2, h2⟩, ?_⟩
    rw [e _ h1, e _ k2]
    exact ⟨k1, trivial⟩

theorem coeL_res (P : Program) : ∀ (l : List Sh) (us : List Value) (ys : List V), ResL us ys → (∀ x ∈ ys.flatMap resCells, notAg x) → ResL us (Sh.coeL P l ys) ∧ CoeR P (ys.flatMap resCells) ((Sh.coeL P l ys).flatMap resCells)
  | [], us, ys, hr, _ => by simp only [Sh.coeL]; exact ⟨hr, CoeR.refl _⟩
  | h :: l, [], [], _, _ => ⟨trivial, trivial⟩
  | h :: l, u :: us, y :: ys, hr, hc => by
    simp only [List.flatMap_cons, List.mem_append] at hc
    obtain ⟨a1, a2⟩ := coe_res P h hr.1 (fun x hx => hc x (.inl hx))
    obtain ⟨b1, b2⟩ := coeL_res P l us ys hr.2 (fun x hx => hc x (.inr hx))
    simp only [Sh.coeL, List.flatMap_cons]
    exact ⟨⟨a1, b1⟩, CoeR.append a2 b2⟩
  | _ :: _, [], _ :: _, hr, _ => hr.elim
  | _ :: _, _ :: _, [], hr, _ => hr.elim

theorem OwnL.notAg : ∀ {vs : List Value} {xs : List V} {ss : List Sk}, OwnL w G P vs xs ss → ∀ x ∈ xs, notAg x
  | [], [], [], _, x, hx => by simp at hx
  | v :: vs, y :: ys, s :: ss, h, x, hx => by
    simp only [List.mem_cons] at hx
    rcases hx with rfl | hx
    · rintro xs rfl
      have := h.1.2.1
      simp [V.cim, V.isCell] at this
    · exact OwnL.notAg h.2 x hx
  | [], _ :: _, _, h, _, _ => by simp [OwnL] at h
  | [], [], _ :: _, h, _, _ => by simp [OwnL] at h
  | _ :: _, [], _, h, _, _ => by simp [OwnL] at h
  | _ :: _, _ :: _, [], h, _, _ => by simp [OwnL] at h

theorem CoeR.slf : ∀ {xs ys : List V}, CoeR P xs ys → (∀ x ∈ xs, x ≠ .slf) → ∀ y ∈ ys, y ≠ .slf
  | [], [], _, _, y, hy => by simp at hy
  | x :: xs, z :: ys, h, hx, y, hy => by
    simp only [List.mem_cons] at hy
    rcases hy with rfl | hy
    · rcases h.1 with h1 | ⟨e, d, zs, h1, h2⟩
      · rw [h1]; exact hx x (by simp)
      · rw [h2, h1]; simp [Ab.frz]
    · exact CoeR.slf h.2 (fun x' hx' => hx x' (by simp [hx'])) y hy
  | [], _ :: _, h, _, _, _ => h.elim
  | _ :: _, [], h, _, _, _ => h.elim
end
end Go.Ab
/- A function's call is sound. -/
namespace Go.Ab
open Go
set_option linter.unusedSimpArgs false
set_option linter.unusedVariables false

section
variable {C : Cfg} {P : Program} {fid : FuncId} {w0 w : World} {F : FG} {N : Nat} {st : St} {a : Act} {G : Nat → Prop} {gm : GM} {rd : Nm → Option Rg}

theorem Rv.skAt_own (hI : Inv P w0 F N st a w G gm) {q : Pl} {e : TypeId} {d : Bool} {xs : List V} (hq : ownAt st.regs q = some (e, d, xs)) : skAt gm q ≠ .leaf := by
  obtain ⟨rg, hr, hx⟩ := ownAt_some hq
  obtain ⟨R, hg, hok⟩ := hI.regs.ok hr
  obtain ⟨v, hv, _⟩ := OwnL.at q.p rg.row q.j R.vals R.sks hok.2.1 (by rw [hx]; simp)
  rw [hx] at hv
  intro hl
  simp only [skAt, hg] at hl
  rw [hl] at hv
  exact hv.elim

/-- The regions that are handed back, and the hand. -/
def endG (np : Nat) (gm : GM) (R : RG) : GM
  | .hand => some R
  | .par i => bif Nat.blt i np then gm (.par i) else none
  | .loc _ => none

theorem end_regs {rd : Nm → Option Rg} {row rows : List V} {vals ovals : List Value} {sks osks : List Sk} {np : Nat} {gs' : List Rg} {G' : Nat → Prop}
    (h : Regs P w0 F (withHand rd row) w G gm) (hh : gm .hand = some ⟨none, vals, sks⟩) (hgs : (List.range np).map (fun i => rd (.par i)) = gs'.map some)
    (hown : OwnL w G' P ovals rows osks) (hsub : (fpL osks).Sublist (fpL sks)) (hG1 : ∀ b, G b → G' b) (hG2 : ∀ b, G' b → G b ∨ (b ∈ fpL sks ∧ b ∉ fpL osks)) :
    Regs P w0 F (withHand (parR gs') rows) w G' (endG np gm ⟨none, ovals, osks⟩) := by
  have hlen : gs'.length = np := by simpa using (congrArg List.length hgs).symm
  have hat : ∀ i, i < np → ∃ g, gs'[i]? = some g ∧ rd (.par i) = some g := by
    intro i hi
    have : ((List.range np).map (fun i => rd (.par i)))[i]? = some (rd (.par i)) := by
      rw [List.getElem?_map, List.getElem?_range hi]; rfl
    rw [hgs, List.getElem?_map] at this
    cases hg : gs'[i]? with
    | none => rw [hg] at this; cases this
    | some g => rw [hg] at this; exact ⟨g, rfl, (Option.some.inj this).symm⟩
  have hpar : ∀ i R, endG np gm ⟨none, ovals, osks⟩ (.par i) = some R → i < np ∧ gm (.par i) = some R := by
    intro i R hR
    simp only [endG] at hR
    cases hb : Nat.blt i np with
    | false => rw [hb] at hR; cases hR
    | true => rw [hb] at hR; exact ⟨nblt hb, hR⟩
  have hfp : ∀ R, (endG np gm ⟨none, ovals, osks⟩) .hand = some R → R.fp = fpL osks := by
    intro R hR
    obtain rfl := Option.some.inj hR
    simp [RG.fp]
  have hin : ∀ b, b ∈ fpL sks → InC (fun _ => True) gm b := fun b hb => ⟨.hand, _, trivial, hh, by simp [RG.fp, hb]⟩
  refine h.change (fun _ => True) (fun _ _ _ => rfl) rfl rfl rfl (Nat.le_refl _) (fun r hr => absurd trivial hr) ?_ ?_ ?_ ?_ hG1 ?_ ?_
  · intro r _
    cases r with
    | loc i => trivial
    | hand => exact ⟨rfl, hown, fun b hb => by cases hb⟩
    | par i =>
      rw [withHand_ne _ _ (by simp)]
      simp only [parR, endG]
      cases hb : Nat.blt i np with
      | false =>
        have : np ≤ i := by
          rcases Nat.lt_or_ge i np with h' | h'
          · have : Nat.blt i np = true := by simp [Nat.blt]; omega
            rw [hb] at this; cases this
          · exact h'
        rw [List.getElem?_eq_none (by omega)]
        trivial
      | true =>
        obtain ⟨g, h1, h2⟩ := hat i (nblt hb)
        obtain ⟨R, h3, h4⟩ := h.ok (show withHand rd row (.par i) = some g by rw [withHand_ne _ _ (by simp)]; exact h2)
        rw [h1]
        simp only [cond_true, h3]
        exact h4.frame (fun _ _ => rfl) hG1 (fun _ _ => rfl)
  · intro r R _ hR
    cases r with
    | loc i => cases hR
    | hand =>
      rw [hfp R hR]
      refine hsub.nodup ?_
      have := h.nodup _ _ hh
      simpa [RG.fp] using this
    | par i => exact h.nodup _ _ (hpar i R hR).2
  · intro r r' R R' _ _ hne hR hR' b hb hb'
    have toH : ∀ R, (endG np gm ⟨none, ovals, osks⟩) .hand = some R → b ∈ R.fp → b ∈ (⟨none, vals, sks⟩ : RG).fp := by
      intro R hR hb
      rw [hfp R hR] at hb
      simp only [RG.fp, Option.toList, List.nil_append]
      exact hsub.subset hb
    cases r with
    | loc i => cases hR
    | hand =>
      cases r' with
      | loc i => cases hR'
      | hand => exact hne rfl
      | par i => exact h.disj _ _ _ _ (by simp) hh (hpar i R' hR').2 b (toH R hR hb) hb'
    | par i =>
      cases r' with
      | loc i => cases hR'
      | hand => exact h.disj _ _ _ _ (by simp) (hpar i R hR).2 hh b hb (toH R' hR' hb')
      | par k => exact h.disj _ _ _ _ hne (hpar i R hR).2 (hpar k R' hR').2 b hb hb'
  · intro r R b _ hR hb
    refine .inl ?_
    cases r with
    | loc i => cases hR
    | hand =>
      rw [hfp R hR] at hb
      exact hin b (hsub.subset hb)
    | par i => exact ⟨.par i, R, trivial, (hpar i R hR).2, hb⟩
  · intro b hb
    rcases hG2 b hb with h1 | ⟨h1, h2⟩
    · exact .inl h1
    · refine .inr ⟨.inl (hin b h1), h.lt hh b (by simp [RG.fp, h1]), ?_⟩
      rintro ⟨r, R, _, hR, hbR⟩
      cases r with
      | loc i => cases hR
      | hand => rw [hfp R hR] at hbR; exact h2 hbR
      | par i => exact h.disj _ _ _ _ (by simp) (hpar i R hR).2 hh b hbR (by simp [RG.fp, h1])
  · intro i R _ hR
    exact h.par i R (hpar i R hR).2

theorem land_tp (vs : List V) : (V.tp vs).land .hand 0 = (.tp (landL .hand 0 vs).1, (landL .hand 0 vs).2) := rfl

theorem end_ok (hI : Inv C.P w0 F N st a w G gm) {fn : Func} {np : Nat} {v : V} {gs' : List Rg} (h : endOf C fid fn.results.toList np st = some (v, gs')) :
    ∃ res, (results fn a.tmps).run C.P w = .ok res w ∧ Back C.P w0 F v gs' res w := by
  simp only [endOf] at h
  cases hc : ((resVals C (C.deep fid) st fn.results.toList).1 && (takeAll C (C.deep fid) (resVals C (C.deep fid) st fn.results.toList).2 st.regs).1 && Nat.ble fn.results.toList.length 4) with
  | false => rw [hc] at h; cases h
  | true =>
    rw [hc] at h
    simp only [cond_true] at h
    simp only [Bool.and_eq_true] at hc
    obtain ⟨⟨hc1, hc2⟩, hc3⟩ := hc
    split at h
    · next gs hgs =>
      obtain ⟨us, hu, hrun⟩ := resVals_ok hI _ hc1
      obtain ⟨gm1, s1, s2, s3, _⟩ := hI.start []
      rw [mix_only] at s1
      have hlive : Live st.regs gm gm1 := Live.of_stay s3 (fun q e d xs hq => Rv.skAt_own hI hq)
      have hno := RvL.no_name (hI.regs.none hI.hand) _ _ hu
      have hno' : ∀ x ∈ (resVals C (C.deep fid) st fn.results.toList).2, Nm.hand ∉ x.names := by
        have key : ∀ (l : List V), Nm.hand ∉ namesL l → ∀ x ∈ l, Nm.hand ∉ x.names := by
          intro l
          induction l with
          | nil => intro _ x hx; simp at hx
          | cons y l ih =>
            intro hn x hx
            simp only [namesL, List.mem_append, not_or] at hn
            simp only [List.mem_cons] at hx
            rcases hx with rfl | hx
            · exact hn.1
            · exact ih hn.2 x hx
        exact key _ hno
      obtain ⟨G2, gm2, ss, t1, t2, t3, t4, t5, t6⟩ := takeAll_ok _ _ hu hno' s1 s2 rfl rfl hI.hand (fun _ h => h) hlive hc2
      simp only [List.nil_append] at t2 t3
      obtain ⟨_, hown⟩ := hand_ok t2 t3
      obtain ⟨c1, c2⟩ := coeL_res C.P (shParts (C.sig fid)) _ _ t5 (OwnL.notAg hown)
      have hnd : (fpL ss).Nodup := by
        have := t2.nodup _ _ t3
        simpa [RG.fp] using this
      obtain ⟨ss', r1, r2⟩ := retire _ _ _ _ hown hnd c2
      let G3 : Nat → Prop := fun b => G2 b ∨ (b ∈ fpL ss ∧ b ∉ fpL ss')
      have hown3 := r2 G3 (fun b hb => .inl hb) (fun b h1 h2 => .inr ⟨h1, h2⟩)
      obtain ⟨ov, os, o1, o2, o3⟩ := compressR _ _ _ 0 c1 hown3 (CoeR.slf c2 t6)
      have hreg := end_regs (np := np) (rows := (landL .hand 0 (Sh.coeL C.P (shParts (C.sig fid)) (takeAll C (C.deep fid) (resVals C (C.deep fid) st fn.results.toList).2 st.regs).2.1)).2) t2 t3 (allSome_spec _ _ hgs) o1 (by rw [o2]; exact r1) (fun b hb => .inl hb) (fun b hb => by rw [o2]; exact hb)
      have hrv := o3 (endG np gm2 ⟨none, ov, os⟩) (fun i hi => ⟨_, rfl, by simp⟩)
      refine ⟨resOf us, results_run rfl (nble hc3) hrun, ?_⟩
      simp only [Option.some.injEq, Prod.mk.injEq] at h
      obtain ⟨hv, rfl⟩ := h
      generalize hys : Sh.coeL C.P (shParts (C.sig fid)) (takeAll C (C.deep fid) (resVals C (C.deep fid) st fn.results.toList).2 st.regs).2.1 = ys at hv hreg hrv c1
      have hl := c1.length
      match ys, us, hl with
      | [], [], _ =>
        subst hv
        exact ⟨G3, _, hreg, ⟨_, rfl, by simpa using hrv⟩⟩
      | [y], [u], _ =>
        simp only at hv
        subst hv
        refine ⟨G3, _, by simpa [landL] using hreg, ?_⟩
        simpa [landL, RvL, resOf] using hrv
      | y1 :: y2 :: ys, u1 :: u2 :: us, _ =>
        subst hv
        exact ⟨G3, _, hreg, ⟨_, rfl, by simpa using hrv⟩⟩
    · cases h

theorem callBody_ok {prim : FuncId → Option PrimT}
    (hP : ∀ g p, prim g = some p → ∀ vs gs v gs', p vs gs = (true, v, gs') → ∀ (args : Array Value) (w : World) (F : FG) (Rs : List RG), Regs C.P w F (parR gs) w F.g (parG Rs) → RvL w F.g (parG Rs) args.toList vs → Enter C.P g args w (Back C.P w F v gs'))
    {X : FuncId → Code → List Nat → St → (Ex → St → Option (V × List Rg)) → Option (V × List Rg)} (hX : ∀ f c, CodeSound C f (V × List Rg) (X f) c) : CallSound C.P (optK (callBody C prim X)) := by
  intro g vs gs v gs' h0 args w F Rs hR hv
  have h : callBody C prim X g vs gs = some (v, gs') := by
    simp only [optK] at h0
    split at h0
    · next r hr => rw [hr]; simp only [Prod.mk.injEq, true_and] at h0; rw [h0]
    · cases h0
  unfold callBody at h
  cases hp : prim g with
  | some p =>
    rw [hp] at h
    simp only at h
    cases hb : (p vs gs).1 with
    | false => rw [hb] at h; cases h
    | true =>
      rw [hb] at h
      simp only [cond_true, Option.some.injEq] at h
      exact hP g p hp vs gs v gs' (by rw [← h]; rw [← hb]) args w F Rs hR hv
  | none =>
    rw [hp] at h
    simp only at h
    cases hf : C.P.funcs[g]? with
    | none => rw [hf] at h; cases h
    | some fn =>
      rw [hf] at h
      simp only at h
      cases hb : fn.body with
      | none => rw [hb] at h; cases h
      | some c =>
        rw [hb] at h
        simp only at h
        cases hc : (codeOk fn.ntmps c && Nat.ble vs.length fn.ntmps && !(fn.name == "runtime.NumGoroutine")) with
        | false => rw [hc] at h; cases h
        | true =>
          rw [hc] at h
          simp only [cond_true] at h
          simp only [Bool.and_eq_true] at hc
          obtain ⟨⟨h1, h2⟩, h3⟩ := hc
          have hcf : (callFunc g args).run C.P w = .ok (.enter g args) w := by
            have hn : (fn.name == "runtime.NumGoroutine") = false := by simpa using h3
            have hn2 : ¬ fn.name = "runtime.NumGoroutine" := by simpa using hn
            simp [callFunc, hf, hn2, hb, Result.andThen]
          unfold Enter
          rw [hcf]
          have hlen : args.size ≤ fn.ntmps := by
            have := hv.length
            have h2 := nble h2
            rw [← Array.length_toList]; omega
          have hI := start_ok hR hv hlen
          refine calls_of_wp hf hb ?_
          refine hX g c [] _ _ _ h w F fn.ntmps h1 _ w F.g (parG Rs) hI _ ?_
          intro e st' a' w' G' gm' hk hG hI'
          cases e with
          | ex i => cases hk
          | nm =>
            obtain ⟨res, k1, k2⟩ := end_ok hI' hk
            exact ⟨hI'.defers, res, k1, res, rfl, k2⟩
          | rt =>
            obtain ⟨res, k1, k2⟩ := end_ok hI' hk
            exact ⟨hI'.defers, res, k1, res, rfl, k2⟩

/-- Every call of the machine is sound. -/
theorem callE_ok {prim : FuncId → Option PrimT} (hm : C.P.follows .mixedOrders = true)
    (hP : ∀ g p, prim g = some p → ∀ vs gs v gs', p vs gs = (true, v, gs') → ∀ (args : Array Value) (w : World) (F : FG) (Rs : List RG), Regs C.P w F (parR gs) w F.g (parG Rs) → RvL w F.g (parG Rs) args.toList vs → Enter C.P g args w (Back C.P w F v gs'))
    (k : Nat) : CallSound C.P (optK (callE C prim k)) :=
  callBody_ok hP (fun f c => recE_ok hm (fun _ hX => callBody_ok hP hX) k _ f c)
end
end Go.Ab
/- The machine without fuel: what calls, loops and pieces of code come to. -/
namespace Go.Ab
open Go
set_option linter.unusedSimpArgs false
set_option linter.unusedVariables false

section
variable (C : Cfg) (prim : FuncId → Option PrimT)

/-- A call comes to a result. -/
def CallR (g : FuncId) (vs : List V) (gs : List Rg) (x : V × List Rg) : Prop := ∃ k, ∀ k', k ≤ k' → callE C prim k' g vs gs = some x
/-- A loop, or a piece of code, comes to an end. -/
def Run (f : FuncId) (c : Code) (p : List Nat) (st : St) (e : Ex) (s : St) : Prop :=
  ∃ k, ∀ k', k ≤ k' → ∀ (R : Type) (κ : Ex → St → Option R), recE C prim k' R f c p st κ = κ e s
def RunX (f : FuncId) (c : Code) (p : List Nat) (st : St) (e : Ex) (s : St) : Prop :=
  ∃ k, ∀ k', k ≤ k' → ∀ (R : Type) (κ : Ex → St → Option R), execC C (optK (callE C prim k')) f (recE C prim k' R f) c p st κ = κ e s

def KOK (K : CallK) : Prop := ∀ g vs gs x, K g vs gs = (true, x) → CallR C prim g vs gs x
end

section
variable {C : Cfg} {prim : FuncId → Option PrimT} {K : CallK} {fid : FuncId}

theorem cond_some {R : Type} {b : Bool} {x : Option R} {r : R} (h : (bif b then x else none) = some r) : b = true ∧ x = some r := by
  cases b with
  | true => exact ⟨rfl, h⟩
  | false => cases h

theorem opK_run (hK : KOK C prim K) {R : Type} {r : R} (o : Oper) (st : St) (κ : St → Foot → Option R) (h : opK C K fid o st κ = some r) :
    ∃ s f, κ s f = some r ∧ ∃ k, ∀ k', k ≤ k' → ∀ (R' : Type) (κ' : St → Foot → Option R'), opK C (optK (callE C prim k')) fid o st κ' = κ' s f := by
  unfold opK at h
  simp only at h
  split at h
  · next c1 xs c3 g first caps ws hop hvs =>
    obtain ⟨hb, h⟩ := cond_some h
    split at h
    · next gs hgs =>
      obtain ⟨he, h⟩ := cond_some h
      rw [Bool.and_eq_true] at he
      obtain ⟨hk, he⟩ := he
      obtain ⟨k, hk2⟩ := hK g (prep C g (only (touch o (List.map (opd C.P st.env) (argsOf C.P o))) st.regs) (first ++ ws ++ caps)).vs gs (K g (prep C g (only (touch o (List.map (opd C.P st.env) (argsOf C.P o))) st.regs) (first ++ ws ++ caps)).vs gs).2 (by rw [← hk])
      refine ⟨_, _, h, k, fun k' hk' R' κ' => ?_⟩
      unfold opK
      simp only
      split
      · next d1 d2 d3 d4 d5 d6 d7 hop' hvs' =>
        rw [hop] at hop'
        rw [hvs] at hvs'
        injection hop' with e1
        injection e1 with e1 e2 e3
        injection e1 with e1
        injection hvs' with e4 e5
        injection e4 with e4 e6 e7
        subst e2 e4 e5 e6 e7
        rw [hb]
        simp only [cond_true]
        split
        · next gs' hgs' =>
          rw [hgs] at hgs'
          obtain rfl := Option.some.inj hgs'
          have hoo : optK (callE C prim k') g (prep C g (only (touch o (List.map (opd C.P st.env) (argsOf C.P o))) st.regs) (first ++ ws ++ caps)).vs gs = (true, (K g (prep C g (only (touch o (List.map (opd C.P st.env) (argsOf C.P o))) st.regs) (first ++ ws ++ caps)).vs gs).2) := by
            simp only [optK, hk2 k' hk']
          rw [hoo]
          simp only [Bool.true_and]
          rw [he]
          rfl
        · next hn => rw [hgs] at hn; cases hn
      · next hne => exact (hne _ _ _ _ _ _ _ hop hvs).elim
    · cases h
  · next hne =>
    obtain ⟨he, h⟩ := cond_some h
    refine ⟨_, _, h, 0, fun k' _ R' κ' => ?_⟩
    unfold opK
    simp only
    rw [he]; rfl

theorem opsK_run (hK : KOK C prim K) {R : Type} {r : R} (ops : Array Oper) (bef : Option (Array Nat)) : ∀ (l : List Oper) (i : Nat) (log : List (Nat × Oper × Foot)) (st : St) (κ : St → Option R), opsK C K fid ops bef l i log st κ = some r →
    ∃ s, κ s = some r ∧ ∃ k, ∀ k', k ≤ k' → ∀ (R' : Type) (κ' : St → Option R'), opsK C (optK (callE C prim k')) fid ops bef l i log st κ' = κ' s := by
  intro l
  induction l with
  | nil => intro i log st κ h; exact ⟨st, h, 0, fun _ _ _ _ => rfl⟩
  | cons o rest ih =>
    intro i log st κ h
    -- an operation that is wanted, from a state
    have go : ∀ st1 : St, (opK C K fid o st1 fun st' f => match (generalizing := false) bef with
        | none => opsK C K fid ops bef rest (i + 1) log st' κ
        | some b => bif !f.bad && apartLog ops (b.getD i 0) o log f then opsK C K fid ops bef rest (i + 1) ((i, o, f) :: log) st' κ else none) = some r →
        ∃ s, κ s = some r ∧ ∃ k, ∀ k', k ≤ k' → ∀ (R' : Type) (κ' : St → Option R'), (opK C (optK (callE C prim k')) fid o st1 fun st' f => match (generalizing := false) bef with
        | none => opsK C (optK (callE C prim k')) fid ops bef rest (i + 1) log st' κ'
        | some b => bif !f.bad && apartLog ops (b.getD i 0) o log f then opsK C (optK (callE C prim k')) fid ops bef rest (i + 1) ((i, o, f) :: log) st' κ' else none) = κ' s := by
      intro st1 h
      obtain ⟨s1, f1, h1, k1, h2⟩ := opK_run hK o st1 _ h
      cases bef with
      | none =>
        obtain ⟨s, h3, k2, h4⟩ := ih _ _ _ _ h1
        refine ⟨s, h3, max k1 k2, fun k' hk' R' κ' => ?_⟩
        rw [h2 k' (by omega)]
        exact h4 k' (by omega) R' κ'
      | some b =>
        simp only at h1
        obtain ⟨hb, h1⟩ := cond_some h1
        obtain ⟨s, h3, k2, h4⟩ := ih _ _ _ _ h1
        refine ⟨s, h3, max k1 k2, fun k' hk' R' κ' => ?_⟩
        rw [h2 k' (by omega)]
        simp only [hb, cond_true]
        exact h4 k' (by omega) R' κ'
    have no : ∀ st1 : St, (match (generalizing := false) bef with
        | none => opsK C K fid ops bef rest (i + 1) log st1 κ
        | some b => bif apartLog ops (b.getD i 0) o log Foot.nil then opsK C K fid ops bef rest (i + 1) ((i, o, Foot.nil) :: log) st1 κ else none) = some r →
        ∃ s, κ s = some r ∧ ∃ k, ∀ k', k ≤ k' → ∀ (R' : Type) (κ' : St → Option R'), (match (generalizing := false) bef with
        | none => opsK C (optK (callE C prim k')) fid ops bef rest (i + 1) log st1 κ'
        | some b => bif apartLog ops (b.getD i 0) o log Foot.nil then opsK C (optK (callE C prim k')) fid ops bef rest (i + 1) ((i, o, Foot.nil) :: log) st1 κ' else none) = κ' s := by
      intro st1 h
      cases bef with
      | none => exact ih _ _ _ _ h
      | some b =>
        simp only at h
        obtain ⟨hb, h⟩ := cond_some h
        obtain ⟨s, h3, k2, h4⟩ := ih _ _ _ _ h
        refine ⟨s, h3, k2, fun k' hk' R' κ' => ?_⟩
        simp only [hb, cond_true]
        exact h4 k' hk' R' κ'
    cases hg : o.guard with
    | none =>
      simp only [opsK, hg] at h ⊢
      exact go st h
    | some gw =>
      obtain ⟨g, want⟩ := gw
      simp only [opsK, hg] at h ⊢
      cases ht : guardDst ops g with
      | none => rw [ht] at h; cases h
      | some t =>
        rw [ht] at h
        simp only at h ⊢
        split at h
        · next c hc =>
          cases c with
          | true =>
            simp only [cond_true] at h ⊢
            cases want with
            | true => simp only [cond_true] at h ⊢; exact go _ h
            | false => simp only [cond_false] at h ⊢; exact no _ h
          | false =>
            simp only [cond_false] at h ⊢
            cases want with
            | true => simp only [cond_true] at h ⊢; exact no _ h
            | false => simp only [cond_false] at h ⊢; exact go _ h
        · next hc => exact no _ h
        · cases h

/-! ### paths -/
/-- The code at a path (the last step first). -/
def child : Nat → Code → Option Code
  | 0, .seq a _ => some a
  | 1, .seq _ b => some b
  | 0, .cond _ a _ => some a
  | 1, .cond _ _ b => some b
  | 0, .block _ a => some a
  | 0, .loop a => some a
  | _, _ => none
def codeAt (c : Code) : List Nat → Option Code
  | [] => some c
  | i :: p => match codeAt c p with | some c' => child i c' | none => none
def bodyAt (P : Program) (f : FuncId) (p : List Nat) : Option Code :=
  match P.funcs[f]? with
  | some fn => match fn.body with
    | some c => codeAt c p
    | none => none
  | none => none

/-- The piece of code at a path comes to an end. -/
def RunP (C : Cfg) (prim : FuncId → Option PrimT) (f : FuncId) (p : List Nat) (st : St) (e : Ex) (s : St) : Prop :=
  ∃ c, bodyAt C.P f p = some c ∧ Run C prim f c p st e s

/-- What is known of loops and pieces, told to what follows. -/
abbrev Tab := List Nat → St → (R : Type) → (Ex → St → Option R) → Option R
def TOK (C : Cfg) (prim : FuncId → Option PrimT) (f : FuncId) (T : Tab) : Prop :=
  ∀ p st0 R κ r, T p (forget C f p st0) R κ = some r → ∃ e s, κ e s = some r ∧ RunP C prim f p (forget C f p st0) e s

/-- Code, with what is known of calls, and of loops and pieces. -/
def ex {R : Type} (C : Cfg) (K : CallK) (f : FuncId) (T : Tab) (c : Code) (p : List Nat) (st : St) (κ : Ex → St → Option R) : Option R :=
  execC C K f (fun _ p st κ => T p st R κ) c p st κ

theorem bodyAt_child {P : Program} {f : FuncId} {p : List Nat} {c : Code} (h : bodyAt P f p = some c) (i : Nat) : bodyAt P f (i :: p) = child i c := by
  unfold bodyAt at h ⊢
  cases hf : P.funcs[f]? with
  | none => rw [hf] at h; cases h
  | some fn =>
    simp only [hf] at h ⊢
    cases hb : fn.body with
    | none => rw [hb] at h; cases h
    | some b =>
      simp only [hb] at h ⊢
      simp only [codeAt, h]

theorem execC_run (hK : KOK C prim K) {R : Type} {r : R} {rec : Code → List Nat → St → (Ex → St → Option R) → Option R}
    (hT : ∀ c p st0 κ, bodyAt C.P fid p = some c → rec c p (forget C fid p st0) κ = some r → ∃ e s, κ e s = some r ∧ Run C prim fid c p (forget C fid p st0) e s) :
    ∀ (c : Code) (p : List Nat) (st : St) (κ : Ex → St → Option R), bodyAt C.P fid p = some c → execC C K fid rec c p st κ = some r →
    ∃ e s, κ e s = some r ∧ RunX C prim fid c p st e s := by
  intro c
  induction c with
  | skip => intro p st κ _ h; exact ⟨.nm, st, h, 0, fun _ _ _ _ => rfl⟩
  | region id ops draw =>
    intro p st κ _ h
    simp only [execC] at h
    cases draw with
    | true =>
      simp only [cond_true] at h
      obtain ⟨hb, h⟩ := cond_some h
      obtain ⟨s, h1, k, h2⟩ := opsK_run hK _ _ _ _ _ _ _ h
      refine ⟨.nm, s, h1, k, fun k' hk' R' κ' => ?_⟩
      simp only [execC, cond_true, hb]
      exact h2 k' hk' R' (κ' .nm)
    | false =>
      simp only [cond_false] at h
      obtain ⟨s, h1, k, h2⟩ := opsK_run hK _ _ _ _ _ _ _ h
      refine ⟨.nm, s, h1, k, fun k' hk' R' κ' => ?_⟩
      simp only [execC, cond_false]
      exact h2 k' hk' R' (κ' .nm)
  | seq x y ihx ihy =>
    intro p st κ hp h
    have hpx : bodyAt C.P fid (0 :: p) = some x := by rw [bodyAt_child hp]; rfl
    have hpy : bodyAt C.P fid (1 :: p) = some y := by rw [bodyAt_child hp]; rfl
    simp only [execC] at h
    obtain ⟨e, s, h1, k1, h2⟩ := ihx _ _ _ hpx h
    cases e with
    | nm =>
      simp only at h1
      cases hc : C.cut fid (1 :: p) with
      | false =>
        simp only [hc, cond_false] at h1
        obtain ⟨e, s', h3, k2, h4⟩ := ihy _ _ _ hpy h1
        refine ⟨e, s', h3, max k1 k2, fun k' hk' R' κ' => ?_⟩
        simp only [execC]
        rw [h2 k' (by omega)]
        simp only [hc, cond_false]
        exact h4 k' (by omega) R' κ'
      | true =>
        simp only [hc, cond_true] at h1
        obtain ⟨e, s', h3, k2, h4⟩ := hT _ _ _ _ hpy h1
        refine ⟨e, _, h3, max k1 k2, fun k' hk' R' κ' => ?_⟩
        simp only [execC]
        rw [h2 k' (by omega)]
        simp only [hc, cond_true]
        exact h4 k' (by omega) R' _
    | ex i =>
      refine ⟨.ex i, s, h1, k1, fun k' hk' R' κ' => ?_⟩
      simp only [execC]
      rw [h2 k' hk']
    | rt =>
      refine ⟨.rt, s, h1, k1, fun k' hk' R' κ' => ?_⟩
      simp only [execC]
      rw [h2 k' hk']
  | cond c x y ihx ihy =>
    intro p st κ hp h
    have hpx : bodyAt C.P fid (0 :: p) = some x := by rw [bodyAt_child hp]; rfl
    have hpy : bodyAt C.P fid (1 :: p) = some y := by rw [bodyAt_child hp]; rfl
    simp only [execC] at h
    split at h
    · next t ht =>
      cases t with
      | true =>
        obtain ⟨e, s, h1, k, h2⟩ := ihx _ _ _ hpx h
        refine ⟨e, s, h1, k, fun k' hk' R' κ' => ?_⟩
        simp only [execC, ht, cond_true]
        exact h2 k' hk' R' κ'
      | false =>
        obtain ⟨e, s, h1, k, h2⟩ := ihy _ _ _ hpy h
        refine ⟨e, s, h1, k, fun k' hk' R' κ' => ?_⟩
        simp only [execC, ht, cond_false]
        exact h2 k' hk' R' κ'
    · cases h
  | block id x ih =>
    intro p st κ hp h
    have hpx : bodyAt C.P fid (0 :: p) = some x := by rw [bodyAt_child hp]; rfl
    simp only [execC] at h
    obtain ⟨e, s, h1, k, h2⟩ := ih _ _ _ hpx h
    cases e with
    | nm =>
      refine ⟨.nm, s, h1, k, fun k' hk' R' κ' => ?_⟩
      simp only [execC]
      rw [h2 k' hk']
    | ex i =>
      simp only at h1
      cases hi : Nat.beq i id with
      | true =>
        rw [hi] at h1
        refine ⟨.nm, s, h1, k, fun k' hk' R' κ' => ?_⟩
        simp only [execC]
        rw [h2 k' hk']
        simp only [hi, cond_true]
      | false =>
        rw [hi] at h1
        refine ⟨.ex i, s, h1, k, fun k' hk' R' κ' => ?_⟩
        simp only [execC]
        rw [h2 k' hk']
        simp only [hi, cond_false]
    | rt =>
      refine ⟨.rt, s, h1, k, fun k' hk' R' κ' => ?_⟩
      simp only [execC]
      rw [h2 k' hk']
  | loop x ih =>
    intro p st κ hp h
    simp only [execC] at h
    obtain ⟨e, s', h3, k2, h4⟩ := hT _ _ _ _ hp h
    refine ⟨e, _, h3, k2, fun k' hk' R' κ' => ?_⟩
    simp only [execC]
    exact h4 k' hk' R' _
  | exit id => intro p st κ _ h; exact ⟨.ex id, st, h, 0, fun _ _ _ _ => rfl⟩
  | ret => intro p st κ _ h; exact ⟨.rt, st, h, 0, fun _ _ _ _ => rfl⟩
  | _ => intro p st κ _ h; cases h

theorem ex_run (hK : KOK C prim K) {T : Tab} (hT : TOK C prim fid T) {R : Type} {r : R} (c : Code) (p : List Nat) (st : St) (κ : Ex → St → Option R) (hp : bodyAt C.P fid p = some c) (h : ex C K fid T c p st κ = some r) :
    ∃ e s, κ e s = some r ∧ RunX C prim fid c p st e s := by
  refine execC_run hK (fun c p st0 κ hp h => ?_) c p st κ hp h
  obtain ⟨e, s, h1, c', hc', h2⟩ := hT _ _ _ _ _ h
  rw [hp] at hc'
  obtain rfl := Option.some.inj hc'
  exact ⟨e, s, h1, h2⟩

/-- A piece of code that is no loop. -/
theorem run_cut (hK : KOK C prim K) {T : Tab} (hT : TOK C prim fid T) {c : Code} {p : List Nat} (hp : bodyAt C.P fid p = some c) (hc : ∀ x, c ≠ .loop x) {st : St} {R : Type} {κ : Ex → St → Option R} {r : R}
    (h : ex C K fid T c p st (fun e s => κ e (forget C fid (9 :: p) s)) = some r) : ∃ e s, κ e s = some r ∧ RunP C prim fid p st e s := by
  obtain ⟨e', s', h1, k, h2⟩ := ex_run hK hT c p st _ hp h
  refine ⟨e', _, h1, c, hp, k + 1, fun k' hk' R κ => ?_⟩
  obtain ⟨m, rfl⟩ : ∃ m, k' = m + 1 := ⟨k' - 1, by omega⟩
  rw [recE_code m fid c hc]
  exact h2 m (by omega) R _

/-- A round of a loop; 'L': what is known of the rounds behind it. -/
theorem run_loop (hK : KOK C prim K) {T : Tab} (hT : TOK C prim fid T) {a : Code} {p : List Nat} (hp : bodyAt C.P fid p = some (.loop a)) {st : St} {R : Type} {κ : Ex → St → Option R} {r : R} (L : St → Option R)
    (hL : ∀ st0, L (forget C fid p st0) = some r → ∃ e s, κ e s = some r ∧ RunP C prim fid p (forget C fid p st0) e s)
    (h : ex C K fid T a (0 :: p) st (fun e s => match e with | .nm => L (forget C fid p s) | e => κ e (forget C fid (9 :: p) s)) = some r) : ∃ e s, κ e s = some r ∧ RunP C prim fid p st e s := by
  have hpa : bodyAt C.P fid (0 :: p) = some a := by rw [bodyAt_child hp]; rfl
  obtain ⟨e, s, h1, k, h2⟩ := ex_run hK hT a (0 :: p) st _ hpa h
  cases e with
  | nm =>
    simp only at h1
    obtain ⟨e', s', h3, c', hc', k2, h4⟩ := hL _ h1
    rw [hp] at hc'
    obtain rfl := Option.some.inj hc'
    refine ⟨e', s', h3, _, hp, max k k2 + 1, fun k' hk' R κ => ?_⟩
    obtain ⟨m, rfl⟩ : ∃ m, k' = m + 1 := ⟨k' - 1, by omega⟩
    rw [recE_loop]
    rw [h2 m (by omega)]
    exact h4 m (by omega) R κ
  | ex i =>
    refine ⟨.ex i, _, h1, _, hp, k + 1, fun k' hk' R κ => ?_⟩
    obtain ⟨m, rfl⟩ : ∃ m, k' = m + 1 := ⟨k' - 1, by omega⟩
    rw [recE_loop]
    rw [h2 m (by omega)]
  | rt =>
    refine ⟨.rt, _, h1, _, hp, k + 1, fun k' hk' R κ => ?_⟩
    obtain ⟨m, rfl⟩ : ∃ m, k' = m + 1 := ⟨k' - 1, by omega⟩
    rw [recE_loop]
    rw [h2 m (by omega)]

/-- What stands behind a body. -/
def fin (C : Cfg) (f : FuncId) (rs : List ResultVar) (np : Nat) : Ex → St → Option (V × List Rg) := fun e st => match e with
  | .ex _ => none
  | _ => endOf C f rs np st

/-- A function's call. -/
theorem call_body (hK : KOK C prim K) {T : Tab} (hT : TOK C prim fid T) {fn : Func} {c : Code} (hf : C.P.funcs[fid]? = some fn) (hb : fn.body = some c) (hp : prim fid = none)
    {vs : List V} {gs : List Rg} (hok : (codeOk fn.ntmps c && Nat.ble vs.length fn.ntmps && !(fn.name == "runtime.NumGoroutine")) = true) (hl : ∀ x, c ≠ .loop x) {x : V × List Rg}
    (h : ex C K fid T c [] (stOf vs gs) (fun e s => fin C fid fn.results.toList gs.length e (forget C fid [9] s)) = some x) : CallR C prim fid vs gs x := by
  have hba : bodyAt C.P fid [] = some c := by simp [bodyAt, hf, hb, codeAt]
  obtain ⟨e, s, h1, k, h2⟩ := ex_run hK hT c [] _ _ hba h
  refine ⟨k + 1, fun k' hk' => ?_⟩
  obtain ⟨m, rfl⟩ : ∃ m, k' = m + 1 := ⟨k' - 1, by omega⟩
  unfold callE callBody
  simp only [hp, hf, hb, hok, cond_true]
  rw [recE_code m fid c hl, h2 m (by omega)]
  exact h1

theorem call_prim {g : FuncId} {p : PrimT} (hp : prim g = some p) {vs : List V} {gs : List Rg} {x : V × List Rg} (h : p vs gs = (true, x)) : CallR C prim g vs gs x :=
  ⟨0, fun k' _ => by simp only [callE, callBody, hp, h, cond_true]⟩

/-! ### what runs with some fuel -/
theorem recE_run (k : Nat) (hK : KOK C prim (optK (callE C prim k)))
    (ih : ∀ (R : Type) (f : FuncId) (c : Code) (p : List Nat) (st : St) (κ : Ex → St → Option R) (r : R), bodyAt C.P f p = some c → recE C prim k R f c p st κ = some r → ∃ e s, κ e s = some r ∧ Run C prim f c p st e s)
    (R : Type) (f : FuncId) (c : Code) (p : List Nat) (st : St) (κ : Ex → St → Option R) (r : R) (hp : bodyAt C.P f p = some c) (h : recE C prim (k + 1) R f c p st κ = some r) : ∃ e s, κ e s = some r ∧ Run C prim f c p st e s := by
  by_cases hc : ∃ x, c = .loop x
  · obtain ⟨a, rfl⟩ := hc
    rw [recE_loop] at h
    have hpa : bodyAt C.P f (0 :: p) = some a := by rw [bodyAt_child hp]; rfl
    obtain ⟨e, s, h1, k1, h2⟩ := execC_run hK (rec := recE C prim k R f) (fun c p st0 κ hp h => ih R f c p _ κ r hp h) a (0 :: p) st _ hpa h
    cases e with
    | nm =>
      simp only at h1
      obtain ⟨e', s', h3, k2, h4⟩ := ih R f _ p _ κ r hp h1
      refine ⟨e', s', h3, max k1 k2 + 1, fun k' hk' R κ => ?_⟩
      obtain ⟨m, rfl⟩ : ∃ m, k' = m + 1 := ⟨k' - 1, by omega⟩
      rw [recE_loop]
      rw [h2 m (by omega)]
      exact h4 m (by omega) R κ
    | ex i =>
      refine ⟨.ex i, _, h1, k1 + 1, fun k' hk' R κ => ?_⟩
      obtain ⟨m, rfl⟩ : ∃ m, k' = m + 1 := ⟨k' - 1, by omega⟩
      rw [recE_loop]
      rw [h2 m (by omega)]
    | rt =>
      refine ⟨.rt, _, h1, k1 + 1, fun k' hk' R κ => ?_⟩
      obtain ⟨m, rfl⟩ : ∃ m, k' = m + 1 := ⟨k' - 1, by omega⟩
      rw [recE_loop]
      rw [h2 m (by omega)]
  · have hc' : ∀ x, c ≠ .loop x := fun x e => hc ⟨x, e⟩
    rw [recE_code k f c hc'] at h
    obtain ⟨e, s, h1, k1, h2⟩ := execC_run hK (rec := recE C prim k R f) (fun c p st0 κ hp h => ih R f c p _ κ r hp h) c p st _ hp h
    refine ⟨e, _, h1, k1 + 1, fun k' hk' R κ => ?_⟩
    obtain ⟨m, rfl⟩ : ∃ m, k' = m + 1 := ⟨k' - 1, by omega⟩
    rw [recE_code m f c hc', h2 m (by omega)]

theorem callE_of (k : Nat) (ih : ∀ (R : Type) (f : FuncId) (c : Code) (p : List Nat) (st : St) (κ : Ex → St → Option R) (r : R), bodyAt C.P f p = some c → recE C prim k R f c p st κ = some r → ∃ e s, κ e s = some r ∧ Run C prim f c p st e s)
    {g : FuncId} {vs : List V} {gs : List Rg} {x : V × List Rg} (h : callE C prim k g vs gs = some x) : CallR C prim g vs gs x := by
  unfold callE callBody at h
  cases hp : prim g with
  | some p =>
    rw [hp] at h
    simp only at h
    obtain ⟨h1, h2⟩ := cond_some h
    refine call_prim hp ?_
    rw [← h1, ← Option.some.inj h2]
  | none =>
    rw [hp] at h
    simp only at h
    cases hf : C.P.funcs[g]? with
    | none => rw [hf] at h; cases h
    | some fn =>
      rw [hf] at h
      simp only at h
      cases hb : fn.body with
      | none => rw [hb] at h; cases h
      | some c =>
        rw [hb] at h
        simp only at h
        obtain ⟨h1, h2⟩ := cond_some h
        have hba : bodyAt C.P g [] = some c := by simp [bodyAt, hf, hb, codeAt]
        obtain ⟨e, s, h3, k1, h4⟩ := ih _ g c [] _ _ _ hba h2
        refine ⟨k1, fun k' hk' => ?_⟩
        unfold callE callBody
        simp only [hp, hf, hb, h1, cond_true]
        rw [h4 k' hk']
        exact h3

theorem recE_all : ∀ (k : Nat) (R : Type) (f : FuncId) (c : Code) (p : List Nat) (st : St) (κ : Ex → St → Option R) (r : R), bodyAt C.P f p = some c → recE C prim k R f c p st κ = some r → ∃ e s, κ e s = some r ∧ Run C prim f c p st e s
  | 0, _, _, _, _, _, _, _, _, h => by cases h
  | k + 1, R, f, c, p, st, κ, r, hp, h => by
    refine recE_run k (fun g vs gs x hx => ?_) (recE_all k) R f c p st κ r hp h
    simp only [optK] at hx
    split at hx
    · next y hy =>
      simp only [Prod.mk.injEq, true_and] at hx
      subst hx
      exact callE_of k (recE_all k) hy
    · cases hx

/-- A call that runs with some fuel. -/
theorem call_fuel {k : Nat} {g : FuncId} {vs : List V} {gs : List Rg} {x : V × List Rg} (h : callE C prim k g vs gs = some x) : CallR C prim g vs gs x := callE_of k (recE_all k) h
end
end Go.Ab
/- Arguments that can be read are the machine's values. -/
namespace Go.Ab
open Go
set_option linter.unusedSimpArgs false
set_option linter.unusedVariables false

/- How much a value holds. -/
mutual
def V.bulk : V → Nat
  | .sc (.string s) => s.size + 1
  | .sl _ xs => bulkL xs + 1
  | .ag xs => bulkL xs
  | _ => 1
def bulkL : List V → Nat
  | [] => 0
  | x :: xs => x.bulk + bulkL xs
end
theorem bulkL_append : ∀ (a b : List V), bulkL (a ++ b) = bulkL a + bulkL b
  | [], b => by simp [bulkL]
  | x :: a, b => by simp [bulkL, bulkL_append a b]; omega

/-- Fields lie one behind the other. -/
def laidF (P : Program) : List Field → Nat → Nat → Bool
  | [], o, n => Nat.beq o n
  | f :: fs, o, n => Nat.beq f.offset o && laidF P fs (o + szT P f.type) n

/-- Types of plain data. -/
def plainT (P : Program) : Nat → TypeId → Bool
  | 0, _ => false
  | n + 1, t => match P.underlying t with
    | some .bool | some (.int _) | some .string => Nat.beq (szT P t) 1
    | some (.slice e) => Nat.beq (szT P t) 1 && Nat.blt 0 (szT P e) && plainT P n e
    | some (.struct fs) => laidF P fs.toList 0 (szT P t) && fs.toList.all fun f => plainT P n f.type
    | some (.array k e) => Nat.beq (k * szT P e) (szT P t) && plainT P n e
    | _ => false

def isF (Q : TypeId → List V → Prop) : List Field → List (List V) → Prop
  | [], [] => True
  | f :: fs, y :: ys => Q f.type y ∧ isF Q fs ys
  | _, _ => False

/-- Cells of a type. -/
def isT (P : Program) : Nat → TypeId → List V → Prop
  | 0, _, _ => False
  | n + 1, t, xs => match P.underlying t with
    | some .bool => ∃ b, xs = [.sc (.bool b)]
    | some (.int k) => ∃ m, xs = [.sc (.int k m)] ∧ (Lit.int k m).wf = true
    | some .string => ∃ s : ByteArray, xs = [.sc (.string s)] ∧ s.size ≤ maxLen
    | some (.slice e) => ∃ l : List (List V), xs = [.sl (szT P e) l.flatten] ∧ (∀ y ∈ l, isT P n e y ∧ y.length = szT P e) ∧ l.length ≤ maxLen
    | some (.struct fs) => ∃ l : List (List V), xs = l.flatten ∧ isF (isT P n) fs.toList l
    | some (.array k e) => ∃ l : List (List V), xs = l.flatten ∧ l.length = k ∧ ∀ y ∈ l, isT P n e y
    | _ => False

section
variable {H : Type} {enc : TypeId × Value → H} {P : Program} {w : World}
open Go.Proofs.YtbeemjiaohaamaaGreatDoor.Rows (uptoBulk uptoBulkAll)

/-- A reading, as cells. -/
structure Reads (P : Program) (w : World) (n : Nat) (t : TypeId) (cs : List Value) (b : Nat) (xs : List V) : Prop where
  rv : RvL w (fun k => k < w.heap.size) noGM cs xs
  is : isT P n t xs
  bulk : bulkL xs ≤ b
  len : xs.length = szT P t
  cim : cimL xs = true
  one : ∀ u ∈ cs, u.oneCell' = true

theorem cellsOf_szT (t : TypeId) : P.cellsOf t = szT P t := by
  unfold Program.cellsOf szT
  cases P.info? t <;> rfl

theorem cell_spot {a : Addr} {v : Value} (h : w.cell? a = some v) : a.spot = none ∧ a.block < w.heap.size := by
  unfold World.cell? at h
  split at h
  · next hc =>
    refine ⟨?_, (Array.getElem?_eq_some_iff.1 hc).1⟩
    cases hs : a.spot with
    | none => rfl
    | some x => rw [hs] at h; simp at h
  · cases h

theorem add_zero (a : Addr) : a.add 0 = a := by
  obtain ⟨b, o, s⟩ := a
  cases s <;> simp [Addr.add]

theorem cells_get {base n : Nat} {a : Addr} {cs : List Value} (h : w.cells? base a n = some cs) : cs.length = n ∧ ∀ i, i < n → w.cell? (a.add i) = cs[i]? := by
  unfold World.cells? at h
  split at h
  · refine ⟨by simpa using mapM_some_length h, fun i hi => ?_⟩
    exact mapM_some_get h i i (by simp [hi])
  · cases h

/-- Elements of a slice, one after the other. -/
theorem read_elems {a : Addr} {e : TypeId} {n m : Nat} (hsz : 0 < szT P e)
    (ih : ∀ (cs : List Value) (d : DataW H) (ps : List MemPlace), DataW.trod enc P w 0 (fun _ => true) true m e cs = some (d, ps) → ∃ xs, Reads P w n e cs (uptoBulk d) xs) :
    ∀ (elems : List (DataW H × List MemPlace)), (∀ i, i < elems.length → (w.cells? 0 (a.add (i * P.cellsOf e)) (P.cellsOf e)).bind (DataW.trod enc P w 0 (fun _ => true) true m e) = elems[i]?) →
    ∀ k, k ≤ elems.length → ∃ (l : List (List V)) (cs : List Value), l.length = k ∧ cs.length = k * szT P e ∧ CellsAt w a cs ∧ RvL w (fun k => k < w.heap.size) noGM cs l.flatten ∧ (∀ y ∈ l, isT P n e y ∧ y.length = szT P e) ∧
      bulkL l.flatten ≤ uptoBulkAll ((elems.take k).map (·.1)) ∧ cimL l.flatten = true ∧ (∀ u ∈ cs, u.oneCell' = true) ∧ (0 < k → a.spot = none ∧ a.block < w.heap.size) := by
  intro elems hel k
  induction k with
  | zero => exact fun _ => ⟨[], [], rfl, by simp, CellsAt.nil _ _, trivial, by simp, by simp [bulkL], rfl, by simp, by simp⟩
  | succ k ihk =>
    intro hk
    obtain ⟨l, cs, h1, h2, h3, h4, h5, h6, h7, h8, h9⟩ := ihk (by omega)
    have hb := hel k (by omega)
    rw [List.getElem?_eq_getElem (by omega), Option.bind_eq_some_iff] at hb
    obtain ⟨cs', hc, ht⟩ := hb
    obtain ⟨xs, hr⟩ := ih cs' elems[k].1 elems[k].2 ht
    obtain ⟨c1, c2⟩ := cells_get hc
    rw [cellsOf_szT] at c1 c2
    have hsp : a.spot = none ∧ a.block < w.heap.size := by
      cases k with
      | succ k => exact h9 (by omega)
      | zero =>
        have := c2 0 hsz
        rw [Nat.zero_mul, add_zero, add_zero, List.getElem?_eq_getElem (by omega)] at this
        exact cell_spot this
    have hadd : ∀ i, (a.add (k * szT P e)).add i = ⟨a.block, a.off + (k * szT P e + i), none⟩ := by
      intro i
      obtain ⟨b, o, s⟩ := a
      have : s = none := hsp.1
      subst this
      rw [add_addr, add_addr]
      simp [Nat.add_assoc]
    have hlen : (l ++ [xs]).flatten = l.flatten ++ xs := by simp
    refine ⟨l ++ [xs], cs ++ cs', by simp [h1], by simp [h2, c1, Nat.succ_mul], ?_, ?_, ?_, ?_, ?_, ?_, fun _ => hsp⟩
    · intro j v hj
      rw [List.getElem?_append] at hj
      split at hj
      · exact h3 j v hj
      · next hge =>
        have hj2 : j - cs.length < szT P e := by
          have := (List.getElem?_eq_some_iff.1 hj).1
          omega
        have := c2 (j - cs.length) hj2
        rw [hadd, hj] at this
        rw [← this]
        congr 1
        simp only [Addr.mk.injEq, true_and, and_true]
        omega
    · rw [hlen]; exact RvL.append h4 hr.rv
    · intro y hy
      simp only [List.mem_append, List.mem_singleton] at hy
      rcases hy with hy | rfl
      · exact h5 y hy
      · exact ⟨hr.is, hr.len⟩
    · rw [hlen, bulkL_append, List.take_succ_eq_append_getElem (by omega), List.map_append]
      have e1 : ∀ (p q : List (DataW H)), uptoBulkAll (p ++ q) = uptoBulkAll p + uptoBulkAll q := by
        intro p q
        induction p with
        | nil => simp [uptoBulkAll]
        | cons z p ih => simp only [List.cons_append, uptoBulkAll, ih]; omega
      rw [e1]
      have := hr.bulk
      simp only [List.map_cons, List.map_nil, uptoBulkAll]
      omega
    · rw [hlen, cimL_append, h7, hr.cim]; rfl
    · intro u hu
      simp only [List.mem_append] at hu
      rcases hu with hu | hu
      · exact h8 u hu
      · exact hr.one u hu

/-- A struct's fields, one after the other. -/
theorem read_fields {n m : Nat} {cs : List Value}
    (ih : ∀ (t : TypeId) (cs : List Value) (d : DataW H) (ps : List MemPlace), plainT P n t = true → DataW.trod enc P w 0 (fun _ => true) true m t cs = some (d, ps) → ∃ xs, Reads P w n t cs (uptoBulk d) xs) :
    ∀ (fs : List Field) (o : Nat) (ds : List (DataW H × List MemPlace)), fs.length = ds.length → (∀ (i : Nat) (f : Field), fs[i]? = some f → DataW.trod enc P w 0 (fun _ => true) true m f.type ((cs.drop f.offset).take (P.cellsOf f.type)) = ds[i]?) →
    laidF P fs o cs.length = true → (fs.all fun f => plainT P n f.type) = true →
    ∃ l : List (List V), RvL w (fun k => k < w.heap.size) noGM (cs.drop o) l.flatten ∧ isF (isT P n) fs l ∧ bulkL l.flatten ≤ uptoBulkAll (ds.map (·.1)) ∧ l.flatten.length + o = cs.length ∧ cimL l.flatten = true ∧ ∀ u ∈ cs.drop o, u.oneCell' = true
  | [], o, [], _, _, hl, _ => by
    have := nbeq hl
    subst this
    exact ⟨[], by simp [RvL], trivial, by simp [bulkL], by simp, rfl, by simp⟩
  | f :: fs, o, d :: ds, hlen, hd, hl, hp => by
    simp only [laidF, Bool.and_eq_true] at hl
    simp only [List.all_cons, Bool.and_eq_true] at hp
    obtain ⟨ho, hl⟩ := hl
    have ho := nbeq ho
    subst ho
    have h0 := hd 0 f rfl
    rw [List.getElem?_cons_zero, cellsOf_szT] at h0
    obtain ⟨xs, hr⟩ := ih f.type _ d.1 d.2 hp.1 h0
    obtain ⟨l, k1, k2, k3, k4, k5, k6⟩ := read_fields ih fs (f.offset + szT P f.type) ds (by simpa using hlen) (fun i g hg => by
      have := hd (i + 1) g (by simpa using hg)
      simpa using this) hl hp.2
    have hcs : cs.drop f.offset = (cs.drop f.offset).take (szT P f.type) ++ cs.drop (f.offset + szT P f.type) := by
      rw [← List.drop_drop, List.take_append_drop]
    refine ⟨xs :: l, ?_, ⟨hr.is, k2⟩, ?_, ?_, ?_, ?_⟩
    · rw [hcs, List.flatten_cons]
      exact RvL.append hr.rv k1
    · rw [List.flatten_cons, bulkL_append]
      have := hr.bulk
      simp only [List.map_cons, uptoBulkAll]
      omega
    · rw [List.flatten_cons, List.length_append, hr.len]
      omega
    · rw [List.flatten_cons, cimL_append, hr.cim, k5]; rfl
    · rw [hcs]
      intro u hu
      simp only [List.mem_append] at hu
      rcases hu with hu | hu
      · exact hr.one u hu
      · exact k6 u hu
  | [], _, _ :: _, hlen, _, _, _ => by simp at hlen
  | _ :: _, _, [], hlen, _, _, _ => by simp at hlen

/-- An array's elements, one after the other. -/
theorem read_arr {n m : Nat} {e : TypeId} {cs : List Value}
    (ih : ∀ (cs : List Value) (d : DataW H) (ps : List MemPlace), DataW.trod enc P w 0 (fun _ => true) true m e cs = some (d, ps) → ∃ xs, Reads P w n e cs (uptoBulk d) xs) :
    ∀ (ds : List (DataW H × List MemPlace)) (i : Nat), (∀ j, j < ds.length → DataW.trod enc P w 0 (fun _ => true) true m e ((cs.drop ((i + j) * szT P e)).take (szT P e)) = ds[j]?) → cs.length = (i + ds.length) * szT P e →
    ∃ l : List (List V), RvL w (fun k => k < w.heap.size) noGM (cs.drop (i * szT P e)) l.flatten ∧ l.length = ds.length ∧ (∀ y ∈ l, isT P n e y) ∧ bulkL l.flatten ≤ uptoBulkAll (ds.map (·.1)) ∧ l.flatten.length + i * szT P e = cs.length ∧ cimL l.flatten = true ∧ ∀ u ∈ cs.drop (i * szT P e), u.oneCell' = true
  | [], i, _, hl => by
    have hl' : cs.length = i * szT P e := by simpa using hl
    have hd : cs.drop (i * szT P e) = [] := List.drop_of_length_le (by omega)
    exact ⟨[], by rw [hd]; simp [RvL], rfl, by simp, by simp [bulkL], by simp [hl'], rfl, by rw [hd]; simp⟩
  | d :: ds, i, hd, hl => by
    have h0 := hd 0 (by simp)
    rw [List.getElem?_cons_zero, Nat.add_zero] at h0
    obtain ⟨xs, hr⟩ := ih _ d.1 d.2 h0
    have hl2 : cs.length = (i + 1 + ds.length) * szT P e := by
      rw [hl, List.length_cons]
      congr 1
      omega
    obtain ⟨l, k1, k2, k3, k4, k5, k6, k7⟩ := read_arr ih ds (i + 1) (fun j hj => by
      have := hd (j + 1) (by simp only [List.length_cons]; omega)
      rw [List.getElem?_cons_succ] at this
      rw [← this, show i + 1 + j = i + (j + 1) by omega]) hl2
    have es : (i + 1) * szT P e = i * szT P e + szT P e := by rw [Nat.add_mul, Nat.one_mul]
    have hcs : cs.drop (i * szT P e) = (cs.drop (i * szT P e)).take (szT P e) ++ cs.drop ((i + 1) * szT P e) := by
      rw [es, ← List.drop_drop, List.take_append_drop]
    refine ⟨xs :: l, ?_, by simp [k2], ?_, ?_, ?_, ?_, ?_⟩
    · rw [hcs, List.flatten_cons]
      exact RvL.append hr.rv k1
    · intro y hy
      simp only [List.mem_cons] at hy
      rcases hy with rfl | hy
      · exact hr.is
      · exact k3 y hy
    · rw [List.flatten_cons, bulkL_append]
      have := hr.bulk
      simp only [List.map_cons, uptoBulkAll]
      omega
    · rw [List.flatten_cons, List.length_append, hr.len]
      omega
    · rw [List.flatten_cons, cimL_append, hr.cim, k6]; rfl
    · rw [hcs]
      intro u hu
      simp only [List.mem_append] at hu
      rcases hu with hu | hu
      · exact hr.one u hu
      · exact k7 u hu

theorem reads_ok : ∀ (n : Nat) (t : TypeId) (m : Nat) (cs : List Value) (d : DataW H) (ps : List MemPlace), plainT P n t = true → DataW.trod enc P w 0 (fun _ => true) true m t cs = some (d, ps) → ∃ xs, Reads P w n t cs (uptoBulk d) xs
  | 0, _, _, _, _, _, hp, _ => by cases hp
  | n + 1, t, m, cs, d, ps, hp, h => by
    simp only [plainT] at hp
    split at hp
    · next ht =>
      obtain ⟨b, rfl, hx⟩ := DataW.trod_bool ht h
      obtain ⟨rfl, _⟩ := Prod.mk.inj hx
      exact ⟨[.sc (.bool b)], ⟨⟨rfl, rfl⟩, trivial⟩, by simp only [isT, ht]; exact ⟨b, rfl⟩, by simp [bulkL, V.bulk, uptoBulk], by rw [nbeq hp]; rfl, rfl, by simp [Value.oneCell']⟩
    · next k ht =>
      obtain ⟨z, rfl, hx, hwf⟩ := DataW.trod_int ht h
      obtain ⟨rfl, _⟩ := Prod.mk.inj hx
      exact ⟨[.sc (.int k z)], ⟨⟨rfl, rfl⟩, trivial⟩, by simp only [isT, ht]; exact ⟨z, rfl, hwf⟩, by simp [bulkL, V.bulk, uptoBulk], by rw [nbeq hp]; rfl, rfl, by simp [Value.oneCell']⟩
    · next ht =>
      obtain ⟨s, rfl, hx, hs⟩ := DataW.trod_string ht h
      obtain ⟨rfl, _⟩ := Prod.mk.inj hx
      refine ⟨[.sc (.string s)], ⟨⟨rfl, rfl⟩, trivial⟩, by simp only [isT, ht]; exact ⟨s, rfl, hs⟩, ?_, by rw [nbeq hp]; rfl, rfl, by simp [Value.oneCell']⟩
      have : s.data.toList.length = s.size := by rw [Array.length_toList]; rfl
      simp only [bulkL, V.bulk, uptoBulk]
      omega
    · next e ht =>
      simp only [Bool.and_eq_true] at hp
      obtain ⟨⟨hp1, hp2⟩, hp3⟩ := hp
      have hsz := nblt hp2
      rcases DataW.trod_slice ht h with ⟨rfl, hx⟩ | ⟨a, len, cap, elems, rest, m', rfl, rfl, hx, _, hlc, hcm, hlen, hel, _, _⟩
      · obtain ⟨rfl, _⟩ := Prod.mk.inj hx
        exact ⟨[.sl (szT P e) []], ⟨.inl ⟨rfl, rfl⟩, trivial⟩, by simp only [isT, ht]; exact ⟨[], rfl, by simp, by simp⟩, by simp [bulkL, V.bulk, uptoBulk], by rw [nbeq hp1]; rfl, rfl, by simp [Value.oneCell']⟩
      · obtain ⟨rfl, _⟩ := Prod.mk.inj hx
        obtain ⟨l, cs, k1, k2, k3, k4, k5, k6, k7, k8, k9⟩ := read_elems hsz (fun cs d ps h => reads_ok n e m' cs d ps hp3 h) elems (fun i hi => hel i (by omega)) len (by omega)
        have hfl : l.flatten.length = len * szT P e := by rw [← k4.length, k2]
        refine ⟨[.sl (szT P e) l.flatten], ⟨.inr ⟨a, len, cap, cs, rfl, fun hne => ?_, hlc, hfl, hsz, k3, fun hne => ?_, k4, cimL_cib _ k7, k8⟩, trivial⟩, by simp only [isT, ht]; exact ⟨l, rfl, k5, by omega⟩, ?_, by rw [nbeq hp1]; rfl, rfl, by simp [Value.oneCell']⟩
        · have : 0 < len := by
            rcases Nat.eq_zero_or_pos len with h0 | h0
            · subst h0; rw [Nat.zero_mul] at hfl; exact absurd (List.eq_nil_of_length_eq_zero hfl) hne
            · exact h0
          exact (k9 this).1
        · have : 0 < len := by
            rcases Nat.eq_zero_or_pos len with h0 | h0
            · subst h0; rw [Nat.zero_mul] at hfl; exact absurd (List.eq_nil_of_length_eq_zero hfl) hne
            · exact h0
          exact (k9 this).2
        · rw [List.take_of_length_le (by omega)] at k6
          simp only [bulkL, V.bulk, uptoBulk]
          omega
    · next fs ht =>
      simp only [Bool.and_eq_true] at hp
      obtain ⟨xs, m', rfl, hx, hcs, hlen, hf⟩ := DataW.trod_struct ht h
      obtain ⟨rfl, _⟩ := Prod.mk.inj hx
      rw [cellsOf_szT] at hcs
      obtain ⟨l, k1, k2, k3, k4, k5, k6⟩ := read_fields (cs := cs) (n := n) (m := m') (fun t cs d ps hp h => reads_ok n t m' cs d ps hp h) fs.toList 0 xs (by simpa using hlen.symm) (fun i f hf' => hf i f (by simpa using hf')) (by rw [hcs]; exact hp.1) hp.2
      rw [List.drop_zero] at k1 k6
      exact ⟨l.flatten, k1, by simp only [isT, ht]; exact ⟨l, rfl, k2⟩, by simp only [uptoBulk]; omega, by omega, k5, k6⟩
    · next k e ht =>
      simp only [Bool.and_eq_true] at hp
      obtain ⟨hp1, hp2⟩ := hp
      have hsz := nbeq hp1
      obtain ⟨xs, m', rfl, hx, hcs, hlen, hel⟩ := DataW.trod_array ht h
      obtain ⟨rfl, _⟩ := Prod.mk.inj hx
      rw [cellsOf_szT] at hcs
      obtain ⟨l, k1, k2, k3, k4, k5, k6, k7⟩ := read_arr (cs := cs) (n := n) (m := m') (e := e) (fun cs d ps h => reads_ok n e m' cs d ps hp2 h) xs 0 (fun j hj => by
        have := hel j (by omega)
        rw [cellsOf_szT] at this
        rw [Nat.zero_add]
        exact this) (by rw [hcs, Nat.zero_add, hlen, hsz])
      rw [Nat.zero_mul, List.drop_zero] at k1 k7
      exact ⟨l.flatten, k1, by simp only [isT, ht]; exact ⟨l, rfl, by omega, k3⟩, by simp only [uptoBulk]; omega, by omega, k6, k7⟩
    · cases hp
end
end Go.Ab
/- A law whose call comes to 'true' in the machine: its contract. -/
namespace Go.Ab
open Go
open Go.RowKit Go.WideShapes Go.ChangeShapes Go.ChangeAt
open Go.Proofs.YtbeemjiaohaamaaGreatDoor.Rows (uptoBulk uptoBulkAll)
set_option linter.unusedSimpArgs false
set_option linter.unusedVariables false

/-- A value of a type. -/
def isV (P : Program) (t : TypeId) (x : V) : Prop := ∃ xs, isT P 8 t xs ∧ ((aggT P t = true ∧ x = .ag xs) ∨ (aggT P t = false ∧ xs = [x]))
def isVs (P : Program) : List TypeId → List V → Prop
  | [], [] => True
  | t :: ts, x :: xs => isV P t x ∧ isVs P ts xs
  | _, _ => False

section
variable {H : Type} {enc : TypeId × Value → H} {P : Program} {w W : World}

theorem isT_one {n : Nat} {t : TypeId} {xs : List V} (h : isT P (n + 1) t xs) (ha : aggT P t = false) : ∃ x, xs = [x] := by
  simp only [isT] at h
  unfold aggT at ha
  split at h
  · obtain ⟨b, rfl⟩ := h; exact ⟨_, rfl⟩
  · obtain ⟨b, rfl, _⟩ := h; exact ⟨_, rfl⟩
  · obtain ⟨b, rfl, _⟩ := h; exact ⟨_, rfl⟩
  · obtain ⟨b, rfl, _⟩ := h; exact ⟨_, rfl⟩
  · next ht => rw [ht] at ha; cases ha
  · next ht => rw [ht] at ha; cases ha
  · exact h.elim

/-- One argument. -/
theorem read_arg {t : TypeId} {v : Value} {d : DataW H} {ps : List MemPlace} {base : Nat} (hp : plainT P 8 t = true) (hok : Value.okWide P W .any base t v) (h : DataW.Trod enc P W 0 (fun _ => true) true t v d ps) :
    ∃ x, Rv W (fun k => k < W.heap.size) noGM v x ∧ isV P t x ∧ x.bulk ≤ uptoBulk d := by
  obtain ⟨m, hm⟩ := h
  obtain ⟨xs, hr⟩ := reads_ok 8 t m _ d ps hp hm
  cases ha : aggT P t with
  | true =>
    have hv : ∃ cs, v = .agg cs := by
      unfold Value.okWide at hok
      unfold aggT at ha
      split at hok
      · obtain ⟨cs, rfl, _⟩ := hok; exact ⟨cs, rfl⟩
      · obtain ⟨cs, rfl, _⟩ := hok; exact ⟨cs, rfl⟩
      · next h1 h2 =>
        split at ha
        · next fs h => exact absurd h (h1 fs)
        · next k e h => exact absurd h (h2 k e)
        · cases ha
    obtain ⟨cs, rfl⟩ := hv
    refine ⟨.ag xs, ⟨cs, rfl, hr.rv⟩, ⟨xs, hr.is, .inl ⟨ha, rfl⟩⟩, ?_⟩
    simp only [V.bulk]
    exact hr.bulk
  | false =>
    obtain ⟨x, rfl⟩ := isT_one hr.is ha
    have hv : v.cells.toList = [v] := by
      have hl := hr.rv.length
      have hone := hr.one
      cases v with
      | agg cs =>
        exfalso
        unfold Value.okWide at hok
        unfold aggT at ha
        split at hok
        · next fs h => rw [h] at ha; cases ha
        · next k e h => rw [h] at ha; cases ha
        · next h1 h2 =>
          have hT := hr.is
          unfold isT at hT
          unfold Cell.okWide at hok
          split at hT <;> (try (next ht => exact absurd ht (h2 _ _))) <;> (try (next ht => exact absurd ht (h1 _))) <;> (try (next ht => rw [ht] at hok; simp [Cell.ok, ht] at hok; done)) <;> (try (next _ ht => rw [ht] at hok; simp [Cell.ok, ht] at hok; done)) <;> (try exact hT.elim)
      | _ => rfl
    have hrv := hr.rv
    rw [hv] at hrv
    refine ⟨x, hrv.1, ⟨_, hr.is, .inr ⟨ha, rfl⟩⟩, ?_⟩
    have := hr.bulk
    simp only [bulkL] at this
    omega

theorem read_args {base : Nat} : ∀ (ts : List TypeId) (vs : List Value) (ds : List (DataW H)) (ps : List MemPlace), (ts.all fun t => plainT P 8 t) = true → (∀ (j : Nat) t v, ts[j]? = some t → vs[j]? = some v → Value.okWide P W .any base t v) →
    DataW.TrodAll enc P W 0 (fun _ => true) true ts vs ds ps → ∃ xs, RvL W (fun k => k < W.heap.size) noGM vs xs ∧ isVs P ts xs ∧ bulkL xs ≤ uptoBulkAll ds ∧ ds.length = ts.length
  | [], [], [], _, _, _, _ => ⟨[], trivial, trivial, by simp [bulkL], rfl⟩
  | t :: ts, v :: vs, d :: ds, ps, hp, hok, h => by
    simp only [List.all_cons, Bool.and_eq_true] at hp
    obtain ⟨p, q, h1, h2, _⟩ := h
    obtain ⟨x, a1, a2, a3⟩ := read_arg hp.1 (hok 0 t v rfl rfl) h1
    obtain ⟨xs, b1, b2, b3, b4⟩ := read_args ts vs ds q hp.2 (fun j t' v' ht hv => hok (j + 1) t' v' (by simpa using ht) (by simpa using hv)) h2
    exact ⟨x :: xs, ⟨a1, b1⟩, ⟨a2, b2⟩, by simp only [bulkL, uptoBulkAll]; omega, by simp [b4]⟩
  | [], [], _ :: _, _, _, _, h => h.elim
  | [], _ :: _, _, _, _, _, h => by cases ‹List (DataW H)› <;> exact h.elim
  | _ :: _, [], _, _, _, _, h => by cases ‹List (DataW H)› <;> exact h.elim
  | _ :: _, _ :: _, [], _, _, _, h => h.elim

theorem trodAll_stays {W' : World} {sp : Nat → Bool} (hl : laidOutB P = true) : ∀ (ts : List TypeId) (vs : List Value) (ds : List (DataW H)) (ps : List MemPlace), (ts.all fun t => P.readableRec t && decide (t < P.types.size)) = true →
    DataW.TrodAll enc P W 0 (fun _ => true) true ts vs ds ps → (∀ x ∈ ps, W.sameAt W' x) → (∀ x ∈ ps, sp x.block = true) → DataW.TrodAll enc P W' 0 sp true ts vs ds ps
  | [], [], [], _, _, h, _, _ => h
  | t :: ts, v :: vs, d :: ds, ps, hp, h, h1, h2 => by
    simp only [List.all_cons, Bool.and_eq_true, decide_eq_true_eq] at hp
    obtain ⟨p, q, k1, k2, rfl⟩ := h
    refine ⟨p, q, WideElems.Trod_stays hl hp.1.1 hp.1.2 k1 (fun x hx => h1 x (List.mem_append_left _ hx)) (fun x hx => h2 x (List.mem_append_left _ hx)), ?_, rfl⟩
    exact trodAll_stays hl ts vs ds q (by simpa using hp.2) k2 (fun x hx => h1 x (List.mem_append_right _ hx)) (fun x hx => h2 x (List.mem_append_right _ hx))
  | [], [], _ :: _, _, _, h, _, _ => h.elim
  | [], _ :: _, _, _, _, h, _, _ => by cases ‹List (DataW H)› <;> exact h.elim
  | _ :: _, [], _, _, _, h, _, _ => by cases ‹List (DataW H)› <;> exact h.elim
  | _ :: _, _ :: _, [], _, _, h, _, _ => h.elim

/-- The row's last step where only new blocks are known. -/
theorem post_of_below {f : Func} {s : ChangeSpec} {apart fresh handsOn again : Bool} {W W' : World} {args : Array Value} {v : Value} {ds gs : List (DataW H)} {before pa pv : List MemPlace}
    (hW : DataW.Whole enc P f.params.toList s.vars apart W args.toList ds gs before)
    (hres : ∀ (b : Nat) (sp : Nat → Bool) (hd : Bool), DataW.TrodAll enc P W' b sp hd f.resultTypes.toList (v.resultList f.resultTypes.size) (s.fn H (ds ++ gs)).results [])
    (hargs : ∀ sp : Nat → Bool, (∀ p ∈ before, sp p.block = true) → DataW.TrodAll enc P W' 0 sp true f.params.toList args.toList (s.fn H (ds ++ gs)).args pa)
    (hvars : ∀ sp : Nat → Bool, (∀ p ∈ before, sp p.block = true) → DataW.TrodVars enc P W' sp s.vars (s.fn H (ds ++ gs)).vars pv)
    (hps : before = pa ++ pv) (hb : Below W.heap.size W W')
    (hok : ∀ (j : Nat) (t : TypeId) (r : Value), f.resultTypes[j]? = some t → (v.resultList f.resultTypes.size)[j]? = some r → Value.okWide P W' .any 0 t r) :
    s.post enc P f apart fresh handsOn again W args v W' := by
  have hlt : ∀ p ∈ before, p.block < W.heap.size := fun p hp => hW.lt p hp
  have hold : ∀ p ∈ before, (fun b => decide (b < W.heap.size)) p.block = true := fun p hp => by simpa using hlt p hp
  refine ⟨ds, gs, before, [], pa, pv, hW, hres _ _ _, hargs _ hold, hvars _ hold, World.keptBut_mono (fun p hp => ⟨hp, ?_⟩) (hb.frame (· ∈ before)), fun _ => ?_⟩
  · rw [hps, List.mem_append] at hp
    exact Or.inr hp
  · obtain ⟨_, _, _, _, _, hz, hn⟩ := hW
    refine ⟨hok, _, _, ([] ++ pa) ++ pv, ⟨[] ++ pa, pv, trodAll_append (hargs _ (fun _ _ => rfl)) (hres _ _ _), hvars _ (fun _ _ => rfl), rfl, ?_, ?_⟩, ?_⟩
    · intro b off hp
      have hin : MemPlace.cell b off ∈ before := by rw [hps]; simpa using hp
      rw [hb.frozen (hlt _ hin)]
      exact hz b off hin
    · intro ha
      have := hn ha
      rw [hps] at this
      simpa using this
    · intro p hp _
      rw [hps]
      simpa using hp

/-- What the machine says of a law, of the law. -/
theorem law_calls {C : Cfg} {prim : FuncId → Option PrimT} (hm : C.P.follows .mixedOrders = true)
    (hP : ∀ g p, prim g = some p → ∀ vs gs v gs', p vs gs = (true, v, gs') → ∀ (args : Array Value) (w : World) (F : FG) (Rs : List RG), Regs C.P w F (parR gs) w F.g (parG Rs) → RvL w F.g (parG Rs) args.toList vs → Enter C.P g args w (Back C.P w F v gs'))
    {f : FuncId} {fn : Func} (hf : C.P.funcs[f]? = some fn) (hb : fn.body.isSome = true) (hn : (fn.name == "runtime.NumGoroutine") = false) {args : Array Value} {vs : List V}
    (hr : RvL W (fun k => k < W.heap.size) noGM args.toList vs) (h : CallR C prim f vs [] (.sc (.bool true), [])) (htab : ∀ x ∈ tabList, Lib.TabIs C.P W x.1 x.2.1 x.2.2) :
    Calls C.P f args W fun e W' => e = .returned (.bool true) ∧ Below W.heap.size W W' := by
  obtain ⟨k, hk⟩ := h
  have hK := hk k (Nat.le_refl _)
  let F : FG := ⟨fun _ => False, fun b => b < W.heap.size, fun _ => none, fun _ => none⟩
  have hG0 : parG [] = noGM := by
    funext n
    cases n <;> rfl
  have hR : Regs C.P W F (parR []) W F.g (parG []) := by
    rw [hG0]
    refine ⟨fun r => ?_, ?_, ?_, ?_, ?_, fun b h => h, ⟨rfl, rfl, rfl, Nat.le_refl _, fun _ _ _ => rfl⟩, fun b h => h, fun b h => .inl h, ?_, TabsIn.start htab⟩
    · cases r <;> simp [parR, noGM]
    · intro r R h; cases h
    · intro r r' R R' _ h; cases h
    · intro r R b h; cases h
    · intro r R b h; cases h
    · intro i R h; cases h
  have hE := callE_ok hm hP k f vs [] _ _ (show optK (callE C prim k) f vs [] = (true, .sc (.bool true), []) by simp only [optK, hK]) args W F [] hR (by rw [hG0]; exact hr)
  have hcf : (callFunc f args).run C.P W = .ok (.enter f args) W := by
    have hn2 : ¬ fn.name = "runtime.NumGoroutine" := by simpa using hn
    have hb2 : ¬ fn.body = none := by
      intro e; rw [e] at hb; cases hb
    simp [callFunc, hf, hn2, hb2, Result.andThen]
  unfold Enter at hE
  rw [hcf] at hE
  refine hE.mono ?_
  rintro e W' ⟨v, rfl, G', gm', h1, h2⟩
  have hv : v = .bool true := h2.1
  subst hv
  refine ⟨rfl, ⟨h1.keep.os, h1.keep.tape, h1.keep.output, h1.keep.size, fun k hk => h1.keep.block k hk (fun h => h)⟩⟩

theorem law_contract {C : Cfg} {prim : FuncId → Option PrimT} (hm : C.P.follows .mixedOrders = true)
    (hP : ∀ g p, prim g = some p → ∀ vs gs v gs', p vs gs = (true, v, gs') → ∀ (args : Array Value) (w : World) (F : FG) (Rs : List RG), Regs C.P w F (parR gs) w F.g (parG Rs) → RvL w F.g (parG Rs) args.toList vs → Enter C.P g args w (Back C.P w F v gs'))
    (hlaid : laidOutB C.P = true) {f : FuncId} {fn : Func} (hf : C.P.funcs[f]? = some fn) (hb : fn.body.isSome = true) (hn : (fn.name == "runtime.NumGoroutine") = false)
    (hpl : (fn.params.toList.all fun t => plainT C.P 8 t && (C.P.readableRec t && decide (t < C.P.types.size))) = true) {tb : TypeId} (hres : fn.resultTypes = #[tb]) (htb : C.P.underlying tb = some .bool)
    {s : ChangeSpec} (hsv : s.vars = []) (hs : ∀ ds : List (DataW H), ds.length = fn.params.toList.length → (s.fn H ds).results = [.lit (.bool true)] ∧ (s.fn H ds).args = ds ∧ (s.fn H ds).vars = [])
    {args : Array Value} {ds gs : List (DataW H)} {before : List MemPlace} {base : Nat} {apart : Bool}
    (hval : ∀ (j : Nat) t v, fn.params[j]? = some t → args[j]? = some v → Value.okWide C.P W .any base t v)
    (hW : DataW.Whole enc C.P fn.params.toList s.vars apart W args.toList ds gs before)
    (hlaw : ∀ vs : List V, isVs C.P fn.params.toList vs → bulkL vs ≤ uptoBulkAll (ds ++ gs) → CallR C prim f vs [] (.sc (.bool true), [])) (htab : ∀ x ∈ tabList, Lib.TabIs C.P W x.1 x.2.1 x.2.2) {fresh handsOn again : Bool} :
    Calls C.P f args W fun e W' => ∃ v, e = .returned v ∧ s.post enc C.P fn apart fresh handsOn again W args v W' := by
  have hW' := hW
  obtain ⟨p, q, hA, hV, rfl, hfz, hnd⟩ := hW
  rw [hsv] at hV
  obtain ⟨rfl, rfl⟩ := trodVars_none hV
  have hp1 : (fn.params.toList.all fun t => plainT C.P 8 t) = true := by
    rw [List.all_eq_true] at hpl ⊢
    intro t ht
    have := hpl t ht
    simp only [Bool.and_eq_true] at this
    exact this.1
  have hp2 : (fn.params.toList.all fun t => C.P.readableRec t && decide (t < C.P.types.size)) = true := by
    rw [List.all_eq_true] at hpl ⊢
    intro t ht
    have := hpl t ht
    rw [Bool.and_eq_true] at this
    exact this.2
  obtain ⟨vs, r1, r2, r3, r4⟩ := read_args (base := base) fn.params.toList args.toList ds p hp1 (fun j t v ht hv => hval j t v (by simpa using ht) (by simpa using hv)) hA
  have hc := hlaw vs r2 (by rw [List.append_nil]; exact r3)
  refine (law_calls hm hP hf hb hn r1 hc htab).mono ?_
  rintro e W' ⟨rfl, hbel⟩
  obtain ⟨s1, s2, s3⟩ := hs ds r4
  refine ⟨_, rfl, post_of_below (pa := p) (pv := []) hW' (fun b sp hd => ?_) (fun sp hsp => ?_) (fun sp _ => ?_) rfl hbel ?_⟩
  · rw [hres, List.append_nil, s1]
    exact trodAll_cons_mk (shut_bool htb _) trodAll_mk0
  · rw [List.append_nil, s2]
    exact trodAll_stays hlaid _ _ _ _ hp2 hA (fun x hx => hbel.same (by have := hW'.lt x (by simpa using hx); exact this)) (fun x hx => hsp x (by simpa using hx))
  · rw [List.append_nil, s3, hsv]
    rfl
  · exact ok_one hres rfl (okWide_bool_mk htb _)
end
end Go.Ab
/- States in their plain form; tables of what is known. -/
namespace Go.Ab
open Go
set_option linter.unusedSimpArgs false
set_option linter.unusedVariables false

/-- A state told by its slots and its regions. -/
def mkS (l : List (Nat × V)) (r : List (Nm × Option Rg)) : St :=
  { env := fun i => (St.keepOnly.lookN i l).getD V.bad, regs := fun n => (St.keepOnly.lookR n r).getD none }

/-! ### values that are the same -/
def beqN : List Nat → List Nat → Bool
  | [], [] => true
  | a :: l, b :: m => Nat.beq a b && beqN l m
  | _, _ => false
theorem beqN_eq : ∀ {l m : List Nat}, beqN l m = true → l = m
  | [], [], _ => rfl
  | a :: l, b :: m, h => by
    simp only [beqN, Bool.and_eq_true] at h
    rw [nbeq h.1, beqN_eq h.2]
  | [], _ :: _, h => by cases h
  | _ :: _, [], h => by cases h
def Pl.same (a b : Pl) : Bool := Nm.eq a.r b.r && Nat.beq a.j b.j && beqN a.p b.p && Nat.beq a.e b.e && (a.d == b.d)
theorem Pl.same_eq {a b : Pl} (h : a.same b = true) : a = b := by
  simp only [Pl.same, Bool.and_eq_true] at h
  obtain ⟨⟨⟨⟨h1, h2⟩, h3⟩, h4⟩, h5⟩ := h
  obtain ⟨r, j, p, e, d⟩ := a
  obtain ⟨r', j', p', e', d'⟩ := b
  simp only at *
  rw [(Nm.eq_iff _ _).1 h1, nbeq h2, beqN_eq h3, nbeq h4]
  simp at h5
  rw [h5]

def sameC : Value → Value → Bool
  | .nilFunc, .nilFunc => true
  | .nilIface, .nilIface => true
  | .pointer none, .pointer none => true
  | _, _ => false
theorem sameC_eq {u v : Value} (h : sameC u v = true) : u = v := by
  unfold sameC at h
  split at h <;> first | rfl | cases h

mutual
def V.same : V → V → Bool
  | .ref a, v => (match v with | .ref b => a.same b | _ => false)
  | .ptrB r j, v => (match v with | .ptrB r' j' => Nm.eq r r' && Nat.beq j j' | _ => false)
  | .fn f a b, v => (match v with | .fn f' a' b' => Nat.beq f f' && sameL a a' && sameL b b' | _ => false)
  | .sc u, v => (match v with | .sc w => sameC u w | _ => false)
  | .nl e, v => (match v with | .nl e' => Nat.beq e e' | _ => false)
  | .bad, v => (match v with | .bad => true | _ => false)
  | .slf, v => (match v with | .slf => true | _ => false)
  | _, _ => false
def sameL : List V → List V → Bool
  | [], v => (match v with | [] => true | _ => false)
  | x :: xs, v => (match v with | y :: ys => x.same y && sameL xs ys | _ => false)
end

mutual
theorem V.same_eq : ∀ (x y : V), x.same y = true → x = y
  | .ref a, y, h => by cases y <;> simp only [V.same] at h <;> first | cases h | rw [Pl.same_eq h]
  | .ptrB r j, y, h => by
    cases y <;> simp only [V.same, Bool.and_eq_true] at h <;> try cases h
    next r' j' h1 h2 => rw [(Nm.eq_iff _ _).1 h1, nbeq h2]
  | .fn f a b, y, h => by
    cases y <;> simp only [V.same, Bool.and_eq_true] at h <;> try cases h
    next f' a' b' h1 h2 => rw [nbeq h1.1, sameL_eq a a' h1.2, sameL_eq b b' h2]
  | .sc u, y, h => by cases y <;> simp only [V.same] at h <;> first | cases h | rw [sameC_eq h]
  | .nl e, y, h => by cases y <;> simp only [V.same] at h <;> first | cases h | rw [nbeq h]
  | .bad, y, h => by cases y <;> simp only [V.same] at h <;> first | rfl | cases h
  | .slf, y, h => by cases y <;> simp only [V.same] at h <;> first | rfl | cases h
  | .sl _ _, _, h => by simp [V.same] at h
  | .own _ _ _, _, h => by simp [V.same] at h
  | .ag _, _, h => by simp [V.same] at h
  | .tp _, _, h => by simp [V.same] at h
  | .ifc _ _, _, h => by simp [V.same] at h
  | .vw _ _ _, _, h => by simp [V.same] at h
  | .ptrE _ _ _, _, h => by simp [V.same] at h
  | .pim _ _ _, _, h => by simp [V.same] at h
theorem sameL_eq : ∀ (xs ys : List V), sameL xs ys = true → xs = ys
  | [], y, h => by cases y <;> simp only [sameL] at h <;> first | rfl | cases h
  | x :: xs, y, h => by
    cases y <;> simp only [sameL, Bool.and_eq_true] at h <;> try cases h
    next y ys h1 h2 => rw [V.same_eq x y h1, sameL_eq xs ys h2]
end

/-! ### shapes of what a slot, or a region's cell, holds -/
inductive Pat where
  | i (k : IntKind) | b | s
  | sl (sz : Nat)
  | own (e : TypeId) (d : Bool)
  | ag (l : List Pat)
  | pm (off : Nat) (l : List Pat)
  | is (v : V)
  deriving Inhabited

def V.isPm (off n : Nat) : V → Bool
  | .pim m xs o => Nat.beq m n && Nat.beq o off && Nat.beq xs.length n
  | _ => false
def V.pimOf : V → List V
  | .pim _ xs _ => xs
  | _ => []
theorem isPm_eq {off n : Nat} {v : V} (h : v.isPm off n = true) : v = .pim n v.pimOf off ∧ v.pimOf.length = n := by
  cases v <;> simp only [V.isPm, Bool.and_eq_true] at h <;> try cases h
  next m xs o h1 h2 =>
    obtain ⟨h0, h1⟩ := h1
    rw [nbeq h0, nbeq h1]
    exact ⟨rfl, nbeq h2⟩

mutual
def Pat.ck : Pat → V → Bool
  | .i k, v => v.isInt k
  | .b, v => v.isBool
  | .s, v => v.isStr
  | .sl sz, v => v.isSl sz
  | .own e d, v => v.isOwnD e d
  | .ag l, v => v.isAg l.length && ckL l v.partsOf 0
  | .pm off l, v => v.isPm off l.length && ckL l v.pimOf 0
  | .is u, v => v.same u
def ckL : List Pat → List V → Nat → Bool
  | [], _, _ => true
  | h :: l, xs, k => h.ck (nthV xs k) && ckL l xs (k + 1)
end
mutual
def Pat.cn : Pat → V → V
  | .i k, v => .sc (.int k v.intOf)
  | .b, v => .sc (.bool v.boolOf)
  | .s, v => .sc (.string v.strOf)
  | .sl sz, v => .sl sz v.cellsOf
  | .own e d, v => .own e d v.cellsOf
  | .ag l, v => .ag (cnL l v.partsOf 0)
  | .pm off l, v => .pim l.length (cnL l v.pimOf 0) off
  | .is u, _ => u
def cnL : List Pat → List V → Nat → List V
  | [], _, _ => []
  | h :: l, xs, k => h.cn (nthV xs k) :: cnL l xs (k + 1)
end
mutual
theorem Pat.ck_eq : ∀ (h : Pat) (v : V), h.ck v = true → h.cn v = v
  | .i k, v, h => (isInt_eq h).symm
  | .b, v, h => (isBool_eq h).symm
  | .s, v, h => (isStr_eq h).symm
  | .sl sz, v, h => (isSl_eq h).symm
  | .own e d, v, h => (isOwnD_eq h).symm
  | .ag l, v, h => by
    simp only [Pat.ck, Bool.and_eq_true] at h
    obtain ⟨h1, h2⟩ := isAg_eq h.1
    simp only [Pat.cn]
    rw [ckL_eq l v.partsOf 0 (by omega) h.2, List.drop_zero]
    exact h1.symm
  | .pm off l, v, h => by
    simp only [Pat.ck, Bool.and_eq_true] at h
    obtain ⟨h1, h2⟩ := isPm_eq h.1
    simp only [Pat.cn]
    rw [ckL_eq l v.pimOf 0 (by omega) h.2, List.drop_zero]
    exact h1.symm
  | .is u, v, h => (V.same_eq v u h).symm
theorem ckL_eq : ∀ (l : List Pat) (xs : List V) (k : Nat), k + l.length = xs.length → ckL l xs k = true → cnL l xs k = xs.drop k
  | [], xs, k, hk, _ => by
    simp only [cnL]
    rw [List.drop_eq_nil_of_le (by simp at hk; omega)]
  | h :: l, xs, k, hk, hok => by
    simp only [ckL, Bool.and_eq_true] at hok
    have hlt : k < xs.length := by simp at hk; omega
    simp only [cnL]
    rw [Pat.ck_eq h _ hok.1, ckL_eq l xs (k + 1) (by simp at hk; omega) hok.2, nthV_get _ _ hlt, List.drop_eq_getElem_cons hlt]
end

/-! ### states -/
structure RPat where
  n : Nm
  box : Bool
  row : List Pat

def rowOf (g : Option Rg) : List V := match g with | some g => g.row | none => []
def boxIs (b : Bool) (n : Nat) (g : Option Rg) : Bool := match g with | some g => (g.box == b) && Nat.beq g.row.length n | none => false

def ckN : List (Nat × Pat) → St → Bool
  | [], _ => true
  | x :: xs, st => x.2.ck (st.env x.1) && ckN xs st
def ckR : List RPat → St → Bool
  | [], _ => true
  | r :: rs, st => (boxIs r.box r.row.length (st.regs r.n) && ckL r.row (rowOf (st.regs r.n)) 0) && ckR rs st
def ckS (ls : List (Nat × Pat)) (rs : List RPat) (st : St) : Bool := ckN ls st && ckR rs st
def cnS (ls : List (Nat × Pat)) (rs : List RPat) (st : St) : St :=
  mkS (ls.map fun x => (x.1, x.2.cn (st.env x.1))) (rs.map fun r => (r.n, some ⟨r.box, cnL r.row (rowOf (st.regs r.n)) 0⟩))

theorem lookN_at (ls : List (Nat × Pat)) (f g : Nat → V) (h : ∀ x ∈ ls, g x.1 = x.2.cn (f x.1)) (i : Nat) :
    St.keepOnly.lookN i (ls.map fun x => (x.1, x.2.cn (f x.1))) = St.keepOnly.lookN i (ls.map fun x => (x.1, g x.1)) := by
  have : (ls.map fun x => (x.1, x.2.cn (f x.1))) = ls.map fun x => (x.1, g x.1) := by
    apply List.map_congr_left
    intro x hx
    rw [h x hx]
  rw [this]

theorem ckN_slots : ∀ (ls : List (Nat × Pat)) (st : St), ckN ls st = true → ∀ x ∈ ls, x.2.ck (st.env x.1) = true
  | [], _, _ => by simp
  | x :: xs, st, h => by
    simp only [ckN, Bool.and_eq_true] at h
    intro y hy
    simp only [List.mem_cons] at hy
    rcases hy with rfl | hy
    · exact h.1
    · exact ckN_slots xs st h.2 y hy
theorem ckR_slots : ∀ (rs : List RPat) (st : St), ckR rs st = true → ∀ r ∈ rs, boxIs r.box r.row.length (st.regs r.n) = true ∧ ckL r.row (rowOf (st.regs r.n)) 0 = true
  | [], _, _ => by simp
  | r :: rs, st, h => by
    simp only [ckR, Bool.and_eq_true] at h
    intro y hy
    simp only [List.mem_cons] at hy
    rcases hy with rfl | hy
    · exact h.1
    · exact ckR_slots rs st h.2 y hy
theorem ckS_slots (ls : List (Nat × Pat)) (rs : List RPat) (st : St) (h : ckS ls rs st = true) : (∀ x ∈ ls, x.2.ck (st.env x.1) = true) ∧ ∀ r ∈ rs, boxIs r.box r.row.length (st.regs r.n) = true ∧ ckL r.row (rowOf (st.regs r.n)) 0 = true := by
  simp only [ckS, Bool.and_eq_true] at h
  exact ⟨ckN_slots ls st h.1, ckR_slots rs st h.2⟩

theorem boxIs_eq {b : Bool} {l : List Pat} {g : Option Rg} (h : boxIs b l.length g = true) (hc : ckL l (rowOf g) 0 = true) : some ⟨b, cnL l (rowOf g) 0⟩ = g := by
  cases g with
  | none => cases h
  | some g =>
    simp only [boxIs, Bool.and_eq_true] at h
    obtain ⟨bx, row⟩ := g
    have h1 : bx = b := by simpa using h.1
    have h2 := nbeq h.2
    simp only [rowOf] at hc h2 ⊢
    rw [ckL_eq l row 0 (by omega) hc, List.drop_zero, h1]

/-- A state that has been cut down, told by its shapes. -/
theorem canon {C : Cfg} {f : FuncId} {p : List Nat} {ls : List (Nat × Pat)} {rs : List RPat} (hann : C.ann f p = some (ls.map (·.1), rs.map (·.n))) (st0 : St) (hck : ckS ls rs (forget C f p st0) = true) :
    forget C f p st0 = cnS ls rs (forget C f p st0) := by
  obtain ⟨h1, h2⟩ := ckS_slots ls rs _ hck
  have e1 : ∀ x ∈ ls, (forget C f p st0).env x.1 = x.2.cn ((forget C f p st0).env x.1) := fun x hx => (Pat.ck_eq x.2 _ (h1 x hx)).symm
  have e2 : ∀ r ∈ rs, (forget C f p st0).regs r.n = some ⟨r.box, cnL r.row (rowOf ((forget C f p st0).regs r.n)) 0⟩ := fun r hr => (boxIs_eq (h2 r hr).1 (h2 r hr).2).symm
  unfold cnS mkS
  have k1 : (ls.map fun x => (x.1, x.2.cn ((forget C f p st0).env x.1))) = ls.map fun x => (x.1, (forget C f p st0).env x.1) := by
    apply List.map_congr_left; intro x hx; rw [← e1 x hx]
  have k2 : (rs.map fun r => (r.n, some (⟨r.box, cnL r.row (rowOf ((forget C f p st0).regs r.n)) 0⟩ : Rg))) = rs.map fun r => (r.n, (forget C f p st0).regs r.n) := by
    apply List.map_congr_left; intro r hr; rw [← e2 r hr]
  rw [k1, k2]
  -- what is looked up in a state that was cut down is what it was cut down to
  have kN : ∀ (L : List Nat) (v : Nat → V) (i : Nat), (St.keepOnly.lookN i (L.map fun j => (j, (St.keepOnly.lookN j (L.zip (L.map v))).getD V.bad))).getD V.bad = (St.keepOnly.lookN i (L.zip (L.map v))).getD V.bad := by
    intro L v i
    have z : ∀ (M : List Nat) (j : Nat), St.keepOnly.lookN j (M.zip (M.map v)) = bif M.any (Nat.beq j) then some (v j) else none := by
      intro M
      induction M with
      | nil => intro j; rfl
      | cons m M ih =>
        intro j
        simp only [List.map_cons, List.zip_cons_cons, St.keepOnly.lookN, List.any_cons]
        cases hm : Nat.beq j m with
        | true => rw [nbeq hm]; rfl
        | false => simp only [cond_false, Bool.false_or]; exact ih j
    have y : ∀ (M : List Nat) (g : Nat → V) (j : Nat), St.keepOnly.lookN j (M.map fun m => (m, g m)) = bif M.any (Nat.beq j) then some (g j) else none := by
      intro M g
      induction M with
      | nil => intro j; rfl
      | cons m M ih =>
        intro j
        simp only [List.map_cons, St.keepOnly.lookN, List.any_cons]
        cases hm : Nat.beq j m with
        | true => rw [nbeq hm]; rfl
        | false => simp only [cond_false, Bool.false_or]; exact ih j
    rw [y, z]
    cases h : L.any (Nat.beq i) with
    | true => simp only [cond_true, Option.getD_some]
    | false => rfl
  have kR : ∀ (L : List Nm) (v : Nm → Option Rg) (n : Nm), (St.keepOnly.lookR n (L.map fun m => (m, (St.keepOnly.lookR m (L.zip (L.map v))).getD none))).getD none = (St.keepOnly.lookR n (L.zip (L.map v))).getD none := by
    intro L v n
    have z : ∀ (M : List Nm) (j : Nm), (St.keepOnly.lookR j (M.zip (M.map v))).getD none = bif j.mem M then v j else none := fun M j => lookR_mem v M j
    have y : ∀ (M : List Nm) (g : Nm → Option Rg) (j : Nm), (St.keepOnly.lookR j (M.map fun m => (m, g m))).getD none = bif j.mem M then g j else none := by
      intro M g
      induction M with
      | nil => intro j; rfl
      | cons m M ih =>
        intro j
        simp only [List.map_cons, St.keepOnly.lookR, Nm.mem]
        cases hm : Nm.eq j m with
        | true => rw [(Nm.eq_iff _ _).1 hm]; rfl
        | false => simp only [cond_false, Bool.false_or]; exact ih j
    rw [y, z]
    cases h : n.mem L with
    | true => simp only [cond_true]
    | false => rfl
  have hf : forget C f p st0 = st0.keepOnly (ls.map (·.1)) (rs.map (·.n)) := by simp only [forget, hann]
  have m1 : (ls.map fun x => (x.1, (forget C f p st0).env x.1)) = (ls.map (·.1)).map fun j => (j, (forget C f p st0).env j) := by rw [List.map_map]; rfl
  have m2 : (rs.map fun r => (r.n, (forget C f p st0).regs r.n)) = (rs.map (·.n)).map fun n => (n, (forget C f p st0).regs n) := by rw [List.map_map]; rfl
  rw [m1, m2, hf]
  unfold St.keepOnly
  congr 1
  · funext i; exact (kN _ _ i).symm
  · funext n; exact (kR _ _ n).symm

/-! ### tables -/
def kNil : CallK := fun _ _ _ => (false, .bad, [])
def kCons (g0 : FuncId) (k : PrimT) (K : CallK) : CallK := fun g => bif Nat.beq g g0 then k else K g
def tNil : Tab := fun _ _ _ _ => none
def tCons (p0 : List Nat) (t : St → (R : Type) → (Ex → St → Option R) → Option R) (T : Tab) : Tab := fun p st R κ => bif beqN p p0 then t st R κ else T p st R κ

section
variable {C : Cfg} {prim : FuncId → Option PrimT} {f : FuncId}
theorem KOK.nil : KOK C prim kNil := by intro g vs gs x h; cases h
theorem KOK.cons {g0 : FuncId} {k : PrimT} {K : CallK} (h : ∀ vs gs x, k vs gs = (true, x) → CallR C prim g0 vs gs x) (hK : KOK C prim K) : KOK C prim (kCons g0 k K) := by
  intro g vs gs x hx
  unfold kCons at hx
  cases hg : Nat.beq g g0 with
  | true => rw [hg] at hx; rw [nbeq hg]; exact h vs gs x hx
  | false => rw [hg] at hx; exact hK g vs gs x hx
theorem TOK.nil : TOK C prim f tNil := by intro p st R κ r h; cases h
theorem TOK.cons {p0 : List Nat} {t : St → (R : Type) → (Ex → St → Option R) → Option R} {T : Tab}
    (h : ∀ st0 R κ r, t (forget C f p0 st0) R κ = some r → ∃ e s, κ e s = some r ∧ RunP C prim f p0 (forget C f p0 st0) e s) (hT : TOK C prim f T) : TOK C prim f (tCons p0 t T) := by
  intro p st R κ r hx
  unfold tCons at hx
  cases hp : beqN p p0 with
  | true => rw [hp] at hx; obtain rfl := beqN_eq hp; exact h st R κ r hx
  | false => rw [hp] at hx; exact hT p st R κ r hx
end
end Go.Ab
/- How a function's equation becomes a fact of its calls. -/
namespace Go.Ab
open Go

def loopIn (o : Option Code) : Code := match o with
  | some (.loop a) => a
  | _ => .skip
def codeIn (o : Option Code) : Code := match o with
  | some c => c
  | _ => .skip
def isLoop : Code → Bool
  | .loop _ => true
  | _ => false
def isLoopO (o : Option Code) : Bool := match o with
  | some c => isLoop c
  | none => false
def bodyC (C : Cfg) (f : FuncId) : Code := codeIn (bodyAt C.P f [])
def resC (C : Cfg) (f : FuncId) : List ResultVar := match C.P.funcs[f]? with
  | some fn => fn.results.toList
  | none => []
def fnOk (C : Cfg) (prim : FuncId → Option PrimT) (f : FuncId) (n : Nat) : Bool := match C.P.funcs[f]? with
  | some fn => (match fn.body with
    | some c => (codeOk fn.ntmps c && Nat.ble n fn.ntmps && !(fn.name == "runtime.NumGoroutine")) && !isLoop c
    | none => false) && (prim f).isNone
  | none => false

section
variable {C : Cfg} {prim : FuncId → Option PrimT} {f : FuncId} {K : CallK} {T : Tab}

theorem call_fn (hK : KOK C prim K) (hT : TOK C prim f T) {vs : List V} {gs : List Rg} (hok : fnOk C prim f vs.length = true) {x : V × List Rg}
    (h : ex C K f T (bodyC C f) [] (stOf vs gs) (fun e s => fin C f (resC C f) gs.length e (forget C f [9] s)) = some x) : CallR C prim f vs gs x := by
  unfold fnOk at hok
  cases hf : C.P.funcs[f]? with
  | none => rw [hf] at hok; cases hok
  | some fn =>
    rw [hf] at hok
    simp only [Bool.and_eq_true] at hok
    obtain ⟨h1, h2⟩ := hok
    cases hb : fn.body with
    | none => rw [hb] at h1; cases h1
    | some c =>
      rw [hb] at h1
      simp only [Bool.and_eq_true] at h1
      have hc : bodyC C f = c := by simp [bodyC, bodyAt, hf, hb, codeAt, codeIn]
      have hr : resC C f = fn.results.toList := by simp [resC, hf]
      rw [hc, hr] at h
      refine call_body hK hT hf hb ?_ (by simp only [Bool.and_eq_true]; exact h1.1) ?_ h
      · cases hp : prim f with
        | none => rfl
        | some p => rw [hp] at h2; cases h2
      · rintro x rfl
        have := h1.2
        simp [isLoop] at this

theorem loop_round (hK : KOK C prim K) (hT : TOK C prim f T) {p : List Nat} (hp : isLoopO (bodyAt C.P f p) = true) {st : St} {R : Type} {κ : Ex → St → Option R} {r : R} (L : St → Option R)
    (hL : ∀ st0, L (forget C f p st0) = some r → ∃ e s, κ e s = some r ∧ RunP C prim f p (forget C f p st0) e s)
    (h : ex C K f T (loopIn (bodyAt C.P f p)) (0 :: p) st (fun e s => match e with | .nm => L (forget C f p s) | e => κ e (forget C f (9 :: p) s)) = some r) : ∃ e s, κ e s = some r ∧ RunP C prim f p st e s := by
  cases hb : bodyAt C.P f p with
  | none => rw [hb] at hp; cases hp
  | some c =>
    rw [hb] at hp h
    cases c <;> simp only [isLoopO, isLoop] at hp <;> try cases hp
    exact run_loop hK hT hb L hL h

theorem piece (hK : KOK C prim K) (hT : TOK C prim f T) {p : List Nat} (hp : (bodyAt C.P f p).isSome = true) (hn : isLoopO (bodyAt C.P f p) = false) {st : St} {R : Type} {κ : Ex → St → Option R} {r : R}
    (h : ex C K f T (codeIn (bodyAt C.P f p)) p st (fun e s => κ e (forget C f (9 :: p) s)) = some r) : ∃ e s, κ e s = some r ∧ RunP C prim f p st e s := by
  cases hb : bodyAt C.P f p with
  | none => rw [hb] at hp; cases hp
  | some c =>
    rw [hb] at hn h
    refine run_cut hK hT hb ?_ h
    rintro x rfl
    simp [isLoopO, isLoop] at hn
end
end Go.Ab
/- Plain laws on loops over lists, on numbers and on texts. -/
namespace Go.Ab
open Go
set_option linter.unusedSimpArgs false
set_option linter.unusedVariables false

def foldC {α A R : Type} (step : α → A → (A → Option R) → Option R) (fin : A → Option R) : List α → A → Option R
  | [], a => fin a
  | x :: xs, a => step x a (foldC step fin xs)

/-- A loop with an index over a list. -/
theorem idxI {α A R : Type} (L : Nat → Int → A → Option R) (xs : List α) (step : α → A → (A → Option R) → Option R) (fin : A → Option R) (I : Nat → A → Prop)
    (hs : ∀ n (k : Nat) (a : A) (hk : k < xs.length), I k a → L (n + 1) (k : Int) a = step xs[k] a (fun a' => L n ((k + 1 : Nat) : Int) a'))
    (hI : ∀ (k : Nat) (a : A) (hk : k < xs.length), I k a → ∀ K K' : A → Option R, (∀ a', I (k + 1) a' → K a' = K' a') → step xs[k] a K = step xs[k] a K')
    (hf : ∀ n a, I xs.length a → L (n + 1) (xs.length : Int) a = fin a) :
    ∀ (m k : Nat) (a : A), k + m = xs.length → I k a → ∀ n, m < n → L n (k : Int) a = foldC step fin (xs.drop k) a := by
  intro m
  induction m with
  | zero =>
    intro k a hk hi n hn
    obtain ⟨n, rfl⟩ : ∃ j, n = j + 1 := ⟨n - 1, by omega⟩
    obtain rfl : k = xs.length := by omega
    rw [hf n a hi, List.drop_length]
    rfl
  | succ m ih =>
    intro k a hk hi n hn
    obtain ⟨n, rfl⟩ : ∃ j, n = j + 1 := ⟨n - 1, by omega⟩
    have hlt : k < xs.length := by omega
    rw [hs n k a hlt hi, List.drop_eq_getElem_cons hlt]
    exact hI k a hlt hi _ _ (fun a' ha' => ih (k + 1) a' (by omega) ha' n (by omega))

theorem nthV_lt {l : List V} {j : Nat} (h : j < l.length) : nthV l j = l[j] := nthV_get l j h

theorem wrap_id {n : Int} (h1 : -9223372036854775808 ≤ n) (h2 : n ≤ 9223372036854775807) : IntKind.wrap .i64 n = n := IntWalk.i64_in n ⟨h1, h2⟩
theorem wrap_succ {k : Nat} (h : k < 9223372036854775807) : IntKind.wrap .i64 ((k : Int) + 1) = ((k + 1 : Nat) : Int) := by
  rw [wrap_id (by omega) (by omega)]; simp

theorem dec_true {p : Prop} [Decidable p] (h : p) : decide p = true := decide_eq_true h
theorem dec_false {p : Prop} [Decidable p] (h : ¬ p) : decide p = false := decide_eq_false h

/-! ### texts -/
theorem ba_size (s : ByteArray) : s.data.toList.length = s.size := by rw [Array.length_toList]; rfl
theorem ba_ext {s t : ByteArray} (h : s.data.toList = t.data.toList) : s = t := by
  have : s.data = t.data := Array.toList_inj.1 h
  cases s; cases t; simp_all
theorem ba_append (s t : ByteArray) : (s ++ t).data.toList = s.data.toList ++ t.data.toList := by
  rw [ByteArray.data_append, Array.toList_append]
theorem ba_assoc (a b c : ByteArray) : (a ++ b) ++ c = a ++ (b ++ c) := ba_ext (by simp [ba_append])
theorem ba_size_append (a b : ByteArray) : (a ++ b).size = a.size + b.size := by
  rw [← ba_size, ba_append, List.length_append, ba_size, ba_size]
theorem ba_nil (a : ByteArray) : (⟨#[]⟩ : ByteArray) ++ a = a := ba_ext (by rw [ba_append]; rfl)
theorem ba_nil' (a : ByteArray) : a ++ (⟨#[]⟩ : ByteArray) = a := ba_ext (by rw [ba_append]; simp)
theorem strEq_iff (a b : ByteArray) : strEq a b = true ↔ a = b := by
  unfold strEq
  rw [beq_iff_eq]
  constructor
  · intro h
    have h1 : ∀ x : ByteArray, x.toList = x.data.toList := fun x => ByteArray.toList_eq x
    rw [h1, h1] at h
    exact ba_ext h
  · rintro rfl; rfl
theorem strEq_self (a : ByteArray) : strEq a a = true := (strEq_iff a a).2 rfl
theorem bytesV_app (a b : ByteArray) : bytesV (a ++ b) = bytesV a ++ bytesV b := by
  unfold bytesV; rw [ba_append, List.map_append]
theorem bytesV_nil : bytesV ⟨#[]⟩ = [] := rfl
theorem bytesV_len (a : ByteArray) : (bytesV a).length = a.size := by unfold bytesV; rw [List.length_map, ba_size]
theorem strOf_bytesV (a : ByteArray) : strOfCells (bytesV a) = a := by
  refine ba_ext ?_
  unfold strOfCells bytesV byteOfV
  simp only [List.map_map]
  have : ∀ l : List UInt8, l.map ((fun v => UInt8.ofNat (V.intOf v).toNat) ∘ fun b => V.sc (Value.int IntKind.u8 (b.toNat : Int))) = l := by
    intro l
    induction l with
    | nil => rfl
    | cons x l ih =>
      rw [List.map_cons, ih]
      simp [Function.comp, V.intOf]
  rw [this]
theorem allU8_bytesV (a : ByteArray) : allU8 (bytesV a) = true := by
  unfold bytesV
  generalize a.data.toList = l
  induction l with
  | nil => rfl
  | cons x l ih => simp only [List.map_cons, allU8, ih, V.isInt, decide_true, Bool.and_true]
end Go.Ab
/- Functions whose calls are known from elsewhere. -/
namespace Go.Ab
open Go Go.RowKit
set_option linter.unusedSimpArgs false
set_option linter.unusedVariables false

/-- What is told of a primitive. -/
def PrimOk (P : Program) (g : FuncId) (p : PrimT) : Prop :=
  ∀ vs gs v gs', p vs gs = (true, v, gs') → ∀ (args : Array Value) (w : World) (F : FG) (Rs : List RG), Regs P w F (parR gs) w F.g (parG Rs) → RvL w F.g (parG Rs) args.toList vs → Enter P g args w (Back P w F v gs')

def pNil : FuncId → Option PrimT := fun _ => none
def pCons (g0 : FuncId) (p : PrimT) (T : FuncId → Option PrimT) : FuncId → Option PrimT := fun g => bif Nat.beq g g0 then some p else T g

section
variable {P : Program}
theorem PrimsOk.nil : ∀ g p, pNil g = some p → PrimOk P g p := by intro g p h; cases h
theorem PrimsOk.cons {g0 : FuncId} {p0 : PrimT} {T : FuncId → Option PrimT} (h0 : PrimOk P g0 p0) (hT : ∀ g p, T g = some p → PrimOk P g p) : ∀ g p, pCons g0 p0 T g = some p → PrimOk P g p := by
  intro g p h
  unfold pCons at h
  cases hg : Nat.beq g g0 with
  | true =>
    rw [hg] at h
    rw [nbeq hg]
    obtain rfl := Option.some.inj h
    exact h0
  | false => rw [hg] at h; exact hT g p h

theorem enter_of_calls {g : FuncId} {fn : Func} (hf : P.funcs[g]? = some fn) (hb : fn.body.isSome = true) (hn : (fn.name == "runtime.NumGoroutine") = false) {args : Array Value} {w : World} {R : Value → World → Prop}
    (h : Calls P g args w fun e w' => ∃ v, e = .returned v ∧ R v w') : Enter P g args w R := by
  have hcf : (callFunc g args).run P w = .ok (.enter g args) w := by
    have hn2 : ¬ fn.name = "runtime.NumGoroutine" := by simpa using hn
    have hb2 : ¬ fn.body = none := by
      intro e; rw [e] at hb; cases hb
    simp [callFunc, hf, hn2, hb2, Result.andThen]
  unfold Enter
  rw [hcf]
  exact h

/-- A value comes back, of old cells or of new ones. -/
theorem back_val {w w' : World} {F : FG} {Rs : List RG} {res : Value} {x : V} (hx : x.imm = true) (hl : x.land .hand 0 = (x, [])) (hR : Regs P w F (parR []) w F.g (parG Rs)) (hb : Below w.heap.size w w')
    (hrv : Rv w' (fun b => F.g b ∨ (w.heap.size ≤ b ∧ b < w'.heap.size)) noGM res x) : Back P w F x [] res w' := by
  refine ⟨fun b => F.g b ∨ (w.heap.size ≤ b ∧ b < w'.heap.size), setG noGM .hand (some ⟨none, [], []⟩), ?_, ?_⟩
  · rw [hl]
    have hno : ∀ r, r ≠ .hand → setG noGM .hand (some (⟨none, [], []⟩ : RG)) r = none := fun r hr => by rw [setG_ne _ _ hr]; rfl
    have hh : ∀ r R, setG noGM .hand (some (⟨none, [], []⟩ : RG)) r = some R → r = .hand ∧ R = ⟨none, [], []⟩ := by
      intro r R h
      by_cases hr : r = .hand
      · subst hr; rw [setG_self] at h; exact ⟨rfl, (Option.some.inj h).symm⟩
      · rw [hno r hr] at h; cases h
    refine ⟨?_, ?_, ?_, ?_, ?_, ?_, ⟨hb.os, hb.tape, hb.output, hb.size, fun k hk _ => hb.block k hk⟩, fun b h => .inl h, ?_, ?_, hR.tabs.frame (fun k hk => hb.block k (hR.old k hk)) (fun k hk => .inl hk)⟩
    · intro r
      cases r with
      | hand => rw [withHand_hand, setG_self]; exact ⟨rfl, trivial, fun b hb => by cases hb⟩
      | loc i => rw [withHand_ne _ _ (by simp), hno _ (by simp)]; trivial
      | par i => rw [withHand_ne _ _ (by simp), hno _ (by simp)]; simp [parR]
    · intro r R h; obtain ⟨_, rfl⟩ := hh r R h; simp [RG.fp, fpL]
    · intro r r' R R' hne h h'
      obtain ⟨rfl, _⟩ := hh r R h
      obtain ⟨rfl, _⟩ := hh r' R' h'
      exact absurd rfl hne
    · intro r R b h hb; obtain ⟨_, rfl⟩ := hh r R h; simp [RG.fp, fpL] at hb
    · intro r R b h hb; obtain ⟨_, rfl⟩ := hh r R h; simp [RG.fp, fpL] at hb
    · rintro b (h | h)
      · exact Nat.lt_of_lt_of_le (hR.old b h) hb.size
      · exact h.2
    · rintro b (h | h)
      · exact .inl h
      · exact .inr (.inl h.1)
    · intro i R h; obtain ⟨hr, _⟩ := hh _ R h; cases hr
  · rw [hl]
    exact hrv.imm hx

theorem args1 {w : World} {G : Nat → Prop} {gm : GM} {args : Array Value} {x : V} (h : RvL w G gm args.toList [x]) : ∃ v, args = #[v] ∧ Rv w G gm v x := by
  obtain ⟨l⟩ := args
  match l, h with
  | [v], h => exact ⟨v, rfl, h.1⟩
theorem args2 {w : World} {G : Nat → Prop} {gm : GM} {args : Array Value} {x y : V} (h : RvL w G gm args.toList [x, y]) : ∃ v u, args = #[v, u] ∧ Rv w G gm v x ∧ Rv w G gm u y := by
  obtain ⟨l⟩ := args
  match l, h with
  | [v, u], h => exact ⟨v, u, rfl, h.1, h.2.1⟩
end
end Go.Ab
/- What the arguments of a law are. -/
namespace Go.Ab
open Go

theorem isVs_one {P : Program} {t : TypeId} {vs : List V} (h : isVs P [t] vs) : ∃ x, vs = [x] ∧ isV P t x := by
  match vs, h with
  | [x], ⟨h, _⟩ => exact ⟨x, rfl, h⟩
theorem isVs_two {P : Program} {t u : TypeId} {vs : List V} (h : isVs P [t, u] vs) : ∃ x y, vs = [x, y] ∧ isV P t x ∧ isV P u y := by
  match vs, h with
  | [x, y], ⟨h, g, _⟩ => exact ⟨x, y, rfl, h, g⟩
theorem isVs_three {P : Program} {t u q : TypeId} {vs : List V} (h : isVs P [t, u, q] vs) : ∃ x y z, vs = [x, y, z] ∧ isV P t x ∧ isV P u y ∧ isV P q z := by
  match vs, h with
  | [x, y, z], ⟨h, g, k, _⟩ => exact ⟨x, y, z, rfl, h, g, k⟩
theorem isT_string {P : Program} {t : TypeId} (ht : P.underlying t = some .string) {n : Nat} {xs : List V} (h : isT P (n + 1) t xs) : ∃ s : ByteArray, xs = [.sc (.string s)] := by
  simp only [isT, ht] at h
  obtain ⟨s, h, _⟩ := h
  exact ⟨s, h⟩
theorem isT_int {P : Program} {t : TypeId} {k : IntKind} (ht : P.underlying t = some (.int k)) {n : Nat} {xs : List V} (h : isT P (n + 1) t xs) : ∃ m : Int, xs = [.sc (.int k m)] ∧ (Lit.int k m).wf = true := by
  simp only [isT, ht] at h
  exact h
theorem isV_string {P : Program} {t : TypeId} (ht : P.underlying t = some .string) {x : V} (h : isV P t x) : ∃ s : ByteArray, x = .sc (.string s) := by
  obtain ⟨xs, h1, h2⟩ := h
  obtain ⟨s, rfl⟩ := isT_string ht h1
  rcases h2 with ⟨h2, _⟩ | ⟨_, h2⟩
  · unfold aggT at h2; rw [ht] at h2; cases h2
  · exact ⟨s, by simpa using h2.symm⟩
theorem isV_int {P : Program} {t : TypeId} {k : IntKind} (ht : P.underlying t = some (.int k)) {x : V} (h : isV P t x) : ∃ m : Int, x = .sc (.int k m) ∧ (Lit.int k m).wf = true := by
  obtain ⟨xs, h1, h2⟩ := h
  obtain ⟨s, rfl, hw⟩ := isT_int ht h1
  rcases h2 with ⟨h2, _⟩ | ⟨_, h2⟩
  · unfold aggT at h2; rw [ht] at h2; cases h2
  · exact ⟨s, by simpa using h2.symm, hw⟩
end Go.Ab
