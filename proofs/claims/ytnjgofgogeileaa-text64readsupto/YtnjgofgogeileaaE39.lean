/- Results, one after the other. -/
import Derived.Test.YtnjgofgogeileaaE38
namespace Go.Ab
open Go
set_option linter.unusedSimpArgs false
set_option linter.unusedVariables false

section
variable {C : Cfg} {deep : TypeId → Bool} {fid : FuncId} {w0 w : World} {F : FG} {N : Nat} {st : St} {a : Act} {G G0 : Nat → Prop} {gm gm0 : GM} {rd : Nm → Option Rg}

/-- The cells of a result. -/
def resCells : V → List V
  | .ag xs => xs
  | x => [x]

/-- A result has the shape of its value. -/
def ResV (u : Value) (y : V) : Prop := (∃ (xs : List V) (cs : Array Value), y = .ag xs ∧ u = .agg cs ∧ cs.toList.length = xs.length) ∨ ((∀ xs, y ≠ .ag xs) ∧ u.cells.toList = [u])
def ResL : List Value → List V → Prop
  | [], [] => True
  | u :: us, y :: ys => ResV u y ∧ ResL us ys
  | _, _ => False

theorem Rv.cells_one {v : Value} {x : V} (hv : Rv w G gm v x) (hc : x.isCell = true) (hb : x ≠ .bad) : v.cells.toList = [v] := by
  have key : ∀ cs : Array Value, v ≠ .agg cs := by
    rintro cs rfl
    have := hv.one hc hb
    simp [Value.oneCell'] at this
  cases v <;> first | rfl | exact absurd rfl (key _)

theorem absC_single {P : Program} {keep : Bool} {x : V} (hx : ∀ xs, x ≠ .ag xs) (hok : (absC P deep keep rd x).ok = true) :
    x.isCell = true ∧ x ≠ .bad ∧ ∃ y, (absC P deep keep rd x).xs = [y] ∧ ∀ ys, y ≠ .ag ys := by
  cases x with
  | ag xs => exact absurd rfl (hx xs)
  | nl e => exact ⟨rfl, by simp, _, rfl, by cases keep <;> simp⟩
  | ref q =>
    simp only [absC] at hok ⊢
    exact ⟨rfl, by simp, _, rfl, by cases keep <;> simp [Ab.frz]⟩
  | vw q lo hi =>
    simp only [absC] at hok ⊢
    exact ⟨rfl, by simp, _, rfl, by cases keep <;> simp [Ab.frz]⟩
  | bad => cases hok
  | _ => first | exact ⟨rfl, by simp, _, rfl, by simp⟩ | cases hok

theorem takeRes_shape {v : Value} {x : V} (hv : Rv w G gm v x) (hok : (takeRes C deep rd x).1 = true) (hlen : (absV C.P deep true (only x.names rd) x).xs.length = v.cells.toList.length) :
    ResV v (takeRes C deep rd x).2.1 ∧ resCells (takeRes C deep rd x).2.1 = (absV C.P deep true (only x.names rd) x).xs := by
  by_cases h : ∃ xs, x = .ag xs
  · obtain ⟨xs, rfl⟩ := h
    obtain ⟨cs, rfl, _⟩ := hv
    exact ⟨.inl ⟨_, cs, rfl, rfl, hlen.symm⟩, rfl⟩
  · have hne : ∀ xs, x ≠ .ag xs := fun xs e => h ⟨xs, e⟩
    have hav : absV C.P deep true (only x.names rd) x = absC C.P deep true (only x.names rd) x := by cases x <;> first | rfl | exact absurd rfl (hne _)
    have hr : (takeRes C deep rd x).2.1 = nthV (absC C.P deep true (only x.names rd) x).xs 0 := by
      unfold takeRes
      simp only [hav]
    obtain ⟨h1, h2, y, h3, h4⟩ := absC_single hne (by rw [← hav]; exact hok)
    rw [hr, hav, h3]
    refine ⟨.inr ⟨h4, hv.cells_one h1 h2⟩, ?_⟩
    show resCells y = [y]
    cases y <;> first | rfl | exact absurd rfl (h4 _)

theorem takeAll_ok : ∀ (xs : List V) (us : List Value) {rd : Nm → Option Rg} {G : Nat → Prop} {gm : GM} {row : List V} {vals : List Value} {sks : List Sk}, RvL w G0 gm0 us xs → (∀ x ∈ xs, Nm.hand ∉ x.names) →
    Regs C.P w0 F (withHand rd row) w G gm → gm .hand = some ⟨none, vals, sks⟩ → vals.length = row.length → sks.length = row.length → rd .hand = none → (∀ b, G0 b → G b) → Live rd gm0 gm → (takeAll C deep xs rd).1 = true →
    ∃ (G' : Nat → Prop) (gm' : GM) (ss : List Sk), (∀ b, G b → G' b) ∧ Regs C.P w0 F (withHand (takeAll C deep xs rd).2.2 (row ++ (takeAll C deep xs rd).2.1.flatMap resCells)) w G' gm' ∧
      gm' .hand = some ⟨none, vals ++ us.flatMap (fun u => u.cells.toList), sks ++ ss⟩ ∧ (takeAll C deep xs rd).2.2 .hand = none ∧ ResL us (takeAll C deep xs rd).2.1 ∧ ∀ y ∈ (takeAll C deep xs rd).2.1.flatMap resCells, y ≠ .slf
  | [], [], rd, G, gm, row, vals, sks, hu, hnm, h, hh, hl, hls, hrd, hG, hlive, hok =>
    ⟨G, gm, [], fun _ h => h, by simpa [takeAll] using h, by simpa using hh, hrd, trivial, by simp [takeAll]⟩
  | x :: xs, u :: us, rd, G, gm, row, vals, sks, hu, hnm, h, hh, hl, hls, hrd, hG, hlive, hok => by
    simp only [takeAll, Bool.and_eq_true] at hok ⊢
    obtain ⟨G1, gm1, ss1, k1, k2, k3, k4, k5, k7, k6⟩ := takeRes_ok h hh hl hls hrd (hnm x (by simp)) hu.1 hG hlive hok.1
    obtain ⟨s1, s2⟩ := takeRes_shape (rd := rd) (deep := deep) hu.1 hok.1 k6
    obtain ⟨_, hown⟩ := hand_ok k2 k3
    have hlen := hown.length
    simp only [List.length_append] at hlen
    have hlive1 : Live (takeRes C deep rd x).2.2 gm0 gm1 := hlive.trans k4 k7
    obtain ⟨G2, gm2, ss2, q1, q2, q3, q4, q5, q6⟩ := takeAll_ok xs us hu.2 (fun y hy => hnm y (by simp [hy])) k2 k3 (by simpa using hlen.1) (by simpa using hlen.2) k5 (fun b hb => k1 b (hG b hb)) hlive1 hok.2
    refine ⟨G2, gm2, ss1 ++ ss2, fun b hb => q1 b (k1 b hb), ?_, by simpa [List.append_assoc] using q3, q4, ⟨s1, q5⟩, ?_⟩
    · simp only [List.flatMap_cons, s2]
      rw [← List.append_assoc]; exact q2
    · intro y hy
      simp only [List.flatMap_cons, s2, List.mem_append] at hy
      rcases hy with hy | hy
      · exact absV_slf hok.1 y hy
      · exact q6 y hy
  | [], _ :: _, _, _, _, _, _, _, hu, _, _, _, _, _, _, _, _, _ => hu.elim
  | _ :: _, [], _, _, _, _, _, _, hu, _, _, _, _, _, _, _, _, _ => hu.elim
end
end Go.Ab
