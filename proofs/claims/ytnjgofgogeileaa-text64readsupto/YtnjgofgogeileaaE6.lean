/- What is put into a region: own slices move in, or are frozen. -/
import Derived.Test.YtnjgofgogeileaaE5
namespace Go.Ab
open Go

def withHand (rd : Nm → Option Rg) (row : List V) : Nm → Option Rg := setR rd .hand (some ⟨false, row⟩)
def mix (T : List Nm) (rd regs : Nm → Option Rg) : Nm → Option Rg := fun n => bif n.mem T then rd n else regs n
def setG (gm : GM) (n : Nm) (x : Option RG) : GM := fun m => bif Nm.eq m n then x else gm m

theorem setG_self (gm : GM) (n : Nm) (x : Option RG) : setG gm n x n = x := by simp [setG, Nm.eq_self]
theorem setG_ne (gm : GM) {n m : Nm} (x : Option RG) (h : m ≠ n) : setG gm n x m = gm m := by simp [setG, Nm.eq_ne h]
theorem withHand_ne (rd : Nm → Option Rg) (row : List V) {m : Nm} (h : m ≠ .hand) : withHand rd row m = rd m := setR_ne _ _ h
theorem withHand_hand (rd : Nm → Option Rg) (row : List V) : withHand rd row .hand = some ⟨false, row⟩ := setR_self _ _ _

theorem skAt_ne {gm gm' : GM} {q : Pl} (h : gm' q.r = gm q.r) : skAt gm' q = skAt gm q := by simp only [skAt, h]

theorem nthV_set_self : ∀ (l : List V) (j : Nat) (x : V), nthV (l.set j x) j = x ∨ nthV (l.set j x) j = .bad
  | [], _, _ => .inr rfl
  | _ :: _, 0, _ => .inl rfl
  | _ :: l, j + 1, x => by simpa using nthV_set_self l j x
theorem nthV_set_ne : ∀ (l : List V) (j k : Nat) (x : V), j ≠ k → nthV (l.set j x) k = nthV l k
  | [], _, _, _, _ => rfl
  | _ :: _, 0, 0, _, h => (h rfl).elim
  | _ :: _, 0, _ + 1, _, _ => rfl
  | _ :: _, _ + 1, 0, _, _ => rfl
  | _ :: l, j + 1, k + 1, x, h => by simpa using nthV_set_ne l j k x (by omega)
theorem nthS_set_ne : ∀ (l : List Sk) (j k : Nat) (x : Sk), j ≠ k → nthS (l.set j x) k = nthS l k
  | [], _, _, _, _ => rfl
  | _ :: _, 0, 0, _, h => (h rfl).elim
  | _ :: _, 0, _ + 1, _, _ => rfl
  | _ :: _, _ + 1, 0, _, _ => rfl
  | _ :: l, j + 1, k + 1, x, h => by simpa using nthS_set_ne l j k x (by omega)
theorem nthS_set_self : ∀ (l : List Sk) (j : Nat) (x : Sk), nthS (l.set j x) j = (if j < l.length then x else .leaf)
  | [], _, _ => rfl
  | _ :: _, 0, _ => rfl
  | _ :: l, j + 1, x => by simpa using nthS_set_self l j x
theorem nthV_set_lt : ∀ (l : List V) (j : Nat) (x : V), j < l.length → nthV (l.set j x) j = x
  | [], _, _, h => by simp at h
  | _ :: _, 0, _, _ => rfl
  | _ :: l, j + 1, x, h => by simpa using nthV_set_lt l j x (by simpa using h)

theorem skHead_skSetCells (f : List Sk → List Sk) (s : Sk) : skHead (skSetCells f s) = skHead s := by cases s <;> rfl

/-- Where an own slice is left, its name stands for what it stood for. -/
theorem put_head {w : World} {G : Nat → Prop} {P : Program} : ∀ (p p' : List Nat) (vals : List Value) (row : List V) (sks : List Sk) (j j' : Nat) (e : TypeId) (d : Bool) (xs : List V), OwnL w G P vals row sks →
    getV p' (setV p row j .bad) j' = .own e d xs → skHead (getSk p' (setSk p sks j .leaf) j') = skHead (getSk p' sks j')
  | [], p', vals, row, sks, j, j', e, d, xs, _, h => by
    by_cases hj : j = j'
    · subst hj
      have hb : nthV (row.set j .bad) j = .bad := (nthV_set_self row j .bad).elim id id
      cases p' with
      | nil => simp only [getV, setV, hb] at h; cases h
      | cons i p => simp only [getV, setV, hb, ownXs, getV_nil] at h; cases h
    · cases p' with
      | nil => simp only [getSk, setSk, nthS_set_ne _ _ _ _ hj]
      | cons i p => simp only [getSk, setSk, nthS_set_ne _ _ _ _ hj]
  | i :: p, p', vals, row, sks, j, j', e, d, xs, hl, h => by
    by_cases hj : j = j'
    · subst hj
      by_cases hlt : j < row.length
      · have hlt' : j < sks.length := by have := hl.length.2; omega
        obtain ⟨v, _, ho⟩ := hl.get j hlt
        cases p' with
        | nil => simp only [getSk, setSk, nthS_set_self, hlt', if_true]; exact skHead_skSetCells _ _
        | cons i' p' =>
          simp only [getV, setV, nthV_set_lt _ _ _ hlt] at h
          simp only [getSk, setSk, nthS_set_self, hlt', if_true]
          cases hr : nthV row j with
          | own e1 d1 xs1 =>
            rw [hr] at h
            simp only [setOwn, ownXs] at h
            cases hs : nthS sks j with
            | node g n cap sz cs =>
              simp only [skSetCells, skCells]
              rw [hr, hs] at ho
              obtain ⟨cur, fr, _, _, _, _, _, _, _, _, _, g10, _⟩ := ho
              exact put_head p p' _ xs1 cs i i' e d xs g10 h
            | _ => simp only [skSetCells, skCells]
          | _ => rw [hr] at h; simp only [setOwn, ownXs, getV_nil] at h; cases h
      · have h1 : row.set j (setOwn (fun xs => setV p xs i .bad) (nthV row j)) = row := List.set_eq_of_length_le (by omega)
        have := hl.length.2
        have h2 : sks.set j (skSetCells (fun cs => setSk p cs i .leaf) (nthS sks j)) = sks := List.set_eq_of_length_le (by omega)
        simp only [setSk, h2]
    · cases p' with
      | nil => simp only [getSk, setSk, nthS_set_ne _ _ _ _ hj]
      | cons i' p' => simp only [getSk, setSk, nthS_set_ne _ _ _ _ hj]

theorem put_head_root (p : List Nat) (i : Nat) (sks : List Sk) (j j' : Nat) (x : Sk) : skHead (nthS (setSk (i :: p) sks j x) j') = skHead (nthS sks j') := by
  by_cases hj : j = j'
  · subst hj
    simp only [setSk, nthS_set_self]
    by_cases hlt : j < sks.length
    · rw [if_pos hlt]; exact skHead_skSetCells _ _
    · rw [if_neg hlt, nthS_out _ _ (by omega)]
  · simp only [setSk, nthS_set_ne _ _ _ _ hj]

/- What is frozen reads as what it was. -/
section
variable {w : World} {G G' : Nat → Prop} {P : Program}

theorem RvL.nil_of {gm : GM} {vs : List Value} (h : RvL w G gm vs []) : vs = [] := by
  cases vs with
  | nil => rfl
  | cons v vs => exact h.elim

theorem Rv.one {gm : GM} {v : Value} {x : V} (h : Rv w G gm v x) (hc : x.isCell = true) (hb : x ≠ .bad) : v.oneCell' = true := by
  cases x with
  | sc u => obtain ⟨rfl, h⟩ := h; cases v <;> simp_all [flat, Value.oneCell']
  | nl e => simp only [Rv] at h; subst h; rfl
  | sl sz xs => rcases h with ⟨rfl, _⟩ | ⟨_, _, _, _, rfl, _⟩ <;> rfl
  | own e d xs => exact h.elim
  | ag xs => simp [V.isCell] at hc
  | tp xs => simp [V.isCell] at hc
  | fn f a b => obtain ⟨_, _, rfl, _⟩ := h; rfl
  | ifc t x => obtain ⟨_, rfl, _⟩ := h; rfl
  | ref q => simp only [Rv, nameRef] at h; split at h <;> first | (subst h; rfl) | exact h.elim
  | vw q lo hi => simp only [Rv, nameVw] at h; split at h <;> first | (obtain ⟨_, _, _, rfl, _⟩ := h; rfl) | (obtain ⟨_, _, rfl⟩ := h; rfl) | exact h.elim
  | ptrB r j => obtain ⟨_, _, _, _, rfl⟩ := h; rfl
  | ptrE q i off => simp only [Rv, namePtrE] at h; split at h <;> first | (obtain ⟨_, rfl⟩ := h; rfl) | exact h.elim
  | pim n xs off => obtain ⟨_, _, _, rfl, _⟩ := h; rfl
  | slf => exact h.elim
  | bad => exact absurd rfl hb

theorem OwnC.one {v : Value} {x : V} {s : Sk} (h : OwnC w G P v x s) : v.oneCell' = true := by
  cases x with
  | own e d xs =>
    cases s with
    | leaf => exact h.elim
    | nil => obtain ⟨rfl, _⟩ := h; rfl
    | node g n cap sz cs => obtain ⟨_, _, rfl, _⟩ := h; rfl
  | bad => exact h.2
  | slf => exact h.2
  | _ =>
    obtain ⟨_, hc, hr⟩ := h
    exact hr.one (by simp only [V.cim, Bool.and_eq_true] at hc; exact hc.1) (by simp)

theorem OwnL.one : ∀ {vs : List Value} {xs : List V} {ss : List Sk}, OwnL w G P vs xs ss → ∀ u ∈ vs, u.oneCell' = true
  | [], _, _, _, u, hu => by simp at hu
  | v :: vs, x :: xs, s :: ss, h, u, hu => by
    simp only [List.mem_cons] at hu
    rcases hu with rfl | hu
    · exact h.1.one
    · exact OwnL.one h.2 u hu
  | _ :: _, [], _, h, _, _ => by simp [OwnL] at h
  | _ :: _, _ :: _, [], h, _, _ => by simp [OwnL] at h

/-- What is owned, frozen, has cells by which nothing is named. -/
theorem OwnC.cib {v : Value} {x : V} {s : Sk} (h : OwnC w G P v x s) : (Ab.frz P x).cib = true := by
  cases x with
  | own e d xs => rfl
  | bad => rfl
  | slf => rfl
  | _ => exact cim_cib h.2.1

theorem OwnL.cib : ∀ {vs : List Value} {xs : List V} {ss : List Sk}, OwnL w G P vs xs ss → cibL (frzL P xs) = true
  | _, [], _, _ => rfl
  | v :: vs, x :: xs, s :: ss, h => by simp only [frzL, cibL, Bool.and_eq_true]; exact ⟨h.1.cib, OwnL.cib h.2⟩
  | [], _ :: _, _, h => by simp [OwnL] at h
  | _ :: _, _ :: _, [], h => by simp [OwnL] at h

mutual
theorem OwnC.frz (hGG : ∀ k, G k → G' k) : ∀ (x : V) (v : Value) (s : Sk), OwnC w G P v x s → (∀ k ∈ s.fp, G' k) → Rv w G' noGM v (Ab.frz P x)
  | .own e d cells, v, .nil, h, _ => by
    obtain ⟨rfl, rfl⟩ := h
    refine .inl ⟨rfl, ?_⟩
    cases d <;> rfl
  | .own e d cells, v, .leaf, h, _ => h.elim
  | .own e d cells, v, .node g n cap sz sks, h, hf => by
    obtain ⟨cur, fr, h1, h2, h3, h4, h5, h6, h7, h8, h9, h10, h11⟩ := h
    simp only [Sk.fp, List.mem_cons] at hf
    have key : RvL w G' noGM (cur.toList.take (n * sz)) (bif d then frzL P cells else cells) := by
      cases d with
      | true => exact OwnL.frz hGG cells _ sks h10 (fun k hk => hf k (.inr hk))
      | false => exact OwnL.imm hGG cells _ sks h10 (h11 rfl)
    have hl : (bif d then frzL P cells else cells).length = n * sz := by rw [← h9, ← h10.length.1]; exact key.length.symm
    refine .inr ⟨⟨g, 0, none⟩, n, cap, cur.toList.take (n * sz), h1, fun _ => rfl, h7, by rw [hl, h6], by rw [h6]; exact h5, ?_, fun _ => hf g (.inl rfl), key, ?_, h10.one⟩
    rotate_left
    · cases d with
      | true => exact h10.cib
      | false => exact h11 rfl
    intro j u hu
    rw [List.getElem?_take] at hu
    split at hu
    · simp only [World.cell?, h2, Nat.zero_add]
      simpa using hu
    · cases hu
  | .bad, _, _, _, _ => trivial
  | .slf, _, _, _, _ => trivial
  | .sc u, v, s, h, _ => Rv.frame (fun _ _ => rfl) hGG noGM noGM _ v (fun _ _ => rfl) h.2.2
  | .nl _, v, s, h, _ => Rv.frame (fun _ _ => rfl) hGG noGM noGM _ v (fun _ _ => rfl) h.2.2
  | .sl _ _, v, s, h, _ => Rv.frame (fun _ _ => rfl) hGG noGM noGM _ v (fun _ _ => rfl) h.2.2
  | .ag _, v, s, h, _ => Rv.frame (fun _ _ => rfl) hGG noGM noGM _ v (fun _ _ => rfl) h.2.2
  | .tp _, v, s, h, _ => Rv.frame (fun _ _ => rfl) hGG noGM noGM _ v (fun _ _ => rfl) h.2.2
  | .fn _ _ _, v, s, h, _ => Rv.frame (fun _ _ => rfl) hGG noGM noGM _ v (fun _ _ => rfl) h.2.2
  | .ifc _ _, v, s, h, _ => Rv.frame (fun _ _ => rfl) hGG noGM noGM _ v (fun _ _ => rfl) h.2.2
  | .ref _, v, s, h, _ => Rv.frame (fun _ _ => rfl) hGG noGM noGM _ v (fun _ _ => rfl) h.2.2
  | .vw _ _ _, v, s, h, _ => Rv.frame (fun _ _ => rfl) hGG noGM noGM _ v (fun _ _ => rfl) h.2.2
  | .ptrB _ _, v, s, h, _ => Rv.frame (fun _ _ => rfl) hGG noGM noGM _ v (fun _ _ => rfl) h.2.2
  | .ptrE _ _ _, v, s, h, _ => Rv.frame (fun _ _ => rfl) hGG noGM noGM _ v (fun _ _ => rfl) h.2.2
  | .pim _ _ _, v, s, h, _ => Rv.frame (fun _ _ => rfl) hGG noGM noGM _ v (fun _ _ => rfl) h.2.2
theorem OwnL.frz (hGG : ∀ k, G k → G' k) : ∀ (xs : List V) (vs : List Value) (ss : List Sk), OwnL w G P vs xs ss → (∀ k ∈ fpL ss, G' k) → RvL w G' noGM vs (frzL P xs)
  | [], [], [], _, _ => trivial
  | x :: xs, v :: vs, s :: ss, h, hf => by
    simp only [fpL, List.mem_append] at hf
    exact ⟨OwnC.frz hGG x v s h.1 (fun k hk => hf k (.inl hk)), OwnL.frz hGG xs vs ss h.2 (fun k hk => hf k (.inr hk))⟩
  | [], _ :: _, _, h, _ => by simp [OwnL] at h
  | [], [], _ :: _, h, _ => by simp [OwnL] at h
  | _ :: _, [], _, h, _ => by simp [OwnL] at h
  | _ :: _, _ :: _, [], h, _ => by simp [OwnL] at h
theorem OwnL.imm (hGG : ∀ k, G k → G' k) : ∀ (xs : List V) (vs : List Value) (ss : List Sk), OwnL w G P vs xs ss → cibL xs = true → RvL w G' noGM vs xs
  | [], [], [], _, _ => trivial
  | x :: xs, v :: vs, s :: ss, h, hi => by
    simp only [cibL, Bool.and_eq_true] at hi
    refine ⟨?_, OwnL.imm hGG xs vs ss h.2 hi.2⟩
    have h1 := h.1
    cases x <;> first | (simp [V.cib, V.cim, V.imm] at hi; done) | exact trivial | exact Rv.frame (fun _ _ => rfl) hGG noGM noGM _ v (fun _ _ => rfl) h1.2.2
  | [], _ :: _, _, h, _ => by simp [OwnL] at h
  | [], [], _ :: _, h, _ => by simp [OwnL] at h
  | _ :: _, [], _, h, _ => by simp [OwnL] at h
  | _ :: _, _ :: _, [], h, _ => by simp [OwnL] at h
end

mutual
theorem imm_names : ∀ (x : V), x.imm = true → x.names = []
  | .sc _, _ => rfl
  | .nl _, _ => rfl
  | .sl _ _, _ => rfl
  | .own _ _ _, _ => rfl
  | .ag xs, h => immL_names xs h
  | .tp xs, h => immL_names xs h
  | .fn _ a b, h => by
    simp only [V.imm, Bool.and_eq_true] at h
    simp [V.names, immL_names a h.1, immL_names b h.2]
  | .ifc _ x, h => imm_names x h
  | .ref _, h => by simp [V.imm] at h
  | .vw _ _ _, h => by simp [V.imm] at h
  | .ptrB _ _, h => by simp [V.imm] at h
  | .ptrE _ _ _, h => by simp [V.imm] at h
  | .pim _ _ _, _ => rfl
  | .bad, _ => rfl
  | .slf, _ => rfl
theorem immL_names : ∀ (l : List V), immL l = true → namesL l = []
  | [], _ => rfl
  | x :: l, h => by
    simp only [immL, Bool.and_eq_true] at h
    simp [namesL, imm_names x h.1, immL_names l h.2]
end

theorem Rv.imm {gm gm' : GM} {v : Value} {x : V} (h : Rv w G gm v x) (hi : x.imm = true) : Rv w G gm' v x :=
  Rv.frame (fun _ _ => rfl) (fun _ h => h) gm gm' x v (fun n hn => by rw [imm_names x hi] at hn; simp at hn) h

theorem frz_imm (e : TypeId) (d : Bool) (xs : List V) : (Ab.frz P (.own e d xs)).cim = true := rfl
end
end Go.Ab
