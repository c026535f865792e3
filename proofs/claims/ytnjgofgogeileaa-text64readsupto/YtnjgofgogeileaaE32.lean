/- Regions whose order is open. -/
import Derived.Test.YtnjgofgogeileaaE31
namespace Go.Ab
open Go
set_option linter.unusedSimpArgs false
set_option linter.unusedVariables false

section
variable {C : Cfg} {callK : CallK} {fid : FuncId} {st : St} {R : Type}

abbrev Stp := Nat × Oper × Foot

def Chain (C : Cfg) (callK : CallK) (fid : FuncId) (ops : Array Oper) : List Stp → St → St → Prop
  | [], st, st' => st' = st
  | x :: l, st, st' => ∃ s1, stepS C callK fid ops x.2.1 st s1 x.2.2 ∧ Chain C callK fid ops l s1 st'

def Ord (b : Array Nat) (ops : Array Oper) (x y : Stp) : Prop := (b.getD y.1 0).testBit x.1 = true ∨ (x.2.2.apart y.2.2 = true ∧ x.2.1.apart ops y.2.1 = true)

theorem apartLog_spec {ops : Array Oper} {b : Nat} {o : Oper} {g : Foot} : ∀ {log : List Stp}, apartLog ops b o log g = true → ∀ x ∈ log, b.testBit x.1 = true ∨ (x.2.2.apart g = true ∧ x.2.1.apart ops o = true)
  | [], _, x, hx => by simp at hx
  | y :: log, h, x, hx => by
    simp only [apartLog, Bool.and_eq_true, Bool.or_eq_true] at h
    simp only [List.mem_cons] at hx
    rcases hx with rfl | hx
    · exact h.1
    · exact apartLog_spec h.2 x hx

/-- The machine's run of a region is a chain, in which what is not ordered is apart. -/
theorem opsK_chain {ops : Array Oper} {b : Array Nat} {κ : St → Option R} {r : R} : ∀ (l : List Oper) {i : Nat} {log : List Stp} {st : St}, opsK C callK fid ops (some b) l i log st κ = some r →
    ∃ (L : List Stp) (s : St), L.length = l.length ∧ (∀ (k : Nat) (o : Oper), l[k]? = some o → ∃ f, L[k]? = some (i + k, o, f)) ∧ Chain C callK fid ops L st s ∧ κ s = some r ∧ (∀ x ∈ L, x.2.2.bad = false) ∧ L.Pairwise (Ord b ops) ∧ ∀ x ∈ log, ∀ y ∈ L, Ord b ops x y
  | [], i, log, st, h => ⟨[], st, rfl, fun k o h => by simp at h, rfl, h, fun x hx => by simp at hx, List.Pairwise.nil, fun x _ y hy => by simp at hy⟩
  | o :: l, i, log, st, h => by
    obtain ⟨st', f, h1, h2⟩ := opsK_step h
    simp only at h2
    obtain ⟨h2, h3, h4⟩ := h2
    obtain ⟨L, s, k1, k2, k3, k4, k5, k6, k7⟩ := opsK_chain l h4
    refine ⟨(i, o, f) :: L, s, by simp [k1], ?_, ⟨st', h1, k3⟩, k4, ?_, ?_, ?_⟩
    · intro k o' hk
      cases k with
      | zero => obtain rfl := Option.some.inj (by simpa using hk); exact ⟨f, rfl⟩
      | succ k =>
        obtain ⟨f', hf⟩ := k2 k o' (by simpa using hk)
        exact ⟨f', by simpa [Nat.add_assoc, Nat.add_comm 1] using hf⟩
    · intro x hx
      simp only [List.mem_cons] at hx
      rcases hx with rfl | hx
      · exact h2
      · exact k5 x hx
    · exact List.Pairwise.cons (fun y hy => k7 _ (by simp) y hy) k6
    · intro x hx y hy
      simp only [List.mem_cons] at hy
      rcases hy with rfl | hy
      · exact apartLog_spec h3 x hx
      · exact k7 x (by simp [hx]) y hy

/-- One of a chain comes to the front. -/
theorem chain_front {ops : Array Oper} : ∀ (L1 : List Stp) {y : Stp} {L2 : List Stp} {st s : St}, Chain C callK fid ops (L1 ++ y :: L2) st s → (∀ x ∈ L1, x.2.2.bad = false) → y.2.2.bad = false → (∀ x ∈ L1, x.2.2.apart y.2.2 = true ∧ x.2.1.apart ops y.2.1 = true) →
    ∃ s', stepS C callK fid ops y.2.1 st s' y.2.2 ∧ Chain C callK fid ops (L1 ++ L2) s' s
  | [], y, L2, st, s, h, _, _, _ => h
  | x :: L1, y, L2, st, s, h, hb, hby, ha => by
    obtain ⟨s1, h1, h2⟩ := h
    obtain ⟨s', h3, h4⟩ := chain_front L1 h2 (fun x hx => hb x (by simp [hx])) hby (fun x hx => ha x (by simp [hx]))
    obtain ⟨s1', h5, h6⟩ := step_swap h1 h3 (hb x (by simp)) hby (ha x (by simp)).1 (ha x (by simp)).2
    exact ⟨s1', h5, s', h6, h4⟩

/-! ### who must have been run -/
theorem before_fold (es : List Edge) (acc : Array Nat) (s0 j : Nat) (h : (es.foldl (fun s e => if Region.binds .any e then s ||| 2 ^ e.on ||| acc.getD e.on 0 else s) s0).testBit j = true) :
    s0.testBit j = true ∨ ∃ e ∈ es, Region.binds .any e = true ∧ (e.on = j ∨ (acc.getD e.on 0).testBit j = true) := by
  induction es generalizing s0 with
  | nil => exact .inl h
  | cons e es ih =>
    simp only [List.foldl_cons] at h
    rcases ih _ h with h | ⟨e', h1, h2, h3⟩
    · split at h
      · next hb =>
        simp only [Nat.testBit_or, Bool.or_eq_true] at h
        rcases h with (h | h) | h
        · exact .inl h
        · refine .inr ⟨e, by simp, hb, .inl ?_⟩
          rw [Nat.testBit_two_pow] at h
          simpa using h
        · exact .inr ⟨e, by simp, hb, .inr h⟩
      · exact .inl h
    · exact .inr ⟨e', by simp [h1], h2, h3⟩

theorem before_spec_aux : ∀ (l : List Oper) (acc : Array Nat) (pre : List Oper), acc.size = pre.length →
    (∀ (i : Nat) (o : Oper), pre[i]? = some o → ∀ j, (acc.getD i 0).testBit j = true → ∃ e ∈ o.after, Region.binds .any e = true ∧ (e.on = j ∨ (e.on < i ∧ (acc.getD e.on 0).testBit j = true))) →
    ∀ (i : Nat) (o : Oper), (pre ++ l)[i]? = some o → ∀ j, ((l.foldl (fun acc o => acc.push (o.after.foldl (fun s e => if Region.binds .any e then s ||| 2 ^ e.on ||| acc.getD e.on 0 else s) 0)) acc).getD i 0).testBit j = true →
      ∃ e ∈ o.after, Region.binds .any e = true ∧ (e.on = j ∨ (e.on < i ∧ ((l.foldl (fun acc o => acc.push (o.after.foldl (fun s e => if Region.binds .any e then s ||| 2 ^ e.on ||| acc.getD e.on 0 else s) 0)) acc).getD e.on 0).testBit j = true))
  | [], acc, pre, _, hp, i, o, hi, j, hj => hp i o (by simpa using hi) j hj
  | x :: l, acc, pre, hs, hp, i, o, hi, j, hj => by
    simp only [List.foldl_cons] at hj ⊢
    refine before_spec_aux l _ (pre ++ [x]) (by simp [hs]) ?_ i o (by simpa using hi) j hj
    intro i' o' hi' j' hj'
    have hget : ∀ k, k < acc.size → ∀ v, (acc.push v).getD k 0 = acc.getD k 0 := by
      intro k hk v
      simp [Array.getD, hk, Nat.lt_succ_of_lt hk, Array.getElem_push_lt hk]
    by_cases hlt : i' < pre.length
    · rw [hget i' (by omega)] at hj'
      obtain ⟨e, h1, h2, h3⟩ := hp i' o' (by rw [← hi', List.getElem?_append_left hlt]) j' hj'
      refine ⟨e, h1, h2, h3.imp id (fun h => ⟨h.1, ?_⟩)⟩
      rw [hget e.on (by omega)]; exact h.2
    · have hlen : i' < (pre ++ [x]).length := (List.getElem?_eq_some_iff.1 hi').1
      have he : i' = pre.length := by simp at hlen; omega
      subst he
      have ho : o' = x := by simpa using hi'.symm
      subst ho
      have hnew : ∀ v, (acc.push v).getD pre.length 0 = v := by
        intro v
        rw [← hs]
        simp [Array.getD]
      rw [hnew, ← Array.foldl_toList] at hj'
      rcases before_fold _ _ _ _ hj' with h | ⟨e, h1, h2, h3⟩
      · simp at h
      · refine ⟨e, Array.mem_toList_iff.1 h1, h2, h3.imp id (fun h => ?_)⟩
        have hel : e.on < acc.size := by
          rcases Nat.lt_or_ge e.on acc.size with h' | h'
          · exact h'
          · simp [Array.getD, Nat.not_lt.2 h'] at h
        exact ⟨by omega, by rw [hget e.on hel]; exact h⟩

theorem before_spec {ops : Array Oper} {i : Nat} {o : Oper} (hi : ops[i]? = some o) {j : Nat} (h : ((Region.before ops).getD i 0).testBit j = true) :
    ∃ e ∈ o.after, Region.binds .any e = true ∧ (e.on = j ∨ (e.on < i ∧ ((Region.before ops).getD e.on 0).testBit j = true)) := by
  have key := before_spec_aux ops.toList #[] [] rfl (fun i o h => by simp at h) i o (by simpa using hi) j
  unfold Region.before at h ⊢
  rw [← Array.foldl_toList] at h ⊢
  exact key h

/-- The listed ones have all that they wait for listed. -/
def Closed (ops : Array Oper) (listed : Array Bool) : Prop :=
  ∀ (j : Nat) (o : Oper), ops[j]? = some o → listed.getD j true = true → ∀ e ∈ o.after, Region.binds .any e = true → listed.getD e.on false = true

theorem before_listed {ops : Array Oper} {listed : Array Bool} (hsz : listed.size = ops.size) (hc : Closed ops listed) : ∀ (n i : Nat), i < n → ∀ (o : Oper), ops[i]? = some o → (∀ e ∈ o.after, Region.binds .any e = true → listed.getD e.on false = true) →
    ∀ j, ((Region.before ops).getD i 0).testBit j = true → listed.getD j false = true
  | 0, i, h, _, _, _, _, _ => by omega
  | n + 1, i, h, o, hi, ha, j, hj => by
    obtain ⟨e, h1, h2, h3⟩ := before_spec hi hj
    rcases h3 with rfl | ⟨h3, h4⟩
    · exact ha e h1 h2
    · have hl := ha e h1 h2
      have hlt : e.on < ops.size := by
        rcases Nat.lt_or_ge e.on listed.size with h' | h'
        · omega
        · simp [Array.getD, Nat.not_lt.2 h'] at hl
      refine before_listed hsz hc n e.on (by omega) ops[e.on] (Array.getElem?_eq_getElem hlt) (hc e.on _ (Array.getElem?_eq_getElem hlt) ?_) j h4
      have hl2 : e.on < listed.size := by omega
      simpa [Array.getD, hl2] using hl
end
end Go.Ab
