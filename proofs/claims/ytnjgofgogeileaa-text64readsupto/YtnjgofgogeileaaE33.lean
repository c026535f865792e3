/- A region whose order is open comes to one state. -/
import Derived.Test.YtnjgofgogeileaaE32
namespace Go.Ab
open Go
set_option linter.unusedSimpArgs false
set_option linter.unusedVariables false

section
variable {C : Cfg} {callK : CallK} {fid : FuncId} {w0 : World} {F : FG} {N : Nat} {R : Type}

theorem edges_back {ops : Array Oper} (h : edgesBack ops = true) {i : Nat} {o : Oper} (ho : ops[i]? = some o) : ∀ e ∈ o.after, Region.binds .any e = true → e.on < i := by
  intro e he hbd
  have hm : (o, i) ∈ ops.toList.zipIdx := by
    rw [List.mem_iff_getElem?]
    exact ⟨i, by simp [List.getElem?_zipIdx, ho]⟩
  have h1 := List.all_eq_true.1 h _ hm
  have h2 := List.all_eq_true.1 h1 e (Array.mem_toList_iff.2 he)
  simp only [hbd, Bool.not_true, Bool.false_or] at h2
  exact nblt h2

/-- What is left of a region, and what is listed. -/
structure Left (C : Cfg) (callK : CallK) (fid : FuncId) (ops : Array Oper) (L : List Stp) (listed : Array Bool) : Prop where
  size : listed.size = ops.size
  opsAt : ∀ x ∈ L, ops[x.1]? = some x.2.1
  un : ∀ x ∈ L, listed.getD x.1 true = false
  all : ∀ j, listed.getD j true = false → ∃ x ∈ L, x.1 = j
  inc : L.Pairwise fun x y => x.1 < y.1
  ord : L.Pairwise (Ord (Region.before ops) ops)
  good : ∀ x ∈ L, x.2.2.bad = false
  closed : Closed ops listed

theorem getD_both {a : Array Bool} {i : Nat} : a.getD i false = true ↔ i < a.size ∧ a.getD i true = true := by
  by_cases h : i < a.size <;> simp [Array.getD, h]

theorem getD_set {a : Array Bool} {i j : Nat} (hi : i < a.size) (d : Bool) : (a.setIfInBounds i true).getD j d = if i = j then true else a.getD j d := by
  by_cases h : i = j
  · subst h; simp [Array.getD, hi]
  · rw [if_neg h]
    simp only [Array.getD, Array.size_setIfInBounds]
    split
    · next hj => exact Array.getElem_setIfInBounds_ne hj h
    · rfl

theorem any_ok (hK : CallSound C.P callK) {ops : Array Oper} (hd : ∀ o ∈ ops, ∀ x, o.dst = some x → x < N) (hback : edgesBack ops = true) {s : St} {Q : Exit → Act → World → Prop} :
    ∀ (fuel : Nat) (L : List Stp) (listed : Array Bool) {st : St} {a : Act} {w : World} {G : Nat → Prop} {gm : GM}, L.length ≤ fuel → Inv C.P w0 F N st a w G gm → Chain C callK fid ops L st s → Left C callK fid ops L listed →
      (∀ a' w' G' gm', (∀ b, G b → G' b) → Inv C.P w0 F N s a' w' G' gm' → Q .normal a' w') → wpAny C.P .any ops Q fuel listed a w := by
  intro fuel
  induction fuel with
  | zero =>
    intro L listed st a w G gm hl hI hc hL hQ
    have : L = [] := List.eq_nil_of_length_eq_zero (by omega)
    subst this
    have hc : s = st := hc
    subst hc
    refine ⟨?_, hQ a w G gm (fun _ h => h) hI⟩
    cases hr : Region.ready .any ops listed with
    | nil => rfl
    | cons i l =>
      have : i ∈ Region.ready .any ops listed := by rw [hr]; simp
      obtain ⟨x, hx, _⟩ := hL.all i (mem_ready.1 this).1
      cases hx
  | succ fuel ih =>
    intro L listed st a w G gm hl hI hc hL hQ
    refine ⟨fun hr => ?_, fun i hi => ?_⟩
    · cases L with
      | nil =>
        have hc : s = st := hc
        subst hc
        exact hQ a w G gm (fun _ h => h) hI
      | cons x L =>
        exfalso
        have hox := hL.opsAt x (by simp)
        have hready : x.1 ∈ Region.ready .any ops listed := by
          rw [mem_ready]
          refine ⟨hL.un x (by simp), x.2.1, hox, fun e he hb => ?_⟩
          have hlt := edges_back hback hox e he hb
          have hxs : x.1 < ops.size := (Array.getElem?_eq_some_iff.1 hox).1
          rw [getD_both]
          refine ⟨by rw [hL.size]; omega, ?_⟩
          cases hu : listed.getD e.on true with
          | true => rfl
          | false =>
            obtain ⟨y, hy, he'⟩ := hL.all _ hu
            simp only [List.mem_cons] at hy
            rcases hy with rfl | hy
            · omega
            · have := List.rel_of_pairwise_cons hL.inc hy
              omega
        rw [hr] at hready
        cases hready
    · obtain ⟨hu, o, ho, hpre⟩ := mem_ready.1 hi
      obtain ⟨y, hy, hyi⟩ := hL.all i hu
      subst hyi
      have hoy := hL.opsAt y hy
      rw [ho] at hoy
      obtain rfl := Option.some.inj hoy
      obtain ⟨L1, L2, rfl⟩ := List.append_of_mem hy
      have hmid := List.pairwise_append.1 hL.ord
      have hminc := List.pairwise_append.1 hL.inc
      have hap : ∀ x ∈ L1, x.2.2.apart y.2.2 = true ∧ x.2.1.apart ops y.2.1 = true := by
        intro x hx
        rcases hmid.2.2 x hx y (by simp) with h | h
        · exfalso
          have h1 := before_listed hL.size hL.closed (y.1 + 1) y.1 (by omega) y.2.1 ho hpre x.1 h
          have h2 := hL.un x (by simp [hx])
          rw [(getD_both.1 h1).2] at h2
          cases h2
        · exact h
      obtain ⟨s', h1, h2⟩ := chain_front L1 hc (fun x hx => hL.good x (by simp [hx])) (hL.good y (by simp)) hap
      have hys : y.1 < listed.size := by rw [hL.size]; exact (Array.getElem?_eq_some_iff.1 ho).1
      have hsub : (L1 ++ L2).Sublist (L1 ++ y :: L2) := List.Sublist.append (List.Sublist.refl _) (List.sublist_cons_self _ _)
      have hne : ∀ x ∈ L1 ++ L2, x.1 ≠ y.1 := by
        intro x hx
        simp only [List.mem_append] at hx
        rcases hx with hx | hx
        · have := hminc.2.2 x hx y (by simp); omega
        · have := List.rel_of_pairwise_cons hminc.2.1 hx; omega
      have hL' : Left C callK fid ops (L1 ++ L2) (listed.setIfInBounds y.1 true) := by
        refine ⟨by simpa using hL.size, fun x hx => hL.opsAt x (hsub.subset hx), fun x hx => ?_, fun j hj => ?_, hL.inc.sublist hsub, hL.ord.sublist hsub, fun x hx => hL.good x (hsub.subset hx), ?_⟩
        · rw [getD_set hys, if_neg (fun e => hne x hx e.symm)]
          exact hL.un x (hsub.subset hx)
        · rw [getD_set hys] at hj
          split at hj
          · cases hj
          · next hn =>
            obtain ⟨x, hx, rfl⟩ := hL.all j hj
            refine ⟨x, ?_, rfl⟩
            simp only [List.mem_append, List.mem_cons] at hx ⊢
            rcases hx with hx | rfl | hx
            · exact .inl hx
            · exact absurd rfl hn
            · exact .inr hx
        · intro j o' ho' hj e he hb
          rw [getD_set hys]
          split
          · rfl
          · rw [getD_set hys] at hj
            split at hj
            · next hje =>
              subst hje
              rw [ho] at ho'
              obtain rfl := Option.some.inj ho'
              exact hpre e he hb
            · exact hL.closed j o' ho' hj e he hb
      unfold wpOp
      simp only [ho]
      refine stepS_ok hK hI (hd _ (Array.mem_of_getElem? ho)) h1 (fun a' w' G' gm' hG hI' => ?_)
      refine ih (L1 ++ L2) _ ?_ hI' h2 hL' (fun a'' w'' G'' gm'' hg hi' => hQ a'' w'' G'' gm'' (fun b hb => hg b (hG b hb)) hi')
      simp only [List.length_append, List.length_cons] at hl ⊢
      omega

/-- A region whose order is open. -/
theorem draw_ok (hK : CallSound C.P callK) (hm : C.P.follows .mixedOrders = true) {ops : Array Oper} (hd : ∀ o ∈ ops, ∀ x, o.dst = some x → x < N) (hback : edgesBack ops = true) {id : Nat} {st : St} {a : Act} {w : World} {G : Nat → Prop} {gm : GM} (hI : Inv C.P w0 F N st a w G gm)
    {κ : St → Option R} {r : R} (h : opsK C callK fid ops (some (Region.before ops)) ops.toList 0 [] st κ = some r) {Q : Exit → Act → World → Prop}
    (hQ : ∀ st' a' w' G' gm', κ st' = some r → (∀ b, G b → G' b) → Inv C.P w0 F N st' a' w' G' gm' → Q .normal a' w') : (Code.region id ops true).wp C.P Q a w := by
  obtain ⟨L, s, k1, k2, k3, k4, k5, k6, _⟩ := opsK_chain ops.toList h
  have hlen : L.length = ops.size := by simpa using k1
  have hat : ∀ (k : Nat) (x : Stp), L[k]? = some x → x.1 = k ∧ ops[k]? = some x.2.1 := by
    intro k x hx
    have hk : k < ops.size := by rw [← hlen]; exact (List.getElem?_eq_some_iff.1 hx).1
    obtain ⟨f, hf⟩ := k2 k ops[k] (by simp [hk])
    rw [hx] at hf
    obtain rfl := Option.some.inj hf
    exact ⟨by simp, by simp [hk]⟩
  refine wp_region_any hm (any_ok hK hd hback ops.size L _ (by omega) (hI.world (w' := { w with drawn := w.drawn + 1 }) rfl rfl rfl rfl) k3 ⟨by simp, ?_, ?_, ?_, ?_, k6, k5, ?_⟩ (fun a' w' G' gm' hG hI' => hQ s a' w' G' gm' k4 hG hI'))
  · intro x hx
    obtain ⟨k, hk⟩ := List.mem_iff_getElem?.1 hx
    obtain ⟨h1, h2⟩ := hat k x hk
    rw [h1]; exact h2
  · intro x hx
    obtain ⟨k, hk⟩ := List.mem_iff_getElem?.1 hx
    obtain ⟨h1, h2⟩ := hat k x hk
    have : x.1 < ops.size := by rw [h1]; exact (Array.getElem?_eq_some_iff.1 h2).1
    simp [Array.getD, this]
  · intro j hj
    have hjs : j < ops.size := by
      rcases Nat.lt_or_ge j ops.size with h' | h'
      · exact h'
      · simp [Array.getD, Nat.not_lt.2 h'] at hj
    have hjl : j < L.length := by omega
    exact ⟨L[j], List.getElem_mem hjl, (hat j _ (List.getElem?_eq_getElem hjl)).1⟩
  · rw [List.pairwise_iff_getElem]
    intro i j hi hj hij
    rw [(hat i _ (List.getElem?_eq_getElem hi)).1, (hat j _ (List.getElem?_eq_getElem hj)).1]
    exact hij
  · intro j o ho hj
    have hjs : j < ops.size := (Array.getElem?_eq_some_iff.1 ho).1
    simp [Array.getD, hjs] at hj
end
end Go.Ab
