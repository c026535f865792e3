/- Operations of a region whose order is open: they change places. -/
import Derived.Test.YtnjgofgogeileaaE30
namespace Go.Ab
open Go
set_option linter.unusedSimpArgs false
set_option linter.unusedVariables false

section
variable {C : Cfg} {callK : CallK} {fid : FuncId} {st : St}

theorem argsOf_ops {P : Program} {o : Oper} {x : TypeId × Operand} (h : x ∈ argsOf P o) : x.2 ∈ o.op.operands := by
  obtain ⟨ty, y⟩ := x
  simp only
  cases hop : o.op <;> simp [argsOf, hop] at h <;> simp only [Op.operands]
  all_goals first
    | (rcases h with ⟨rfl, rfl⟩ | ⟨rfl, rfl⟩ | ⟨rfl, rfl⟩ <;> simp; done)
    | (rcases h with ⟨rfl, rfl⟩ | ⟨rfl, rfl⟩ <;> simp; done)
    | (obtain ⟨rfl, rfl⟩ := h; simp; done)
    | (obtain ⟨_, h, _⟩ := h; simp [h]; done)
    | skip
  case build =>
    obtain ⟨k, h, _⟩ := h
    simp only [List.mem_toArray, List.mem_map, Array.mem_toList_iff]
    exact ⟨_, h, rfl⟩
  case buildSlice =>
    obtain ⟨⟨k, h⟩, _⟩ := h
    simp only [List.mem_toArray, List.mem_map, Array.mem_toList_iff]
    exact ⟨_, h, rfl⟩
  case makeFunc =>
    simp only [Array.mem_append]
    exact h.imp And.left And.left
  case call c =>
    have hz : (ty, y) ∈ c.argTypes.toList.zip c.args.toList → y ∈ c.operands := by
      intro h
      have := (List.of_mem_zip h).2
      simp [Call.operands, Array.mem_toList_iff.1 this]
    rcases h with h | h
    · cases hc : c.callee <;> rw [hc] at h <;> simp at h <;> simp [Call.operands, hc, h]
    · exact hz h

theorem dead_of {xs : List V} (h : deadL xs = false) : ∀ x ∈ xs, x.dead = false := by
  induction xs with
  | nil => intro x hx; simp at hx
  | cons y ys ih =>
    simp only [deadL, Bool.or_eq_false_iff] at h
    intro x hx
    simp only [List.mem_cons] at hx
    rcases hx with rfl | hx
    · exact h.1
    · exact ih h.2 x hx

theorem names_of {xs : List V} {x : V} (h : x ∈ xs) : ∀ n ∈ x.names, n ∈ namesL xs := by
  induction xs with
  | nil => simp at h
  | cons y ys ih =>
    intro n hn
    simp only [List.mem_cons] at h
    simp only [namesL, List.mem_append]
    rcases h with rfl | h
    · exact .inl hn
    · exact .inr (ih h n hn)

theorem looks_arg {P : Program} {ops : Array Oper} {o : Oper} {ty : TypeId} {t : Nat} (h : (ty, Operand.tmp t) ∈ argsOf P o) : t ∈ o.looksAt ops := by
  have h1 := argsOf_ops h
  unfold Oper.looksAt
  refine List.mem_append_left _ (List.mem_filterMap.2 ⟨.tmp t, by simpa using h1, rfl⟩)

theorem looks_guard {ops : Array Oper} {o : Oper} {g t : Nat} {want : Bool} (hg : o.guard = some (g, want)) (ht : guardDst ops g = some t) : t ∈ o.looksAt ops := by
  unfold Oper.looksAt
  refine List.mem_append_right _ ?_
  unfold guardDst at ht
  simp [hg, ht]

/-- What a step looks at. -/
theorem step_split {ops : Array Oper} {o : Oper} {st' : St} {f : Foot} (h : stepS C callK fid ops o st st' f) (hb : f.bad = false) :
    ∃ (e : Eff) (Rel : Nat → Prop), st' = st.app e o.dst ∧ f.w = e.w ∧ f.k = e.k.names ∧ (∀ n ∈ e.val.names, n ∈ f.n) ∧ (∀ t, Rel t → t ∈ o.looksAt ops) ∧ (∀ t, Rel t → (st.env t).dead = false ∧ ∀ n ∈ (st.env t).names, n ∈ f.n) ∧
      ∀ s : St, (∀ t, Rel t → s.env t = st.env t) → (∀ n, n.mem f.t = true → s.regs n = st.regs n) → stepS C callK fid ops o s (s.app e o.dst) f := by
  -- the operation itself
  have main : opS C callK fid o st = some (st', f) → ∃ e, st' = st.app e o.dst ∧ f.w = e.w ∧ f.k = e.k.names ∧ (∀ n ∈ e.val.names, n ∈ f.n) ∧
      (∀ t, (∃ ty, (ty, Operand.tmp t) ∈ argsOf C.P o) → (st.env t).dead = false ∧ ∀ n ∈ (st.env t).names, n ∈ f.n) ∧
      ∀ s : St, (∀ t, (∃ ty, (ty, Operand.tmp t) ∈ argsOf C.P o) → s.env t = st.env t) → (∀ n, n.mem f.t = true → s.regs n = st.regs n) → opS C callK fid o s = some (s.app e o.dst, f) := by
    intro ho
    obtain ⟨e, h1, h2, h3, h4⟩ := opS_eff.1 ⟨ho, hb⟩
    refine ⟨e, h2, by rw [h3]; rfl, by rw [h3]; rfl, fun n hn => by rw [h3]; exact List.mem_append_right _ hn, ?_, ?_⟩
    · rintro t ⟨ty, ht⟩
      have hm : st.env t ∈ valsOf C o st := List.mem_map.2 ⟨(ty, .tmp t), ht, rfl⟩
      exact ⟨dead_of h4 _ hm, fun n hn => by rw [h3]; exact List.mem_append_left _ (names_of hm n hn)⟩
    · intro s hs hr
      have hv : valsOf C o s = valsOf C o st := by
        apply List.map_congr_left
        rintro ⟨ty, x⟩ hx
        cases x with
        | tmp t => exact hs t ⟨ty, hx⟩
        | _ => rfl
      have ho' : only (touch o (valsOf C o st)) s.regs = only (touch o (valsOf C o st)) st.regs := by
        funext n
        simp only [only]
        cases hm : n.mem (touch o (valsOf C o st)) with
        | false => rfl
        | true => simp only [cond_true]; exact hr n (by rw [h3]; exact hm)
      exact (opS_eff.2 ⟨e, by rw [hv, ho']; exact h1, rfl, by rw [hv]; exact h3, by rw [hv]; exact h4⟩).1
  unfold stepS at h
  split at h
  · next hg =>
    obtain ⟨e, h1, h2, h3, h4, h5, h6⟩ := main h
    refine ⟨e, fun t => ∃ ty, (ty, Operand.tmp t) ∈ argsOf C.P o, h1, h2, h3, h4, fun t ⟨ty, ht⟩ => looks_arg ht, h5, fun s hs hr => ?_⟩
    unfold stepS
    rw [hg]
    exact h6 s hs hr
  · next g want hg =>
    obtain ⟨t, ht, h⟩ := h
    rcases h with ⟨hc, ho⟩ | ⟨hc, rfl, rfl⟩
    · obtain ⟨e, h1, h2, h3, h4, h5, h6⟩ := main ho
      refine ⟨e, fun t' => (∃ ty, (ty, Operand.tmp t') ∈ argsOf C.P o) ∨ t' = t, h1, h2, h3, h4, ?_, ?_, fun s hs hr => ?_⟩
      · rintro t' (⟨ty, h⟩ | rfl)
        · exact looks_arg h
        · exact looks_guard hg ht
      · rintro t' (h | rfl)
        · exact h5 t' h
        · rw [hc]; exact ⟨rfl, fun n hn => by simp [V.names] at hn⟩
      · unfold stepS
        rw [hg]
        exact ⟨t, ht, .inl ⟨by rw [hs t (.inr rfl)]; exact hc, h6 s (fun t' h => hs t' (.inl h)) hr⟩⟩
    · refine ⟨Eff.put (.tp []), fun t' => t' = t, rfl, rfl, rfl, fun n hn => by simp [Eff.put, V.names, namesL] at hn, ?_, ?_, fun s hs hr => ?_⟩
      · rintro t' rfl; exact looks_guard hg ht
      · rintro t' rfl
        rcases hc with hc | hc <;> rw [hc] <;> exact ⟨rfl, fun n hn => by simp [V.names, namesL] at hn⟩
      · unfold stepS
        rw [hg]
        exact ⟨t, ht, .inr ⟨by rw [hs t rfl]; exact hc, rfl, rfl⟩⟩

theorem noMeet_spec {a b : List Nm} (h : noMeet a b = true) : ∀ n ∈ a, n ∉ b := by
  intro n hn
  have := List.all_eq_true.1 h n hn
  simp only [Bool.not_eq_true'] at this
  exact (Nm.mem_false _ _).1 this

/-- Two steps change places. -/
theorem step_swap {ops : Array Oper} {ox oy : Oper} {s1 s2 : St} {fx fy : Foot} (hx : stepS C callK fid ops ox st s1 fx) (hy : stepS C callK fid ops oy s1 s2 fy) (hbx : fx.bad = false) (hby : fy.bad = false)
    (hap : fx.apart fy = true) (hsl : ox.apart ops oy = true) : ∃ s1', stepS C callK fid ops oy st s1' fy ∧ stepS C callK fid ops ox s1' s2 fx := by
  obtain ⟨ex, Rx, x1, x2, x3, x4, x5, x6, x7⟩ := step_split hx hbx
  obtain ⟨ey, Ry, y1, y2, y3, y4, y5, y6, y7⟩ := step_split hy hby
  obtain ⟨l1, l2, l3⟩ := Oper.apart_spec hsl
  simp only [Foot.apart, Bool.and_eq_true] at hap
  obtain ⟨⟨⟨⟨a1, a2⟩, a3⟩, a4⟩, a5⟩ := hap
  have hout : ∀ (d : Option Nat) (t : Nat), (∀ d', d = some d' → d' ≠ t) → isDst d t = false := by
    intro d t h
    cases d with
    | none => rfl
    | some d' =>
      cases hh : isDst (some d') t with
      | false => rfl
      | true => exact absurd ((isDst_some d' t).1 hh).symm (h d' rfl)
  have hreg : ∀ (s : St) (e : Eff) (d : Option Nat) (n : Nm), n ∉ e.w → (s.app e d).regs n = s.regs n := by
    intro s e d n hn
    simp only [St.app, (Nm.mem_false _ _).2 hn, cond_false]
  -- the later one first
  have ey1 : ∀ t, Ry t → st.env t = s1.env t := by
    intro t ht
    have h1 : s1.env t = (st.env t).kill ex.k := by
      rw [x1, app_env, hout ox.dst t (fun d hd e => l1 d hd (e ▸ y5 t ht))]
      rfl
    have h2 := (y6 t ht).1
    rw [h1] at h2 ⊢
    exact (kill_alive _ _ h2).symm
  have hy' := y7 st ey1 (fun n hn => by
    rw [x1, hreg _ _ _ n]
    intro h
    exact noMeet_spec a1 n (by rw [x2]; exact h) ((Nm.mem_iff _ _).1 hn))
  refine ⟨_, hy', ?_⟩
  have hx' := x7 (st.app ey oy.dst) (fun t ht => by
    rw [app_env, hout oy.dst t (fun d hd e => l3 d hd (e ▸ x5 t ht))]
    simp only [cond_false]
    exact kill_id _ _ (fun n hn h => noMeet_spec a5 n (by rw [y3]; exact h) ((x6 t ht).2 n hn)))
    (fun n hn => by
      rw [hreg _ _ _ n]
      intro h
      exact noMeet_spec a2 n (by rw [y2]; exact h) ((Nm.mem_iff _ _).1 hn))
  have he : (st.app ey oy.dst).app ex ox.dst = s2 := by
    rw [y1, x1]
    exact (app_comm l2 (fun n h1 h2 => noMeet_spec a3 n (by rw [x2]; exact h1) (by rw [y2]; exact h2)) (fun n h1 h2 => noMeet_spec a5 n (by rw [y3]; exact h2) (x4 n h1)) (fun n h1 h2 => noMeet_spec a4 n (by rw [x3]; exact h2) (y4 n h1))).symm
  rw [he] at hx'
  exact hx'
end
end Go.Ab
