/- Every operation comes to its effect. -/
import Derived.Test.YtnjgofgogeileaaE23
namespace Go.Ab
open Go
set_option linter.unusedSimpArgs false
set_option linter.unusedVariables false

section
variable {P : Program} {w0 w : World} {F : FG} {N : Nat} {st : St} {a : Act} {G : Nat → Prop} {gm : GM} {deep : TypeId → Bool} {T : List Nm} {rd regs : Nm → Option Rg}

/- What has no region is not named. -/
mutual
theorem Rv.no_name {n : Nm} (hn : gm n = none) : ∀ (x : V) (v : Value), Rv w G gm v x → n ∉ x.names
  | .sc _, _, _ => by simp [V.names]
  | .nl _, _, _ => by simp [V.names]
  | .sl _ _, _, _ => by simp [V.names]
  | .own _ _ _, _, h => h.elim
  | .ag xs, v, h => by obtain ⟨cs, _, h⟩ := h; exact RvL.no_name hn xs _ h
  | .tp xs, v, h => by obtain ⟨cs, _, h⟩ := h; exact RvL.no_name hn xs _ h
  | .fn f x y, v, h => by
    obtain ⟨first, caps, _, h1, h2⟩ := h
    simp only [V.names, List.mem_append, not_or]
    exact ⟨RvL.no_name hn x _ h1, RvL.no_name hn y _ h2⟩
  | .ifc t x, v, h => by obtain ⟨u, _, h⟩ := h; exact Rv.no_name hn x u h
  | .ref q, v, h => by
    simp only [V.names, List.mem_singleton]
    rintro rfl
    simp only [Rv, nameRef, skAt, hn] at h
  | .vw q lo hi, v, h => by
    simp only [V.names, List.mem_singleton]
    rintro rfl
    simp only [Rv, nameVw, skAt, hn] at h
  | .ptrB r j, v, h => by
    simp only [V.names, List.mem_singleton]
    rintro rfl
    obtain ⟨_, _, h, _⟩ := h
    rw [hn] at h; cases h
  | .ptrE q i o, v, h => by
    simp only [V.names, List.mem_singleton]
    rintro rfl
    simp only [Rv, namePtrE, skAt, hn] at h
  | .pim _ _ _, _, _ => by simp [V.names]
  | .bad, _, _ => by simp [V.names]
theorem RvL.no_name {n : Nm} (hn : gm n = none) : ∀ (xs : List V) (vs : List Value), RvL w G gm vs xs → n ∉ namesL xs
  | [], _, _ => by simp [namesL]
  | x :: xs, v :: vs, h => by
    simp only [namesL, List.mem_append, not_or]
    exact ⟨Rv.no_name hn x v h.1, RvL.no_name hn xs vs h.2⟩
  | _ :: _, [], h => h.elim
end

theorem load_ok (hI : Inv P w0 F N st a w G gm) {o : Oper} (hd : ∀ x, o.dst = some x → x < N) {t : TypeId} {p : Operand} (ho : o.op = .load t p) {T : List Nm} {vp : V} (hp : Rv w G gm (a.eval p) vp)
    (hok : (semLoad P deep (only T st.regs) t vp).ok = true) : OpRes P w0 F N st a w G o (semLoad P deep (only T st.regs) t vp) := by
  obtain ⟨b, k, v, h1, h2, h3, h4, h5⟩ := semLoad_ok hI hp hok
  refine OpRes.quiet hI hd v ?_ h4 h5 h3
  simp [execOp, ho, h1, Instr.loadAt, Instr.sureAddr, h2]

theorem touch_hand (hI : Inv P w0 F N st a w G gm) (o : Oper) : Nm.hand.mem (touch o ((argsOf P o).map (opd P st.env))) = false := by
  have hn : Nm.hand.mem (namesL ((argsOf P o).map (opd P st.env))) = false :=
    (Nm.mem_false _ _).2 (RvL.no_name (hI.regs.none hI.hand) _ _ (opds_ok hI (argsOf P o)))
  have h2 : Nm.hand.mem ((match o.dst with | some d => [Nm.loc d] | none => []) ++ namesL ((argsOf P o).map (opd P st.env))) = false := by
    cases o.dst with
    | none => exact hn
    | some d => simp only [List.cons_append, List.nil_append, Nm.mem, Nm.eq, Bool.false_or]; exact hn
  unfold touch
  split <;> first | rfl | exact h2 | exact hn

theorem sem_ok (hI : Inv P w0 F N st a w G gm) (o : Oper) (hd : ∀ x, o.dst = some x → x < N)
    (hok : (sem P deep o ((argsOf P o).map (opd P st.env)) (only (touch o ((argsOf P o).map (opd P st.env))) st.regs)).ok = true) :
    OpRes P w0 F N st a w G o (sem P deep o ((argsOf P o).map (opd P st.env)) (only (touch o ((argsOf P o).map (opd P st.env))) st.regs)) := by
  have hTh := touch_hand hI o
  have hTd : ∀ d, o.dst = some d → (∃ x, touch o ((argsOf P o).map (opd P st.env)) = (match o.dst with | some d => [Nm.loc d] | none => []) ++ x) → (Nm.loc d).mem (touch o ((argsOf P o).map (opd P st.env))) = true := by
    rintro d hod ⟨x, hx⟩
    rw [hx, hod]
    simp [Nm.mem, Nm.eq_self]
  have hdd : ∀ d, o.dst = some d → d < N := fun d h => hd d h
  generalize hT : touch o ((argsOf P o).map (opd P st.env)) = T at *
  have hvs := opds_ok hI (argsOf P o)
  have hop1 : ∀ {v : V} {f : Bool → Eff} {x : Operand} {ty : TypeId}, (onBool v f).ok = true → Rv w G gm (a.eval x) v → ∃ b, a.eval x = .bool b ∧ onBool v f = f b := by
    intro v f x ty h hv
    unfold onBool at h ⊢
    split at h
    · exact ⟨_, hv.1, rfl⟩
    · cases h
  have hint : ∀ {v : V} {f : Int → Eff} {x : Operand}, (onInt v f).ok = true → Rv w G gm (a.eval x) v → ∃ k n, a.eval x = .int k n ∧ onInt v f = f n := by
    intro v f x h hv
    unfold onInt at h ⊢
    split at h
    · exact ⟨_, _, hv.1, rfl⟩
    · cases h
  have hstr : ∀ {v : V} {f : ByteArray → Eff} {x : Operand}, (onStr v f).ok = true → Rv w G gm (a.eval x) v → ∃ s, a.eval x = .string s ∧ onStr v f = f s := by
    intro v f x h hv
    unfold onStr at h ⊢
    split at h
    · exact ⟨_, hv.1, rfl⟩
    · cases h
  have hdst : ∀ {f : Nat → Eff}, (onDst o.dst f).ok = true → ∃ d, o.dst = some d ∧ onDst o.dst f = f d := by
    intro f h
    unfold onDst at h ⊢
    split at h
    · next d hd => exact ⟨d, hd, rfl⟩
    · cases h
  cases hop : o.op <;> try (simp only [sem, hop] at hok; cases hok; done)
  case move x =>
    simp only [sem, hop, argsOf, List.map_cons, List.map_nil, on1] at hok ⊢
    exact move_ok hI hd (.inl hop) (opd_ok hI (o.type, x))
  case assign x =>
    simp only [sem, hop, argsOf, List.map_cons, List.map_nil, on1] at hok ⊢
    obtain ⟨d, hod, e⟩ := hdst hok
    rw [e] at hok ⊢
    exact assign_ok hI hod (hdd d hod) hop (hTd d hod ⟨_, by rw [← hT]; simp only [touch, hop]; rfl⟩) hTh (opd_ok hI (o.type, x)) hok
  case pick c x y =>
    simp only [sem, hop, argsOf, List.map_cons, List.map_nil, on3] at hok ⊢
    obtain ⟨b, h1, e⟩ := hop1 (ty := 0) hok (opd_ok hI (0, c))
    rw [e]
    exact pick_ok hI hd hop h1 (opd_ok hI (o.type, x)) (opd_ok hI (o.type, y))
  case alloc t =>
    simp only [sem, hop, argsOf, List.map_nil] at hok ⊢
    obtain ⟨d, hod, e⟩ := hdst hok
    rw [e] at hok ⊢
    obtain ⟨h1, _⟩ := when_ok hok
    simp only [Bool.and_eq_true] at h1
    obtain ⟨⟨⟨p1, p2⟩, p3⟩, p4⟩ := h1
    exact OpRes.when (alloc_ok hI hod (hdd d hod) hop (hTd d hod ⟨_, by rw [← hT]; simp only [touch, hop]; rfl⟩) hTh p1 p2 (nblt p3) (nbeq p4))
  case box t x =>
    simp only [sem, hop, argsOf, List.map_cons, List.map_nil, on1] at hok ⊢
    obtain ⟨d, hod, e⟩ := hdst hok
    rw [e] at hok ⊢
    obtain ⟨h1, _⟩ := when_ok hok
    simp only [Bool.and_eq_true] at h1
    exact OpRes.when (box_ok hI hod (hdd d hod) hop (hTd d hod ⟨_, by rw [← hT]; simp only [touch, hop]; rfl⟩) hTh (opd_ok hI (t, x)) h1.1.1)
  case build t ps =>
    have he : (argsOf P o).map (fun x => a.eval x.2) = ps.toList.map fun p => a.eval p.2 := by
      simp only [argsOf, hop, List.map_map]; rfl
    rw [he] at hvs
    have hs : ∀ vs rd, sem P deep o vs rd = semBuild P t (ps.toList.map (·.1)) vs := fun vs rd => by simp only [sem, hop]
    rw [hs] at hok ⊢
    exact semBuild_ok hI hd hop hvs hok
  case buildSlice t n ps =>
    have he : (argsOf P o).map (fun x => a.eval x.2) = ps.toList.map fun p => a.eval p.2 := by
      simp only [argsOf, hop, List.map_map]; rfl
    rw [he] at hvs
    have hs : ∀ vs rd, sem P deep o vs rd = onDst o.dst fun d => semBuildSlice P deep d rd t n (ps.toList.map (·.1)) vs := fun vs rd => by simp only [sem, hop]
    rw [hs] at hok ⊢
    obtain ⟨d, hod, e⟩ := hdst hok
    rw [e] at hok ⊢
    exact buildSlice_ok hI hod (hdd d hod) hop (hTd d hod ⟨_, by rw [← hT]; simp only [touch, hop]; rfl⟩) hTh hvs hok
  case load t p =>
    simp only [sem, hop, argsOf, List.map_cons, List.map_nil, on1] at hok ⊢
    exact load_ok hI hd hop (opd_ok hI (0, p)) hok
  case store t p x =>
    have hp := opd_ok hI (0, p)
    simp only [sem, hop, argsOf, List.map_cons, List.map_nil, on2] at hok ⊢
    generalize opd P st.env (0, p) = vp at hok hp ⊢
    cases vp with
    | ptrB r j => exact storeB_ok hI hd hop hTh hp (opd_ok hI (t, x)) hok
    | ptrE q i off => exact storeE_ok hI hd hop hTh hp (opd_ok hI (t, x)) hok
    | _ => cases hok
  case nilCheck x =>
    have hp := opd_ok hI (0, x)
    simp only [sem, hop, argsOf, List.map_cons, List.map_nil, on1] at hok ⊢
    generalize opd P st.env (0, x) = vp at hok hp ⊢
    cases vp with
    | ptrB r j => exact nilCheck_ok hI hd hop hp (by obtain ⟨_, _, _, _, h⟩ := hp; exact ⟨_, h⟩)
    | ptrE q i off =>
      refine nilCheck_ok hI hd hop hp ?_
      simp only [Rv, namePtrE] at hp
      split at hp
      · exact ⟨_, hp.2⟩
      · exact hp.elim
    | pim n xs off => exact nilCheck_ok hI hd hop hp (by obtain ⟨_, _, _, h, _⟩ := hp; exact ⟨_, h⟩)
    | _ => cases hok
  case binOp op t x y yt =>
    simp only [sem, hop, argsOf, List.map_cons, List.map_nil, on2] at hok ⊢
    exact semBin_ok hI hd hop (opd_ok hI (t, x)) (opd_ok hI (t, y)) hok
  case unOp op t x =>
    simp only [sem, hop, argsOf, List.map_cons, List.map_nil, on1] at hok ⊢
    exact semUn_ok hI hd hop (opd_ok hI (t, x)) hok
  case convert s t x =>
    simp only [sem, hop, argsOf, List.map_cons, List.map_nil, on1] at hok ⊢
    obtain ⟨d, hod, e⟩ := hdst hok
    rw [e] at hok ⊢
    exact convert_ok hI hod (hdd d hod) hop (hTd d hod ⟨_, by rw [← hT]; simp only [touch, hop]; rfl⟩) hTh (opd_ok hI (s, x)) hok
  case makeInterface t x =>
    simp only [sem, hop, argsOf, List.map_cons, List.map_nil, on1] at hok ⊢
    have h1 := (when_ok hok).1
    simp only [Bool.and_eq_true] at h1
    exact OpRes.when (makeInterface_ok hI hd hop (opd_ok hI (t, x)) h1.2)
  case makeFunc tgt first caps =>
    have he : (argsOf P o).map (fun x => a.eval x.2) = (first ++ caps).toList.map a.eval := by
      simp only [argsOf, hop, List.map_map]; rfl
    rw [he] at hvs
    cases tgt with
    | func f =>
      have hs : ∀ vs rd, sem P deep o vs rd = Eff.put (.fn f (vs.take first.size) (vs.drop first.size)) := fun vs rd => by simp only [sem, hop]
      rw [hs] at hok ⊢
      exact makeFunc_ok hI hd hop hvs
    | _ => simp only [sem, hop] at hok; cases hok
  case makeSlice t l c =>
    simp only [sem, hop, argsOf, List.map_cons, List.map_nil, on2] at hok ⊢
    obtain ⟨k1, n1, h1, e1⟩ := hint hok (opd_ok hI (0, l))
    rw [e1] at hok ⊢
    obtain ⟨k2, n2, h2, e2⟩ := hint hok (opd_ok hI (0, c))
    rw [e2] at hok ⊢
    obtain ⟨d, hod, e⟩ := hdst hok
    rw [e] at hok ⊢
    exact make_ok hI hod (hdd d hod) hop (hTd d hod ⟨_, by rw [← hT]; simp only [touch, hop]; rfl⟩) hTh h1 h2 hok
  case slice t x lo hi mx =>
    cases mx with
    | some m => simp only [sem, hop] at hok; cases hok
    | none =>
      have hs : ∀ vs rd, sem P deep o vs rd = semSliceOp P rd t lo.isSome hi.isSome vs := fun vs rd => by simp only [sem, hop]
      rw [hs] at hok ⊢
      cases lo with
      | none =>
        cases hi with
        | none =>
          simp only [argsOf, hop, Option.toList_none, List.append_nil, List.map_nil, List.map_cons, semSliceOp, Option.isSome] at hok ⊢
          exact semSlice_ok hI hd hop (opd_ok hI (t, x)) .none .none hok
        | some h =>
          simp only [argsOf, hop, Option.toList_none, Option.toList_some, List.nil_append, List.append_nil, List.map_nil, List.map_cons, semSliceOp, Option.isSome] at hok ⊢
          obtain ⟨k1, n1, h1, e1⟩ := hint hok (opd_ok hI (0, h))
          rw [e1] at hok ⊢
          exact semSlice_ok hI hd hop (opd_ok hI (t, x)) .none (by rw [Option.map_some, h1]; exact .some k1 n1) hok
      | some l =>
        cases hi with
        | none =>
          simp only [argsOf, hop, Option.toList_none, Option.toList_some, List.nil_append, List.append_nil, List.map_nil, List.map_cons, semSliceOp, Option.isSome] at hok ⊢
          obtain ⟨k1, n1, h1, e1⟩ := hint hok (opd_ok hI (0, l))
          rw [e1] at hok ⊢
          exact semSlice_ok hI hd hop (opd_ok hI (t, x)) (by rw [Option.map_some, h1]; exact .some k1 n1) .none hok
        | some h =>
          simp only [argsOf, hop, Option.toList_none, Option.toList_some, List.cons_append, List.nil_append, List.append_nil, List.map_nil, List.map_cons, semSliceOp, Option.isSome] at hok ⊢
          obtain ⟨k1, n1, h1, e1⟩ := hint hok (opd_ok hI (0, l))
          rw [e1] at hok ⊢
          obtain ⟨k2, n2, h2, e2⟩ := hint hok (opd_ok hI (0, h))
          rw [e2] at hok ⊢
          exact semSlice_ok hI hd hop (opd_ok hI (t, x)) (by rw [Option.map_some, h1]; exact .some k1 n1) (by rw [Option.map_some, h2]; exact .some k2 n2) hok
  case fieldAddr t x f =>
    simp only [sem, hop, argsOf, List.map_cons, List.map_nil, on1] at hok ⊢
    exact semField_ok hI hd hop (opd_ok hI (t, x)) hok
  case field t x f =>
    simp only [sem, hop, argsOf, List.map_cons, List.map_nil, on1] at hok ⊢
    exact field_ok hI hd hop (opd_ok hI (t, x)) hok
  case indexAddr t x i =>
    simp only [sem, hop, argsOf, List.map_cons, List.map_nil, on2] at hok ⊢
    obtain ⟨k1, n1, h1, e1⟩ := hint hok (opd_ok hI (0, i))
    rw [e1] at hok ⊢
    exact semIndexAddr_ok hI hd hop (opd_ok hI (t, x)) h1 hok
  case index t x i =>
    simp only [sem, hop, argsOf, List.map_cons, List.map_nil, on2] at hok ⊢
    obtain ⟨str, h1, e1⟩ := hstr hok (opd_ok hI (t, x))
    rw [e1] at hok ⊢
    obtain ⟨k2, n2, h2, e2⟩ := hint hok (opd_ok hI (0, i))
    rw [e2] at hok ⊢
    have h3 := (when_ok hok).1
    simp only [Bool.and_eq_true, decide_eq_true_eq] at h3
    exact OpRes.when (index_ok hI hd hop h1 h2 (isStrT_spec h3.1.1) h3.1.2 h3.2)
  case extract x i =>
    have hx := opd_ok hI (0, x)
    simp only [sem, hop, argsOf, List.map_cons, List.map_nil, on1] at hok ⊢
    generalize opd P st.env (0, x) = vx at hok hx ⊢
    cases vx with
    | tp xs => exact OpRes.when (extract_ok hI hd hop hx (nblt (when_ok hok).1))
    | _ => cases hok
  case call c =>
    have hs : ∀ vs rd, sem P deep o vs rd = semBuiltin P deep o.dst rd c vs := fun vs rd => by simp only [sem, hop]
    rw [hs] at hok ⊢
    obtain ⟨callee, args, tys⟩ := c
    cases callee with
    | builtin b =>
      have he : argsOf P o = tys.toList.zip args.toList := by simp only [argsOf, hop, List.nil_append]
      rw [he] at hok ⊢
      obtain ⟨args⟩ := args
      obtain ⟨tys⟩ := tys
      have hTd' := fun d hod => hTd d hod ⟨_, by rw [← hT]; simp only [touch, hop]; rfl⟩
      cases b <;> try (simp only [semBuiltin] at hok; cases hok; done)
      case len =>
        match tys, args, he, hok, hop with
        | [t], [x], he, hok, hop =>
          exact semLen_ok hI hd hop (opd_ok hI (t, x)) hok
        | [], _, _, hok, _ => simp only [semBuiltin] at hok; cases hok
        | _ :: _ :: _, _, _, hok, _ => simp only [semBuiltin] at hok; cases hok
        | [_], [], _, hok, _ => simp only [semBuiltin] at hok; cases hok
        | [_], _ :: _ :: _, _, hok, _ => simp only [semBuiltin] at hok; cases hok
      case append =>
        match tys, args, he, hok, hop with
        | [t, xt], [x, y], he, hok, hop =>
          have e : ∀ vx vy rd, semBuiltin P deep o.dst rd { callee := .builtin .append, args := ⟨[x, y]⟩, argTypes := ⟨[t, xt]⟩ } [vx, vy] = onDst o.dst fun d => semAppend P deep d rd t xt vx vy := fun _ _ _ => rfl
          simp only [List.zip_cons_cons, List.zip_nil_right, List.map_cons, List.map_nil] at hok ⊢
          rw [e] at hok ⊢
          obtain ⟨d, hod, e⟩ := hdst hok
          rw [e] at hok ⊢
          exact append_ok hI hod (hdd d hod) hop (hTd' d hod) hTh (opd_ok hI (t, x)) (opd_ok hI (xt, y)) hok
        | [], _, _, hok, _ => simp only [semBuiltin] at hok; cases hok
        | [_], _, _, hok, _ => simp only [semBuiltin] at hok; cases hok
        | _ :: _ :: _ :: _, _, _, hok, _ => simp only [semBuiltin] at hok; cases hok
        | [_, _], [], _, hok, _ => simp only [semBuiltin] at hok; cases hok
        | [_, _], [_], _, hok, _ => simp only [semBuiltin] at hok; cases hok
        | [_, _], _ :: _ :: _ :: _, _, hok, _ => simp only [semBuiltin] at hok; cases hok
      case max =>
        match tys, args, he, hok, hop with
        | t1 :: t2 :: ts, [x, y], he, hok, hop =>
          simp only [List.zip_cons_cons, List.zip_nil_right, List.map_cons, List.map_nil, semBuiltin] at hok ⊢
          exact minmax_ok hI hd true hop (opd_ok hI (t1, x)) (opd_ok hI (t2, y)) hok
        | [], _, _, hok, _ => simp [semBuiltin] at hok; cases hok
        | [_], [], _, hok, _ => simp only [semBuiltin] at hok; cases hok
        | [_], [_], _, hok, _ => simp only [semBuiltin] at hok; cases hok
        | [_], [_, _], _, hok, _ => simp [semBuiltin] at hok; cases hok
        | [_], _ :: _ :: _ :: _, _, hok, _ => simp only [semBuiltin] at hok; cases hok
        | _ :: _ :: _, [], _, hok, _ => simp only [semBuiltin] at hok; cases hok
        | _ :: _ :: _, [_], _, hok, _ => simp only [semBuiltin] at hok; cases hok
        | _ :: _ :: _, _ :: _ :: _ :: _, _, hok, _ => simp only [semBuiltin] at hok; cases hok
      case min =>
        match tys, args, he, hok, hop with
        | t1 :: t2 :: ts, [x, y], he, hok, hop =>
          simp only [List.zip_cons_cons, List.zip_nil_right, List.map_cons, List.map_nil, semBuiltin] at hok ⊢
          exact minmax_ok hI hd false hop (opd_ok hI (t1, x)) (opd_ok hI (t2, y)) hok
        | [], _, _, hok, _ => simp [semBuiltin] at hok; cases hok
        | [_], [], _, hok, _ => simp only [semBuiltin] at hok; cases hok
        | [_], [_], _, hok, _ => simp only [semBuiltin] at hok; cases hok
        | [_], [_, _], _, hok, _ => simp [semBuiltin] at hok; cases hok
        | [_], _ :: _ :: _ :: _, _, hok, _ => simp only [semBuiltin] at hok; cases hok
        | _ :: _ :: _, [], _, hok, _ => simp only [semBuiltin] at hok; cases hok
        | _ :: _ :: _, [_], _, hok, _ => simp only [semBuiltin] at hok; cases hok
        | _ :: _ :: _, _ :: _ :: _ :: _, _, hok, _ => simp only [semBuiltin] at hok; cases hok
    | value f => simp only [semBuiltin] at hok; cases hok
    | invoke r n => simp only [semBuiltin] at hok; cases hok
end
end Go.Ab
