/- Operations on numbers, texts, parts of values, and places. -/
import Derived.Test.YtnjgofgogeileaaE11
namespace Go.Ab
open Go
set_option linter.unusedSimpArgs false
set_option linter.unusedVariables false

section
variable {P : Program} {w0 w : World} {F : FG} {N : Nat} {st : St} {a : Act} {G : Nat → Prop} {gm : GM}

theorem Rv.sc_eq {v u : Value} (h : Rv w G gm v (.sc u)) : v = u ∧ flat u = true := h

theorem eqGuard_plain {op : BinOp} {t : TypeId} {x y : Operand} {u v : Value} (hu : flat u = true) (h : ¬ (u = .nilIface ∧ v = .nilIface)) : (eqGuard op t x y u v).run P w = .ok () w := by
  unfold eqGuard
  cases op <;> simp <;> (cases u <;> cases v <;> simp_all [flat])

theorem max_i64 : IntKind.i64.max = 9223372036854775807 := by decide

theorem run_equalIn_bool (d : Nat) {t : TypeId} (ht : P.underlying t = some .bool) (x y : Bool) : (Op.equalIn (d + 1) t (.bool x) (.bool y)).run P w = .ok (x == y) w := by
  simp only [Op.equalIn, Sem.run_bind, run_underlying ht, Result.andThen_ok]
  rfl
theorem run_equal_bool {t : TypeId} (ht : P.underlying t = some .bool) (x y : Bool) : (Op.equal t (.bool x) (.bool y)).run P w = .ok (x == y) w :=
  run_equalIn_bool 9999 ht x y

theorem binE_ok {op : BinOp} {t : TypeId} {u v r : Value} (h : binE op u v = (true, r)) (hb : (∃ x y, u = .bool x ∧ v = .bool y) → P.underlying t = some .bool) :
    (binOp op t u v).run P w = .ok r w ∧ flat r = true ∧ ¬ (u = .nilIface ∧ v = .nilIface) := by
  cases u <;> cases v <;> simp only [binE, Prod.mk.injEq] at h <;> try (cases h.1; done)
  case bool.bool x y =>
    have ht := hb ⟨x, y, rfl, rfl⟩
    cases op <;> simp only [Prod.mk.injEq] at h <;> try (cases h.1; done)
    all_goals
      obtain ⟨_, rfl⟩ := h
      refine ⟨?_, rfl, by simp⟩
      simp only [binOp, Sem.run_bind, run_equal_bool ht, Result.andThen_ok]
      rfl
  case int.int k x k' y =>
    cases op <;> simp only [Prod.mk.injEq, decide_eq_true_eq, Bool.and_eq_true, bne_iff_ne] at h <;> obtain ⟨h1, rfl⟩ := h
    case shl => exact ⟨by simp [binOp, Op.shift, show ¬ y < 0 by omega], rfl, by simp⟩
    case shr => exact ⟨by simp [binOp, Op.shift, show ¬ y < 0 by omega], rfl, by simp⟩
    case quo => obtain ⟨rfl, h2⟩ := h1; exact ⟨by simp [binOp, Op.intDiv, h2], rfl, by simp⟩
    case rem => obtain ⟨rfl, h2⟩ := h1; exact ⟨by simp [binOp, Op.intDiv, h2], rfl, by simp⟩
    all_goals
      subst h1
      refine ⟨?_, rfl, by simp⟩
      simp [binOp, Op.intArith, Op.intBits, Op.intCmp, cmpI, bitsI]
  case string.string x y =>
    cases op <;> simp only [Prod.mk.injEq, decide_eq_true_eq, isCmp] at h <;> try (cases h.1; done)
    case add =>
      obtain ⟨h1, rfl⟩ := h
      refine ⟨?_, rfl, by simp⟩
      have : ¬ (((x.size + y.size : Nat) : Int) > IntKind.i64.max) := by rw [max_i64]; omega
      simp only [binOp, Op.stringOp]
      rw [if_neg this]; rfl
    all_goals
      obtain ⟨_, rfl⟩ := h
      refine ⟨?_, rfl, by simp⟩
      simp [binOp, Op.stringOp, cmpS, strEq, strLt]

theorem semBin_ok (hI : Inv P w0 F N st a w G gm) {o : Oper} (hd : ∀ x, o.dst = some x → x < N) {op : BinOp} {t yt : TypeId} {x y : Operand} (ho : o.op = .binOp op t x y yt)
    {vx vy : V} (hx : Rv w G gm (a.eval x) vx) (hy : Rv w G gm (a.eval y) vy) (hok : (semBin P op t vx vy).ok = true) : OpRes P w0 F N st a w G o (semBin P op t vx vy) := by
  cases vx <;> cases vy <;> try (cases hok; done)
  rename_i u v
  have hx := hx.sc_eq
  have hy := hy.sc_eq
  have fin : ∀ r, binE op u v = (true, r) → ((∃ x y, u = .bool x ∧ v = .bool y) → P.underlying t = some .bool) →
      OpRes P w0 F N st a w G o (Eff.put (.sc r)) := by
    intro r hr hb
    obtain ⟨h1, h2, h3⟩ := binE_ok (P := P) (w := w) (t := t) hr hb
    refine OpRes.quiet hI hd r ?_ rfl rfl ⟨rfl, h2⟩
    simp only [execOp, ho, hx.1, hy.1, Sem.run_bind, eqGuard_plain hx.2 h3, Result.andThen_ok, h1]
    rfl
  by_cases hb : ∃ x y, u = .bool x ∧ v = .bool y
  · obtain ⟨p, q, rfl, rfl⟩ := hb
    simp only [semBin] at hok ⊢
    cases hu : P.underlying t with
    | none => rw [hu] at hok; cases hok
    | some d =>
      cases d with
      | bool =>
        rw [hu] at hok
        simp only at hok ⊢
        obtain ⟨h1, _⟩ := when_ok hok
        exact (fin _ (by rw [← h1]) (fun _ => hu)).when
      | _ => rw [hu] at hok; cases hok
  · have e : semBin P op t (.sc u) (.sc v) = Eff.when (binE op u v).1 (Eff.put (.sc (binE op u v).2)) := by
      clear hx hy fin hok
      cases u <;> cases v <;> first | rfl | exact absurd ⟨_, _, rfl, rfl⟩ hb
    rw [e] at hok ⊢
    obtain ⟨h1, _⟩ := when_ok hok
    exact (fin _ (by rw [← h1]) (fun h => absurd h hb)).when

theorem semUn_ok (hI : Inv P w0 F N st a w G gm) {o : Oper} (hd : ∀ x, o.dst = some x → x < N) {op : UnOp} {t : TypeId} {x : Operand} (ho : o.op = .unOp op t x)
    {vx : V} (hx : Rv w G gm (a.eval x) vx) (hok : (semUn op vx).ok = true) : OpRes P w0 F N st a w G o (semUn op vx) := by
  cases vx <;> try (cases hok; done)
  rename_i u
  have hx := hx.sc_eq
  have hu : (∃ k n, u = .int k n) ∨ (∃ b, u = .bool b) := by
    cases u <;> first | exact .inl ⟨_, _, rfl⟩ | exact .inr ⟨_, rfl⟩ | cases hok
  rcases hu with ⟨k, n, rfl⟩ | ⟨b, rfl⟩
  · cases op <;> try (cases hok; done)
    · refine OpRes.quiet hI hd (.int k (k.wrap (0 - n))) ?_ rfl rfl ⟨rfl, rfl⟩
      simp [execOp, ho, hx.1, Op.unary, Op.intArith]
    · refine OpRes.quiet hI hd (.int k (bitsI .xor k (if k.signed then -1 else k.max) n)) ?_ rfl rfl ⟨rfl, rfl⟩
      simp [execOp, ho, hx.1, Op.unary, Op.intBits, bitsI]
  · cases op <;> try (cases hok; done)
    refine OpRes.quiet hI hd (.bool !b) ?_ rfl rfl ⟨rfl, rfl⟩
    simp [execOp, ho, hx.1, Op.unary]

theorem fold_max2 (x y : Value) : (Builtin.max_ #[] 0 #[x, y]).run P w = (Builtin.max2 x y).run P w := by
  simp [Builtin.max_]

theorem semField_ok (hI : Inv P w0 F N st a w G gm) {o : Oper} (hd : ∀ x, o.dst = some x → x < N) {t : TypeId} {f : Nat} {x : Operand} (ho : o.op = .fieldAddr t x f)
    {vx : V} (hx : Rv w G gm (a.eval x) vx) (hok : (semFieldAddr P t f vx).ok = true) : OpRes P w0 F N st a w G o (semFieldAddr P t f vx) := by
  unfold semFieldAddr at hok ⊢
  cases hf : fieldT P t f with
  | none => rw [hf] at hok; cases hok
  | some fd =>
    rw [hf] at hok
    simp only at hok ⊢
    obtain ⟨h1, h2⟩ := when_ok hok
    have hfs : ∃ fs, P.underlying t = some (.struct fs) ∧ fs[f]? = some fd := by
      unfold fieldT at hf
      split at hf
      · rename_i fs hu; exact ⟨fs, hu, hf⟩
      · cases hf
    obtain ⟨fs, hu, hff⟩ := hfs
    have hsz : szT P fd.type ≠ 0 := by
      intro e
      rw [e] at h1; simp at h1
    have hinfo : ∃ i, P.info? fd.type = some i ∧ szT P fd.type = i.size := by
      unfold szT at hsz ⊢
      cases hi : P.info? fd.type with
      | none => rw [hi] at hsz; exact absurd rfl hsz
      | some i => exact ⟨i, rfl, rfl⟩
    obtain ⟨i, hi, hi2⟩ := hinfo
    have run : ∀ b j, a.eval x = .pointer (some ⟨b, j, none⟩) → (execOp a.eval o).run P w = .ok (.value (.pointer (some ⟨b, j + fd.offset, none⟩))) w := by
      intro b j he
      rw [hi2] at hsz
      simp [execOp, ho, he, Instr.fieldAt, run_underlying hu, hff, Instr.sureAddr, fieldPlace, run_sizeOf' hi, hsz, add_addr]
    refine OpRes.when ?_
    cases vx <;> try (cases h2; done)
    case ptrB r j =>
      obtain ⟨R, b, g1, g2, g3⟩ := hx
      exact OpRes.quiet hI hd _ (run b j g3) rfl rfl ⟨R, b, g1, g2, rfl⟩
    case ptrE q k off =>
      simp only [Rv, namePtrE] at hx
      cases hs : skAt gm q with
      | leaf => rw [hs] at hx; exact hx.elim
      | nil => rw [hs] at hx; exact hx.elim
      | node g n cap sz cs =>
        rw [hs] at hx
        refine OpRes.quiet hI hd _ (run _ _ hx.2) rfl rfl ?_
        simp only [Eff.put, Rv, namePtrE, hs]
        exact ⟨hx.1, by rw [Nat.add_assoc]⟩
    case pim n xs off =>
      obtain ⟨b, oo, cs, g1, g2, g3, g4, g5⟩ := hx
      exact OpRes.quiet hI hd _ (run b (oo + off) g1) rfl rfl ⟨b, oo, cs, by rw [Nat.add_assoc], g2, g3, g4, g5⟩

theorem lenE_mul {n sz : Nat} (h : 0 < sz) : lenE sz (n * sz) = n := by
  unfold lenE
  cases hb : Nat.beq sz 1 with
  | true => have := nbeq hb; subst this; simp
  | false => simp only [cond_false]; exact Nat.mul_div_cancel _ h

theorem lenE_zero (sz : Nat) : lenE sz 0 = 0 := by unfold lenE; cases Nat.beq sz 1 <;> simp

theorem run_indexAt {t e : TypeId} {i : TypeInfo} (hu : P.underlying t = some (.slice e)) (hi : P.info? e = some i) {b oo len cap : Nat} {k : IntKind} {n : Int} (h0 : 0 ≤ n) (h1 : n < (len : Int)) :
    (Instr.indexAt t (.slice (some ⟨b, oo, none⟩) len cap) (.int k n)).run P w = .ok (.pointer (some ⟨b, oo + n.toNat * i.size, none⟩)) w := by
  simp [Instr.indexAt, asIntOf, run_underlying hu, run_sizeOf' hi, h0, h1, add_addr]

theorem semIndexAddr_ok (hI : Inv P w0 F N st a w G gm) {o : Oper} (hd : ∀ x, o.dst = some x → x < N) {t : TypeId} {x y : Operand} (ho : o.op = .indexAddr t x y) {T : List Nm}
    {vx : V} {k : IntKind} {n : Int} (hx : Rv w G gm (a.eval x) vx) (hy : a.eval y = .int k n) (hok : (semIndexAddr P (only T st.regs) t vx n).ok = true) :
    OpRes P w0 F N st a w G o (semIndexAddr P (only T st.regs) t vx n) := by
  unfold semIndexAddr at hok ⊢
  cases he : elT P t with
  | none => rw [he] at hok; cases hok
  | some e =>
    have hu := elT_spec he
    rw [he] at hok
    simp only at hok ⊢
    have run : ∀ b oo len cap i, P.info? e = some i → a.eval x = .slice (some ⟨b, oo, none⟩) len cap → 0 ≤ n → n < (len : Int) →
        (execOp a.eval o).run P w = .ok (.value (.pointer (some ⟨b, oo + n.toNat * i.size, none⟩))) w := by
      intro b oo len cap i hi hxx h0 h1
      simp only [execOp, ho, hxx, hy, Sem.run_bind, run_indexAt hu hi h0 h1, Result.andThen_ok]
      rfl
    have hinfo : ∀ sz, szT P e = sz → 0 < sz → ∃ i, P.info? e = some i ∧ i.size = sz := by
      intro sz hs h0
      unfold szT at hs
      cases hi : P.info? e with
      | none => simp only [hi] at hs; omega
      | some i => simp only [hi] at hs; exact ⟨i, rfl, hs⟩
    cases vx <;> try (cases hok; done)
    case sl sz' xs =>
      obtain ⟨h1, _⟩ := when_ok hok
      simp only [Bool.and_eq_true, decide_eq_true_eq] at h1
      obtain ⟨⟨g1, g2⟩, g3⟩ := h1
      have g1 := nbeq g1
      subst g1
      rcases hx with ⟨_, rfl⟩ | ⟨ad, len, cap, cs, k1, k2, k3, k4, k5, k6, k7, k8, _⟩
      · rw [List.length_nil, lenE_zero] at g3; omega
      · rw [k4, lenE_mul k5] at g3
        obtain ⟨i, hi, hi2⟩ := hinfo _ rfl k5
        obtain ⟨bk, oo, sp⟩ := ad
        have hne : xs ≠ [] := by
          rintro rfl
          have : len * szT P e = 0 := by simpa using k4.symm
          rcases Nat.mul_eq_zero.1 this with h | h <;> omega
        have k2 := k2 hne
        simp only at k2
        subst k2
        have hlen := k8.length
        have hb : n.toNat * szT P e + szT P e ≤ len * szT P e := by
          have : (n.toNat + 1) * szT P e ≤ len * szT P e := Nat.mul_le_mul_right _ (by omega)
          rwa [Nat.add_mul, Nat.one_mul] at this
        refine OpRes.when (OpRes.quiet hI hd _ (run bk oo len cap i hi k1 g2 g3) rfl rfl ?_)
        rw [hi2]
        refine ⟨bk, oo + n.toNat * szT P e, (cs.drop (n.toNat * szT P e)).take (szT P e), by simp, by simp, ?_, ?_, ?_⟩
        · intro j v hv
          by_cases hj : j < szT P e
          · rw [List.get_drop_take _ _ _ _ hj] at hv
            have := k6 _ _ hv
            simpa [Nat.add_assoc] using this
          · rw [List.getElem?_take, if_neg hj] at hv; cases hv
        · intro _
          refine k7 (fun hxs => ?_)
          subst hxs
          simp at k4
          omega
        · refine RvL.of_get _ _ (by simp only [List.length_take, List.length_drop, List.length_map, List.length_range]; omega) ?_
          intro j v x' hv hx'
          have hj : j < szT P e := by
            have := (List.getElem?_eq_some_iff.1 hx').1
            simpa using this
          rw [List.get_drop_take _ _ _ _ hj] at hv
          simp only [List.getElem?_map, List.getElem?_range hj, Option.map_some, Option.some.injEq] at hx'
          subst hx'
          obtain ⟨v', q1, q2⟩ := k8.get (n.toNat * szT P e + j) (by rw [k4]; omega)
          rw [q1] at hv
          obtain rfl := Option.some.inj hv
          exact q2
    case ref q =>
      simp only at hok ⊢
      obtain ⟨h1, _⟩ := when_ok hok
      simp only [Bool.and_eq_true, decide_eq_true_eq] at h1
      obtain ⟨⟨⟨g0, g1⟩, g2⟩, g3⟩ := h1
      obtain ⟨e', d, xs, hqe, hqd, hqx, hq⟩ := ownB_some g0
      focus
        rw [hqe] at g1
        simp only [hqx] at g3
        have g1 := nbeq g1
        subst g1
        obtain ⟨u, hu'⟩ := own_at hI.regs hq
        simp only [Rv, nameRef] at hx
        cases hs : skAt gm q with
        | leaf => rw [hs] at hx; exact hx.elim
        | nil =>
          rw [hs] at hu'
          obtain ⟨_, rfl⟩ := hu'
          rw [List.length_nil, lenE_zero] at g3; omega
        | node g n' cap sz cs =>
          rw [hs] at hx hu'
          obtain ⟨p1, p2, p3⟩ := szT_pos_of hu'
          obtain ⟨i, hi, hi2⟩ := hinfo _ rfl p1
          rw [p3, ← p2, lenE_mul p1] at g3
          refine OpRes.when (OpRes.quiet hI hd _ (run g 0 n' cap i hi hx g2 g3) rfl rfl ?_)
          simp only [Eff.put, Rv, namePtrE, hs]
          exact ⟨by omega, by rw [hi2, p2]; simp⟩
    case vw q lo hi =>
      simp only at hok ⊢
      obtain ⟨h1, _⟩ := when_ok hok
      simp only [Bool.and_eq_true, decide_eq_true_eq] at h1
      obtain ⟨⟨⟨g0, g1⟩, g2⟩, g3⟩ := h1
      obtain ⟨e', d, xs, hqe, hqd, hqx, hq⟩ := ownB_some g0
      focus
        rw [hqe] at g1
        have g1 := nbeq g1
        subst g1
        obtain ⟨u, hu'⟩ := own_at hI.regs hq
        simp only [Rv, nameVw] at hx
        cases hs : skAt gm q with
        | leaf => rw [hs] at hx; exact hx.elim
        | nil =>
          rw [hs] at hx
          obtain ⟨rfl, rfl, _⟩ := hx
          simp at g3; omega
        | node g n' cap sz cs =>
          rw [hs] at hx hu'
          obtain ⟨p1, p2, p3⟩ := szT_pos_of hu'
          obtain ⟨i, hi', hi2⟩ := hinfo _ rfl p1
          obtain ⟨x1, x2, oo, x3, x4⟩ := hx
          have hcl : ¬ cap = lo := by
            obtain ⟨_, _, _, _, _, _, _, _, h7, _⟩ := hu'
            omega
          rw [x4 (.inl hcl)] at x3
          refine OpRes.when (OpRes.quiet hI hd _ (run g (lo * sz) (hi - lo) (cap - lo) i hi' x3 g2 g3) rfl rfl ?_)
          simp only [Eff.put, Rv, namePtrE, hs]
          exact ⟨by omega, by rw [hi2, p2, Nat.add_mul]; simp⟩
end
end Go.Ab
