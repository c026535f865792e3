/- Two operations that are apart may change places. -/
import Derived.Test.YtnjgofgogeileaaE29
import Derived.Orders
namespace Go.Ab
open Go
set_option linter.unusedSimpArgs false
set_option linter.unusedVariables false

theorem hits_false {k : Kl} {q : Pl} (h : q.r ∉ k.names) : k.hits q = false := by
  simp only [Kl.names, List.mem_append, not_or] at h
  simp only [Kl.hits, (Nm.mem_false _ _).2 h.2, (Nm.mem_false _ _).2 h.1.2, (Nm.mem_false _ _).2 h.1.1, Bool.and_false, Bool.or_false]
theorem mem_a_false {k : Kl} {r : Nm} (h : r ∉ k.names) : r.mem k.a = false := by
  simp only [Kl.names, List.mem_append, not_or] at h
  exact (Nm.mem_false _ _).2 h.2

mutual
theorem kill_id (k : Kl) : ∀ (x : V), (∀ n ∈ x.names, n ∉ k.names) → x.kill k = x
  | .sc _, _ => rfl
  | .nl _, _ => rfl
  | .sl _ _, _ => rfl
  | .own _ _ _, _ => rfl
  | .ag xs, h => by simp only [V.kill]; rw [killL_id k xs h]
  | .tp xs, h => by simp only [V.kill]; rw [killL_id k xs h]
  | .fn f a b, h => by
    simp only [V.names, List.mem_append] at h
    simp only [V.kill]; rw [killL_id k a (fun n hn => h n (.inl hn)), killL_id k b (fun n hn => h n (.inr hn))]
  | .ifc t v, h => by simp only [V.kill]; rw [kill_id k v h]
  | .ref q, h => by simp only [V.kill, hits_false (h q.r (by simp [V.names])), cond_false]
  | .vw q lo hi, h => by simp only [V.kill, hits_false (h q.r (by simp [V.names])), cond_false]
  | .ptrB r j, h => by simp only [V.kill, mem_a_false (h r (by simp [V.names])), cond_false]
  | .ptrE q i o, h => by simp only [V.kill, hits_false (h q.r (by simp [V.names])), cond_false]
  | .pim _ _ _, _ => rfl
  | .slf, _ => rfl
  | .bad, _ => rfl
theorem killL_id (k : Kl) : ∀ (xs : List V), (∀ n ∈ namesL xs, n ∉ k.names) → killL k xs = xs
  | [], _ => rfl
  | x :: xs, h => by
    simp only [namesL, List.mem_append] at h
    simp only [killL]; rw [kill_id k x (fun n hn => h n (.inl hn)), killL_id k xs (fun n hn => h n (.inr hn))]
end

mutual
theorem kill_alive (k : Kl) : ∀ (x : V), (x.kill k).dead = false → x.kill k = x
  | .sc _, _ => rfl
  | .nl _, _ => rfl
  | .sl _ _, _ => rfl
  | .own _ _ _, _ => rfl
  | .ag xs, h => by simp only [V.kill, V.dead] at h ⊢; rw [killL_alive k xs h]
  | .tp xs, h => by simp only [V.kill, V.dead] at h ⊢; rw [killL_alive k xs h]
  | .fn f a b, h => by
    simp only [V.kill, V.dead, Bool.or_eq_false_iff] at h ⊢
    rw [killL_alive k a h.1, killL_alive k b h.2]
  | .ifc t v, h => by simp only [V.kill, V.dead] at h ⊢; rw [kill_alive k v h]
  | .ref q, h => by
    simp only [V.kill] at h ⊢
    cases hh : k.hits q with
    | true => rw [hh] at h; cases h
    | false => rfl
  | .vw q lo hi, h => by
    simp only [V.kill] at h ⊢
    cases hh : k.hits q with
    | true => rw [hh] at h; cases h
    | false => rfl
  | .ptrB r j, h => by
    simp only [V.kill] at h ⊢
    cases hh : r.mem k.a with
    | true => rw [hh] at h; cases h
    | false => rfl
  | .ptrE q i o, h => by
    simp only [V.kill] at h ⊢
    cases hh : k.hits q with
    | true => rw [hh] at h; cases h
    | false => rfl
  | .pim _ _ _, _ => rfl
  | .slf, _ => rfl
  | .bad, _ => rfl
theorem killL_alive (k : Kl) : ∀ (xs : List V), deadL (killL k xs) = false → killL k xs = xs
  | [], _ => rfl
  | x :: xs, h => by
    simp only [killL, deadL, Bool.or_eq_false_iff] at h ⊢
    rw [kill_alive k x h.1, killL_alive k xs h.2]
end

mutual
theorem kill_comm (k l : Kl) : ∀ (x : V), (x.kill k).kill l = (x.kill l).kill k
  | .sc _ => rfl
  | .nl _ => rfl
  | .sl _ _ => rfl
  | .own _ _ _ => rfl
  | .ag xs => by simp only [V.kill]; rw [killL_comm k l xs]
  | .tp xs => by simp only [V.kill]; rw [killL_comm k l xs]
  | .fn f a b => by simp only [V.kill]; rw [killL_comm k l a, killL_comm k l b]
  | .ifc t v => by simp only [V.kill]; rw [kill_comm k l v]
  | .ref q => by
    simp only [V.kill]
    cases h1 : k.hits q <;> cases h2 : l.hits q <;> simp [V.kill, h1, h2]
  | .vw q lo hi => by
    simp only [V.kill]
    cases h1 : k.hits q <;> cases h2 : l.hits q <;> simp [V.kill, h1, h2]
  | .ptrB r j => by
    simp only [V.kill]
    cases h1 : r.mem k.a <;> cases h2 : r.mem l.a <;> simp [V.kill, h1, h2]
  | .ptrE q i o => by
    simp only [V.kill]
    cases h1 : k.hits q <;> cases h2 : l.hits q <;> simp [V.kill, h1, h2]
  | .pim _ _ _ => rfl
  | .slf => rfl
  | .bad => rfl
theorem killL_comm (k l : Kl) : ∀ (xs : List V), killL l (killL k xs) = killL k (killL l xs)
  | [] => rfl
  | x :: xs => by simp only [killL]; rw [kill_comm k l x, killL_comm k l xs]
end

theorem kill_no (x : V) : x.kill .no = x := kill_id .no x (fun n _ h => no_names h)
theorem kill_bif (k : Kl) (x : V) : (bif k.isNo then x else x.kill k) = x.kill k := by
  cases h : k.isNo with
  | false => rfl
  | true => rw [Kl.isNo_eq h, kill_no]; rfl

section
variable {C : Cfg} {callK : CallK} {fid : FuncId} {st : St}

/-- What an operation does, told by its operands and the regions that it looks at. 'true': own slices are given up. -/
def effS (C : Cfg) (callK : CallK) (fid : FuncId) (o : Oper) (vs : List V) (rd : Nm → Option Rg) : Option (Eff × Bool) :=
  match o.op, vs with
  | .call ⟨.value _, xs, _⟩, (.fn g first caps) :: ws =>
    let p := prep C g rd (first ++ ws ++ caps)
    let fr := !((C.sig g).scalar && p.bn.isEmpty) && !p.bv.isEmpty
    bif p.ok && Nat.beq ws.length xs.size then
      match allSome (p.bn.map rd) with
      | some gs =>
        let r := callK g p.vs gs
        let e := semRet o.dst rd p.bn gs (C.sig g) r.2.1 r.2.2
        bif r.1 && (fr || e.ok) then some (e, fr) else none
      | none => none
    else none
  | _, _ =>
    let e := sem C.P (C.deep fid) o vs rd
    bif e.ok then some (e, false) else none

/-- The operands' values. -/
def valsOf (C : Cfg) (o : Oper) (st : St) : List V := (argsOf C.P o).map (opd C.P st.env)
def footE (o : Oper) (vs : List V) (e : Eff) : Foot := ⟨touch o vs, e.w, e.k.names, namesL vs ++ e.val.names, false⟩

theorem opS_eff {o : Oper} {st' : St} {f : Foot} : (opS C callK fid o st = some (st', f) ∧ f.bad = false) ↔
    ∃ e, effS C callK fid o (valsOf C o st) (only (touch o (valsOf C o st)) st.regs) = some (e, false) ∧ st' = st.app e o.dst ∧ f = footE o (valsOf C o st) e ∧ deadL (valsOf C o st) = false := by
  unfold opS opK effS valsOf footE
  simp only
  generalize (argsOf C.P o).map (opd C.P st.env) = vs
  split
  · next op vs' fo xs ts g first caps ws h1 =>
    simp only [h1]
    generalize touch o _ = T
    generalize prep C g _ _ = p
    generalize (!((C.sig g).scalar && p.bn.isEmpty) && !p.bv.isEmpty) = fr
    cases (p.ok && Nat.beq ws.length xs.size) with
    | false => simp
    | true =>
      simp only [cond_true]
      split
      · next gs hgs =>
        simp only [hgs]
        generalize callK g p.vs gs = r
        obtain ⟨r1, r2⟩ := r
        cases r1 with
        | false => simp
        | true =>
          simp only [Bool.true_and]
          cases fr with
          | true =>
            simp only [cond_true, Bool.true_or]
            constructor
            · rintro ⟨h, hb⟩
              cases he : (semRet o.dst (only T (st.fz C.P p.bv).regs) p.bn gs (C.sig g) r2.1 r2.2).ok with
              | false => rw [he] at h; cases h
              | true =>
                rw [he] at h
                simp only [cond_true, Option.some.injEq, Prod.mk.injEq] at h
                obtain ⟨_, rfl⟩ := h
                cases hb
            · rintro ⟨e, h, _⟩
              simp at h
          | false =>
            simp only [cond_false, Bool.false_or]
            cases (semRet o.dst (only T st.regs) p.bn gs (C.sig g) r2.1 r2.2).ok with
            | false => simp
            | true =>
              simp only [cond_true, Option.some.injEq, Prod.mk.injEq, and_true]
              constructor
              · rintro ⟨⟨rfl, rfl⟩, hb⟩
                simp only at hb
                exact ⟨_, rfl, rfl, by rw [hb], hb⟩
              · rintro ⟨e, rfl, rfl, rfl, hb⟩
                exact ⟨⟨rfl, by rw [hb]⟩, rfl⟩
      · next hnone => simp [hnone]
  · rename_i vs x1 x2 hno
    simp only [footOf]
    cases (sem C.P (C.deep fid) o vs (only (touch o vs) st.regs)).ok with
    | false => simp
    | true =>
      simp only [cond_true, Option.some.injEq, Prod.mk.injEq, and_true]
      constructor
      · rintro ⟨⟨rfl, rfl⟩, hb⟩
        simp only at hb
        exact ⟨_, rfl, rfl, by rw [hb], hb⟩
      · rintro ⟨e, rfl, rfl, rfl, hb⟩
        exact ⟨⟨rfl, by rw [hb]⟩, rfl⟩

theorem app_env (st : St) (e : Eff) (d : Option Nat) (i : Nat) : (st.app e d).env i = bif isDst d i then e.val else (st.env i).kill e.k := by
  simp only [St.app, kill_bif]

/-- Effects that are apart may change places. -/
theorem app_comm {x y : Eff} {dx dy : Option Nat} (hd : ∀ d, dx = some d → dy ≠ some d) (hw : ∀ n, n ∈ x.w → n ∉ y.w) (hx : ∀ n ∈ x.val.names, n ∉ y.k.names) (hy : ∀ n ∈ y.val.names, n ∉ x.k.names) :
    (st.app x dx).app y dy = (st.app y dy).app x dx := by
  have h1 : ((st.app x dx).app y dy).env = ((st.app y dy).app x dx).env := by
    funext i
    rw [app_env, app_env, app_env, app_env]
    cases h1 : isDst dx i with
    | true =>
      have h2 : isDst dy i = false := by
        cases dx with
        | none => cases h1
        | some d =>
          have := (isDst_some d i).1 h1
          subst this
          cases dy with
          | none => rfl
          | some d' =>
            cases hh : isDst (some d') i with
            | false => rfl
            | true => exact absurd (by rw [(isDst_some d' i).1 hh]) (hd i rfl)
      simp only [h2, cond_true, cond_false, kill_id _ _ hx]
    | false =>
      cases h2 : isDst dy i with
      | true => simp only [cond_true, cond_false, kill_id _ _ hy]
      | false => simp only [cond_false]; exact kill_comm _ _ _
  have h2 : ((st.app x dx).app y dy).regs = ((st.app y dy).app x dx).regs := by
    funext n
    simp only [St.app]
    by_cases hx' : n ∈ x.w
    · have hy' := hw n hx'
      simp only [(Nm.mem_iff _ _).2 hx', (Nm.mem_false _ _).2 hy', cond_true, cond_false]
    · simp only [(Nm.mem_false _ _).2 hx', cond_false]
  generalize (st.app x dx).app y dy = s1 at *
  generalize (st.app y dy).app x dx = s2 at *
  obtain ⟨e1, r1⟩ := s1
  obtain ⟨e2, r2⟩ := s2
  simp only at h1 h2
  rw [h1, h2]
end
end Go.Ab
