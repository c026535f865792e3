/- Some slots and regions are kept; code. -/
import Derived.Test.YtnjgofgogeileaaE33
namespace Go.Ab
open Go
set_option linter.unusedSimpArgs false
set_option linter.unusedVariables false

section
variable {C : Cfg} {callK : CallK} {fid : FuncId} {w0 w : World} {F : FG} {N : Nat} {st : St} {a : Act} {G : Nat → Prop} {gm : GM}

theorem lookN_spec : ∀ (l : List (Nat × V)) (i : Nat), St.keepOnly.lookN i l = none ∨ ∃ v, (i, v) ∈ l ∧ St.keepOnly.lookN i l = some v
  | [], _ => .inl rfl
  | (j, v) :: l, i => by
    simp only [St.keepOnly.lookN]
    cases h : Nat.beq i j with
    | true => have := nbeq h; subst this; exact .inr ⟨v, by simp, rfl⟩
    | false =>
      rcases lookN_spec l i with h' | ⟨v', h1, h2⟩
      · exact .inl h'
      · exact .inr ⟨v', by simp [h1], h2⟩

theorem lookR_mem (f : Nm → Option Rg) : ∀ (R : List Nm) (n : Nm), (St.keepOnly.lookR n (R.zip (R.map f))).getD none = bif n.mem R then f n else none
  | [], _ => rfl
  | m :: R, n => by
    simp only [List.map_cons, List.zip_cons_cons, St.keepOnly.lookR, Nm.mem]
    cases h : Nm.eq n m with
    | true =>
      have : n = m := (Nm.eq_iff n m).1 h
      subst this
      rfl
    | false => simpa using lookR_mem f R n

theorem Inv.keep {P : Program} (hI : Inv P w0 F N st a w G gm) (L : List Nat) (R : List Nm) : ∃ gm', Inv P w0 F N (st.keepOnly L R) a w G gm' := by
  let gm' : GM := fun n => bif n.mem R then gm n else none
  have hin : ∀ n, n.mem R = true → gm' n = gm n := fun n h => by simp only [gm', h, cond_true]
  have hout : ∀ n, n.mem R = false → gm' n = none := fun n h => by simp only [gm', h, cond_false]
  have hreg : ∀ n, (st.keepOnly L R).regs n = bif n.mem R then st.regs n else none := fun n => lookR_mem st.regs R n
  refine ⟨gm', ⟨?_, fun i => ?_, hI.size, hI.defers, ?_⟩⟩
  · refine hI.regs.change (fun n => n.mem R = false) (fun _ _ _ => rfl) rfl rfl rfl (Nat.le_refl _) ?_ ?_ ?_ ?_ ?_ (fun _ h => h) (fun _ h => .inl h) (fun i R' h hr => by rw [hout _ h] at hr; cases hr)
    · intro n hn
      have hn' : n.mem R = true := by simpa using hn
      exact ⟨by rw [hreg, hn']; rfl, hin n hn'⟩
    · intro n hn
      rw [hreg, hn, hout n hn]
      trivial
    · intro n R' hn h; rw [hout n hn] at h; cases h
    · intro n n' R1 R2 hn _ _ h; rw [hout n hn] at h; cases h
    · intro n R' b hn h; rw [hout n hn] at h; cases h
  · simp only [St.keepOnly]
    rcases lookN_spec (L.zip (L.map fun j => bif (st.env j).names.all (fun n => n.mem R) then st.env j else .bad)) i with h | ⟨v, h1, h2⟩
    · rw [h]; exact trivial
    · rw [h2]
      simp only [Option.getD_some]
      have hv : v = bif (st.env i).names.all (fun n => n.mem R) then st.env i else .bad := by
        obtain ⟨k, hk⟩ := List.mem_iff_getElem?.1 h1
        rw [List.getElem?_zip_eq_some] at hk
        obtain ⟨hk1, hk2⟩ := hk
        rw [List.getElem?_map, hk1] at hk2
        exact (Option.some.inj hk2).symm
      rw [hv]
      cases hn : (st.env i).names.all (fun n => n.mem R) with
      | false => exact trivial
      | true =>
        simp only [cond_true]
        exact Rv.frame (fun _ _ => rfl) (fun _ h => h) gm gm' _ _ (fun n hn' => hin n (List.all_eq_true.1 hn n hn')) (hI.env i)
  · rw [hreg, hI.hand]
    cases Nm.hand.mem R <;> rfl

theorem forget_ok (hI : Inv C.P w0 F N st a w G gm) (p : List Nat) : ∃ gm', Inv C.P w0 F N (forget C fid p st) a w G gm' := by
  unfold forget
  split
  · next L R _ => exact hI.keep L R
  · exact ⟨gm, hI⟩

/-! ### code -/
def toExit : Ex → Exit
  | .nm => .normal
  | .ex i => .exit i
  | .rt => .ret

theorem codeOk_ops {ops : Array Oper} {id : Nat} {d : Bool} (h : codeOk N (.region id ops d) = true) : ∀ o ∈ ops, ∀ x, o.dst = some x → x < N := by
  intro o ho x hx
  have := List.all_eq_true.1 h o (Array.mem_toList_iff.2 ho)
  rw [hx] at this
  exact nblt this

/-- A piece of code comes to what the machine says. -/
def CodeSound (C : Cfg) (fid : FuncId) (R : Type) (X : Code → List Nat → St → (Ex → St → Option R) → Option R) (c : Code) : Prop :=
  ∀ (p : List Nat) (st : St) (κ : Ex → St → Option R) (r : R), X c p st κ = some r → ∀ (w0 : World) (F : FG) (N : Nat), codeOk N c = true → ∀ (a : Act) (w : World) (G : Nat → Prop) (gm : GM), Inv C.P w0 F N st a w G gm →
    ∀ Q : Exit → Act → World → Prop, (∀ e st' a' w' G' gm', κ e st' = some r → (∀ b, G b → G' b) → Inv C.P w0 F N st' a' w' G' gm' → Q (toExit e) a' w') → c.wp C.P Q a w

variable {R : Type}
theorem execC_ok (hm : C.P.follows .mixedOrders = true) (hK : CallSound C.P callK) (rec : Code → List Nat → St → (Ex → St → Option R) → Option R) (hrec : ∀ c, CodeSound C fid R rec c) :
    ∀ c, CodeSound C fid R (execC C callK fid rec) c := by
  intro c
  induction c with
  | skip =>
    intro p st κ r h w0 F N hN a w G gm hI Q hQ
    exact wp_skip (hQ .nm st a w G gm h (fun _ h => h) hI)
  | region id ops draw =>
    intro p st κ r h w0 F N hN a w G gm hI Q hQ
    simp only [execC] at h
    cases draw with
    | true =>
      simp only [cond_true] at h
      cases hb : edgesBack ops with
      | false => rw [hb] at h; cases h
      | true =>
        rw [hb] at h
        exact draw_ok hK hm (codeOk_ops hN) hb hI h (fun st' a' w' G' gm' hk hG hI' => hQ .nm st' a' w' G' gm' hk hG hI')
    | false =>
      simp only [cond_false] at h
      refine wp_region ?_
      rw [List.range_eq_range', show ops.size = ops.toList.length by simp, wpOps_eq_wpList ops.toList 0 (fun j => by simp)]
      exact opsK_ok hK ops.toList hI (fun o ho => codeOk_ops hN o (Array.mem_toList_iff.1 ho)) h (fun st' a' w' G' gm' hk hG hI' => hQ .nm st' a' w' G' gm' hk hG hI')
  | seq x y ihx ihy =>
    intro p st κ r h w0 F N hN a w G gm hI Q hQ
    simp only [codeOk, Bool.and_eq_true] at hN
    simp only [execC] at h
    refine wp_seq (ihx _ st _ r h w0 F N hN.1 a w G gm hI _ ?_)
    intro e st' a' w' G' gm' hk hG hI'
    cases e with
    | nm =>
      obtain ⟨gm2, hI2⟩ := forget_ok (fid := fid) hI' (1 :: p)
      simp only at hk
      cases hc : C.cut fid (1 :: p) with
      | false =>
        simp only [hc, cond_false] at hk
        exact ihy _ _ κ r hk w0 F N hN.2 a' w' G' gm2 hI2 Q (fun e st'' a'' w'' G'' gm'' hk' hG' hi => hQ e st'' a'' w'' G'' gm'' hk' (fun b hb => hG' b (hG b hb)) hi)
      | true =>
        simp only [hc, cond_true] at hk
        exact hrec y _ _ _ r hk w0 F N hN.2 a' w' G' gm2 hI2 Q (fun e st'' a'' w'' G'' gm'' hk' hG' hi => hQ e st'' a'' w'' G'' gm'' hk' (fun b hb => hG' b (hG b hb)) hi)
    | ex i => exact hQ _ st' a' w' G' gm' hk hG hI'
    | rt => exact hQ _ st' a' w' G' gm' hk hG hI'
  | cond c x y ihx ihy =>
    intro p st κ r h w0 F N hN a w G gm hI Q hQ
    simp only [codeOk, Bool.and_eq_true] at hN
    simp only [execC] at h
    have hc := opd_ok hI (0, c)
    split at h
    · next t ht =>
      rw [ht] at hc
      cases t with
      | true => exact wp_cond_true hc.1 (ihx _ st κ r h w0 F N hN.1 a w G gm hI Q hQ)
      | false => exact wp_cond_false hc.1 (ihy _ st κ r h w0 F N hN.2 a w G gm hI Q hQ)
    · cases h
  | block id x ih =>
    intro p st κ r h w0 F N hN a w G gm hI Q hQ
    simp only [execC] at h
    refine wp_block (ih _ st _ r h w0 F N hN a w G gm hI _ ?_)
    intro e st' a' w' G' gm' hk hG hI'
    cases e with
    | nm => exact hQ .nm st' a' w' G' gm' hk hG hI'
    | ex i =>
      simp only [toExit, Exit.inBlock]
      cases hi : Nat.beq i id with
      | true =>
        simp only [hi, cond_true] at hk
        rw [if_pos (nbeq hi)]
        exact hQ .nm st' a' w' G' gm' hk hG hI'
      | false =>
        simp only [hi, cond_false] at hk
        rw [if_neg (fun e => by subst e; simp at hi)]
        exact hQ (.ex i) st' a' w' G' gm' hk hG hI'
    | rt => exact hQ .rt st' a' w' G' gm' hk hG hI'
  | loop x ih =>
    intro p st κ r h w0 F N hN a w G gm hI Q hQ
    simp only [execC] at h
    obtain ⟨gm2, hI2⟩ := forget_ok (fid := fid) hI p
    exact hrec (.loop x) p _ _ r h w0 F N hN a w G gm2 hI2 Q hQ
  | exit id =>
    intro p st κ r h w0 F N hN a w G gm hI Q hQ
    exact wp_exit (hQ (.ex id) st a w G gm h (fun _ h => h) hI)
  | ret =>
    intro p st κ r h w0 F N hN a w G gm hI Q hQ
    exact wp_ret (hQ .rt st a w G gm h (fun _ h => h) hI)
  | _ =>
    intro p st κ r h
    cases h
end
end Go.Ab
