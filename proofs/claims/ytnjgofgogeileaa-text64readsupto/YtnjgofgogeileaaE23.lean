/- Conversions. -/
import Derived.Test.YtnjgofgogeileaaE22
import Derived.Lib.ConvBytes
namespace Go.Ab
open Go
set_option linter.unusedSimpArgs false
set_option linter.unusedVariables false

section
variable {P : Program} {w0 w : World} {F : FG} {N : Nat} {st : St} {a : Act} {G : Nat → Prop} {gm : GM} {deep : TypeId → Bool} {T : List Nm} {rd regs : Nm → Option Rg}

theorem foldl_push (ns : List Int) : ∀ b : ByteArray, ns.foldl (fun r n => r.push (UInt8.ofNat n.toNat)) b = ⟨b.data ++ (ns.map fun n => UInt8.ofNat n.toNat).toArray⟩ := by
  induction ns with
  | nil => intro b; simp
  | cons n ns ih =>
    intro b
    simp only [List.foldl_cons, List.map_cons]
    rw [ih]
    congr 1
    apply Array.ext'
    simp [ByteArray.push]

theorem allU8_ok {vs : List Value} {xs : List V} {ss : List Sk} (h : OwnL w G P vs xs ss) (hu : allU8 xs = true) : ∃ ns : List Int, vs = ns.map (Value.int .u8) ∧ xs.map byteOfV = ns.map fun n => UInt8.ofNat n.toNat := by
  induction vs generalizing xs ss with
  | nil => cases xs with
    | nil => exact ⟨[], rfl, rfl⟩
    | cons x xs => simp [OwnL] at h
  | cons v vs ih => cases xs with
    | nil => simp [OwnL] at h
    | cons x xs => cases ss with
      | nil => simp [OwnL] at h
      | cons s ss =>
        simp only [allU8, Bool.and_eq_true] at hu
        obtain ⟨ns, h1, h2⟩ := ih h.2 hu.2
        have hx := hu.1
        unfold V.isInt at hx
        split at hx
        · next k n =>
          have hk : k = .u8 := by simpa using hx
          subst hk
          obtain ⟨_, _, hr⟩ := h.1
          obtain ⟨rfl, _⟩ := hr
          refine ⟨n :: ns, by simp [h1], ?_⟩
          simp only [List.map_cons, h2, byteOfV, V.intOf]
        · cases hx

theorem sli_slice {e : TypeId} {v : Value} {x : V} (hx : Rv w G gm v x) (hok : (sliOf P rd e x).ok = true) : ∃ ad n c, v = .slice ad n c := by
  cases x <;> try (cases hok; done)
  case nl => exact ⟨_, _, _, hx⟩
  case sl =>
    rcases hx with ⟨h, _⟩ | ⟨_, _, _, _, h, _⟩
    · exact ⟨_, _, _, h⟩
    · exact ⟨_, _, _, h⟩
  case ref q =>
    simp only [Rv, nameRef] at hx
    split at hx
    · exact ⟨_, _, _, hx⟩
    · exact ⟨_, _, _, hx⟩
    · exact hx.elim
  case vw q lo hi =>
    simp only [Rv, nameVw] at hx
    split at hx
    · obtain ⟨_, _, _, h, _⟩ := hx
      exact ⟨_, _, _, h⟩
    · exact ⟨_, _, _, hx.2.2⟩
    · exact hx.elim

theorem run_conv_op (w w' : World) {o : Oper} {x : Operand} {s t : TypeId} (ho : o.op = .convert s t x) {v : Value} (h : (convert s t (a.eval x)).run P w = .ok v w') : (execOp a.eval o).run P w = .ok (.value v) w' := by
  simp [execOp, ho, h]

theorem convert_ok (hI : Inv P w0 F N st a w G gm) {o : Oper} {d : Nat} (hod : o.dst = some d) (hd : d < N) {s t : TypeId} {x : Operand} (ho : o.op = .convert s t x) {T : List Nm} (hTd : (Nm.loc d).mem T = true) (hTh : Nm.hand.mem T = false)
    {vx : V} (hx : Rv w G gm (a.eval x) vx) (hok : (semConvert P d (only T st.regs) s t vx).ok = true) :
    OpRes P w0 F N st a w G o (semConvert P d (only T st.regs) s t vx) := by
  have hd' : ∀ y, o.dst = some y → y < N := fun y hy => by rw [hod] at hy; obtain rfl := Option.some.inj hy; exact hd
  unfold semConvert at hok ⊢
  split at hok
  · next us k hs ht =>
    split at hok
    · next k' n =>
      obtain ⟨hxe, _⟩ := hx
      refine OpRes.quiet hI hd' (.int k (k.wrap n)) (run_conv_op w w ho ?_) rfl rfl ⟨rfl, rfl⟩
      rw [hxe]
      simp [convert, run_underlying hs, run_underlying ht, Conv.intToInt]
    · cases hok
  · next hs ht =>
    split at hok
    · next str =>
      obtain ⟨hxe, _⟩ := hx
      refine OpRes.quiet hI hd' (.string str) (run_conv_op w w ho ?_) rfl rfl ⟨rfl, rfl⟩
      rw [hxe]
      simp [convert, run_underlying hs, run_underlying ht]
    · cases hok
  · next e hs ht =>
    split at hok
    · next u str he =>
      obtain ⟨hxe, _⟩ := hx
      obtain ⟨h1, _⟩ := when_ok hok
      simp only [Bool.and_eq_true, roomy, decide_eq_true_eq] at h1
      have hsz := nbeq h1.2
      obtain ⟨gm1, g1, g2, g3, g4⟩ := hI.start T
      have hrun := Lib.run_convert_string_bytes (P := P) w s t e str hs ht he
      rw [← hxe] at hrun
      have hcap : grownCap w str.size 0 e ≤ maxLen := grownCap_le_maxLen w _ _ e (Nat.le_trans h1.1 (by decide))
      have hge : str.size ≤ grownCap w str.size 0 e := grownCap_ge w _ _ e
      have hcs : (Lib.bytesCells w e str).size = grownCap w str.size 0 e := by
        simp [Lib.bytesCells]
        have : str.data.size = str.size := rfl
        omega
      obtain ⟨ss, hs1, hs2⟩ := bytesV_own (w := Lib.bytesWorld w e str) (G := G) (P := P) str
      have htk : (Lib.bytesCells w e str).toList.take (str.size * szT P e) = Lib.strCells str := by
        rw [hsz, Nat.mul_one]
        simp only [Lib.bytesCells, Array.toList_append, Array.toList_map]
        rw [List.take_left']
        · rfl
        · rw [List.length_map, Array.length_toList]; rfl
      refine OpRes.when (OpRes.mk' hod _ _ G _ (run_conv_op w _ ho hrun) rfl (fun _ h => h) (hI.land hd hTd hTh g1 g2 (fun _ h => h) g3 (only_within T _) (fun _ _ => rfl) (fun n hn => (no_names hn).elim)
        (fun b hb _ => Lib.bytesWorld_at_old w e str b hb) rfl rfl rfl (by rw [Lib.bytesWorld_size]; omega) (rg := ⟨false, [.own e false (bytesV str)]⟩) (R := ⟨none, [.slice (some ⟨w.heap.size, 0, none⟩) str.size (grownCap w str.size 0 e)], [.node w.heap.size str.size (grownCap w str.size 0 e) (szT P e) ss]⟩) ⟨rfl, ⟨?_, trivial⟩, fun b hb => by cases hb⟩ ?_ ?_ (fun _ h => h) (fun _ h => .inl h) _ _ ?_))
      · refine ⟨_, _, rfl, Lib.bytesWorld_at_new w e str, .inr (Nat.le_refl _), by rw [hcs, hsz, Nat.mul_one], by omega, rfl, hge, hcap, by rw [bytesV_length, hsz, Nat.mul_one], ?_, fun _ => bytesV_cib str⟩
        rw [htk]; exact hs2
      · simp [RG.fp, fpL, Sk.fp, hs1]
      · intro b hb
        simp [RG.fp, fpL, Sk.fp, hs1] at hb
        exact .inr (by omega)
      · simp only [Rv, nameRef, skAt, setG_self, getSk, nthS_zero]
    · cases hok
  · next e hs ht =>
    split at hok
    · next he =>
      obtain ⟨h1, _⟩ := when_ok hok
      simp only [Bool.and_eq_true] at h1
      obtain ⟨⟨⟨p1, p2⟩, p3⟩, p4⟩ := h1
      have hsz := nbeq p2
      obtain ⟨m, news, cs, hr⟩ := sliOf_ok (rd := only T st.regs) hx (fun _ h => h) (fun _ _ _ _ _ => rfl) (fun q e d xs hq => by
        obtain ⟨v, hv⟩ := own_at hI.regs hq
        exact ⟨fun e => by rw [e] at hv; exact hv.elim, v, hv⟩) (by omega) p1
      obtain ⟨ns, k1, k2⟩ := allU8_ok hr.own p4
      refine OpRes.when (OpRes.quiet hI hd' (.string (strOfCells (sliOf P (only T st.regs) e vx).xs)) (run_conv_op w w ho ?_) rfl rfl ⟨rfl, rfl⟩)
      have hf := hr.first w rfl
      have hl := hr.hlen
      have hv := sli_slice hx p1
      obtain ⟨ad, n, c, hv⟩ := hv
      rw [hv] at hl hf ⊢
      have hn : n = m := by
        simp [Builtin.lenOf] at hl
        exact hl
      subst hn
      rw [run_convert_bytes_string w s t e ad n c hs he ht]
      cases ad with
      | none =>
        simp [Builtin.firstCells] at hf
        have hnn : news = [] := hf
        have hxn : (sliOf P (only T st.regs) e vx).xs = [] := by
          have := hr.own.length.1
          rw [hnn] at this
          exact List.eq_nil_of_length_eq_zero this.symm
        rw [hxn]
        rfl
      | some ad =>
        have hld : (loadCells ad n).run P w = .ok (ns.map (Value.int .u8)).toArray w := by
          simp only [Builtin.firstCells, hsz, Nat.mul_one] at hf
          rw [← k1]; exact hf
        rw [run_bytesToString w ad n c ns hld, foldl_push]
        congr 2
        simp only [strOfCells, k2]
        simp
    · cases hok
  · cases hok
end
end Go.Ab
