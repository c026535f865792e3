/- Arguments that can be read are the machine's values. -/
import Derived.Test.YtnjgofgogeileaaE42
import Derived.ChangeArms
import Derived.ChangeShapes
import Derived.ChangeSame
import Derived.WideKeyArgs
import Derived.Below
import Derived.Test.YtnjgofgogeileaaRows
namespace Go.Ab
open Go
set_option linter.unusedSimpArgs false
set_option linter.unusedVariables false

/- How much a value holds. -/
mutual
def V.bulk : V → Nat
  | .sc (.string s) => s.size + 1
  | .sl _ xs => bulkL xs + 1
  | .ag xs => bulkL xs
  | _ => 1
def bulkL : List V → Nat
  | [] => 0
  | x :: xs => x.bulk + bulkL xs
end
theorem bulkL_append : ∀ (a b : List V), bulkL (a ++ b) = bulkL a + bulkL b
  | [], b => by simp [bulkL]
  | x :: a, b => by simp [bulkL, bulkL_append a b]; omega

/-- Fields lie one behind the other. -/
def laidF (P : Program) : List Field → Nat → Nat → Bool
  | [], o, n => Nat.beq o n
  | f :: fs, o, n => Nat.beq f.offset o && laidF P fs (o + szT P f.type) n

/-- Types of plain data. -/
def plainT (P : Program) : Nat → TypeId → Bool
  | 0, _ => false
  | n + 1, t => match P.underlying t with
    | some .bool | some (.int _) | some .string => Nat.beq (szT P t) 1
    | some (.slice e) => Nat.beq (szT P t) 1 && Nat.blt 0 (szT P e) && plainT P n e
    | some (.struct fs) => laidF P fs.toList 0 (szT P t) && fs.toList.all fun f => plainT P n f.type
    | _ => false

def isF (Q : TypeId → List V → Prop) : List Field → List (List V) → Prop
  | [], [] => True
  | f :: fs, y :: ys => Q f.type y ∧ isF Q fs ys
  | _, _ => False

/-- Cells of a type. -/
def isT (P : Program) : Nat → TypeId → List V → Prop
  | 0, _, _ => False
  | n + 1, t, xs => match P.underlying t with
    | some .bool => ∃ b, xs = [.sc (.bool b)]
    | some (.int k) => ∃ m, xs = [.sc (.int k m)] ∧ (Lit.int k m).wf = true
    | some .string => ∃ s : ByteArray, xs = [.sc (.string s)] ∧ s.size ≤ maxLen
    | some (.slice e) => ∃ l : List (List V), xs = [.sl (szT P e) l.flatten] ∧ (∀ y ∈ l, isT P n e y ∧ y.length = szT P e) ∧ l.length ≤ maxLen
    | some (.struct fs) => ∃ l : List (List V), xs = l.flatten ∧ isF (isT P n) fs.toList l
    | _ => False

section
variable {H : Type} {enc : TypeId × Value → H} {P : Program} {w : World}
open Go.Proofs.Ytnjgofgogeileaa.Rows (uptoBulk uptoBulkAll)

/-- A reading, as cells. -/
structure Reads (P : Program) (w : World) (n : Nat) (t : TypeId) (cs : List Value) (b : Nat) (xs : List V) : Prop where
  rv : RvL w (fun k => k < w.heap.size) noGM cs xs
  is : isT P n t xs
  bulk : bulkL xs ≤ b
  len : xs.length = szT P t
  cim : cimL xs = true
  one : ∀ u ∈ cs, u.oneCell' = true

theorem cellsOf_szT (t : TypeId) : P.cellsOf t = szT P t := by
  unfold Program.cellsOf szT
  cases P.info? t <;> rfl

theorem cell_spot {a : Addr} {v : Value} (h : w.cell? a = some v) : a.spot = none ∧ a.block < w.heap.size := by
  unfold World.cell? at h
  split at h
  · next hc =>
    refine ⟨?_, (Array.getElem?_eq_some_iff.1 hc).1⟩
    cases hs : a.spot with
    | none => rfl
    | some x => rw [hs] at h; simp at h
  · cases h

theorem add_zero (a : Addr) : a.add 0 = a := by
  obtain ⟨b, o, s⟩ := a
  cases s <;> simp [Addr.add]

theorem cells_get {base n : Nat} {a : Addr} {cs : List Value} (h : w.cells? base a n = some cs) : cs.length = n ∧ ∀ i, i < n → w.cell? (a.add i) = cs[i]? := by
  unfold World.cells? at h
  split at h
  · refine ⟨by simpa using mapM_some_length h, fun i hi => ?_⟩
    exact mapM_some_get h i i (by simp [hi])
  · cases h

/-- Elements of a slice, one after the other. -/
theorem read_elems {a : Addr} {e : TypeId} {n m : Nat} (hsz : 0 < szT P e)
    (ih : ∀ (cs : List Value) (d : DataW H) (ps : List MemPlace), DataW.trod enc P w 0 (fun _ => true) true m e cs = some (d, ps) → ∃ xs, Reads P w n e cs (uptoBulk d) xs) :
    ∀ (elems : List (DataW H × List MemPlace)), (∀ i, i < elems.length → (w.cells? 0 (a.add (i * P.cellsOf e)) (P.cellsOf e)).bind (DataW.trod enc P w 0 (fun _ => true) true m e) = elems[i]?) →
    ∀ k, k ≤ elems.length → ∃ (l : List (List V)) (cs : List Value), l.length = k ∧ cs.length = k * szT P e ∧ CellsAt w a cs ∧ RvL w (fun k => k < w.heap.size) noGM cs l.flatten ∧ (∀ y ∈ l, isT P n e y ∧ y.length = szT P e) ∧
      bulkL l.flatten ≤ uptoBulkAll ((elems.take k).map (·.1)) ∧ cimL l.flatten = true ∧ (∀ u ∈ cs, u.oneCell' = true) ∧ (0 < k → a.spot = none ∧ a.block < w.heap.size) := by
  intro elems hel k
  induction k with
  | zero => exact fun _ => ⟨[], [], rfl, by simp, CellsAt.nil _ _, trivial, by simp, by simp [bulkL], rfl, by simp, by simp⟩
  | succ k ihk =>
    intro hk
    obtain ⟨l, cs, h1, h2, h3, h4, h5, h6, h7, h8, h9⟩ := ihk (by omega)
    have hb := hel k (by omega)
    rw [List.getElem?_eq_getElem (by omega), Option.bind_eq_some_iff] at hb
    obtain ⟨cs', hc, ht⟩ := hb
    obtain ⟨xs, hr⟩ := ih cs' elems[k].1 elems[k].2 ht
    obtain ⟨c1, c2⟩ := cells_get hc
    rw [cellsOf_szT] at c1 c2
    have hsp : a.spot = none ∧ a.block < w.heap.size := by
      cases k with
      | succ k => exact h9 (by omega)
      | zero =>
        have := c2 0 hsz
        rw [Nat.zero_mul, add_zero, add_zero, List.getElem?_eq_getElem (by omega)] at this
        exact cell_spot this
    have hadd : ∀ i, (a.add (k * szT P e)).add i = ⟨a.block, a.off + (k * szT P e + i), none⟩ := by
      intro i
      obtain ⟨b, o, s⟩ := a
      have : s = none := hsp.1
      subst this
      rw [add_addr, add_addr]
      simp [Nat.add_assoc]
    have hlen : (l ++ [xs]).flatten = l.flatten ++ xs := by simp
    refine ⟨l ++ [xs], cs ++ cs', by simp [h1], by simp [h2, c1, Nat.succ_mul], ?_, ?_, ?_, ?_, ?_, ?_, fun _ => hsp⟩
    · intro j v hj
      rw [List.getElem?_append] at hj
      split at hj
      · exact h3 j v hj
      · next hge =>
        have hj2 : j - cs.length < szT P e := by
          have := (List.getElem?_eq_some_iff.1 hj).1
          omega
        have := c2 (j - cs.length) hj2
        rw [hadd, hj] at this
        rw [← this]
        congr 1
        simp only [Addr.mk.injEq, true_and, and_true]
        omega
    · rw [hlen]; exact RvL.append h4 hr.rv
    · intro y hy
      simp only [List.mem_append, List.mem_singleton] at hy
      rcases hy with hy | rfl
      · exact h5 y hy
      · exact ⟨hr.is, hr.len⟩
    · rw [hlen, bulkL_append, List.take_succ_eq_append_getElem (by omega), List.map_append]
      have e1 : ∀ (p q : List (DataW H)), uptoBulkAll (p ++ q) = uptoBulkAll p + uptoBulkAll q := by
        intro p q
        induction p with
        | nil => simp [uptoBulkAll]
        | cons z p ih => simp only [List.cons_append, uptoBulkAll, ih]; omega
      rw [e1]
      have := hr.bulk
      simp only [List.map_cons, List.map_nil, uptoBulkAll]
      omega
    · rw [hlen, cimL_append, h7, hr.cim]; rfl
    · intro u hu
      simp only [List.mem_append] at hu
      rcases hu with hu | hu
      · exact h8 u hu
      · exact hr.one u hu

/-- A struct's fields, one after the other. -/
theorem read_fields {n m : Nat} {cs : List Value}
    (ih : ∀ (t : TypeId) (cs : List Value) (d : DataW H) (ps : List MemPlace), plainT P n t = true → DataW.trod enc P w 0 (fun _ => true) true m t cs = some (d, ps) → ∃ xs, Reads P w n t cs (uptoBulk d) xs) :
    ∀ (fs : List Field) (o : Nat) (ds : List (DataW H × List MemPlace)), fs.length = ds.length → (∀ (i : Nat) (f : Field), fs[i]? = some f → DataW.trod enc P w 0 (fun _ => true) true m f.type ((cs.drop f.offset).take (P.cellsOf f.type)) = ds[i]?) →
    laidF P fs o cs.length = true → (fs.all fun f => plainT P n f.type) = true →
    ∃ l : List (List V), RvL w (fun k => k < w.heap.size) noGM (cs.drop o) l.flatten ∧ isF (isT P n) fs l ∧ bulkL l.flatten ≤ uptoBulkAll (ds.map (·.1)) ∧ l.flatten.length + o = cs.length ∧ cimL l.flatten = true ∧ ∀ u ∈ cs.drop o, u.oneCell' = true
  | [], o, [], _, _, hl, _ => by
    have := nbeq hl
    subst this
    exact ⟨[], by simp [RvL], trivial, by simp [bulkL], by simp, rfl, by simp⟩
  | f :: fs, o, d :: ds, hlen, hd, hl, hp => by
    simp only [laidF, Bool.and_eq_true] at hl
    simp only [List.all_cons, Bool.and_eq_true] at hp
    obtain ⟨ho, hl⟩ := hl
    have ho := nbeq ho
    subst ho
    have h0 := hd 0 f rfl
    rw [List.getElem?_cons_zero, cellsOf_szT] at h0
    obtain ⟨xs, hr⟩ := ih f.type _ d.1 d.2 hp.1 h0
    obtain ⟨l, k1, k2, k3, k4, k5, k6⟩ := read_fields ih fs (f.offset + szT P f.type) ds (by simpa using hlen) (fun i g hg => by
      have := hd (i + 1) g (by simpa using hg)
      simpa using this) hl hp.2
    have hcs : cs.drop f.offset = (cs.drop f.offset).take (szT P f.type) ++ cs.drop (f.offset + szT P f.type) := by
      rw [← List.drop_drop, List.take_append_drop]
    refine ⟨xs :: l, ?_, ⟨hr.is, k2⟩, ?_, ?_, ?_, ?_⟩
    · rw [hcs, List.flatten_cons]
      exact RvL.append hr.rv k1
    · rw [List.flatten_cons, bulkL_append]
      have := hr.bulk
      simp only [List.map_cons, uptoBulkAll]
      omega
    · rw [List.flatten_cons, List.length_append, hr.len]
      omega
    · rw [List.flatten_cons, cimL_append, hr.cim, k5]; rfl
    · rw [hcs]
      intro u hu
      simp only [List.mem_append] at hu
      rcases hu with hu | hu
      · exact hr.one u hu
      · exact k6 u hu
  | [], _, _ :: _, hlen, _, _, _ => by simp at hlen
  | _ :: _, _, [], hlen, _, _, _ => by simp at hlen

theorem reads_ok : ∀ (n : Nat) (t : TypeId) (m : Nat) (cs : List Value) (d : DataW H) (ps : List MemPlace), plainT P n t = true → DataW.trod enc P w 0 (fun _ => true) true m t cs = some (d, ps) → ∃ xs, Reads P w n t cs (uptoBulk d) xs
  | 0, _, _, _, _, _, hp, _ => by cases hp
  | n + 1, t, m, cs, d, ps, hp, h => by
    simp only [plainT] at hp
    split at hp
    · next ht =>
      obtain ⟨b, rfl, hx⟩ := DataW.trod_bool ht h
      obtain ⟨rfl, _⟩ := Prod.mk.inj hx
      exact ⟨[.sc (.bool b)], ⟨⟨rfl, rfl⟩, trivial⟩, by simp only [isT, ht]; exact ⟨b, rfl⟩, by simp [bulkL, V.bulk, uptoBulk], by rw [nbeq hp]; rfl, rfl, by simp [Value.oneCell']⟩
    · next k ht =>
      obtain ⟨z, rfl, hx, hwf⟩ := DataW.trod_int ht h
      obtain ⟨rfl, _⟩ := Prod.mk.inj hx
      exact ⟨[.sc (.int k z)], ⟨⟨rfl, rfl⟩, trivial⟩, by simp only [isT, ht]; exact ⟨z, rfl, hwf⟩, by simp [bulkL, V.bulk, uptoBulk], by rw [nbeq hp]; rfl, rfl, by simp [Value.oneCell']⟩
    · next ht =>
      obtain ⟨s, rfl, hx, hs⟩ := DataW.trod_string ht h
      obtain ⟨rfl, _⟩ := Prod.mk.inj hx
      refine ⟨[.sc (.string s)], ⟨⟨rfl, rfl⟩, trivial⟩, by simp only [isT, ht]; exact ⟨s, rfl, hs⟩, ?_, by rw [nbeq hp]; rfl, rfl, by simp [Value.oneCell']⟩
      have : s.data.toList.length = s.size := by rw [Array.length_toList]; rfl
      simp only [bulkL, V.bulk, uptoBulk]
      omega
    · next e ht =>
      simp only [Bool.and_eq_true] at hp
      obtain ⟨⟨hp1, hp2⟩, hp3⟩ := hp
      have hsz := nblt hp2
      rcases DataW.trod_slice ht h with ⟨rfl, hx⟩ | ⟨a, len, cap, elems, rest, m', rfl, rfl, hx, _, hlc, hcm, hlen, hel, _, _⟩
      · obtain ⟨rfl, _⟩ := Prod.mk.inj hx
        exact ⟨[.sl (szT P e) []], ⟨.inl ⟨rfl, rfl⟩, trivial⟩, by simp only [isT, ht]; exact ⟨[], rfl, by simp, by simp⟩, by simp [bulkL, V.bulk, uptoBulk], by rw [nbeq hp1]; rfl, rfl, by simp [Value.oneCell']⟩
      · obtain ⟨rfl, _⟩ := Prod.mk.inj hx
        obtain ⟨l, cs, k1, k2, k3, k4, k5, k6, k7, k8, k9⟩ := read_elems hsz (fun cs d ps h => reads_ok n e m' cs d ps hp3 h) elems (fun i hi => hel i (by omega)) len (by omega)
        have hfl : l.flatten.length = len * szT P e := by rw [← k4.length, k2]
        refine ⟨[.sl (szT P e) l.flatten], ⟨.inr ⟨a, len, cap, cs, rfl, fun hne => ?_, hlc, hfl, hsz, k3, fun hne => ?_, k4, cimL_cib _ k7, k8⟩, trivial⟩, by simp only [isT, ht]; exact ⟨l, rfl, k5, by omega⟩, ?_, by rw [nbeq hp1]; rfl, rfl, by simp [Value.oneCell']⟩
        · have : 0 < len := by
            rcases Nat.eq_zero_or_pos len with h0 | h0
            · subst h0; rw [Nat.zero_mul] at hfl; exact absurd (List.eq_nil_of_length_eq_zero hfl) hne
            · exact h0
          exact (k9 this).1
        · have : 0 < len := by
            rcases Nat.eq_zero_or_pos len with h0 | h0
            · subst h0; rw [Nat.zero_mul] at hfl; exact absurd (List.eq_nil_of_length_eq_zero hfl) hne
            · exact h0
          exact (k9 this).2
        · rw [List.take_of_length_le (by omega)] at k6
          simp only [bulkL, V.bulk, uptoBulk]
          omega
    · next fs ht =>
      simp only [Bool.and_eq_true] at hp
      obtain ⟨xs, m', rfl, hx, hcs, hlen, hf⟩ := DataW.trod_struct ht h
      obtain ⟨rfl, _⟩ := Prod.mk.inj hx
      rw [cellsOf_szT] at hcs
      obtain ⟨l, k1, k2, k3, k4, k5, k6⟩ := read_fields (cs := cs) (n := n) (m := m') (fun t cs d ps hp h => reads_ok n t m' cs d ps hp h) fs.toList 0 xs (by simpa using hlen.symm) (fun i f hf' => hf i f (by simpa using hf')) (by rw [hcs]; exact hp.1) hp.2
      rw [List.drop_zero] at k1 k6
      exact ⟨l.flatten, k1, by simp only [isT, ht]; exact ⟨l, rfl, k2⟩, by simp only [uptoBulk]; omega, by omega, k5, k6⟩
    · cases hp
end
end Go.Ab
