/- Structs, slices and maps that are made and grown: the operations do what is told of them. -/
import Derived.Test.YtohdcmkooedkcaaA4
namespace Go.Proofs.Ytohdcmkooedkcaa.A
open Go Go.RowKit
set_option linter.unusedVariables false
set_option linter.unusedSimpArgs false

section
variable {P : Program} {w0 w : World} {F : List Atom} {H : Hp} {K : Value → Hp → Prop} {E : List PanicEntry → Hp → Prop} {T : Tab}

/-! ### build -/
theorem foldl_setN (vs : List Value) : ∀ (cs : List Value) (o : Nat), (vs.toArray.zipIdx.foldl (fun (c : Array Value) (x : Value × Nat) => c.setIfInBounds (o + x.2) x.1) cs.toArray) = (setN cs o vs).toArray := by
  have key : ∀ (vs : List Value) (k : Nat) (cs : List Value) (o : Nat), ((vs.zipIdx k).foldl (fun (c : Array Value) (x : Value × Nat) => c.setIfInBounds (o + x.2) x.1) cs.toArray) = (setN cs (o + k) vs).toArray := by
    intro vs
    induction vs with
    | nil => intros; rfl
    | cons v vs ih =>
      intro k cs o
      simp only [List.zipIdx_cons, List.foldl_cons, List.setIfInBounds_toArray, setN]
      rw [ih (k + 1)]
      rw [Nat.add_assoc]
  intro cs o
  have := key vs 0 cs o
  simpa using this

theorem fillF_ok {place : Nat → (Nat → Nat → Prop) → Prop} {pl : Nat → Option (Nat × Nat)} (hpl : ∀ i (K' : Nat → Nat → Prop), place i K' → ∃ p, pl i = some p ∧ K' p.1 p.2) :
    ∀ (ps : List (Nat × Value)) (cells : List Value) (K' : List Value → Prop), fillF place cells ps K' → ∃ cs, Instr.fill pl cells.toArray ps = some cs.toArray ∧ cs.length = cells.length ∧ K' cs
  | [], cells, K', h => ⟨cells, rfl, rfl, h⟩
  | (i, v) :: r, cells, K', h => by
    unfold fillF at h
    obtain ⟨⟨off, size⟩, hp, h⟩ := hpl _ _ h
    rw [cellsF_iff] at h
    rcases ifC_out h with ⟨h1, h⟩ | ⟨_, h⟩
    · rcases ifC_out h with ⟨h2, h⟩ | ⟨_, h⟩
      · rw [setNF_iff] at h
        have h1 := Nat.eq_of_beq_eq_true h1
        have h2 := Nat.le_of_ble_eq_true h2
        obtain ⟨cs, hf, hl, hk⟩ := fillF_ok hpl r _ _ h
        refine ⟨cs, ?_, by rw [hl, setN_length], hk⟩
        simp only at h1 h2 h hf
        simp only [Instr.fill, hp]
        have hsz : v.cells.size = size := by rw [← h1]; simp
        have hle : ¬ (off + v.cells.size > cells.toArray.size) := by simp at h2 ⊢; omega
        simp only [hsz, ne_eq, not_true_eq_false, decide_false, Bool.false_or]
        rw [hsz] at hle
        simp only [hle, decide_false, Bool.false_eq_true, if_false]
        have hfold := foldl_setN v.cells.toList cells off
        simp only [Array.toArray_toList] at hfold
        rw [hfold]
        exact hf
      · exact h.elim
    · exact h.elim

theorem run_build_places (fields : List Field) (fs : List (Nat × Nat × Bool)) (hl : fields.length = fs.length)
    (h : ∀ (j : Nat) (f : Field), fields[j]? = some f → ∃ (p : Nat × Nat × Bool) (i : TypeInfo), fs[j]? = some p ∧ f.offset = p.1 ∧ P.info? f.type = some i ∧ i.size = p.2.1) :
    (fields.mapM (m := Sem) fun f => do pure (f.offset, ← sizeOf f.type)).run P w = .ok (fs.map fun p => (p.1, p.2.1)) w := by
  induction fields generalizing fs with
  | nil => cases fs <;> simp_all
  | cons f fields ih =>
    cases fs with
    | nil => simp at hl
    | cons p fs =>
      obtain ⟨p', i, hp, ho, hin, his⟩ := h 0 f rfl
      simp only [List.getElem?_cons_zero, Option.some.injEq] at hp
      subst hp
      have := ih fs (by simpa using hl) fun j f hj => by simpa using h (j + 1) f (by simpa using hj)
      simp only [List.mapM_cons, Sem.run_bind, run_sizeOf_ok hin, Result.andThen_ok, Sem.run_pure, this]
      simp [ho, his]

theorem zero_cells {t : Nat} {i : TI} (hi : i.ok P t) : ∃ zv, (zeroValue t).run P w = .ok zv w ∧ zv.cells = i.z.toArray := by
  obtain ⟨_, ⟨info, zv, hin, _, hz, hc, _, _⟩, _⟩ := hi
  exact ⟨zv, run_zeroValue_ok hin hz, hc⟩

theorem buildF_ok (hT : Tab.okFrom P 0 T) {t : Nat} {ps : List (Nat × Value)} {K' : Value → Prop} (h : buildF T t ps K') : ∃ v, (Instr.build t ps.toArray).run P w = .ok v w ∧ K' v := by
  unfold buildF at h
  obtain ⟨i, hi, h1⟩ := tab_get hT h
  clear h
  obtain ⟨zv, hz, hc⟩ := zero_cells (w := w) hi
  split at h1
  · rename_i fs hd
    have hu := hi.1; rw [hd] at hu
    obtain ⟨fields, hu, hsz, hf⟩ := hu
    obtain ⟨cs, hfill, _, hk⟩ := fillF_ok (pl := fun i => (fs.map fun p => (p.1, p.2.1))[i]?) (fun i K' h => by
      obtain ⟨p, hp, h⟩ := nthG_get h
      exact ⟨(p.1, p.2.1), by simp [hp], h⟩) _ _ _ h1
    refine ⟨_, ?_, hk⟩
    have hpl := run_build_places (P := P) (w := w) fields.toList fs (by simpa using hsz) fun j f hj => by
      obtain ⟨p, i, d, h1, h2, _, h4, h5, _⟩ := hf j f (by simpa using hj)
      exact ⟨p, i, h1, h2, h4, h5⟩
    simp only [Instr.build, Sem.run_bind, hz, Result.andThen_ok, run_underlying_ok hu, Array.mapM_eq_mapM_toList]
    simp only [Sem.run_map, hpl, Result.andThen_ok, hc]
    simp only [List.getElem?_toArray, hfill, Sem.run_pure]
  · rename_i n esz ea hd
    have hu := hi.1; rw [hd] at hu
    obtain ⟨e, inf, d, hu, hin, his, _⟩ := hu
    obtain ⟨cs, hfill, _, hk⟩ := fillF_ok (pl := fun i => some (i * esz, esz)) (fun i K' h => ⟨_, rfl, h⟩) _ _ _ h1
    refine ⟨_, ?_, hk⟩
    simp only [Instr.build, Sem.run_bind, hz, Result.andThen_ok, run_underlying_ok hu, run_sizeOf_ok hin, his, hc]
    simp only [hfill, Sem.run_pure]
  · exact h1.elim

theorem range_mod (n : Nat) (z : List Value) (hz : 0 < z.length) : ((Array.range (n * z.length)).map fun i => z.toArray[i % z.toArray.size]!) = (repZ n z).toArray := by
  apply Array.toList_inj.1
  apply List.ext_getElem?
  intro i
  have hlen : (repZ n z).length = n * z.length := by
    unfold repZ
    rw [List.length_flatten]
    simp
  by_cases hi : i < n * z.length
  · have hrep : ∀ (n i : Nat), i < n * z.length → (repZ n z)[i]? = z[i % z.length]? := by
      intro n
      induction n with
      | zero => intro i h; simp at h
      | succ n ih =>
        intro i h
        have e : repZ (n + 1) z = z ++ repZ n z := by simp [repZ, List.replicate_succ]
        rw [e]
        by_cases h1 : i < z.length
        · rw [List.getElem?_append_left h1, Nat.mod_eq_of_lt h1]
        · rw [List.getElem?_append_right (by omega), ih (i - z.length) (by rw [Nat.succ_mul] at h; omega)]
          rw [Nat.mod_eq_sub_mod (by omega : i ≥ z.length)]
    rw [hrep n i hi]
    have hm : i % z.length < z.length := Nat.mod_lt _ hz
    simp [hi, hm]
  · rw [List.getElem?_eq_none (by simp; omega)]
    rw [List.getElem?_eq_none (by simp [hlen]; omega)]

theorem repZ_length (n : Nat) (z : List Value) : (repZ n z).length = n * z.length := by
  unfold repZ
  rw [List.length_flatten]
  simp

theorem buildSliceF_ok (hT : Tab.okFrom P 0 T) {t len : Nat} {ps : List (Nat × Value)} (hr : RepF w0 F H w) (h : buildSliceF T t len ps H K) :
    ∃ v w' H', (Instr.buildSlice t len ps.toArray).run P w = .ok v w' ∧ RepF w0 F H' w' ∧ K v H' := by
  unfold buildSliceF at h
  obtain ⟨i, hi, h1⟩ := tab_get hT h
  clear h
  split at h1
  · rename_i e esz eb ez hd
    have hu := hi.1; rw [hd] at hu
    obtain ⟨hu, inf, zv, hin, his, _, hz, hzc, hzl, hpos⟩ := hu
    rcases ifC_out h1 with ⟨hle, h⟩ | ⟨_, h⟩
    · have hle := Nat.le_of_ble_eq_true hle
      rw [repF_iff] at h
      obtain ⟨cs, hfill, hcl, hk⟩ := fillF_ok (pl := fun i => some (i * esz, esz)) (fun i K' h => ⟨_, rfl, h⟩) _ _ _ h
      have hcl' : cs.length = len * esz := by rw [hcl, repZ_length, hzl]
      have hm : len ≤ maxLen := by
        have : len * 1 ≤ len * esz := Nat.mul_le_mul_left _ hpos
        simp only [maxLen]; omega
      refine ⟨_, _, _, ?_, new_row hr e esz len cs hcl' hm, hk _⟩
      have hcells : ((Array.range (len * esz)).map fun x => (if len * esz = 0 then (#[] : Array Value) else ez.toArray)[x % (if len * esz = 0 then (#[] : Array Value) else ez.toArray).size]!) = (repZ len ez).toArray := by
        by_cases h0 : len * esz = 0
        · have : len = 0 := by rcases Nat.mul_eq_zero.1 h0 with h | h <;> omega
          subst this
          simp [repZ]
        · simp only [h0, if_false]
          rw [← hzl]
          exact range_mod len ez (by omega)
      by_cases h0 : len * esz = 0
      · simp only [h0, if_true] at hcells
        simp only [Instr.buildSlice, Sem.run_bind, run_underlying_ok hu, Result.andThen_ok, run_sizeOf_ok hin, his]
        rw [if_neg (by omega)]
        simp only [h0, if_true, Sem.run_bind, Sem.run_pure, Result.andThen_ok]
        rw [hcells]
        simp only [hfill]
        simp [newRow]
      · simp only [h0, if_false] at hcells
        simp only [Instr.buildSlice, Sem.run_bind, run_underlying_ok hu, Result.andThen_ok, run_sizeOf_ok hin, his]
        rw [if_neg (by omega)]
        simp only [h0, if_false, Sem.run_bind, Sem.run_pure, Result.andThen_ok, run_zeroValue_ok hin hz, hzc]
        rw [hcells]
        simp only [hfill]
        simp [newRow]
    · exact h.elim
  · exact h1.elim

theorem makeSliceF_ok (hT : Tab.okFrom P 0 T) {t : Nat} {l c : Value} (hr : RepF w0 F H w) (h : makeSliceF T t l c H K) :
    ∃ v w' H', (Instr.makeSlice t l c).run P w = .ok v w' ∧ RepF w0 F H' w' ∧ K v H' := by
  unfold makeSliceF at h
  obtain ⟨i, hi, h1⟩ := tab_get hT h
  clear h
  split at h1
  · rename_i e esz eb ez k1 n k2 n' hd
    have hu := hi.1; rw [hd] at hu
    obtain ⟨hu, inf, zv, hin, his, hib, hz, hzc, hzl, hpos⟩ := hu
    obtain ⟨m, rfl, rfl, hb, hm, hk⟩ := h1
    refine ⟨_, _, _, ?_, new_row hr e esz m (repZ m ez) (by rw [repZ_length, hzl]) hm, hk _⟩
    have hmm : m < 2 ^ 63 := by simp only [maxLen] at hm; omega
    have hw : IntKind.i64.wrap (m : Int) = m := by
      simp [IntKind.wrap, IntKind.bits, IntKind.signed]; omega
    have hbytes : ((inf.bytes : Int) * (m : Int) > 2 ^ 48) = False := by
      simp only [gt_iff_lt, eq_iff_iff, iff_false, Int.not_lt]
      rw [hib]
      have : ((eb * m : Nat) : Int) ≤ 2 ^ 48 := by rw [Nat.mul_comm]; omega
      simpa using this
    have hneg : ((m : Int) < 0) = False := by simp
    have hrep : ((Array.range (m * esz)).map fun x => (if m * esz = 0 then (#[] : Array Value) else ez.toArray)[x % (if m * esz = 0 then (#[] : Array Value) else ez.toArray).size]!) = (repZ m ez).toArray := by
      by_cases h0 : m * esz = 0
      · have : m = 0 := by rcases Nat.mul_eq_zero.1 h0 with h | h <;> omega
        subst this
        simp [repZ]
      · simp only [h0, if_false]
        rw [← hzl]
        exact range_mod m ez (by omega)
    simp only [Instr.makeSlice, Sem.run_bind, run_underlying_ok hu, Result.andThen_ok, asInt, asIntOf, Sem.run_pure, typeInfo, run_program, hin, hw, hneg, decide_false, hbytes, Bool.or_false, gt_iff_lt, Int.lt_irrefl,
      Bool.false_eq_true, if_false, run_askRoom, run_sizeOf_ok hin, his, Int.toNat_natCast]
    by_cases h0 : m * esz = 0
    · simp only [h0, if_true] at hrep
      simp [newRow, h0]
      rw [← hrep]
      simp
    · simp only [h0, if_false] at hrep
      simp [newRow, h0, run_zeroValue_ok hin hz, hzc]
      rw [← hrep]
      simp
  · exact h1.elim

end
end Go.Proofs.Ytohdcmkooedkcaa.A
