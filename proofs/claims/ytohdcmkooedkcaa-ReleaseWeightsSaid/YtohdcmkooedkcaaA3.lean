/- What an operation is told to do, it does: from each world that is told by the heap before it to one that is told by the heap behind it. -/
import Derived.Test.YtohdcmkooedkcaaA2
namespace Go.Proofs.Ytohdcmkooedkcaa.A
open Go Go.RowKit
set_option linter.unusedVariables false
set_option linter.unusedSimpArgs false

def OpRes (P : Program) (w0 : World) (F : List Atom) (K : Value → Hp → Prop) (E : List PanicEntry → Hp → Prop) : Result Next → Prop
  | .ok (.value v) w' => ∃ H', RepF w0 F H' w' ∧ K v H'
  | .ok .skip w' => ∃ H', RepF w0 F H' w' ∧ K undef H'
  | .ok (.enter f args) w' => Calls P f args w' fun e w'' => ∃ H', RepF w0 F H' w'' ∧ callK K E e H'
  | .halt (.panic v) w' => ∃ H', RepF w0 F H' w' ∧ E [{ v, recovered := false }] H'
  | _ => False

section
variable {P : Program} {w0 w : World} {F : List Atom} {H : Hp} {K : Value → Hp → Prop} {E : List PanicEntry → Hp → Prop}

theorem opRes_pure {v : Value} {r : Result Next} (hr : RepF w0 F H w) (h : r = .ok (.value v) w) (hK : K v H) : OpRes P w0 F K E r := by
  subst h; exact ⟨H, hr, hK⟩

theorem MCell.cell? {M : Nat → Option Obj} {g i : Nat} {v : Value} (h : MCell M g i v) (hM : ∀ g o, M g = some o → w.heap[g]? = some o) : w.cell? ⟨g, i, none⟩ = some v := by
  obtain ⟨c, e, fz, h1, h2⟩ := h
  simp [World.cell?, hM g _ h1, h2]

theorem Atom.cell_cell? {a : Atom} {g i : Nat} {v : Value} (h : a.cell g i v) (hh : a.holds w) : w.cell? ⟨g, i, none⟩ = some v := by
  cases a with
  | row x e sz xs =>
    cases x with
    | slice p n c =>
      cases p with
      | none => exact h.elim
      | some ad =>
        obtain ⟨rfl, hle, hx⟩ := h
        rcases hh with ⟨h1, _⟩ | ⟨g', o, n', cap, c', h1, hb, _, _, _, _, hc⟩
        · cases h1
        · obtain ⟨rfl, rfl, rfl⟩ : ad = ⟨g', o, none⟩ ∧ n = n' ∧ c = cap := by simpa using h1
          have hlt : i - o < xs.length := (List.getElem?_eq_some_iff.1 hx).1
          have := hc (i - o) hlt
          rw [show o + (i - o) = i by simp only at hle; omega] at this
          simp only [World.cell?, hb]
          simpa [this] using hx
    | _ => exact h.elim
  | cells g' e cs =>
    obtain ⟨rfl, hx⟩ := h
    have hb : w.heap[g]? = some (.cells cs.toArray e (0, 0)) := hh
    simp [World.cell?, hb, hx]
  | obj g' o => exact h.elim

theorem Rep.cell? {H : Hp} (h : Rep w0 H w) {g i : Nat} {v : Value} (hc : H.cell g i v) : w.cell? ⟨g, i, none⟩ = some v := by
  rcases hc with hc | ⟨a, ha, hc⟩
  · exact hc.cell? h.M
  · exact Atom.cell_cell? hc (h.holds a ha)

theorem Hp.cell_frame {g i : Nat} {v : Value} (h : H.cell g i v) : (⟨H.M, H.L ++ F⟩ : Hp).cell g i v := by
  rcases h with h | ⟨a, ha, h⟩
  · exact .inl h
  · exact .inr ⟨a, List.mem_append_left _ ha, h⟩

theorem RepF.cell? (h : RepF w0 F H w) {g i : Nat} {v : Value} (hc : H.cell g i v) : w.cell? ⟨g, i, none⟩ = some v := Rep.cell? h (Hp.cell_frame hc)

theorem add_none (g o n : Nat) : (⟨g, o, none⟩ : Addr).add n = ⟨g, o + n, none⟩ := by
  unfold Addr.add; split <;> simp_all

theorem run_underlying_ok {t : TypeId} {d : TypeDesc} (h : P.underlying t = some d) : (underlying t).run P w = .ok d w := by
  simp [underlying, h]

theorem run_isAgg_ok {t : TypeId} {d : TypeDesc} (h : P.underlying t = some d) : (isAgg t).run P w = .ok (aggD d) w := by
  simp only [isAgg, Sem.run_bind, run_underlying_ok h, Result.andThen_ok]
  cases d <;> rfl

theorem run_sizeOf_ok {t : TypeId} {i : TypeInfo} (h : P.info? t = some i) : (sizeOf t).run P w = .ok i.size w := by
  simp [sizeOf, typeInfo, h]

theorem run_zeroValue_ok {t : TypeId} {i : TypeInfo} {v : Value} (h : P.info? t = some i) (hz : i.zero = some v) : (zeroValue t).run P w = .ok v w := by
  simp [zeroValue, typeInfo, h, hz]

theorem TD.agg_eq {t : TypeId} {d : TD} (h : d.ok P t) : ∃ d', P.underlying t = some d' ∧ aggD d' = d.agg := by
  cases d with
  | int k => exact ⟨_, h, rfl⟩
  | bool => exact ⟨_, h, rfl⟩
  | str => exact ⟨_, h, rfl⟩
  | ptr => obtain ⟨e, i, h, _⟩ := h; exact ⟨_, h, rfl⟩
  | func => obtain ⟨a, b, c, h⟩ := h; exact ⟨_, h, rfl⟩
  | iface => obtain ⟨ms, h⟩ := h; exact ⟨_, h, rfl⟩
  | slice e a b c => exact ⟨_, h.1, rfl⟩
  | arr n a b => obtain ⟨e, i, d, h, _⟩ := h; exact ⟨_, h, rfl⟩
  | map k e z => exact ⟨_, h.1, rfl⟩
  | struct fs => obtain ⟨f, h, _⟩ := h; exact ⟨_, h, rfl⟩

theorem run_loadVar_ok {t : TypeId} {i : TI} (hi : i.ok P t) {g o : Nat} (hr : RepF w0 F H w) {v : Value}
    (h : (i.d.agg = true ∧ ∃ vs : List Value, vs.length = i.size ∧ CellsAt H g o vs ∧ v = .agg vs.toArray) ∨ (i.d.agg = false ∧ H.cell g o v)) :
    (loadVar t ⟨g, o, none⟩).run P w = .ok v w := by
  obtain ⟨hd, ⟨info, zv, hinfo, hsz, _⟩, _⟩ := hi
  obtain ⟨d', hu, hag⟩ := TD.agg_eq hd
  simp only [loadVar, Sem.run_bind, run_isAgg_ok hu, Result.andThen_ok, hag]
  rcases h with ⟨ha, vs, hl, hc, rfl⟩ | ⟨ha, hc⟩
  · have hcells : (loadCells ⟨g, o, none⟩ vs.length).run P w = .ok vs.toArray w := by
      refine run_loadCells_list w _ vs fun j v hj => ?_
      rw [add_none]
      exact hr.cell? (hc j v hj)
    simp only [ha, if_true, Sem.run_bind, run_sizeOf_ok hinfo, hsz, ← hl, Result.andThen_ok, hcells, Sem.run_pure]
  · simp [ha, run_load, hr.cell? hc]

theorem loadF_ok {T : Tab} (hT : Tab.okFrom P 0 T) {t : Nat} {x : Value} {K' : Value → Prop} (hr : RepF w0 F H w) (h : loadF T t x H K') :
    ∃ v, (Instr.loadAt t x).run P w = .ok v w ∧ K' v := by
  unfold loadF at h
  obtain ⟨i, hi, h⟩ := tyF_get h
  have hok := Tab.okFrom_get T 0 t i hT hi
  rw [Nat.zero_add] at hok
  split at h
  · rename_i g o
    rcases ifC_out h with ⟨ha, vs, hl, hc, hk⟩ | ⟨ha, v, hc, hk⟩
    · exact ⟨_, by simp only [Instr.loadAt, Instr.sureAddr, Sem.run_bind, Sem.run_pure, Result.andThen_ok]; exact run_loadVar_ok hok hr (.inl ⟨ha, vs, hl, hc, rfl⟩), hk⟩
    · exact ⟨_, by simp only [Instr.loadAt, Instr.sureAddr, Sem.run_bind, Sem.run_pure, Result.andThen_ok]; exact run_loadVar_ok hok hr (.inr ⟨ha, hc⟩), hk⟩
  · exact h.elim

/-! ### Writing -/
theorem setN_length : ∀ (vs cs : List Value) (o : Nat), (setN cs o vs).length = cs.length
  | [], _, _ => rfl
  | v :: vs, cs, o => by simp [setN, setN_length vs]
theorem setN_snoc : ∀ (vs cs : List Value) (o : Nat) (v : Value), setN cs o (vs ++ [v]) = (setN cs o vs).set (o + vs.length) v
  | [], cs, o, v => by simp [setN]
  | u :: vs, cs, o, v => by
    simp only [List.cons_append, setN, setN_snoc vs]
    congr 1
    simp; omega

theorem oneCells_mem : ∀ {vs : List Value}, oneCells vs → ∀ v ∈ vs, v.oneCell' = true
  | [], _, v, h => by simp at h
  | u :: vs, h, v, hv => by
    rcases List.mem_cons.1 hv with rfl | hv
    · exact h.1
    · exact oneCells_mem h.2 v hv

/-- One cell of a block of cells. -/
theorem run_store_one {g o : Nat} {v : Value} (h1 : v.oneCell' = true) {u : Value} (hc : w.cell? ⟨g, o, none⟩ = some u) (hf : w.frozen? ⟨g, o, none⟩ = false) :
    (store ⟨g, o, none⟩ v).run P w = .ok () (w.setCell ⟨g, o, none⟩ v) := by
  rw [run_store P w _ v .plain h1]
  simp [hc, hf]

theorem heap_setCell_cells {g o : Nat} {v : Value} {c : Array Value} {e : TypeId} {fz : Nat × Nat} (h : w.heap[g]? = some (.cells c e fz)) :
    (w.setCell ⟨g, o, none⟩ v).heap[g]? = some (.cells (c.setIfInBounds o v) e fz) := by
  simp [World.setCell, Array.getElem?_modify, h]

/-- Cells of one block, one after the other. -/
theorem run_storeCells_block {g : Nat} {e : TypeId} : ∀ (vs : List Value) (o i : Nat) (c : Array Value) (w : World), w.heap[g]? = some (.cells c e (0, 0)) → o + i + vs.length ≤ c.size → (∀ v ∈ vs, v.oneCell' = true) →
    ∃ w' c', (storeCells ⟨g, o, none⟩ vs i).run P w = .ok () w' ∧ Keeps (fun k => k = g) w w' ∧ w'.heap[g]? = some (.cells c' e (0, 0)) ∧ c'.toList = setN c.toList (o + i) vs := by
  intro vs
  induction vs with
  | nil => intro o i c w hb _ _; exact ⟨w, c, by simp [storeCells], Keeps.refl _ w, hb, rfl⟩
  | cons v vs ih =>
    intro o i c w hb hl h1
    simp only [List.length_cons] at hl
    have hc : w.cell? ⟨g, o + i, none⟩ = some (c[o + i]'(by omega)) := by simp [World.cell?, hb]
    have hf : w.frozen? ⟨g, o + i, none⟩ = false := by simp [World.frozen?, hb]
    have hs := run_store_one (P := P) (h1 v (List.mem_cons_self ..)) hc hf
    have hb' := heap_setCell_cells (o := o + i) (v := v) hb
    obtain ⟨w', c', hr, hk, hh, ht⟩ := ih o (i + 1) (c.setIfInBounds (o + i) v) (w.setCell ⟨g, o + i, none⟩ v) hb' (by simp; omega) fun u hu => h1 u (List.mem_cons_of_mem _ hu)
    refine ⟨w', c', ?_, Keeps.trans (Keeps.setCell w ⟨g, o + i, none⟩ v) hk, hh, ?_⟩
    · simp only [storeCells, Sem.run_bind, add_none, hs, Result.andThen_ok]
      exact hr
    · rw [ht]; simp [setN, Nat.add_assoc]

theorem setN_getElem? : ∀ (vs cs : List Value) (o j : Nat), o + vs.length ≤ cs.length → (setN cs o vs)[j]? = if o ≤ j ∧ j < o + vs.length then vs[j - o]? else cs[j]? := by
  intro vs
  induction vs with
  | nil => intro cs o j _; simp [setN]; omega
  | cons v vs ih =>
    intro cs o j h
    simp only [List.length_cons] at h
    rw [setN, ih _ _ _ (by simp; omega)]
    by_cases h1 : o + 1 ≤ j ∧ j < o + 1 + vs.length
    · rw [if_pos h1, if_pos (by simp; omega)]
      rw [show j - o = (j - (o + 1)) + 1 by omega]
      simp
    · rw [if_neg h1]
      by_cases h2 : j = o
      · subst h2
        rw [if_pos (by simp), List.getElem?_set_self (by omega)]
        simp
      · rw [if_neg (by simp; omega), List.getElem?_set_ne (by omega)]

theorem storeTo_ok {g o : Nat} {vs : List Value} {L' : List Atom} (hr : RepF w0 F H w) (h : StoreTo H.L g o vs L') (h1 : ∀ v ∈ vs, v.oneCell' = true) :
    ∃ w', (storeCells ⟨g, o, none⟩ vs 0).run P w = .ok () w' ∧ RepF w0 F ⟨H.M, L'⟩ w' := by
  rcases h with ⟨i, e, cs, hi, hl, rfl⟩ | ⟨i, o', n, cap, e, sz, xs, hi, hle, hl, rfl⟩
  · have hi' : (H.L ++ F)[i]? = some (.cells g e cs) := by rw [List.getElem?_append_left (List.getElem?_eq_some_iff.1 hi).1]; exact hi
    have hlt : i < H.L.length := (List.getElem?_eq_some_iff.1 hi).1
    have hb : w.heap[g]? = some (.cells cs.toArray e (0, 0)) := hr.holds _ (List.mem_of_getElem? hi')
    obtain ⟨w', c', hrun, hk, hh, ht⟩ := run_storeCells_block (P := P) vs o 0 cs.toArray w hb (by simpa using hl) h1
    refine ⟨w', hrun, ?_⟩
    have := Rep.replace (a' := .cells g e (setN cs o vs)) hr hi' (hk.mono fun k e => by subst e; rfl) ?_ fun k hk => .inl hk
    · unfold RepF; rw [← List.set_append_left _ _ hlt]; exact this
    · show w'.heap[g]? = _
      rw [hh]
      congr 1
      rw [show c' = (setN cs o vs).toArray by apply Array.toList_inj.1; simpa using ht]
  · have hi' : (H.L ++ F)[i]? = some (.row (.slice (some ⟨g, o', none⟩) n cap) e sz xs) := by rw [List.getElem?_append_left (List.getElem?_eq_some_iff.1 hi).1]; exact hi
    have hlt : i < H.L.length := (List.getElem?_eq_some_iff.1 hi).1
    rcases hr.holds _ (List.mem_of_getElem? hi') with ⟨h2, _⟩ | ⟨g2, o2, n2, cap2, c, h2, hb, hn, hcap, hsz, hxl, hc⟩
    · cases h2
    · obtain ⟨⟨rfl, rfl⟩, rfl, rfl⟩ : (g = g2 ∧ o' = o2) ∧ n = n2 ∧ cap = cap2 := by simpa using h2
      have hxs : xs.length ≤ cap * sz := by rw [hxl]; exact Nat.mul_le_mul_right _ hn
      obtain ⟨w', c', hrun, hk, hh, ht⟩ := run_storeCells_block (P := P) vs o 0 c w hb (by omega) h1
      refine ⟨w', hrun, ?_⟩
      have hsize : c'.size = c.size := by rw [← Array.length_toList, ht, setN_length]; simp
      have := Rep.replace (a' := .row (.slice (some ⟨g, o', none⟩) n cap) e sz (setN xs (o - o') vs)) hr hi' (hk.mono fun k e => by subst e; rfl) ?_ fun k hk => .inl hk
      · unfold RepF; rw [← List.set_append_left _ _ hlt]; exact this
      · refine .inr ⟨g, o', n, cap, c', rfl, hh, hn, hcap, by omega, by rw [setN_length]; exact hxl, fun j hj => ?_⟩
        rw [setN_length] at hj
        rw [← Array.getElem?_toList, ht, Nat.add_zero, setN_getElem? _ _ _ _ (by simp; omega), setN_getElem? _ _ _ _ hl]
        by_cases h3 : o ≤ o' + j ∧ o' + j < o + vs.length
        · rw [if_pos h3, if_pos (by omega)]; congr 1; omega
        · rw [if_neg h3, if_neg (by omega)]; simpa using hc j hj

theorem storeF_ok {T : Tab} (hT : Tab.okFrom P 0 T) {t : Nat} {x v : Value} {K' : Hp → Prop} (hr : RepF w0 F H w) (h : storeF T t x v H K') :
    ∃ w' H', (Instr.storeAt t x v).run P w = .ok () w' ∧ RepF w0 F H' w' ∧ K' H' := by
  unfold storeF at h
  obtain ⟨i, hi, h⟩ := tyF_get h
  have hok := Tab.okFrom_get T 0 t i hT hi
  rw [Nat.zero_add] at hok
  obtain ⟨hd, ⟨info, zv, hinfo, hsz, _⟩, _⟩ := hok
  split at h
  · rename_i g o
    rw [cellsF_iff] at h
    rcases ifC_out h with ⟨hl, h1, L', hs, hk⟩ | ⟨_, h⟩
    · have hl' := Nat.eq_of_beq_eq_true hl
      obtain ⟨w', hrun, hr'⟩ := storeTo_ok (P := P) hr hs (oneCells_mem h1)
      refine ⟨w', _, ?_, hr', hk⟩
      have hl2 : v.cells.size = info.size := by rw [hsz, ← hl']; simp
      simp only [Instr.storeAt, Instr.sureAddr, Sem.run_bind, Sem.run_pure, Result.andThen_ok, storeVar, run_sizeOf_ok hinfo]
      simp only [hl2, ne_eq, not_true_eq_false, if_false]
      exact hrun
    · exact h.elim
  · exact h.elim

/-! ### New blocks -/
theorem new_cells (hr : RepF w0 F H w) (e : TypeId) (cs : List Value) : RepF w0 F ⟨H.M, .cells w.heap.size e cs :: H.L⟩ (w.alloc (.cells cs.toArray e (0, 0))) :=
  Rep.add (L := H.L ++ F) hr (Keeps.alloc _ w _) (by show (w.heap.push _)[w.heap.size]? = _; simp) fun g hg => by simp [Atom.foot] at hg; omega

theorem new_row (hr : RepF w0 F H w) (e : TypeId) (sz n : Nat) (cs : List Value) (hl : cs.length = n * sz) (hm : n ≤ maxLen) :
    RepF w0 F ⟨H.M, .row (.slice (some ⟨w.heap.size, 0, none⟩) n n) e sz cs :: H.L⟩ (w.alloc (.cells cs.toArray e (0, 0))) :=
  Rep.add (L := H.L ++ F) hr (Keeps.alloc _ w _) (.inr ⟨w.heap.size, 0, n, n, cs.toArray, rfl, by show (w.heap.push _)[w.heap.size]? = _; simp, Nat.le_refl _, hm, by simp [hl], hl, fun i hi => by simp⟩)
    fun g hg => by simp [Atom.foot] at hg; omega

theorem new_obj (hr : RepF w0 F H w) (o : Obj) : RepF w0 F ⟨H.M, .obj w.heap.size o :: H.L⟩ (w.alloc o) :=
  Rep.add (L := H.L ++ F) hr (Keeps.alloc _ w _) (by show (w.heap.push _)[w.heap.size]? = _; simp) fun g hg => by simp [Atom.foot] at hg; omega

end
end Go.Proofs.Ytohdcmkooedkcaa.A
