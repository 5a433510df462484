/- Rows: what an argument reads as, and the law's call. -/
import Derived.Test.YtohdcmkooedkcaaK1
import Derived.SizedLaws
import Derived.ChangeSlices
namespace Go.Proofs.Ytohdcmkooedkcaa.A
open Go Go.RowKit Go.ChangeShapes Go.WideShapes
set_option linter.unusedVariables false
set_option linter.unusedSimpArgs false

def IsRow (k : IntKind) (w : World) (a : Option Addr) (len cap : Nat) (zs : List Int) : Prop :=
  (a = none ∧ len = 0 ∧ cap = 0 ∧ zs = []) ∨
  ∃ x, a = some x ∧ len ≤ cap ∧ cap ≤ maxLen ∧ zs.length = cap ∧ (∀ i, i < zs.length → w.cell? (x.add i) = some (.int k (zs.getD i 0))) ∧ ∀ n ∈ zs, (Lit.int k n).wf = true
theorem lit_I64 {n : Int} (h : (Lit.int .i64 n).wf = true) : I64 n := by
  simp [Lit.wf, IntKind.min, IntKind.max, IntKind.bits, IntKind.signed] at h
  omega
theorem intsOf {w : World} {a : Option Addr} {len cap : Nat} {zs : List Int} (h : IsRow .i64 w a len cap zs) (y : len * 8 ≤ 140737488351232) : IntsAt ⟨fun g => w.heap[g]?, []⟩ (.slice a len cap) (zs.take len) := by
  rcases h with ⟨rfl, rfl, rfl, rfl⟩ | ⟨x, rfl, h1, h2, h3, h4, h5⟩
  · exact ⟨⟨none, 0, 0, rfl, Nat.le_refl _, rfl, fun h => absurd h (by omega)⟩, by simp, by simp⟩
  · have hl : (zs.take len).length = len := by rw [List.length_take]; omega
    refine ⟨⟨some x, len, cap, rfl, h1, by rw [ints_length, hl, Nat.mul_one], fun h0 => ?_⟩, fun z hz => lit_I64 (h5 z (List.mem_of_mem_take hz)), by rw [hl]; omega⟩
    obtain ⟨g, o, s⟩ := x
    have key : ∀ i, i < zs.length → s = none ∧ ∃ c e fz, w.heap[g]? = some (.cells c e fz) ∧ c[o + i]? = some (.int .i64 (zs.getD i 0)) := by
      intro i hi
      have hs : s = none := by
        have := h4 0 (by omega)
        simp only [Addr.add, if_pos, World.cell?] at this
        split at this
        · split at this
          · cases this
          · rename_i h; simpa using h
        · cases this
      subst hs
      refine ⟨rfl, ?_⟩
      have := h4 i hi
      have e : (Addr.mk g o none).add i = ⟨g, o + i, none⟩ := by
        unfold Addr.add
        split
        · subst_vars; rfl
        · rfl
      rw [e] at this
      simp only [World.cell?] at this
      split at this
      · rename_i c e fz hb
        exact ⟨c, e, fz, hb, by simpa using this⟩
      · cases this
    obtain ⟨rfl, _⟩ := key 0 (by omega)
    refine ⟨g, o, rfl, fun j v hj => .inl ?_⟩
    have hj' : j < len := by
      have := (List.getElem?_eq_some_iff.1 hj).1
      rw [ints_length, hl] at this; exact this
    obtain ⟨_, c, e, fz, hb, hc⟩ := key j (by omega)
    refine ⟨c, e, fz, hb, ?_⟩
    rw [hc]
    simp only [ints, List.getElem?_map, List.getElem?_take, if_pos hj'] at hj
    rw [← hj]
    simp [List.getD_eq_getElem?_getD, List.getElem?_eq_getElem (show j < zs.length by omega)]

theorem sized_row {H : Type} {enc : TypeId × Value → H} {P : Program} {W : World} {base : Nat} {spare : Nat → Bool} {held : Bool} {t e : TypeId} {k : IntKind} {a : Option Addr} {len cap : Nat} {d : DataW H} {ps : List MemPlace} {ts : List TypeId} {ds : List (DataW H)} {j : Nat}
    (hsz : (DataW.weightsEach P ts ds).all (· ≤ reachBytes) = true) (ht : ts[j]? = some t) (hd : ds[j]? = some d) (hu : P.underlying t = some (.slice e)) (he : P.underlying e = some (.int k)) (hc : P.cellsOf e = 1) (hB : P.bytesOf e = 8)
    (h : DataW.Trod enc P W base spare held t (.slice a len cap) d ps) : len * 8 ≤ 140737488351232 := by
  obtain ⟨fuel, hf⟩ := h
  rcases open_ints hu he hc hf with ⟨hcs, _⟩ | ⟨x, l, c, zs, hcs, _, hl, _, hz, hx, _, _⟩
  · simp [Value.cells] at hcs
    omega
  · simp [Value.cells] at hcs
    obtain ⟨rfl, rfl, rfl⟩ := hcs
    obtain ⟨hx, _⟩ := Prod.mk.inj hx
    subst hx
    have z := sized_slice hsz ht hd hu
    rw [hB] at z
    have hr : reachBytes = 140737488351232 := rfl
    have hl2 : len ≤ zs.length := by rw [hz]; split <;> omega
    simp only [lits, List.length_map, List.length_take, List.length_drop] at z
    omega

end Go.Proofs.Ytohdcmkooedkcaa.A
