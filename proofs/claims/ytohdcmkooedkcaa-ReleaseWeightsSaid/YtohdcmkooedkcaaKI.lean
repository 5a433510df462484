/- Increasing lists; what sorting keeps. -/
import Derived.Test.YtohdcmkooedkcaaKS
namespace Go.Proofs.Ytohdcmkooedkcaa.A
open Go Go.RowKit
set_option linter.unusedVariables false
set_option linter.unusedSimpArgs false

/-! ### Increasing lists -/
abbrev Inc (l : List Int) : Prop := l.Pairwise (· < ·)
theorem inc_ext : ∀ {l m : List Int}, Inc l → Inc m → (∀ x, x ∈ l ↔ x ∈ m) → l = m
  | [], [], _, _, _ => rfl
  | [], b :: m, _, _, h => absurd ((h b).2 List.mem_cons_self) (by simp)
  | a :: l, [], _, _, h => absurd ((h a).1 List.mem_cons_self) (by simp)
  | a :: l, b :: m, h1, h2, h => by
    obtain ⟨h1a, h1l⟩ := List.pairwise_cons.1 h1
    obtain ⟨h2b, h2m⟩ := List.pairwise_cons.1 h2
    have e : a = b := by
      have ha := (h a).1 List.mem_cons_self
      have hb := (h b).2 List.mem_cons_self
      rcases List.mem_cons.1 ha with e | ha
      · exact e
      · rcases List.mem_cons.1 hb with e | hb
        · exact e.symm
        · have := h2b a ha; have := h1a b hb; omega
    subst e
    congr 1
    refine inc_ext h1l h2m fun x => ?_
    constructor
    · intro hx
      have := h1a x hx
      rcases List.mem_cons.1 ((h x).1 (List.mem_cons_of_mem _ hx)) with e | hx'
      · omega
      · exact hx'
    · intro hx
      have := h2b x hx
      rcases List.mem_cons.1 ((h x).2 (List.mem_cons_of_mem _ hx)) with e | hx'
      · omega
      · exact hx'
theorem inc_nodup {l : List Int} (h : Inc l) : l.Nodup := h.imp fun {a b} h e => by omega
theorem inc_len {l : List Int} {n : Nat} (h : Inc l) (hb : ∀ x ∈ l, 0 ≤ x ∧ x < n) : l.length ≤ n := by
  have hnd := inc_nodup h
  have hsub : (l.map Int.toNat) ⊆ List.range n := fun y hy => by
    obtain ⟨x, hx, rfl⟩ := List.mem_map.1 hy
    have := hb x hx
    exact List.mem_range.2 (by omega)
  have hnd' : (l.map Int.toNat).Nodup := by
    refine (List.pairwise_map.2 ((List.Pairwise.and_mem.1 h).imp ?_))
    rintro a b ⟨ha, hb', hlt⟩ e
    have := hb a ha
    have := hb b hb'
    omega
  have := hnd'.length_le_of_subset hsub
  simpa using this
theorem srt_sorted (l : List Int) : (srt l).Pairwise (· ≤ ·) := by
  have := List.pairwise_mergeSort (le := fun x y : Int => decide (x ≤ y)) (by intro a b c h1 h2; simp at *; omega) (by intro a b; simp; omega) l
  exact this.imp fun {a b} h => by simpa using h
theorem mem_srt (l : List Int) (x : Int) : x ∈ srt l ↔ x ∈ l := List.mem_mergeSort
end Go.Proofs.Ytohdcmkooedkcaa.A
