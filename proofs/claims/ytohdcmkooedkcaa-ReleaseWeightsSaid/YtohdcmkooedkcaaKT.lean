/- dioramaref01: Take. -/
import Derived.Test.YtohdcmkooedkcaaK1
namespace Go.Proofs.Ytohdcmkooedkcaa.A
open Go Go.RowKit
set_option linter.unusedVariables false
set_option linter.unusedSimpArgs false
set_option maxRecDepth 4000

/-- Take: at most n elements. -/
theorem c_Take (v : Value) (l : List Int) (n : Nat) (H : Hp) (hv : IntsAt H v l) (hn : n ≤ 1000) (R : Ending → Hp → Prop)
    (hR : ∀ v', RowVal v' 1 (ints (l.take n)) → R (.returned v') ⟨H.M, .row v' 3 1 (ints (l.take n)) :: H.L⟩) : ACalls Try.prog 22 [v, .int .i64 n] H R := by
  obtain ⟨p, k, c, rfl, hnc, hl, hc⟩ := hv.reads
  rw [ints_length, Nat.mul_one] at hl
  subst hl
  have hb := hv.len
  refine acalls_code hT Try.func22 rfl rfl ?_
  conv => whnf
  refine ⟨min l.length n, by split <;> omega, by omega, ?_⟩
  conv => whnf
  refine ⟨H.M, H.L, [], ints (l.take n), ?_, ints_one _, weakNil H 3 1, ?_, ?_, ?_⟩
  · refine ⟨_, _, _, rfl, by omega, by simp [ints_length, List.length_take, Nat.min_comm], fun h0 => ?_⟩
    obtain ⟨g, o, rfl, hcells⟩ := hc (by omega)
    have : subAddr (some ⟨g, o, none⟩) c 0 1 = some ⟨g, o, none⟩ := by
      unfold subAddr
      split
      · rfl
      · simp [Addr.add]
    refine ⟨g, o, this, fun j u hj => hcells j u ?_⟩
    simp only [ints, List.getElem?_map, List.getElem?_take] at hj ⊢
    split at hj
    · exact hj
    · simp at hj
  · simp [ints_length, List.length_take]; omega
  · simp [ints_length, List.length_take, maxLen]; omega
  intro v' hv'
  conv => whnf
  refine ⟨rfl, ?_⟩
  conv => whnf
  exact fin (Weak.refl _) (hR v' hv')

end Go.Proofs.Ytohdcmkooedkcaa.A
