/- slices.Clone, Index, Contains at ints. -/
import Derived.Test.YtjgljgkfflojbaaK1
namespace Go.Proofs.Ytjgljgkfflojbaa.A
open Go Go.RowKit
set_option linter.unusedVariables false
set_option linter.unusedSimpArgs false
set_option maxRecDepth 4000

theorem c_CloneI (v : Value) (xs : List Value) (H : Hp) (hv : Reads H v 1 xs) (h1 : ∀ u ∈ xs, u.oneCell' = true) (hlen : xs.length ≤ 1099511627776) (R : Ending → Hp → Prop)
    (hR : ∀ v', RowVal v' 1 xs → R (.returned v') ⟨H.M, .row v' 3 1 xs :: H.L⟩) : ACalls Try.prog 34 [v] H R := by
  obtain ⟨p, n, c, rfl, hl, hnil⟩ := reads_len hv
  refine acalls_code hT Try.func34 rfl rfl ?_
  conv => whnf
  refine ifC_cases (fun h => ?_) (fun h => ?_)
  · conv => whnf
    refine ⟨rfl, ?_⟩
    conv => whnf
    rw [hnil h] at hR
    exact fin (weakNil H 3 1) (hR _ (.inl ⟨rfl, rfl⟩))
  · conv => whnf
    intro g
    conv => whnf
    refine ⟨H.M, H.L, [], xs, ?_, h1, Weak.refl _, ?_, ?_, ?_⟩
    · exact hv.mono (HLe.cons H _)
    · simp; omega
    · simp [maxLen]; omega
    intro v' hv'
    conv => whnf
    refine ⟨rfl, ?_⟩
    conv => whnf
    exact fin (Weak.refl _) (hR v' hv')
theorem c_Index (v : Value) (l : List Int) (x : Int) (H : Hp) (hv : IntsAt H v l) (R : Ending → Hp → Prop) (hR : ∀ r, ((0 : Int) ≤ r ↔ x ∈ l) → R (.returned (.int .i64 r)) H) : ACalls Try.prog 56 [v, .int .i64 x] H R := by
  obtain ⟨p, c, rfl, hlc, hc⟩ := hv.open
  have hb := hv.len
  refine acalls_code hT Try.func56 rfl rfl ?_
  conv => whnf
  refine awp_loopL hT 19 [0, 1, 7, 8] (fun n vs H' => ∃ k : Nat, vs = [.slice p l.length c, .int .i64 x, .int .i64 l.length, .int .i64 k] ∧ n + k = l.length ∧ (l.take k).any (fun y => decide (x = y)) = false ∧ H' = H) l.length rfl rfl (Weak.refl _) ⟨0, rfl, rfl, rfl, rfl⟩ ?_
  rintro n u vs H' ⟨k, rfl, hk, ht, rfl⟩
  conv => whnf
  refine ifC_dec (fun h1 => ?_) (fun h1 => ?_)
  · have hkl : k < l.length := by omega
    conv => whnf
    obtain ⟨g, o, rfl, hcell⟩ := hc k (by omega) (by omega)
    refine ⟨g, o, rfl, by omega, ?_⟩
    conv => whnf
    refine ⟨_, hcell, ?_⟩
    conv => whnf
    refine ifC_dec (fun h2 => ?_) (fun h2 => ?_)
    · conv => whnf
      refine ⟨rfl, ?_⟩
      conv => whnf
      refine fin (Weak.refl _) (hR _ ⟨fun _ => ?_, fun _ => by omega⟩)
      rw [h2]; exact geti_mem (by omega) (by omega)
    · conv => whnf
      repeat (refine ⟨_, wi (by omega), ?_⟩; conv => whnf)
      refine ⟨rfl, rfl, n - 1, _, by omega, Weak.refl _, k + 1, rfl, by omega, any_step hkl ht ?_, rfl⟩
      rw [← geti_at hkl]; exact decide_eq_false h2
  · conv => whnf
    refine ⟨rfl, ?_⟩
    conv => whnf
    refine fin (Weak.refl _) (hR _ ⟨fun h => by omega, fun h => ?_⟩)
    have : k = l.length := by omega
    subst this
    rw [List.take_length] at ht
    have := List.any_eq_false.1 ht x h
    simp at this
theorem c_Contains (v : Value) (l : List Int) (x : Int) (H : Hp) (hv : IntsAt H v l) (R : Ending → Hp → Prop) (hR : R (.returned (.bool (decide (x ∈ l)))) H) : ACalls Try.prog 42 [v, .int .i64 x] H R := by
  refine acalls_code hT Try.func42 rfl rfl ?_
  conv => whnf
  refine c_Index v l x H hv _ ?_
  intro r hr
  conv => whnf
  refine ⟨rfl, ?_⟩
  conv => whnf
  exact fin (Weak.refl _) (okV hR (by simpa using hr))

end Go.Proofs.Ytjgljgkfflojbaa.A
