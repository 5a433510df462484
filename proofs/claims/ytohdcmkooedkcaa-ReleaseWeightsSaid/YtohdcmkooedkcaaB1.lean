/- dioramaref01: small functions. -/
import Derived.Test.YtohdcmkooedkcaaB0
namespace Go.Proofs.Ytohdcmkooedkcaa.A
open Go Go.RowKit
set_option linter.unusedVariables false
set_option linter.unusedSimpArgs false

def around (n m : Int) : Int := if m < 1 then 0 else (if n < 0 then -(n + 1) else n) % m
theorem around_bd (n m : Int) (hm : 0 < m) : 0 ≤ around n m ∧ around n m < m := by
  unfold around
  rw [if_neg (by omega)]
  exact ⟨Int.emod_nonneg _ (by omega), Int.emod_lt_of_pos _ hm⟩
theorem around_0 (n m : Int) : 0 ≤ around n m := by
  by_cases h : 0 < m
  · exact (around_bd n m h).1
  · simp [around, show m < 1 by omega]
theorem around_I64 {n m : Int} (hm : I64 m) : I64 (around n m) := by
  by_cases h : 0 < m
  · have := around_bd n m h; omega
  · have : around n m = 0 := by simp [around, show m < 1 by omega]
    rw [this]; omega
/-- At: an element's number, from 0 to m - 1. -/
def atv (l : List Int) (i m : Int) : Int := if i < 0 ∨ i ≥ l.length then 0 else around (geti l i) m
theorem atv_bd (l : List Int) (i m : Int) (hm : 0 < m) : 0 ≤ atv l i m ∧ atv l i m < m := by
  unfold atv
  split
  · omega
  · exact around_bd _ _ hm
theorem atv_0 (l : List Int) (i m : Int) : 0 ≤ atv l i m := by
  unfold atv
  split
  · omega
  · exact around_0 _ _

theorem c_Around (n m : Int) (hn : I64 n) (hm : I64 m) (H : Hp) (R : Ending → Hp → Prop) (hR : R (.returned (.int .i64 (around n m))) H) :
    ACalls Try.prog 14 [.int .i64 n, .int .i64 m] H R := by
  refine acalls_code hT Try.func14 rfl rfl ?_
  conv => whnf
  repeat (refine ⟨_, wi (by omega), ?_⟩; conv => whnf)
  refine ifC_dec (fun h => ?_) (fun h => ?_)
  · conv => whnf
    repeat (refine ⟨_, wi (by omega), ?_⟩; conv => whnf)
    refine ifC_dec (fun h1 => ?_) (fun h1 => ?_)
    · conv => whnf
      repeat (refine ⟨_, wi (by omega), ?_⟩; conv => whnf)
      refine ⟨rfl, ?_⟩
      conv => whnf
      refine fin (Weak.refl _) ?_
      simpa [around, h, h1] using hR
    · conv => whnf
      repeat (refine ⟨_, wi (by omega), ?_⟩; conv => whnf)
      refine ⟨by omega, _, rfl, ?_⟩
      conv => whnf
      repeat (refine ⟨_, wi (by omega), ?_⟩; conv => whnf)
      refine ⟨rfl, ?_⟩
      conv => whnf
      refine fin (Weak.refl _) ?_
      have : (0 - (n + 1)).tmod m = around n m := by
        unfold around
        rw [if_neg h1, if_pos h, Int.tmod_eq_emod_of_nonneg (by omega)]
        congr 1; omega
      rw [this]; exact hR
  · conv => whnf
    repeat (refine ⟨_, wi (by omega), ?_⟩; conv => whnf)
    refine ifC_dec (fun h1 => ?_) (fun h1 => ?_)
    · conv => whnf
      repeat (refine ⟨_, wi (by omega), ?_⟩; conv => whnf)
      refine ⟨rfl, ?_⟩
      conv => whnf
      refine fin (Weak.refl _) ?_
      simpa [around, h, h1] using hR
    · conv => whnf
      repeat (refine ⟨_, wi (by omega), ?_⟩; conv => whnf)
      refine ⟨by omega, _, rfl, ?_⟩
      conv => whnf
      repeat (refine ⟨_, wi (by omega), ?_⟩; conv => whnf)
      refine ⟨rfl, ?_⟩
      conv => whnf
      refine fin (Weak.refl _) ?_
      have : n.tmod m = around n m := by
        unfold around
        rw [if_neg h1, if_neg h, Int.tmod_eq_emod_of_nonneg (by omega)]
      rw [this]; exact hR

theorem c_At (v : Value) (l : List Int) (i m : Int) (hm : I64 m) (H : Hp) (hv : IntsAt H v l) (R : Ending → Hp → Prop) (hR : R (.returned (.int .i64 (atv l i m))) H) :
    ACalls Try.prog 21 [v, .int .i64 i, .int .i64 m] H R := by
  obtain ⟨p, c, rfl, hlc, hc⟩ := hv.open
  refine acalls_code hT Try.func21 rfl rfl ?_
  conv => whnf
  repeat (refine ⟨_, wi (by omega), ?_⟩; conv => whnf)
  refine ifC_dec (fun h => ?_) (fun h => ?_)
  · conv => whnf
    repeat (refine ⟨_, wi (by omega), ?_⟩; conv => whnf)
    refine ⟨rfl, ?_⟩
    conv => whnf
    refine fin (Weak.refl _) ?_
    simpa [atv, h] using hR
  · conv => whnf
    repeat (refine ⟨_, wi (by omega), ?_⟩; conv => whnf)
    refine ifC_dec (fun h1 => ?_) (fun h1 => ?_)
    · conv => whnf
      repeat (refine ⟨_, wi (by omega), ?_⟩; conv => whnf)
      refine ⟨rfl, ?_⟩
      conv => whnf
      refine fin (Weak.refl _) ?_
      simpa [atv, h1] using hR
    · conv => whnf
      obtain ⟨g, o, rfl, hcell⟩ := hc i (by omega) (by omega)
      refine ⟨g, o, rfl, by omega, ?_⟩
      conv => whnf
      refine ⟨_, hcell, ?_⟩
      conv => whnf
      refine c_Around _ _ (hv.get (by omega) (by omega)) hm _ _ ?_
      conv => whnf
      refine ⟨rfl, ?_⟩
      conv => whnf
      refine fin (Weak.refl _) ?_
      simpa [atv, h, h1] using hR
end Go.Proofs.Ytohdcmkooedkcaa.A
