/- dioramaref01: SameInts. -/
import Derived.Test.YtohdcmkooedkcaaK1
namespace Go.Proofs.Ytohdcmkooedkcaa.A
open Go Go.RowKit
set_option linter.unusedVariables false
set_option linter.unusedSimpArgs false
set_option maxRecDepth 4000

theorem c_SameInts (v v' : Value) (l m : List Int) (H : Hp) (hv : IntsAt H v l) (hv' : IntsAt H v' m) (R : Ending → Hp → Prop) (hR : R (.returned (.bool (decide (l = m)))) H) :
    ACalls Try.prog 11 [v, v'] H R := by
  obtain ⟨p, c, rfl, hlc, hc⟩ := hv.open
  obtain ⟨p', c', rfl, hlc', hc'⟩ := hv'.open
  have hb := hv.len
  refine acalls_code hT Try.func11 rfl rfl ?_
  conv => whnf
  refine ifC_dec (fun h => ?_) (fun h => ?_)
  · conv => whnf
    repeat (refine ⟨_, wi (by omega), ?_⟩; conv => whnf)
    refine ⟨rfl, ?_⟩
    conv => whnf
    refine fin (Weak.refl _) ?_
    have : ¬ l = m := fun e => by subst e; exact h rfl
    simpa [this] using hR
  · have hlen : l.length = m.length := by omega
    conv => whnf
    refine awp_loopL hT 26 [0, 1, 5] (fun n vs H' => ∃ k : Nat, vs = [.slice p l.length c, .slice p' m.length c', .int .i64 k] ∧ n + k = l.length ∧ l.take k = m.take k ∧ H' = H) l.length rfl rfl (Weak.refl _) ⟨0, rfl, rfl, rfl, rfl⟩ ?_
    rintro n u vs H' ⟨k, rfl, hk, ht, rfl⟩
    conv => whnf
    refine ifC_dec (fun h1 => ?_) (fun h1 => ?_)
    · conv => whnf
      obtain ⟨g, o, rfl, hcell⟩ := hc k (by omega) (by omega)
      obtain ⟨g', o', rfl, hcell'⟩ := hc' k (by omega) (by omega)
      refine awp_drawQ hT hM 9 (by kernel_rfl) ?_
      conv => whnf
      refine ⟨g, o, rfl, by omega, ?_⟩
      conv => whnf
      refine ⟨_, hcell, ?_⟩
      conv => whnf
      refine ⟨g', o', rfl, by omega, ?_⟩
      conv => whnf
      refine ⟨_, hcell', ?_⟩
      conv => whnf
      have hkl : k < l.length := by omega
      have hkm : k < m.length := by omega
      have e1 : geti l k = l[k] := by simp [geti, List.getD_eq_getElem?_getD, hkl]
      have e2 : geti m k = m[k] := by simp [geti, List.getD_eq_getElem?_getD, hkm]
      refine ifC_dec (fun h2 => ?_) (fun h2 => ?_)
      · conv => whnf
        refine ⟨rfl, ?_⟩
        conv => whnf
        refine fin (Weak.refl _) ?_
        have : ¬ l = m := fun e => by subst e; exact h2 rfl
        simpa [this] using hR
      · conv => whnf
        repeat (refine ⟨_, wi (by omega), ?_⟩; conv => whnf)
        refine ⟨rfl, rfl, n - 1, _, by omega, Weak.refl _, k + 1, rfl, by omega, ?_, rfl⟩
        rw [List.take_succ_eq_append_getElem hkl, List.take_succ_eq_append_getElem hkm, ht, ← e1, ← e2]
        congr 2
        exact Classical.not_not.1 h2
    · conv => whnf
      refine ⟨rfl, ?_⟩
      conv => whnf
      refine fin (Weak.refl _) ?_
      have : l = m := by
        have h0 : k = l.length := by omega
        subst h0
        rw [List.take_length, hlen, List.take_length] at ht
        exact ht
      simpa [this] using hR

end Go.Proofs.Ytohdcmkooedkcaa.A
