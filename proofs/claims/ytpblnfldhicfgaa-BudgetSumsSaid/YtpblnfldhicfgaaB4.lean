/- dioramaref04: products and comparisons; dioramaref01: Take. -/
import Derived.Test.YtpblnfldhicfgaaB3
namespace Go.Proofs.Ytpblnfldhicfgaa.A
open Go Go.RowKit
set_option linter.unusedVariables false
set_option linter.unusedSimpArgs false
set_option maxRecDepth 4000

theorem mulI {a b : Fr} (ha : okF a) (hb : okF b) : I64 (a.P * b.P) := by
  have h1 := ha.bd; have h2 := hb.bd
  rcases Int.le_total 0 b.P with h | h
  · have := mulB h1.1 h1.2.1 h h2.2.1; omega
  · have := mulB h1.1 h1.2.1 (show 0 ≤ -b.P by omega) (show -b.P ≤ 2147483648 by omega)
    rw [Int.mul_neg] at this; omega
theorem mulD {a b : Fr} (ha : okF a) (hb : okF b) : I64 (den a * den b) := by
  have h1 := ha.den; have h2 := hb.den
  have := mulB (show -2147483648 ≤ den a by omega) h1.2 (show 0 ≤ den b by omega) h2.2; omega
theorem mulP {a b : Fr} (ha : okF a) (hb : okF b) : I64 (a.P * den b) := by
  have h1 := ha.bd; have h2 := hb.den
  have := mulB h1.1 h1.2.1 (show 0 ≤ den b by omega) h2.2; omega

theorem c_Mul04 (a b : Fr) (ha : a.I) (hb : b.I) (H : Hp) (R : Ending → Hp → Prop) (hR : R (.returned (.tuple #[(mulF a b).1.v, .int .i64 (mulF a b).2])) H) : ACalls Try.prog 61 [a.v, b.v] H R := by
  refine acalls_code hT Try.func61 rfl rfl ?_
  conv => whnf
  intro g
  conv => whnf
  intro g'
  conv => whnf
  intro r
  conv => whnf
  refine ldA 2 rfl rfl ?_
  conv => whnf
  by_cases h1 : okF a
  · refine c_ValidT h1 _ _ ?_
    conv => whnf
    refine ldA 1 rfl rfl ?_
    conv => whnf
    by_cases h2 : okF b
    · refine c_ValidT h2 _ _ ?_
      rw [show mulF a b = mkF (a.P * b.P) (den a * den b) from if_pos ⟨h1, h2⟩] at hR
      conv => whnf
      refine awp_drawQ hT hM 13 (by kernel_rfl) ?_
      conv => whnf
      refine ldS 2 rfl rfl ?_
      conv => whnf
      refine ldS 1 rfl rfl ?_
      conv => whnf
      refine ⟨_, wi (mulI h1 h2), ?_⟩
      conv => whnf
      refine ldA 2 rfl rfl ?_
      conv => whnf
      refine c_Den a ha _ _ ⟨Weak.refl _, ?_⟩
      conv => whnf
      refine ldA 1 rfl rfl ?_
      conv => whnf
      refine c_Den b hb _ _ ⟨Weak.refl _, ?_⟩
      conv => whnf
      refine ⟨_, wi (mulD h1 h2), ?_⟩
      conv => whnf
      refine c_Make04 _ _ (mulI h1 h2) (mulD h1 h2) _ _ ⟨Weak.refl _, ?_⟩
      conv => whnf
      refine stC 0 rfl rfl (by first | (refine ⟨rfl, ?_⟩; repeat' (first | exact trivial | refine ⟨rfl, ?_⟩)) | simp [oneCells, Value.oneCell', setN]) ?_
      conv => whnf
      refine ⟨rfl, ?_⟩
      conv => whnf
      refine ldA 0 rfl rfl ?_
      conv => whnf
      exact fin (weakK 3 rfl) hR
    · refine c_ValidN hb h2 _ _ ?_
      conv => whnf
      refine stC 0 rfl rfl (by first | (refine ⟨rfl, ?_⟩; repeat' (first | exact trivial | refine ⟨rfl, ?_⟩)) | simp [oneCells, Value.oneCell', setN]) ?_
      conv => whnf
      refine ⟨rfl, ?_⟩
      conv => whnf
      refine ldA 0 rfl rfl ?_
      conv => whnf
      rw [show mulF a b = (⟨0, 0⟩, 1) from if_neg (by simp_all)] at hR
      exact fin (weakK 3 rfl) hR
  · refine c_ValidN ha h1 _ _ ?_
    conv => whnf
    refine stC 0 rfl rfl (by first | (refine ⟨rfl, ?_⟩; repeat' (first | exact trivial | refine ⟨rfl, ?_⟩)) | simp [oneCells, Value.oneCell', setN]) ?_
    conv => whnf
    refine ⟨rfl, ?_⟩
    conv => whnf
    refine ldA 0 rfl rfl ?_
    conv => whnf
    rw [show mulF a b = (⟨0, 0⟩, 1) from if_neg (by simp_all)] at hR
    exact fin (weakK 3 rfl) hR

theorem c_Compare04 (a b : Fr) (ha : a.I) (hb : b.I) (H : Hp) (R : Ending → Hp → Prop) (hR : R (.returned (.int .i64 (cmpF a b))) H) : ACalls Try.prog 60 [a.v, b.v] H R := by
  refine acalls_code hT Try.func60 rfl rfl ?_
  conv => whnf
  intro g
  conv => whnf
  intro g'
  conv => whnf
  refine ldA 1 rfl rfl ?_
  conv => whnf
  by_cases h1 : okF a
  · refine c_ValidT h1 _ _ ?_
    conv => whnf
    refine ldA 0 rfl rfl ?_
    conv => whnf
    by_cases h2 : okF b
    · refine c_ValidT h2 _ _ ?_
      rw [show cmpF a b = _ from if_pos ⟨h1, h2⟩] at hR
      conv => whnf
      refine awp_drawQ hT hM 5 (by kernel_rfl) ?_
      conv => whnf
      refine ldS 1 rfl rfl ?_
      conv => whnf
      refine ldA 0 rfl rfl ?_
      conv => whnf
      refine c_Den b hb _ _ ⟨Weak.refl _, ?_⟩
      conv => whnf
      refine ⟨_, wi (mulP h1 h2), ?_⟩
      conv => whnf
      refine awp_drawQ hT hM 5 (by kernel_rfl) ?_
      conv => whnf
      refine ldS 0 rfl rfl ?_
      conv => whnf
      refine ldA 1 rfl rfl ?_
      conv => whnf
      refine c_Den a ha _ _ ⟨Weak.refl _, ?_⟩
      conv => whnf
      refine ⟨_, wi (mulP h2 h1), ?_⟩
      conv => whnf
      refine ifC_dec (fun h3 => ?_) (fun h3 => ?_)
      · conv => whnf
        refine ⟨rfl, ?_⟩
        conv => whnf
        exact fin (weakK 2 rfl) (by simpa [h3] using hR)
      · conv => whnf
        refine ifC_dec (fun h4 => ?_) (fun h4 => ?_)
        · conv => whnf
          refine ⟨rfl, ?_⟩
          conv => whnf
          exact fin (weakK 2 rfl) (by simpa [h3, h4] using hR)
        · conv => whnf
          refine ⟨rfl, ?_⟩
          conv => whnf
          exact fin (weakK 2 rfl) (by simpa [h3, h4] using hR)
    · refine c_ValidN hb h2 _ _ ?_
      conv => whnf
      refine ⟨rfl, ?_⟩
      conv => whnf
      rw [show cmpF a b = 0 from if_neg (by simp_all)] at hR
      exact fin (weakK 2 rfl) hR
  · refine c_ValidN ha h1 _ _ ?_
    conv => whnf
    refine ⟨rfl, ?_⟩
    conv => whnf
    rw [show cmpF a b = 0 from if_neg (by simp_all)] at hR
    exact fin (weakK 2 rfl) hR
end Go.Proofs.Ytpblnfldhicfgaa.A
