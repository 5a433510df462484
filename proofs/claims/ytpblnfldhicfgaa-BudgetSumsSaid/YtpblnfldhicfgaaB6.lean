/- package ratio: sums, products, comparisons. -/
import Derived.Test.YtpblnfldhicfgaaB5
namespace Go.Proofs.Ytpblnfldhicfgaa.A
open Go Go.RowKit
set_option linter.unusedVariables false
set_option linter.unusedSimpArgs false
set_option maxRecDepth 4000

theorem c_bothT {a b : Fr} (ha : okF a) (hb : okF b) (H : Hp) (R : Ending → Hp → Prop) (hR : R (.returned (.tuple #[.agg #[.int .i64 a.P, .int .i64 (den a)], .agg #[.int .i64 b.P, .int .i64 (den b)], .bool true])) H) : ACalls Try.prog 43 [a.v, b.v] H R := by
  refine c_both a b ha.I hb.I H R ?_
  rw [decide_eq_true ⟨ha, hb⟩, show prF a = ⟨a.P, den a⟩ from congrArg (Fr.mk a.P) (prF_ok ha).2, show prF b = ⟨b.P, den b⟩ from congrArg (Fr.mk b.P) (prF_ok hb).2]
  exact hR
theorem c_bothN {a b : Fr} (ha : a.I) (hb : b.I) (h : ¬ (okF a ∧ okF b)) (H : Hp) (R : Ending → Hp → Prop) (hR : R (.returned (.tuple #[(prF a).v, (prF b).v, .bool false])) H) : ACalls Try.prog 43 [a.v, b.v] H R := by
  refine c_both a b ha hb H R ?_
  rw [decide_eq_false h]
  exact hR

theorem c_sum (a b : Fr) (ha : a.I) (hb : b.I) (H : Hp) (R : Ending → Hp → Prop) (hR : R (.returned (.tuple #[(addF a b).1.v, .int .i64 (addF a b).2])) H) : ACalls Try.prog 44 [a.v, b.v, .int .i64 1] H R := by
  refine acalls_code hT Try.func44 rfl rfl ?_
  conv => whnf
  intro g
  conv => whnf
  intro g'
  conv => whnf
  intro r
  conv => whnf
  refine ldA 2 rfl rfl ?_
  conv => whnf
  refine ldA 1 rfl rfl ?_
  conv => whnf
  by_cases h : okF a ∧ okF b
  · obtain ⟨h1, h2⟩ := h
    refine c_bothT h1 h2 _ _ ?_
    conv => whnf
    refine stC 2 rfl rfl (by first | (refine ⟨rfl, ?_⟩; repeat' (first | exact trivial | refine ⟨rfl, ?_⟩)) | simp [oneCells, Value.oneCell', setN]) ?_
    conv => whnf
    refine stC 1 rfl rfl (by first | (refine ⟨rfl, ?_⟩; repeat' (first | exact trivial | refine ⟨rfl, ?_⟩)) | simp [oneCells, Value.oneCell', setN]) ?_
    conv => whnf
    have hB := addB h1 h2
    have hI := hB.I h1 h2
    have hda := h1.den; have hdb := h2.den
    have hbb := h2.bd
    rw [addF_ok h1 h2] at hR
    have hgg : Nat.gcd (den a).natAbs (den b).natAbs = gF a b := rfl
    have q1 : (den a).tdiv (gF a b) = den a / gF a b := tdiv_nn (by omega)
    have q2 : (den b).tdiv (gF a b) = den b / gF a b := tdiv_nn (by omega)
    generalize gF a b = k at *
    generalize den a / k = x at *
    generalize den b / k = y at *
    refine awp_drawQ hT hM 8 (by kernel_rfl) ?_
    conv => whnf
    refine ldS 2 rfl rfl ?_
    conv => whnf
    refine c_size _ (by omega) _ _ ⟨Weak.refl _, ?_⟩
    conv => whnf
    refine ldS 1 rfl rfl ?_
    conv => whnf
    refine c_size _ (by omega) _ _ ⟨Weak.refl _, ?_⟩
    conv => whnf
    refine c_gcd _ _ (by omega) (by omega) _ _ ⟨Weak.refl _, ?_⟩
    rw [hgg]
    have := hB.g2
    conv => whnf
    repeat (refine ⟨_, wi (by omega), ?_⟩; conv => whnf)
    refine awp_drawQ hT hM 17 (by kernel_rfl) ?_
    conv => whnf
    refine ldS 2 rfl rfl ?_
    conv => whnf
    refine ldS 1 rfl rfl ?_
    conv => whnf
    refine ⟨by have := hB.g1; omega, y, by rw [q2]; exact wi (by have := hB.y1; have := hB.y2; omega), ?_⟩
    conv => whnf
    refine ⟨_, wi hI.i1, ?_⟩
    conv => whnf
    refine ldS 1 rfl rfl ?_
    conv => whnf
    refine ⟨b.P, by rw [Int.one_mul]; exact wi hb.p, ?_⟩
    conv => whnf
    refine ldS 2 rfl rfl ?_
    conv => whnf
    refine ⟨by have := hB.g1; omega, x, by rw [q1]; exact wi (by have := hB.x1; have := hB.x2; omega), ?_⟩
    conv => whnf
    refine ⟨_, wi hI.i2, ?_⟩
    conv => whnf
    refine ⟨_, wi hI.i3, ?_⟩
    conv => whnf
    refine awp_drawQ hT hM 11 (by kernel_rfl) ?_
    conv => whnf
    refine ldS 2 rfl rfl ?_
    conv => whnf
    refine ⟨by have := hB.g1; omega, x, by rw [q1]; exact wi (by have := hB.x1; have := hB.x2; omega), ?_⟩
    conv => whnf
    refine ldS 1 rfl rfl ?_
    conv => whnf
    refine ⟨x * y * k, by rw [Int.mul_assoc, hB.yg]; exact wi (by have := hI.i5; rw [Int.mul_assoc, hB.yg] at this; exact this), ?_⟩
    conv => whnf
    refine c_Make _ _ hI.i3 hI.i5 _ _ ⟨Weak.refl _, ?_⟩
    conv => whnf
    refine stC 0 rfl rfl (by first | (refine ⟨rfl, ?_⟩; repeat' (first | exact trivial | refine ⟨rfl, ?_⟩)) | simp [oneCells, Value.oneCell', setN]) ?_
    conv => whnf
    refine ⟨rfl, ?_⟩
    conv => whnf
    refine ldA 0 rfl rfl ?_
    conv => whnf
    exact fin (weakK 3 rfl) hR
  · refine c_bothN ha hb h _ _ ?_
    conv => whnf
    refine stC 2 rfl rfl (by first | (refine ⟨rfl, ?_⟩; repeat' (first | exact trivial | refine ⟨rfl, ?_⟩)) | simp [oneCells, Value.oneCell', setN]) ?_
    conv => whnf
    refine stC 1 rfl rfl (by first | (refine ⟨rfl, ?_⟩; repeat' (first | exact trivial | refine ⟨rfl, ?_⟩)) | simp [oneCells, Value.oneCell', setN]) ?_
    conv => whnf
    refine stC 0 rfl rfl (by first | (refine ⟨rfl, ?_⟩; repeat' (first | exact trivial | refine ⟨rfl, ?_⟩)) | simp [oneCells, Value.oneCell', setN]) ?_
    conv => whnf
    refine ⟨rfl, ?_⟩
    conv => whnf
    refine ldA 0 rfl rfl ?_
    conv => whnf
    rw [show addF a b = (⟨0, 0⟩, 1) from if_neg h] at hR
    exact fin (weakK 3 rfl) hR

theorem c_Add (a b : Fr) (ha : a.I) (hb : b.I) (H : Hp) (R : Ending → Hp → Prop) (hR : R (.returned (.tuple #[(addF a b).1.v, .int .i64 (addF a b).2])) H) : ACalls Try.prog 23 [a.v, b.v] H R := by
  refine acalls_code hT Try.func23 rfl rfl ?_
  conv => whnf
  intro g
  conv => whnf
  intro g'
  conv => whnf
  intro r
  conv => whnf
  refine ldA 2 rfl rfl ?_
  conv => whnf
  refine ldA 1 rfl rfl ?_
  conv => whnf
  refine c_sum a b ha hb _ _ ?_
  conv => whnf
  refine stC 0 rfl rfl (by first | (refine ⟨rfl, ?_⟩; repeat' (first | exact trivial | refine ⟨rfl, ?_⟩)) | simp [oneCells, Value.oneCell', setN]) ?_
  conv => whnf
  refine ⟨rfl, ?_⟩
  conv => whnf
  refine ldA 0 rfl rfl ?_
  conv => whnf
  exact fin (weakK 3 rfl) hR

theorem c_Mul (a b : Fr) (ha : a.I) (hb : b.I) (H : Hp) (R : Ending → Hp → Prop) (hR : R (.returned (.tuple #[(mulF a b).1.v, .int .i64 (mulF a b).2])) H) : ACalls Try.prog 52 [a.v, b.v] H R := by
  refine acalls_code hT Try.func52 rfl rfl ?_
  conv => whnf
  intro g
  conv => whnf
  intro g'
  conv => whnf
  intro r
  conv => whnf
  refine ldA 2 rfl rfl ?_
  conv => whnf
  refine ldA 1 rfl rfl ?_
  conv => whnf
  by_cases h : okF a ∧ okF b
  · obtain ⟨h1, h2⟩ := h
    refine c_bothT h1 h2 _ _ ?_
    conv => whnf
    refine stC 2 rfl rfl (by first | (refine ⟨rfl, ?_⟩; repeat' (first | exact trivial | refine ⟨rfl, ?_⟩)) | simp [oneCells, Value.oneCell', setN]) ?_
    conv => whnf
    refine stC 1 rfl rfl (by first | (refine ⟨rfl, ?_⟩; repeat' (first | exact trivial | refine ⟨rfl, ?_⟩)) | simp [oneCells, Value.oneCell', setN]) ?_
    conv => whnf
    refine ldS 2 rfl rfl ?_
    conv => whnf
    refine ldS 1 rfl rfl ?_
    conv => whnf
    refine ⟨_, wi (mulI h1 h2), ?_⟩
    conv => whnf
    refine ldS 2 rfl rfl ?_
    conv => whnf
    refine ldS 1 rfl rfl ?_
    conv => whnf
    refine ⟨_, wi (mulD h1 h2), ?_⟩
    conv => whnf
    refine c_Make _ _ (mulI h1 h2) (mulD h1 h2) _ _ ?_
    conv => whnf
    refine stC 0 rfl rfl (by first | (refine ⟨rfl, ?_⟩; repeat' (first | exact trivial | refine ⟨rfl, ?_⟩)) | simp [oneCells, Value.oneCell', setN]) ?_
    conv => whnf
    refine ⟨rfl, ?_⟩
    conv => whnf
    refine ldA 0 rfl rfl ?_
    conv => whnf
    rw [show mulF a b = _ from if_pos ⟨h1, h2⟩] at hR
    exact fin (weakK 3 rfl) hR
  · refine c_bothN ha hb h _ _ ?_
    conv => whnf
    refine stC 2 rfl rfl (by first | (refine ⟨rfl, ?_⟩; repeat' (first | exact trivial | refine ⟨rfl, ?_⟩)) | simp [oneCells, Value.oneCell', setN]) ?_
    conv => whnf
    refine stC 1 rfl rfl (by first | (refine ⟨rfl, ?_⟩; repeat' (first | exact trivial | refine ⟨rfl, ?_⟩)) | simp [oneCells, Value.oneCell', setN]) ?_
    conv => whnf
    refine stC 0 rfl rfl (by first | (refine ⟨rfl, ?_⟩; repeat' (first | exact trivial | refine ⟨rfl, ?_⟩)) | simp [oneCells, Value.oneCell', setN]) ?_
    conv => whnf
    refine ⟨rfl, ?_⟩
    conv => whnf
    refine ldA 0 rfl rfl ?_
    conv => whnf
    rw [show mulF a b = (⟨0, 0⟩, 1) from if_neg h] at hR
    exact fin (weakK 3 rfl) hR

theorem c_Compare (a b : Fr) (ha : a.I) (hb : b.I) (H : Hp) (R : Ending → Hp → Prop) (hR : R (.returned (.int .i64 (cmpF a b))) H) : ACalls Try.prog 22 [a.v, b.v] H R := by
  refine acalls_code hT Try.func22 rfl rfl ?_
  conv => whnf
  intro g
  conv => whnf
  intro g'
  conv => whnf
  refine ldA 1 rfl rfl ?_
  conv => whnf
  refine ldA 0 rfl rfl ?_
  conv => whnf
  by_cases h : okF a ∧ okF b
  · obtain ⟨h1, h2⟩ := h
    refine c_bothT h1 h2 _ _ ?_
    rw [show cmpF a b = _ from if_pos ⟨h1, h2⟩] at hR
    conv => whnf
    refine stC 1 rfl rfl (by first | (refine ⟨rfl, ?_⟩; repeat' (first | exact trivial | refine ⟨rfl, ?_⟩)) | simp [oneCells, Value.oneCell', setN]) ?_
    conv => whnf
    refine stC 0 rfl rfl (by first | (refine ⟨rfl, ?_⟩; repeat' (first | exact trivial | refine ⟨rfl, ?_⟩)) | simp [oneCells, Value.oneCell', setN]) ?_
    conv => whnf
    refine awp_drawQ hT hM 11 (by kernel_rfl) ?_
    conv => whnf
    refine ldS 1 rfl rfl ?_
    conv => whnf
    refine ldS 0 rfl rfl ?_
    conv => whnf
    refine ⟨_, wi (mulP h1 h2), ?_⟩
    conv => whnf
    refine ldS 0 rfl rfl ?_
    conv => whnf
    refine ldS 1 rfl rfl ?_
    conv => whnf
    refine ⟨_, wi (mulP h2 h1), ?_⟩
    conv => whnf
    refine ifC_dec (fun h3 => ?_) (fun h3 => ?_)
    · conv => whnf
      refine ⟨rfl, ?_⟩
      conv => whnf
      exact fin (weakK 2 rfl) (by simpa [h3] using hR)
    · conv => whnf
      refine ifC_dec (fun h4 => ?_) (fun h4 => ?_)
      · conv => whnf
        refine ⟨rfl, ?_⟩
        conv => whnf
        exact fin (weakK 2 rfl) (by simpa [h3, h4] using hR)
      · conv => whnf
        refine ⟨rfl, ?_⟩
        conv => whnf
        rw [if_neg h4, if_pos (by omega)] at hR
        exact fin (weakK 2 rfl) hR
  · refine c_bothN ha hb h _ _ ?_
    rw [show cmpF a b = 0 from if_neg h] at hR
    conv => whnf
    refine stC 1 rfl rfl (by first | (refine ⟨rfl, ?_⟩; repeat' (first | exact trivial | refine ⟨rfl, ?_⟩)) | simp [oneCells, Value.oneCell', setN]) ?_
    conv => whnf
    refine stC 0 rfl rfl (by first | (refine ⟨rfl, ?_⟩; repeat' (first | exact trivial | refine ⟨rfl, ?_⟩)) | simp [oneCells, Value.oneCell', setN]) ?_
    conv => whnf
    refine awp_drawQ hT hM 11 (by kernel_rfl) ?_
    conv => whnf
    refine ldS 1 rfl rfl ?_
    conv => whnf
    refine ldS 0 rfl rfl ?_
    conv => whnf
    refine ⟨_, rfl, ?_⟩
    conv => whnf
    refine ldS 0 rfl rfl ?_
    conv => whnf
    refine ldS 1 rfl rfl ?_
    conv => whnf
    refine ⟨_, rfl, ?_⟩
    conv => whnf
    refine ⟨rfl, ?_⟩
    conv => whnf
    exact fin (weakK 2 rfl) hR
end Go.Proofs.Ytpblnfldhicfgaa.A
