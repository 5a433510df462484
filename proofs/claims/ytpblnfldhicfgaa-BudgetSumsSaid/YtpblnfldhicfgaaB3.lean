/- dioramaref04: what is computed with fractions. -/
import Derived.Test.YtpblnfldhicfgaaB2
namespace Go.Proofs.Ytpblnfldhicfgaa.A
open Go Go.RowKit
set_option linter.unusedVariables false
set_option linter.unusedSimpArgs false
set_option maxRecDepth 4000

structure Fr.I (a : Fr) : Prop where
  p : I64 a.P
  q : I64 a.Q
theorem okF.bd {a : Fr} (h : okF a) : -2147483648 ≤ a.P ∧ a.P ≤ 2147483648 ∧ 0 ≤ a.Q ∧ a.Q ≤ 2147483648 := by
  rcases h with h | h <;> omega
theorem okF.I {a : Fr} (h : okF a) : a.I := ⟨by have := h.bd; omega, by have := h.bd; omega⟩
theorem den_pos (a : Fr) : 1 ≤ den a := by unfold den; split <;> omega
theorem okF.den {a : Fr} (h : okF a) : 1 ≤ den a ∧ den a ≤ 2147483648 := by
  have := h.bd
  unfold A.den; split <;> omega
theorem Fr.I.den {a : Fr} (h : a.I) : I64 (den a) := by
  have := h.q
  unfold A.den; split <;> omega

theorem okV {R : Ending → Hp → Prop} {H : Hp} {p : Prop} [Decidable p] (hR : R (.returned (.bool (decide p))) H) {b : Bool} (e : b = true ↔ p) : R (.returned (.bool b)) H := by
  rw [show b = decide p by by_cases h : p <;> simp [h] <;> cases b <;> simp_all]; exact hR
theorem natOne {n : Nat} : (n : Int) = 1 ↔ n = 1 := by omega

theorem c_Valid04 (a : Fr) (ha : a.I) (H : Hp) (R : Ending → Hp → Prop) (hR : R (.returned (.bool (decide (okF a)))) H) : ACalls Try.prog 57 [a.v] H R := by
  have hp := ha.p; have hq := ha.q
  refine acalls_code hT Try.func57 rfl rfl ?_
  conv => whnf
  intro g
  conv => whnf
  refine ldS 0 rfl rfl ?_
  conv => whnf
  refine ifC_dec (fun h1 => ?_) (fun h1 => ?_)
  · conv => whnf
    refine ldS 0 rfl rfl ?_
    conv => whnf
    refine ifC_dec (fun h2 => ?_) (fun h2 => ?_)
    · conv => whnf
      refine ⟨rfl, ?_⟩
      conv => whnf
      exact fin (weakK 1 rfl) (okV hR (by simp [okF]; omega))
    · conv => whnf
      refine ldS 0 rfl rfl ?_
      conv => whnf
      refine ifC_dec (fun h3 => ?_) (fun h3 => ?_)
      · conv => whnf
        refine ⟨rfl, ?_⟩
        conv => whnf
        exact fin (weakK 1 rfl) (okV hR (by simp [okF]; omega))
      · conv => whnf
        refine ldS 0 rfl rfl ?_
        conv => whnf
        refine ifC_dec (fun h4 => ?_) (fun h4 => ?_)
        · conv => whnf
          refine ⟨rfl, ?_⟩
          conv => whnf
          exact fin (weakK 1 rfl) (okV hR (by simp [okF]; omega))
        · conv => whnf
          refine ldS 0 rfl rfl ?_
          conv => whnf
          refine ifC_dec (fun h5 => ?_) (fun h5 => ?_)
          · conv => whnf
            refine ⟨rfl, ?_⟩
            conv => whnf
            exact fin (weakK 1 rfl) (okV hR (by simp [okF]; omega))
          · conv => whnf
            refine ldS 0 rfl rfl ?_
            conv => whnf
            refine ifC_dec (fun h6 => ?_) (fun h6 => ?_)
            · conv => whnf
              refine ⟨rfl, ?_⟩
              conv => whnf
              exact fin (weakK 1 rfl) (okV hR (by simp [okF]; omega))
            · conv => whnf
              refine awp_drawQ hT hM 8 (by kernel_rfl) ?_
              conv => whnf
              refine ldS 0 rfl rfl ?_
              conv => whnf
              refine c_Size04 _ hp _ _ ⟨Weak.refl _, ?_⟩
              conv => whnf
              refine ldS 0 rfl rfl ?_
              conv => whnf
              refine c_Size04 _ hq _ _ ⟨Weak.refl _, ?_⟩
              conv => whnf
              refine c_Common _ _ (natAbs_u hp) (natAbs_u hq) _ _ ⟨Weak.refl _, ?_⟩
              conv => whnf
              refine ⟨rfl, ?_⟩
              conv => whnf
              exact fin (weakK 1 rfl) (okV hR (by simp only [decide_eq_true_eq, okF, natOne]; omega))
  · conv => whnf
    refine ldS 0 rfl rfl ?_
    conv => whnf
    refine ifC_dec (fun h3 => ?_) (fun h3 => ?_)
    · conv => whnf
      refine ⟨rfl, ?_⟩
      conv => whnf
      exact fin (weakK 1 rfl) (okV hR (by simp [okF]; omega))
    · conv => whnf
      refine ldS 0 rfl rfl ?_
      conv => whnf
      refine ifC_dec (fun h4 => ?_) (fun h4 => ?_)
      · conv => whnf
        refine ⟨rfl, ?_⟩
        conv => whnf
        exact fin (weakK 1 rfl) (okV hR (by simp [okF]; omega))
      · conv => whnf
        refine ldS 0 rfl rfl ?_
        conv => whnf
        refine ifC_dec (fun h5 => ?_) (fun h5 => ?_)
        · conv => whnf
          refine ⟨rfl, ?_⟩
          conv => whnf
          exact fin (weakK 1 rfl) (okV hR (by simp [okF]; omega))
        · conv => whnf
          refine ldS 0 rfl rfl ?_
          conv => whnf
          refine ifC_dec (fun h6 => ?_) (fun h6 => ?_)
          · conv => whnf
            refine ⟨rfl, ?_⟩
            conv => whnf
            exact fin (weakK 1 rfl) (okV hR (by simp [okF]; omega))
          · conv => whnf
            refine awp_drawQ hT hM 8 (by kernel_rfl) ?_
            conv => whnf
            refine ldS 0 rfl rfl ?_
            conv => whnf
            refine c_Size04 _ hp _ _ ⟨Weak.refl _, ?_⟩
            conv => whnf
            refine ldS 0 rfl rfl ?_
            conv => whnf
            refine c_Size04 _ hq _ _ ⟨Weak.refl _, ?_⟩
            conv => whnf
            refine c_Common _ _ (natAbs_u hp) (natAbs_u hq) _ _ ⟨Weak.refl _, ?_⟩
            conv => whnf
            refine ⟨rfl, ?_⟩
            conv => whnf
            exact fin (weakK 1 rfl) (okV hR (by simp only [decide_eq_true_eq, okF, natOne]; omega))

theorem c_Den (a : Fr) (ha : a.I) (H : Hp) (R : Ending → Hp → Prop) (hR : R (.returned (.int .i64 (den a))) H) : ACalls Try.prog 69 [a.v] H R := by
  refine acalls_code hT Try.func69 rfl rfl ?_
  conv => whnf
  intro g
  conv => whnf
  refine ldS 0 rfl rfl ?_
  conv => whnf
  refine ⟨rfl, ?_⟩
  conv => whnf
  exact fin (weakK 1 rfl) hR

theorem mulB {a y A B : Int} (h1 : -A ≤ a) (h2 : a ≤ A) (h3 : 0 ≤ y) (h4 : y ≤ B) : -(A * B) ≤ a * y ∧ a * y ≤ A * B := by
  have hA : 0 ≤ A := by omega
  have e1 : a * y ≤ A * y := Int.mul_le_mul_of_nonneg_right h2 h3
  have e2 : A * y ≤ A * B := Int.mul_le_mul_of_nonneg_left h4 hA
  have e3 : -A * y ≤ a * y := Int.mul_le_mul_of_nonneg_right h1 h3
  have e4 : -A * y = -(A * y) := Int.neg_mul ..
  omega
def gF (a b : Fr) : Nat := Nat.gcd (den a).natAbs (den b).natAbs
def addF (a b : Fr) : Fr × Int :=
  if okF a ∧ okF b then mkF (a.P * (den b / gF a b) + b.P * (den a / gF a b)) (den a / gF a b * (den b / gF a b) * gF a b) else (⟨0, 0⟩, 1)
def mulF (a b : Fr) : Fr × Int := if okF a ∧ okF b then mkF (a.P * b.P) (den a * den b) else (⟨0, 0⟩, 1)
def cmpF (a b : Fr) : Int := if okF a ∧ okF b then (if a.P * den b < b.P * den a then -1 else if a.P * den b > b.P * den a then 1 else 0) else 0

theorem nat_dvd {n : Nat} {a : Int} : (n : Int) ∣ a ↔ n ∣ a.natAbs := by
  rw [← Int.natAbs_dvd_natAbs]; simp
structure AddB (a b : Fr) (g x y : Int) : Prop where
  g1 : 1 ≤ g
  g2 : g ≤ 2147483648
  x1 : 1 ≤ x
  x2 : x ≤ 2147483648
  y1 : 1 ≤ y
  y2 : y ≤ 2147483648
  xg : x * g = den a
  yg : y * g = den b
  one : x ≤ 2147483647 ∨ y ≤ 2147483647
theorem addB {a b : Fr} (ha : okF a) (hb : okF b) : AddB a b (gF a b) (den a / gF a b) (den b / gF a b) := by
  have h1 := ha.den; have h2 := hb.den
  have hg : 0 < gF a b := Nat.gcd_pos_of_pos_left _ (by omega)
  have d1 : ((gF a b : Nat) : Int) ∣ den a := nat_dvd.2 (Nat.gcd_dvd_left _ _)
  have d2 : ((gF a b : Nat) : Int) ∣ den b := nat_dvd.2 (Nat.gcd_dvd_right _ _)
  have e1 : den a / gF a b * gF a b = den a := Int.ediv_mul_cancel d1
  have e2 : den b / gF a b * gF a b = den b := Int.ediv_mul_cancel d2
  have l1 : (gF a b : Int) ≤ den a := Int.le_of_dvd (by omega) d1
  have hgdef : gF a b = Nat.gcd (den a).natAbs (den b).natAbs := rfl
  have x0 : 0 ≤ den a / gF a b := Int.ediv_nonneg (by omega) (by omega)
  have y0 : 0 ≤ den b / gF a b := Int.ediv_nonneg (by omega) (by omega)
  have x2 : den a / gF a b ≤ den a := Int.ediv_le_self _ (by omega)
  have y2 : den b / gF a b ≤ den b := Int.ediv_le_self _ (by omega)
  have x1 : den a / gF a b ≠ 0 := fun h => by rw [h] at e1; omega
  have y1 : den b / gF a b ≠ 0 := fun h => by rw [h] at e2; omega
  refine ⟨by omega, by omega, by omega, by omega, by omega, by omega, e1, e2, ?_⟩
  by_cases h : den a / gF a b < 2147483648
  · exact .inl (by omega)
  · by_cases h' : den b / gF a b < 2147483648
    · exact .inr (by omega)
    · have ea : den a = 2147483648 := by omega
      have eb : den b = 2147483648 := by omega
      rw [ea, eb] at hgdef
      rw [show Nat.gcd (Int.natAbs 2147483648) (Int.natAbs 2147483648) = 2147483648 from Nat.gcd_self _] at hgdef
      rw [hgdef, ea] at h
      exact absurd (by decide) h
structure AddI (a b : Fr) (g x y : Int) : Prop where
  i1 : I64 (a.P * y)
  i2 : I64 (b.P * x)
  i3 : I64 (a.P * y + b.P * x)
  i4 : I64 (x * y)
  i5 : I64 (x * y * g)
theorem AddB.I {a b : Fr} {g x y : Int} (h : AddB a b g x y) (ha : okF a) (hb : okF b) : AddI a b g x y := by
  obtain ⟨g1, g2, x1, x2, y1, y2, xg, yg, one⟩ := h
  have h1 := ha.bd; have h2 := hb.bd; have hdb := hb.den
  have e1 := mulB h1.1 h1.2.1 (show 0 ≤ y by omega) y2
  have e2 := mulB h2.1 h2.2.1 (show 0 ≤ x by omega) x2
  have e4 := mulB (show -2147483648 ≤ x by omega) x2 (show 0 ≤ y by omega) y2
  have e5 := mulB (show -2147483648 ≤ x by omega) x2 (show 0 ≤ den b by omega) hdb.2
  refine ⟨by omega, by omega, ?_, by omega, by rw [Int.mul_assoc, yg]; omega⟩
  rcases one with h | h
  · have := mulB h2.1 h2.2.1 (show 0 ≤ x by omega) h
    omega
  · have := mulB h1.1 h1.2.1 (show 0 ≤ y by omega) h
    omega
theorem addF_ok {a b : Fr} (ha : okF a) (hb : okF b) : addF a b = mkF (a.P * (den b / gF a b) + b.P * (den a / gF a b)) (den a / gF a b * (den b / gF a b) * gF a b) := if_pos ⟨ha, hb⟩

theorem c_ValidT {a : Fr} (h : okF a) (H : Hp) (R : Ending → Hp → Prop) (hR : R (.returned (.bool true)) H) : ACalls Try.prog 57 [a.v] H R :=
  c_Valid04 a h.I H R (by rw [decide_eq_true h]; exact hR)
theorem c_ValidN {a : Fr} (ha : a.I) (h : ¬ okF a) (H : Hp) (R : Ending → Hp → Prop) (hR : R (.returned (.bool false)) H) : ACalls Try.prog 57 [a.v] H R :=
  c_Valid04 a ha H R (by rw [decide_eq_false h]; exact hR)
theorem tdiv_nn {a b : Int} (h : 0 ≤ a) : a.tdiv b = a / b := Int.tdiv_eq_ediv_of_nonneg h

theorem c_Add04 (a b : Fr) (ha : a.I) (hb : b.I) (H : Hp) (R : Ending → Hp → Prop) (hR : R (.returned (.tuple #[(addF a b).1.v, .int .i64 (addF a b).2])) H) : ACalls Try.prog 59 [a.v, b.v] H R := by
  refine acalls_code hT Try.func59 rfl rfl ?_
  conv => whnf
  intro g
  conv => whnf
  intro g'
  conv => whnf
  intro r
  conv => whnf
  refine ldA 2 rfl rfl ?_
  conv => whnf
  by_cases h1 : okF a
  · refine c_ValidT h1 _ _ ?_
    conv => whnf
    refine ldA 1 rfl rfl ?_
    conv => whnf
    by_cases h2 : okF b
    · refine c_ValidT h2 _ _ ?_
      have hB := addB h1 h2
      have hI := hB.I h1 h2
      have hda := h1.den; have hdb := h2.den
      rw [addF_ok h1 h2] at hR
      have hgg : Nat.gcd (den a).natAbs (den b).natAbs = gF a b := rfl
      have q1 : (den a).tdiv (gF a b) = den a / gF a b := tdiv_nn (by omega)
      have q2 : (den b).tdiv (gF a b) = den b / gF a b := tdiv_nn (by omega)
      generalize gF a b = k at *
      generalize den a / k = x at *
      generalize den b / k = y at *
      conv => whnf
      refine awp_drawQ hT hM 8 (by kernel_rfl) ?_
      conv => whnf
      refine ldA 2 rfl rfl ?_
      conv => whnf
      refine c_Den a ha _ _ ⟨Weak.refl _, ?_⟩
      conv => whnf
      refine c_Size04 _ (by omega) _ _ ⟨Weak.refl _, ?_⟩
      conv => whnf
      refine ldA 1 rfl rfl ?_
      conv => whnf
      refine c_Den b hb _ _ ⟨Weak.refl _, ?_⟩
      conv => whnf
      refine c_Size04 _ (by omega) _ _ ⟨Weak.refl _, ?_⟩
      conv => whnf
      refine c_Common _ _ (by omega) (by omega) _ _ ⟨Weak.refl _, ?_⟩
      rw [hgg]
      have := hB.g2
      conv => whnf
      repeat (refine ⟨_, wi (by omega), ?_⟩; conv => whnf)
      refine ldA 2 rfl rfl ?_
      conv => whnf
      refine c_Den a ha _ _ ?_
      conv => whnf
      refine ⟨by have := hB.g1; omega, x, by rw [q1]; exact wi (by have := hB.x1; have := hB.x2; omega), ?_⟩
      conv => whnf
      refine ldA 1 rfl rfl ?_
      conv => whnf
      refine c_Den b hb _ _ ?_
      conv => whnf
      refine ⟨by have := hB.g1; omega, y, by rw [q2]; exact wi (by have := hB.y1; have := hB.y2; omega), ?_⟩
      conv => whnf
      refine ldS 2 rfl rfl ?_
      conv => whnf
      refine ⟨_, wi hI.i1, ?_⟩
      conv => whnf
      refine ldS 1 rfl rfl ?_
      conv => whnf
      refine ⟨_, wi hI.i2, ?_⟩
      conv => whnf
      refine ⟨_, wi hI.i3, ?_⟩
      conv => whnf
      refine ⟨_, wi hI.i4, ?_⟩
      conv => whnf
      refine ⟨_, wi hI.i5, ?_⟩
      conv => whnf
      refine c_Make04 _ _ hI.i3 hI.i5 _ _ ?_
      conv => whnf
      refine stC 0 rfl rfl (by first | (refine ⟨rfl, ?_⟩; repeat' (first | exact trivial | refine ⟨rfl, ?_⟩)) | simp [oneCells, Value.oneCell', setN]) ?_
      conv => whnf
      refine ⟨rfl, ?_⟩
      conv => whnf
      refine ldA 0 rfl rfl ?_
      conv => whnf
      exact fin (weakK 3 rfl) hR
    · refine c_ValidN hb h2 _ _ ?_
      conv => whnf
      refine stC 0 rfl rfl (by first | (refine ⟨rfl, ?_⟩; repeat' (first | exact trivial | refine ⟨rfl, ?_⟩)) | simp [oneCells, Value.oneCell', setN]) ?_
      conv => whnf
      refine ⟨rfl, ?_⟩
      conv => whnf
      refine ldA 0 rfl rfl ?_
      conv => whnf
      rw [show addF a b = (⟨0, 0⟩, 1) from if_neg (by simp_all)] at hR
      exact fin (weakK 3 rfl) hR
  · refine c_ValidN ha h1 _ _ ?_
    conv => whnf
    refine stC 0 rfl rfl (by first | (refine ⟨rfl, ?_⟩; repeat' (first | exact trivial | refine ⟨rfl, ?_⟩)) | simp [oneCells, Value.oneCell', setN]) ?_
    conv => whnf
    refine ⟨rfl, ?_⟩
    conv => whnf
    refine ldA 0 rfl rfl ?_
    conv => whnf
    rw [show addF a b = (⟨0, 0⟩, 1) from if_neg (by simp_all)] at hR
    exact fin (weakK 3 rfl) hR
end Go.Proofs.Ytpblnfldhicfgaa.A
