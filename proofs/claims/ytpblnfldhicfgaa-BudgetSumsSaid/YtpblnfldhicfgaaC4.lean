/- Fractions as rational numbers. -/
import Derived.Test.YtpblnfldhicfgaaC2
namespace Go.Proofs.Ytpblnfldhicfgaa.A
open Go Go.RowKit
set_option linter.unusedVariables false
set_option linter.unusedSimpArgs false

def Fr.q (a : Fr) : Rat := (a.P : Rat) / (den a : Rat)
theorem den_posQ (a : Fr) : (0 : Rat) < (den a : Rat) := Rat.intCast_pos.2 (by have := den_pos a; omega)
theorem q_mul (a : Fr) : a.q * (den a : Rat) = (a.P : Rat) := Rat.div_mul_cancel (fun h => by have := den_posQ a; rw [h] at this; exact absurd this (Rat.lt_irrefl))
theorem le_mulQ {x y c : Rat} (hc : 0 < c) (h : x * c ≤ y * c) : x ≤ y := Rat.not_lt.1 fun h' => Rat.not_lt.2 h ((Rat.mul_lt_mul_right hc).2 h')
theorem q_cancel {x y c : Rat} (hc : 0 < c) (h : x * c = y * c) : x = y :=
  Rat.le_antisymm (le_mulQ hc (by rw [h]; exact Rat.le_refl)) (le_mulQ hc (by rw [h]; exact Rat.le_refl))
theorem cross_lt (a b : Fr) : a.P * den b < b.P * den a ↔ a.q < b.q := by
  have ha := den_posQ a
  have hb := den_posQ b
  rw [← Rat.intCast_lt_intCast, Rat.intCast_mul, Rat.intCast_mul, ← q_mul a, ← q_mul b]
  generalize (den a : Rat) = x at *
  generalize (den b : Rat) = y at *
  rw [show a.q * x * y = a.q * (x * y) by grind, show b.q * y * x = b.q * (x * y) by grind]
  exact Rat.mul_lt_mul_right (Rat.mul_pos ha hb)
theorem cmpF_pos {a b : Fr} (ha : okF a) (hb : okF b) : 0 < cmpF a b ↔ b.q < a.q := by
  have h1 := cross_lt a b
  have h2 := cross_lt b a
  unfold cmpF
  rw [if_pos ⟨ha, hb⟩, ← h2]
  split
  · omega
  · split <;> omega
theorem cmpF_neg {a b : Fr} (ha : okF a) (hb : okF b) : cmpF a b < 0 ↔ a.q < b.q := by
  have h1 := cross_lt a b
  unfold cmpF
  rw [if_pos ⟨ha, hb⟩, ← h1]
  split
  · omega
  · split <;> omega
theorem cmpF_zero {a b : Fr} (ha : okF a) (hb : okF b) : cmpF a b = 0 ↔ a.q = b.q := by
  have h1 := cmpF_pos ha hb
  have h2 := cmpF_neg ha hb
  constructor
  · intro h
    rw [h] at h1 h2
    have h3 : ¬ b.q < a.q := fun h => by have := h1.2 h; omega
    have h4 : ¬ a.q < b.q := fun h => by have := h2.2 h; omega
    exact Rat.le_antisymm (Rat.not_lt.1 h3) (Rat.not_lt.1 h4)
  · intro h
    rw [h] at h1 h2
    have h3 : ¬ 0 < cmpF a b := fun h => Rat.lt_irrefl (h1.1 h)
    have h4 : ¬ cmpF a b < 0 := fun h => Rat.lt_irrefl (h2.1 h)
    omega

theorem mkF_eq {p q : Int} (hq : 0 < q) (h : (mkF p q).2 = 0) : (mkF p q).1.P * q = p * den (mkF p q).1 := by
  unfold mkF at *
  rw [if_neg (by omega)] at *
  split at h
  · cases h
  · rename_i hn
    rw [if_neg hn]
    have hg : 0 < Nat.gcd p.natAbs q.natAbs := Nat.gcd_pos_of_pos_right _ (by omega)
    have e1 : p.natAbs / Nat.gcd p.natAbs q.natAbs * Nat.gcd p.natAbs q.natAbs = p.natAbs := Nat.div_mul_cancel (Nat.gcd_dvd_left _ _)
    have e2 : q.natAbs / Nat.gcd p.natAbs q.natAbs * Nat.gcd p.natAbs q.natAbs = q.natAbs := Nat.div_mul_cancel (Nat.gcd_dvd_right _ _)
    have hb : 0 < q.natAbs / Nat.gcd p.natAbs q.natAbs := Nat.div_pos (Nat.le_of_dvd (by omega) (Nat.gcd_dvd_right _ _)) hg
    generalize Nat.gcd p.natAbs q.natAbs = d at *
    generalize p.natAbs / d = a at *
    generalize q.natAbs / d = b at *
    have e3 : (q : Int) = b * d := by rw [← Int.natCast_mul, e2]; omega
    have hden : den ⟨if (p < 0 ∧ 0 < q) ∨ (0 < p ∧ q < 0) then -(a : Int) else (a : Int), (b : Int)⟩ = b := by unfold den; rw [if_neg (by simp only; omega)]
    rw [hden]
    simp only
    have e4 : ((p.natAbs : Nat) : Int) = a * d := by rw [← Int.natCast_mul, e1]
    by_cases hp : p < 0
    · rw [if_pos (.inl ⟨hp, hq⟩)]
      have e5 : p = -((a : Int) * d) := by omega
      rw [e3, e5]; grind
    · rw [if_neg (by omega)]
      have e5 : p = (a : Int) * d := by omega
      rw [e3, e5]; grind
theorem mkF_fit {p q n d : Int} (hq : 0 < q) (hd : 0 < d) (h : p * d = n * q) (hn : -2147483648 ≤ n ∧ n ≤ 2147483648) (hd2 : d ≤ 2147483648) : (mkF p q).2 = 0 := by
  unfold mkF
  rw [if_neg (by omega), if_neg]
  have hg : 0 < Nat.gcd p.natAbs q.natAbs := Nat.gcd_pos_of_pos_right _ (by omega)
  have e1 : p.natAbs / Nat.gcd p.natAbs q.natAbs * Nat.gcd p.natAbs q.natAbs = p.natAbs := Nat.div_mul_cancel (Nat.gcd_dvd_left _ _)
  have e2 : q.natAbs / Nat.gcd p.natAbs q.natAbs * Nat.gcd p.natAbs q.natAbs = q.natAbs := Nat.div_mul_cancel (Nat.gcd_dvd_right _ _)
  have hc : Nat.gcd (p.natAbs / Nat.gcd p.natAbs q.natAbs) (q.natAbs / Nat.gcd p.natAbs q.natAbs) = 1 := Nat.gcd_div_gcd_div_gcd_of_pos_right (by omega)
  have hN : p.natAbs * d.natAbs = n.natAbs * q.natAbs := by rw [← Int.natAbs_mul, ← Int.natAbs_mul, h]
  have hd' : 0 < d.natAbs := by omega
  generalize Nat.gcd p.natAbs q.natAbs = g at *
  generalize p.natAbs / g = a at *
  generalize q.natAbs / g = b at *
  have hab : a * d.natAbs = n.natAbs * b := by
    refine Nat.eq_of_mul_eq_mul_right hg ?_
    rw [← e1, ← e2] at hN
    grind
  have h1 : a ≤ 2147483648 := by
    have : a ∣ n.natAbs := Nat.Coprime.dvd_of_dvd_mul_right hc (hab ▸ Nat.dvd_mul_right a _)
    by_cases h0 : n.natAbs = 0
    · rw [h0, Nat.zero_mul] at hab
      have : a = 0 := by
        rcases Nat.mul_eq_zero.1 hab with h | h <;> omega
      omega
    · have := Nat.le_of_dvd (by omega) this; omega
  have h2 : b ≤ 2147483648 := by
    have : b ∣ d.natAbs := Nat.Coprime.dvd_of_dvd_mul_left (Nat.Coprime.symm hc) (hab ▸ Nat.dvd_mul_left b _)
    have := Nat.le_of_dvd hd' this
    omega
  omega
theorem mkF_q {p q : Int} (hq : 0 < q) (h : (mkF p q).2 = 0) : (mkF p q).1.q * (q : Rat) = (p : Rat) := by
  have h1 := mkF_eq hq h
  have h2 := q_mul (mkF p q).1
  have h3 := den_posQ (mkF p q).1
  have h4 : (((mkF p q).1.P * q : Int) : Rat) = ((p * den (mkF p q).1 : Int) : Rat) := by rw [h1]
  rw [Rat.intCast_mul, Rat.intCast_mul] at h4
  refine q_cancel h3 ?_
  grind
theorem posQ {n : Int} (h : 0 < n) : (0 : Rat) < (n : Rat) := Rat.intCast_pos.2 h

/-! ### Sums and products -/
theorem addF_q {a b : Fr} (ha : okF a) (hb : okF b) (h : (addF a b).2 = 0) : (addF a b).1.q = a.q + b.q := by
  rw [addF_ok ha hb] at *
  have hB := addB ha hb
  have hq1 := q_mul a
  have hq2 := q_mul b
  obtain ⟨g1, g2, x1, x2, y1, y2, xg, yg, one⟩ := hB
  generalize ((gF a b : Nat) : Int) = g at *
  generalize den a / g = x at *
  generalize den b / g = y at *
  have hpos : 0 < x * y * g := Int.mul_pos (Int.mul_pos (by omega) (by omega)) (by omega)
  have h1 := mkF_q hpos h
  rw [← xg] at hq1
  rw [← yg] at hq2
  simp only [Rat.intCast_mul, Rat.intCast_add] at *
  refine q_cancel (c := (x : Rat) * y * g) (Rat.mul_pos (Rat.mul_pos (posQ (by omega)) (posQ (by omega))) (posQ (by omega))) ?_
  rw [h1, ← hq1, ← hq2]
  grind
theorem addF_fit {a b : Fr} (ha : okF a) (hb : okF b) {n d : Int} (hd : 0 < d) (hd2 : d ≤ 2147483648) (hn : -2147483648 ≤ n ∧ n ≤ 2147483648) (h : (a.q + b.q) * (d : Rat) = (n : Rat)) : (addF a b).2 = 0 := by
  rw [addF_ok ha hb]
  have hB := addB ha hb
  have hq1 := q_mul a
  have hq2 := q_mul b
  obtain ⟨g1, g2, x1, x2, y1, y2, xg, yg, one⟩ := hB
  generalize ((gF a b : Nat) : Int) = g at *
  generalize den a / g = x at *
  generalize den b / g = y at *
  have hpos : 0 < x * y * g := Int.mul_pos (Int.mul_pos (by omega) (by omega)) (by omega)
  refine mkF_fit hpos hd ?_ hn hd2
  rw [← xg] at hq1
  rw [← yg] at hq2
  rw [← Rat.intCast_inj]
  simp only [Rat.intCast_mul, Rat.intCast_add] at *
  rw [← hq1, ← hq2, ← h]
  grind
theorem mulF_q {a b : Fr} (ha : okF a) (hb : okF b) (h : (mulF a b).2 = 0) : (mulF a b).1.q = a.q * b.q := by
  unfold mulF at *
  rw [if_pos ⟨ha, hb⟩] at *
  have hq1 := q_mul a
  have hq2 := q_mul b
  have d1 := den_pos a; have d2 := den_pos b
  have hpos : 0 < den a * den b := Int.mul_pos (by omega) (by omega)
  have h1 := mkF_q hpos h
  simp only [Rat.intCast_mul] at *
  refine q_cancel (c := (den a : Rat) * den b) (Rat.mul_pos (den_posQ a) (den_posQ b)) ?_
  rw [h1, ← hq1, ← hq2]
  grind
theorem mulF_fit {a b : Fr} (ha : okF a) (hb : okF b) {n d : Int} (hd : 0 < d) (hd2 : d ≤ 2147483648) (hn : -2147483648 ≤ n ∧ n ≤ 2147483648) (h : (a.q * b.q) * (d : Rat) = (n : Rat)) : (mulF a b).2 = 0 := by
  unfold mulF
  rw [if_pos ⟨ha, hb⟩]
  have hq1 := q_mul a
  have hq2 := q_mul b
  have d1 := den_pos a; have d2 := den_pos b
  have hpos : 0 < den a * den b := Int.mul_pos (by omega) (by omega)
  refine mkF_fit hpos hd ?_ hn hd2
  rw [← Rat.intCast_inj]
  simp only [Rat.intCast_mul] at *
  rw [← hq1, ← hq2, ← h]
  grind
theorem q_nn {a : Fr} (h : 0 ≤ a.P) : 0 ≤ a.q := by
  have h1 := q_mul a
  have h2 : (0 : Rat) ≤ (a.P : Rat) := Rat.intCast_nonneg.2 h
  have h3 := den_posQ a
  refine le_mulQ h3 ?_
  rw [h1, Rat.zero_mul]; exact h2
theorem q_zero : (⟨0, 0⟩ : Fr).q = 0 := by
  have := q_mul ⟨0, 0⟩
  refine q_cancel (den_posQ ⟨0, 0⟩) ?_
  rw [this, Rat.zero_mul]; rfl
end Go.Proofs.Ytpblnfldhicfgaa.A
