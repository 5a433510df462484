/- noise.Loss; neighbours' weights. -/
import Derived.Test.YtohdcmkooedkcaaN2
namespace Go.Proofs.Ytohdcmkooedkcaa.A
open Go Go.RowKit
set_option linter.unusedVariables false
set_option linter.unusedSimpArgs false
set_option maxRecDepth 20000

theorem p2_step {k n : Int} (hk : 0 ≤ k) (hn : 0 ≤ n) : p2 (k * (n + 1)) = p2 (k * n) * p2 k := by
  rw [Int.mul_add, Int.mul_one, p2_add (Int.mul_nonneg hk hn) hk]
theorem wtF_step {c m k x : Int} (h : HidOk c m k) (hc : 1 ≤ c) (h0 : 0 ≤ x) (h1 : x ≤ m) : wtF c m k x = wtF (c - 1) m k x * p2 k ∨ wtF (c - 1) m k x = wtF c m k x * p2 k := by
  have hk := h.k1
  have hcm := h.cm
  have key : ∀ a b : Int, 0 ≤ m - a → b = a - 1 → (p2 (k * (m - b)) * p2 k = p2 (k * (m - a)) * p2 k * p2 k ∧ p2 (k * (m - b)) * (p2 k - 1) = p2 (k * (m - a)) * (p2 k - 1) * p2 k) := fun a b ha hb => by
    have e : p2 (k * (m - b)) = p2 (k * (m - a)) * p2 k := by
      rw [show m - b = (m - a) + 1 by omega, p2_step (by omega) ha]
    rw [e]
    exact ⟨rfl, by rw [Int.mul_assoc, Int.mul_comm (p2 k) (p2 k - 1), ← Int.mul_assoc]⟩
  by_cases hx : x < c
  · have e1 : wtD c x = c - x := by unfold wtD; split <;> omega
    have e2 : wtD (c - 1) x = c - 1 - x := by unfold wtD; split <;> omega
    obtain ⟨k1, k2⟩ := key (c - x) (c - 1 - x) (by omega) (by omega)
    right
    unfold wtF
    rw [e1, e2]
    split
    · exact k1
    · exact k2
  · have e1 : wtD c x = x - c := by unfold wtD; split <;> omega
    have e2 : wtD (c - 1) x = x - c + 1 := by unfold wtD; split <;> omega
    obtain ⟨k1, k2⟩ := key (x - c + 1) (x - c) (by omega) (by omega)
    left
    unfold wtF
    rw [e1, e2]
    split
    · exact k1
    · exact k2
theorem shl_lt {P k n : Int} (hP : 1 ≤ P) (hn : 0 ≤ n) (hk : n ≤ k) : (P * p2 n < P * p2 k ↔ n < k) := by
  constructor
  · intro h
    rcases Int.lt_or_eq_of_le hk with h' | h'
    · exact h'
    · rw [h'] at h; omega
  · intro h
    have h1 : p2 (n + 1) ≤ p2 k := p2_mono (by omega)
    rw [p2_add hn (by omega)] at h1
    have h2 : p2 1 = 2 := by decide
    rw [h2] at h1
    have h3 := p2_pos n
    exact Int.mul_lt_mul_of_pos_left (by omega) (by omega)
set_option maxHeartbeats 2000000 in
theorem c_Loss (m k : Int) (h0 : HidOk 0 m k) (h1 : HidOk 1 m k) (hm1 : 1 ≤ m) (H : Hp) (R : Ending → Hp → Prop) (hR : R (.returned (.tuple #[.int .i64 k, .int .i64 0])) H) :
    ACalls Try.prog 25 [.int .i64 0, .int .i64 1, .int .i64 m, .int .i64 k] H R := by
  have hk1 := h0.k1
  have hk12 := h0.k12
  have hm37 := h0.m37
  have v0 := hidB_iff.2 h0
  have v1 := hidB_iff.2 h1
  refine acalls_code hT Try.func25 rfl rfl ?_
  conv => whnf
  intro g10
  conv => whnf
  refine stC 0 rfl rfl (by first | (refine ⟨rfl, ?_⟩; repeat' (first | exact trivial | refine ⟨rfl, ?_⟩)) | simp [oneCells, Value.oneCell', setN]) ?_
  conv => whnf
  refine ldA 0 rfl rfl ?_
  conv => whnf
  intro g11
  conv => whnf
  refine stC 0 rfl rfl (by first | (refine ⟨rfl, ?_⟩; repeat' (first | exact trivial | refine ⟨rfl, ?_⟩)) | simp [oneCells, Value.oneCell', setN]) ?_
  conv => whnf
  refine stC 0 rfl rfl (by first | (refine ⟨rfl, ?_⟩; repeat' (first | exact trivial | refine ⟨rfl, ?_⟩)) | simp [oneCells, Value.oneCell', setN]) ?_
  conv => whnf
  refine ldA 1 rfl rfl ?_
  conv => whnf
  refine c_hidValid 0 m k (by omega) (by omega) (by omega) _ _ ?_
  rw [v0]
  conv => whnf
  refine ldA 0 rfl rfl ?_
  conv => whnf
  refine c_hidValid 1 m k (by omega) (by omega) (by omega) _ _ ?_
  rw [v1]
  conv => whnf
  refine awp_drawQ hT hM 5 (by kernel_rfl) ?_
  conv => whnf
  refine ldA 1 rfl rfl ?_
  conv => whnf
  refine ldA 0 rfl rfl ?_
  conv => whnf
  conv => whnf
  repeat (refine ⟨_, wi (by omega), ?_⟩; conv => whnf)
  refine awp_loopL hT 65 [12, 13, 14, 37, 38] (fun mm vs H' => ∃ (x : Nat) (lv : Int), vs = [.func (.func 39) #[hidV 0 m k] #[], .func (.func 39) #[hidV 1 m k] #[], .int .i64 lv, .int .i64 (m + 1), .int .i64 x] ∧ mm + x = (m + 1).toNat ∧ (lv = if x = 0 then 0 else k) ∧
    H' = ⟨H.M, .cells g11 74 [.int .i64 1, .int .i64 m, .int .i64 k] :: .cells g10 74 [.int .i64 0, .int .i64 m, .int .i64 k] :: H.L⟩) (m + 1).toNat rfl rfl (Weak.refl _) ⟨0, 0, rfl, rfl, rfl, rfl⟩ ?_
  rintro mm u vs H' ⟨x, lv, rfl, hmm, hlv, rfl⟩
  conv => whnf
  refine ifC_dec (fun hx => ?_) (fun hx => ?_)
  · have hw0 := wtF_bd h0 (x := (x : Int)) (by omega) (by omega)
    have hw1 := wtF_bd h1 (x := (x : Int)) (by omega) (by omega)
    have hst := wtF_step h1 (x := (x : Int)) (by omega) (by omega) (by omega)
    rw [show (1 : Int) - 1 = 0 from rfl] at hst
    have hk2 : 2 ≤ p2 k := by
      have b : p2 1 ≤ p2 k := p2_mono (by omega)
      have b1 : p2 1 = 2 := by decide
      omega
    obtain ⟨P, hP, hPk, hPP⟩ : ∃ P, 1 ≤ P ∧ P * p2 k ≤ 274877906944 ∧ ((wtF 0 m k x = P * p2 k ∧ wtF 1 m k x = P) ∨ (wtF 0 m k x = P ∧ wtF 1 m k x = P * p2 k)) := by
      rcases hst with e | e
      · exact ⟨wtF 0 m k x, by omega, by omega, .inr ⟨rfl, e⟩⟩
      · exact ⟨wtF 1 m k x, by omega, by omega, .inl ⟨e, rfl⟩⟩
    have hP2 : P < P * p2 k := by
      have := Int.mul_le_mul_of_nonneg_left hk2 (show 0 ≤ P by omega)
      omega
    have hPn : ∀ n : Int, n ≤ k → I64 (P * p2 n) := fun n hn => by
      have h2 := Int.mul_le_mul_of_nonneg_left (p2_mono hn) (show 0 ≤ P by omega)
      have h3 := Int.mul_nonneg (show 0 ≤ P by omega) (show 0 ≤ p2 n by have := p2_pos n; omega)
      omega
    have hmin : (if wtF 1 m k x < wtF 0 m k x then wtF 1 m k x else wtF 0 m k x) = P := by split <;> omega
    have hmax : (if wtF 0 m k x < wtF 1 m k x then wtF 1 m k x else wtF 0 m k x) = P * p2 k := by split <;> omega
    obtain ⟨kn, hkn⟩ : ∃ kn : Nat, k = kn := ⟨k.toNat, by omega⟩
    conv => whnf
    refine awp_loopL hT 65 [12, 13, 14, 15, 16, 37, 38] (fun m2 vs H' => ∃ (n : Nat), vs = [.func (.func 39) #[hidV 0 m k] #[], .func (.func 39) #[hidV 1 m k] #[], .int .i64 lv, .int .i64 x, .int .i64 n, .int .i64 (m + 1), .int .i64 x] ∧ m2 + n = kn ∧
      H' = ⟨H.M, .cells g11 74 [.int .i64 1, .int .i64 m, .int .i64 k] :: .cells g10 74 [.int .i64 0, .int .i64 m, .int .i64 k] :: H.L⟩) kn rfl rfl (Weak.refl _) ⟨0, rfl, rfl, rfl⟩ ?_
    rintro m2 u2 vs H' ⟨n, rfl, hm2, rfl⟩
    conv => whnf
    refine awp_drawQ hT hM 17 (by kernel_rfl) ?_
    conv => whnf
    refine c_weight 0 m k x h0 (by omega) (by omega) _ _ ⟨Weak.refl _, ?_⟩
    conv => whnf
    refine c_weight 1 m k x h1 (by omega) (by omega) _ _ ⟨Weak.refl _, ?_⟩
    conv => whnf
    rw [hmin]
    refine ⟨by omega, _, shl_w (m := P) (by omega) (by omega) (hPn n (by omega)), ?_⟩
    conv => whnf
    refine c_weight 0 m k x h0 (by omega) (by omega) _ _ ⟨Weak.refl _, ?_⟩
    conv => whnf
    refine c_weight 1 m k x h1 (by omega) (by omega) _ _ ⟨Weak.refl _, ?_⟩
    conv => whnf
    rw [hmax]
    refine ifC_dec (fun hlt => ?_) (fun hlt => ?_)
    · rw [shl_lt hP (by omega) (by omega)] at hlt
      conv => whnf
      repeat (refine ⟨_, wi (by omega), ?_⟩; conv => whnf)
      exact ⟨rfl, rfl, m2 - 1, _, by omega, Weak.refl _, n + 1, rfl, by omega, rfl⟩
    · rw [shl_lt hP (by omega) (by omega)] at hlt
      obtain rfl : n = kn := by omega
      have hmk : (if (n : Int) > lv then (n : Int) else lv) = k := by rw [hlv]; split <;> split <;> omega
      conv => whnf
      rw [hmk]
      conv => whnf
      repeat (refine ⟨_, wi (by omega), ?_⟩; conv => whnf)
      exact ⟨rfl, rfl, mm - 1, _, by omega, Weak.refl _, x + 1, k, rfl, by omega, by rw [if_neg (by omega)], rfl⟩
  · have hlk : lv = k := by rw [hlv, if_neg (by omega)]
    subst hlk
    conv => whnf
    refine ⟨rfl, ?_⟩
    conv => whnf
    exact fin (weakK 2 rfl) hR
end Go.Proofs.Ytohdcmkooedkcaa.A
