/- noise and dioramaref23: the weights in plain words; valid, weight, Fits, power. -/
import Derived.Test.YtohdcmkooedkcaaK1
namespace Go.Proofs.Ytohdcmkooedkcaa.A
open Go Go.RowKit
set_option linter.unusedVariables false
set_option linter.unusedSimpArgs false
set_option maxRecDepth 20000

structure HidOk (c m k : Int) : Prop where
  c0 : 0 ≤ c
  cm : c ≤ m
  m1 : 1 ≤ m
  m37 : m ≤ 37
  k1 : 1 ≤ k
  k12 : k ≤ 12
  km : k * (m + 1) ≤ 38
def fitsH (m k : Int) : Bool := decide (1 ≤ m ∧ m ≤ 37 ∧ 1 ≤ k ∧ k ≤ 12 ∧ k * (m + 1) ≤ 38)
def hidB (c m k : Int) : Bool := fitsH m k && decide (0 ≤ c ∧ c ≤ m)
theorem hidB_iff {c m k : Int} : hidB c m k = true ↔ HidOk c m k := by
  unfold hidB fitsH
  simp only [Bool.and_eq_true, decide_eq_true_eq]
  exact ⟨fun ⟨⟨a, b, d, e, f⟩, g, h⟩ => ⟨g, h, a, b, d, e, f⟩, fun h => ⟨⟨h.m1, h.m37, h.k1, h.k12, h.km⟩, h.c0, h.cm⟩⟩
def wtD (c x : Int) : Int := if c - x > x - c then c - x else x - c
def p2 (n : Int) : Int := 2 ^ n.toNat
def wtF (c m k x : Int) : Int := if x = 0 ∨ x = m then p2 (k * (m - wtD c x)) * p2 k else p2 (k * (m - wtD c x)) * (p2 k - 1)
theorem p2_pos (n : Int) : 1 ≤ p2 n := by
  unfold p2
  generalize n.toNat = a
  induction a with
  | zero => simp
  | succ a ih => rw [Int.pow_succ]; omega
theorem p2_add {a b : Int} (ha : 0 ≤ a) (hb : 0 ≤ b) : p2 (a + b) = p2 a * p2 b := by
  unfold p2
  rw [Int.toNat_add ha hb, Int.pow_add]
theorem p2_mono {a b : Int} (h : a ≤ b) : p2 a ≤ p2 b := by
  unfold p2
  have hab : a.toNat ≤ b.toNat := by omega
  obtain ⟨d, hd⟩ := Nat.exists_eq_add_of_le hab
  rw [hd, Int.pow_add]
  have h1 := p2_pos (a.toNat : Int)
  have h2 := p2_pos (d : Int)
  unfold p2 at h1 h2
  simp only [Int.toNat_natCast] at h1 h2
  have := Int.mul_le_mul_of_nonneg_left h2 (show (0 : Int) ≤ 2 ^ a.toNat by omega)
  omega
theorem p2_38 {n : Int} (h : n ≤ 38) : p2 n ≤ 274877906944 := Int.le_trans (p2_mono h) (by decide)
theorem wtD_bd {c m x : Int} (hc : 0 ≤ c) (hcm : c ≤ m) (h0 : 0 ≤ x) (h1 : x ≤ m) : 0 ≤ wtD c x ∧ wtD c x ≤ m := by
  unfold wtD; split <;> omega
theorem HidOk.e {c m k x : Int} (h : HidOk c m k) (h0 : 0 ≤ x) (h1 : x ≤ m) : 0 ≤ k * (m - wtD c x) ∧ k * (m - wtD c x) + k ≤ 38 := by
  obtain ⟨d0, d1⟩ := wtD_bd h.c0 h.cm h0 h1
  have hk := h.k1
  have e1 : k * (m - wtD c x) + k = k * (m - wtD c x + 1) := by rw [Int.mul_add, Int.mul_one]
  have := Int.mul_le_mul_of_nonneg_left (show m - wtD c x + 1 ≤ m + 1 by omega) (show 0 ≤ k by omega)
  exact ⟨Int.mul_nonneg (by omega) (by omega), by have := h.km; omega⟩
theorem HidOk.w {c m k x : Int} (h : HidOk c m k) (h0 : 0 ≤ x) (h1 : x ≤ m) : 1 ≤ p2 (k * (m - wtD c x)) ∧ p2 (k * (m - wtD c x)) * p2 k ≤ 274877906944 ∧ 2 ≤ p2 k ∧ 0 ≤ p2 (k * (m - wtD c x)) * (p2 k - 1) ∧ p2 (k * (m - wtD c x)) * (p2 k - 1) ≤ 274877906944 := by
  obtain ⟨e0, e1⟩ := h.e h0 h1
  have hk := h.k1
  have a := p2_pos (k * (m - wtD c x))
  have b : p2 1 ≤ p2 k := p2_mono (by omega)
  have b1 : p2 1 = 2 := by decide
  have d : p2 (k * (m - wtD c x)) * p2 k ≤ 274877906944 := by
    rw [← p2_add e0 (by omega)]
    exact p2_38 (by omega)
  have g := Int.mul_nonneg (show 0 ≤ p2 (k * (m - wtD c x)) by omega) (show 0 ≤ p2 k - 1 by omega)
  have f := Int.mul_sub (p2 (k * (m - wtD c x))) (p2 k) 1
  rw [Int.mul_one] at f
  exact ⟨a, d, by omega, g, by omega⟩
theorem wtF_bd {c m k x : Int} (h : HidOk c m k) (h0 : 0 ≤ x) (h1 : x ≤ m) : 1 ≤ wtF c m k x ∧ wtF c m k x ≤ 274877906944 := by
  obtain ⟨a, b, d, e, f⟩ := h.w h0 h1
  unfold wtF
  split
  · exact ⟨by
      have := Int.mul_le_mul_of_nonneg_left (show (1 : Int) ≤ p2 k by omega) (show 0 ≤ p2 (k * (m - wtD c x)) by omega)
      omega, b⟩
  · exact ⟨by
      have := Int.mul_le_mul_of_nonneg_left (show (1 : Int) ≤ p2 k - 1 by omega) (show 0 ≤ p2 (k * (m - wtD c x)) by omega)
      omega, f⟩
theorem shl_w {m n : Int} (h0 : 0 ≤ n) (h1 : n ≤ 62) (h : I64 (m * p2 n)) : m * p2 n = IntKind.i64.wrap (m * 2 ^ (min n.toNat IntKind.i64.bits)) := by
  have : min n.toNat IntKind.i64.bits = n.toNat := Nat.min_eq_left (by show n.toNat ≤ 64; omega)
  rw [this]
  exact wi h
def hidV (c m k : Int) : Value := .agg #[.int .i64 c, .int .i64 m, .int .i64 k]
theorem c_hidValid (c m k : Int) (hc : I64 c) (hm : I64 m) (hk : I64 k) (H : Hp) (R : Ending → Hp → Prop) (hR : R (.returned (.bool (hidB c m k))) H) : ACalls Try.prog 38 [hidV c m k] H R := by
  unfold hidV
  refine acalls_code hT Try.func38 rfl rfl ?_
  conv => whnf
  intro g1
  conv => whnf
  refine ldS 0 rfl rfl ?_
  conv => whnf
  refine ifC_dec (fun h1 => ?_) (fun h1 => ?_)
  · conv => whnf
    refine ldS 0 rfl rfl ?_
    conv => whnf
    refine ifC_dec (fun h2 => ?_) (fun h2 => ?_)
    · conv => whnf
      refine ldS 0 rfl rfl ?_
      conv => whnf
      refine ifC_dec (fun h3 => ?_) (fun h3 => ?_)
      · conv => whnf
        refine ldS 0 rfl rfl ?_
        conv => whnf
        refine ifC_dec (fun h4 => ?_) (fun h4 => ?_)
        · have hmul : 0 ≤ k * (m + 1) ∧ k * (m + 1) ≤ 456 := by
            have h1 := Int.mul_le_mul_of_nonneg_left (show m + 1 ≤ 38 by omega) (show 0 ≤ k by omega)
            exact ⟨Int.mul_nonneg (by omega) (by omega), by omega⟩
          conv => whnf
          refine ldS 0 rfl rfl ?_
          conv => whnf
          refine ldS 0 rfl rfl ?_
          conv => whnf
          refine ⟨_, wi (by omega), ?_⟩
          conv => whnf
          refine ⟨_, wi (by omega), ?_⟩
          conv => whnf
          refine ifC_dec (fun h5 => ?_) (fun h5 => ?_)
          · conv => whnf
            refine ldS 0 rfl rfl ?_
            conv => whnf
            refine ifC_dec (fun h6 => ?_) (fun h6 => ?_)
            · conv => whnf
              refine ldS 0 rfl rfl ?_
              conv => whnf
              refine ldS 0 rfl rfl ?_
              conv => whnf
              conv => whnf
              refine ⟨rfl, ?_⟩
              conv => whnf
              have : hidB c m k = decide (c ≤ m) := by
                unfold hidB fitsH
                rw [decide_eq_true ⟨by omega, by omega, by omega, by omega, by omega⟩, Bool.true_and]
                by_cases h : c ≤ m
                · rw [decide_eq_true h, decide_eq_true ⟨by omega, h⟩]
                · rw [decide_eq_false h, decide_eq_false (fun h' => h h'.2)]
              rw [this] at hR
              exact fin (weakK 1 rfl) hR
            · conv => whnf
              refine ⟨rfl, ?_⟩
              conv => whnf
              have : hidB c m k = false := by
                cases h : hidB c m k with
                | false => rfl
                | true => have h := hidB_iff.1 h; have h1 := h.c0; have h2 := h.cm; have h3 := h.m1; have h4 := h.m37; have h5 := h.k1; have h6 := h.k12; have h7 := h.km; omega
              rw [this] at hR
              exact fin (weakK 1 rfl) hR
          · conv => whnf
            refine ⟨rfl, ?_⟩
            conv => whnf
            have : hidB c m k = false := by
              cases h : hidB c m k with
              | false => rfl
              | true => have h := hidB_iff.1 h; have h1 := h.c0; have h2 := h.cm; have h3 := h.m1; have h4 := h.m37; have h5 := h.k1; have h6 := h.k12; have h7 := h.km; omega
            rw [this] at hR
            exact fin (weakK 1 rfl) hR
        · conv => whnf
          refine ⟨rfl, ?_⟩
          conv => whnf
          have : hidB c m k = false := by
            cases h : hidB c m k with
            | false => rfl
            | true => have h := hidB_iff.1 h; have h1 := h.c0; have h2 := h.cm; have h3 := h.m1; have h4 := h.m37; have h5 := h.k1; have h6 := h.k12; have h7 := h.km; omega
          rw [this] at hR
          exact fin (weakK 1 rfl) hR
      · conv => whnf
        refine ⟨rfl, ?_⟩
        conv => whnf
        have : hidB c m k = false := by
          cases h : hidB c m k with
          | false => rfl
          | true => have h := hidB_iff.1 h; have h1 := h.c0; have h2 := h.cm; have h3 := h.m1; have h4 := h.m37; have h5 := h.k1; have h6 := h.k12; have h7 := h.km; omega
        rw [this] at hR
        exact fin (weakK 1 rfl) hR
    · conv => whnf
      refine ⟨rfl, ?_⟩
      conv => whnf
      have : hidB c m k = false := by
        cases h : hidB c m k with
        | false => rfl
        | true => have h := hidB_iff.1 h; have h1 := h.c0; have h2 := h.cm; have h3 := h.m1; have h4 := h.m37; have h5 := h.k1; have h6 := h.k12; have h7 := h.km; omega
      rw [this] at hR
      exact fin (weakK 1 rfl) hR
  · conv => whnf
    refine ⟨rfl, ?_⟩
    conv => whnf
    have : hidB c m k = false := by
      cases h : hidB c m k with
      | false => rfl
      | true => have h := hidB_iff.1 h; have h1 := h.c0; have h2 := h.cm; have h3 := h.m1; have h4 := h.m37; have h5 := h.k1; have h6 := h.k12; have h7 := h.km; omega
    rw [this] at hR
    exact fin (weakK 1 rfl) hR
theorem c_weight (c m k x : Int) (h : HidOk c m k) (h0 : 0 ≤ x) (h1 : x ≤ m) (H : Hp) (R : Ending → Hp → Prop) (hR : R (.returned (.int .i64 (wtF c m k x))) H) : ACalls Try.prog 39 [hidV c m k, .int .i64 x] H R := by
  obtain ⟨d0, d1⟩ := wtD_bd h.c0 h.cm h0 h1
  obtain ⟨e0, e1⟩ := h.e h0 h1
  obtain ⟨w1, w2, w3, w4, w5⟩ := h.w h0 h1
  have hk1 := h.k1
  have hk12 := h.k12
  have hm37 := h.m37
  have hc0 := h.c0
  have hcm := h.cm
  have hp38 := p2_38 (show k * (m - wtD c x) ≤ 38 by omega)
  have hpp := Int.mul_nonneg (show 0 ≤ p2 (k * (m - wtD c x)) by omega) (show 0 ≤ p2 k by omega)
  unfold wtF at hR
  unfold hidV
  refine acalls_code hT Try.func39 rfl rfl ?_
  conv => whnf
  intro g2
  conv => whnf
  refine ldS 0 rfl rfl ?_
  conv => whnf
  refine ⟨_, wi (by omega), ?_⟩
  conv => whnf
  refine ldS 0 rfl rfl ?_
  conv => whnf
  refine ⟨_, wi (by omega), ?_⟩
  conv => whnf
  rw [show (if c - x > x - c then c - x else x - c) = wtD c x from rfl]
  refine ldS 0 rfl rfl ?_
  conv => whnf
  refine ldS 0 rfl rfl ?_
  conv => whnf
  refine ⟨_, wi (by omega), ?_⟩
  conv => whnf
  refine ⟨_, wi (by omega), ?_⟩
  conv => whnf
  refine ⟨by omega, _, shl_w (m := 1) e0 (by omega) (by omega), ?_⟩
  rw [Int.one_mul]
  conv => whnf
  refine ifC_dec (fun h2 => ?_) (fun h2 => ?_)
  · conv => whnf
    refine ldS 0 rfl rfl ?_
    conv => whnf
    refine ⟨by omega, _, shl_w (by omega) (by omega) (by omega), ?_⟩
    conv => whnf
    refine ⟨rfl, ?_⟩
    conv => whnf
    rw [if_pos (.inl h2)] at hR
    exact fin (weakK 1 rfl) hR
  · conv => whnf
    refine ldS 0 rfl rfl ?_
    conv => whnf
    refine ifC_dec (fun h3 => ?_) (fun h3 => ?_)
    · conv => whnf
      refine ldS 0 rfl rfl ?_
      conv => whnf
      refine ⟨by omega, _, shl_w (by omega) (by omega) (by omega), ?_⟩
      conv => whnf
      refine ⟨rfl, ?_⟩
      conv => whnf
      rw [if_pos (.inr h3)] at hR
      exact fin (weakK 1 rfl) hR
    · conv => whnf
      refine ldS 0 rfl rfl ?_
      conv => whnf
      refine ⟨by omega, _, shl_w (m := 1) (by omega) (by omega) (by have := p2_38 (show k ≤ 38 by omega); omega), ?_⟩
      rw [Int.one_mul]
      have := p2_38 (show k ≤ 38 by omega)
      conv => whnf
      refine ⟨_, wi (by omega), ?_⟩
      conv => whnf
      refine ⟨_, wi (by omega), ?_⟩
      conv => whnf
      refine ⟨rfl, ?_⟩
      conv => whnf
      rw [if_neg (by omega)] at hR
      exact fin (weakK 1 rfl) hR

/-! ### The reference -/
theorem c_power (n : Int) (h0 : 0 ≤ n) (h1 : n ≤ 38) (H : Hp) (R : Ending → Hp → Prop) (hR : R (.returned (.int .i64 (p2 n))) H) : ACalls Try.prog 47 [.int .i64 n] H R := by
  obtain ⟨w, rfl⟩ : ∃ w : Nat, n = w := ⟨n.toNat, by omega⟩
  refine acalls_code hT Try.func47 rfl rfl ?_
  conv => whnf
  refine awp_loopL hT 13 [0, 3, 4] (fun m vs H' => ∃ k : Nat, vs = [.int .i64 w, .int .i64 (p2 k), .int .i64 k] ∧ m + k = w ∧ H' = H) w rfl rfl (Weak.refl _) ⟨0, rfl, rfl, rfl⟩ ?_
  rintro m u vs H' ⟨k, rfl, hk, rfl⟩
  conv => whnf
  refine ifC_dec (fun h2 => ?_) (fun h2 => ?_)
  · have hp := p2_pos k
    have hp2 := p2_38 (show (k : Int) + 1 ≤ 38 by omega)
    have hs : p2 (k : Int) * 2 = p2 ((k + 1 : Nat) : Int) := by unfold p2; simp only [Int.toNat_natCast]; rw [Int.pow_succ]
    rw [show (k : Int) + 1 = ((k + 1 : Nat) : Int) by omega, ← hs] at hp2
    conv => whnf
    refine ⟨_, wi (by omega), ?_⟩
    rw [hs]
    conv => whnf
    repeat (refine ⟨_, wi (by omega), ?_⟩; conv => whnf)
    exact ⟨rfl, rfl, m - 1, _, by omega, Weak.refl _, k + 1, rfl, by omega, rfl⟩
  · have : k = w := by omega
    subst this
    conv => whnf
    refine ⟨rfl, ?_⟩
    conv => whnf
    exact fin (Weak.refl _) hR
theorem c_Fits (m k : Int) (hm : I64 m) (hk : I64 k) (H : Hp) (R : Ending → Hp → Prop) (hR : R (.returned (.bool (fitsH m k))) H) : ACalls Try.prog 46 [.int .i64 m, .int .i64 k] H R := by
  refine acalls_code hT Try.func46 rfl rfl ?_
  conv => whnf
  refine ifC_dec (fun h1 => ?_) (fun h1 => ?_)
  · conv => whnf
    refine ifC_dec (fun h2 => ?_) (fun h2 => ?_)
    · conv => whnf
      refine ifC_dec (fun h3 => ?_) (fun h3 => ?_)
      · conv => whnf
        refine ifC_dec (fun h4 => ?_) (fun h4 => ?_)
        · have hmul : 0 ≤ k * (m + 1) ∧ k * (m + 1) ≤ 456 := by
            have h1 := Int.mul_le_mul_of_nonneg_left (show m + 1 ≤ 38 by omega) (show 0 ≤ k by omega)
            exact ⟨Int.mul_nonneg (by omega) (by omega), by omega⟩
          conv => whnf
          refine ⟨_, wi (by omega), ?_⟩
          conv => whnf
          refine ⟨_, wi (by omega), ?_⟩
          conv => whnf
          refine ⟨rfl, ?_⟩
          conv => whnf
          have : fitsH m k = decide (k * (m + 1) ≤ 38) := by
            unfold fitsH
            by_cases h : k * (m + 1) ≤ 38
            · rw [decide_eq_true h, decide_eq_true ⟨by omega, by omega, by omega, by omega, h⟩]
            · rw [decide_eq_false h, decide_eq_false (fun h' => h h'.2.2.2.2)]
          rw [this] at hR
          exact fin (Weak.refl _) hR
        · conv => whnf
          refine ⟨rfl, ?_⟩
          conv => whnf
          have : fitsH m k = false := decide_eq_false (fun h => by have h1 := h.1; have h2 := h.2.1; have h3 := h.2.2.1; have h4 := h.2.2.2.1; omega)
          rw [this] at hR
          exact fin (Weak.refl _) hR
      · conv => whnf
        refine ⟨rfl, ?_⟩
        conv => whnf
        have : fitsH m k = false := decide_eq_false (fun h => by have h1 := h.1; have h2 := h.2.1; have h3 := h.2.2.1; have h4 := h.2.2.2.1; omega)
        rw [this] at hR
        exact fin (Weak.refl _) hR
    · conv => whnf
      refine ⟨rfl, ?_⟩
      conv => whnf
      have : fitsH m k = false := decide_eq_false (fun h => by have h1 := h.1; have h2 := h.2.1; have h3 := h.2.2.1; have h4 := h.2.2.2.1; omega)
      rw [this] at hR
      exact fin (Weak.refl _) hR
  · conv => whnf
    refine ⟨rfl, ?_⟩
    conv => whnf
    have : fitsH m k = false := decide_eq_false (fun h => by have h1 := h.1; have h2 := h.2.1; have h3 := h.2.2.1; have h4 := h.2.2.2.1; omega)
    rw [this] at hR
    exact fin (Weak.refl _) hR
end Go.Proofs.Ytohdcmkooedkcaa.A
