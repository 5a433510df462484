/- dioramaref23: Weights. -/
import Derived.Test.YtohdcmkooedkcaaN2
namespace Go.Proofs.Ytohdcmkooedkcaa.A
open Go Go.RowKit
set_option linter.unusedVariables false
set_option linter.unusedSimpArgs false
set_option maxRecDepth 20000

theorem c_WeightsR (c m k : Int) (hc : I64 c) (hm : I64 m) (hk : I64 k) (H : Hp) (R : Ending → Hp → Prop)
    (h0 : hidB c m k = false → R (.returned (.tuple #[.slice none 0 0, .int .i64 5])) H)
    (h1 : hidB c m k = true → ∀ v', RowVal v' 1 (ints (wtsL c m k)) → R (.returned (.tuple #[v', .int .i64 0])) ⟨H.M, .row v' 3 1 (ints (wtsL c m k)) :: H.L⟩) :
    ACalls Try.prog 37 [.int .i64 c, .int .i64 m, .int .i64 k] H R := by
  refine acalls_code hT Try.func37 rfl rfl ?_
  conv => whnf
  refine c_Fits m k hm hk _ _ ?_
  cases hf : fitsH m k with
  | false =>
    conv => whnf
    refine ⟨rfl, ?_⟩
    conv => whnf
    exact fin (Weak.refl _) (h0 (by unfold hidB; simp only [Bool.and_eq_false_iff, decide_eq_false_iff_not]; exact .inl hf))
  | true =>
    conv => whnf
    refine ifC_dec (fun h2 => ?_) (fun h2 => ?_)
    · conv => whnf
      refine ⟨rfl, ?_⟩
      conv => whnf
      exact fin (Weak.refl _) (h0 (by unfold hidB; simp only [Bool.and_eq_false_iff, decide_eq_false_iff_not]; right; omega))
    · conv => whnf
      refine ifC_dec (fun h3 => ?_) (fun h3 => ?_)
      · conv => whnf
        refine ⟨rfl, ?_⟩
        conv => whnf
        exact fin (Weak.refl _) (h0 (by unfold hidB; simp only [Bool.and_eq_false_iff, decide_eq_false_iff_not]; right; omega))
      · have hb : hidB c m k = true := by unfold hidB; rw [hf, decide_eq_true ⟨by omega, by omega⟩]; rfl
        have hok := hidB_iff.1 hb
        have h1 := h1 hb
        have hm1 := hok.m1
        have hm37 := hok.m37
        have hk1 := hok.k1
        have hk12 := hok.k12
        have hc0 := hok.c0
        have hcm := hok.cm
        obtain ⟨w, hw⟩ : ∃ w : Nat, (m + 1).toNat = w := ⟨_, rfl⟩
        unfold wtsL at h1
        rw [hw] at h1
        conv => whnf
        refine awp_loopL hT 64 [0, 1, 2, 8, 9] (fun n vs H' => ∃ (x : Nat) (s : Value), vs = [.int .i64 c, .int .i64 m, .int .i64 k, s, .int .i64 x] ∧ n + x = w ∧ RowVal s 1 (ints (wtsUp c m k x)) ∧ H' = ⟨H.M, .row s 3 1 (ints (wtsUp c m k x)) :: H.L⟩) w rfl rfl (weakNil H 3 1) ⟨0, .slice none 0 0, rfl, rfl, .inl ⟨rfl, rfl⟩, rfl⟩ ?_
        rintro n u vs H' ⟨x, s, rfl, hx, hs, rfl⟩
        obtain ⟨s1, s3, rfl⟩ := hs.cnt (by omega) (by rw [ints_length, Nat.mul_one])
        have hwl := wtsUp_len c m k x
        have hws := wtsUp_succ c m k x
        conv => whnf
        refine ifC_dec (fun h4 => ?_) (fun h4 => ?_)
        · have hx0 : (0 : Int) ≤ x := by omega
          obtain ⟨d0, d1⟩ := wtD_bd hok.c0 hok.cm hx0 h4
          obtain ⟨e0, e1⟩ := hok.e hx0 h4
          obtain ⟨w1, w2, w3, w4, w5⟩ := hok.w hx0 h4
          have hpp := Int.mul_nonneg (show 0 ≤ p2 (k * (m - wtD c x)) by omega) (show 0 ≤ p2 k by omega)
          conv => whnf
          refine ⟨_, wi (by omega), ?_⟩
          conv => whnf
          refine ⟨_, wi (by omega), ?_⟩
          conv => whnf
          rw [show (if c - (x : Int) > (x : Int) - c then c - (x : Int) else (x : Int) - c) = wtD c x from rfl]
          refine ⟨_, wi (by omega), ?_⟩
          conv => whnf
          refine ⟨_, wi (by omega), ?_⟩
          conv => whnf
          refine c_power _ e0 (by omega) _ _ ?_
          conv => whnf
          refine ifC_dec (fun h5 => ?_) (fun h5 => ?_)
          · conv => whnf
            refine c_power _ (by omega) (by omega) _ _ ?_
            conv => whnf
            refine ⟨_, wi (by omega), ?_⟩
            rw [show (p2 (k * (m - wtD c x)) * p2 k) = wtF c m k x from (by unfold wtF; rw [if_pos (.inl h5)])]
            conv => whnf
            intro q
            conv => whnf
            refine ⟨H.M, _, ints (wtsUp c m k x), ints [wtF c m k x], readsNew rfl rfl, ints_one _, weakDel 0 rfl, by rw [ints_length, ints_length, hwl]; simp; omega, by rw [ints_length, ints_length, hwl]; simp [maxLen]; omega, fun v' hv' => ?_⟩
            rw [← ints_append, ← hws] at hv' ⊢
            conv => whnf
            repeat (refine ⟨_, wi (by omega), ?_⟩; conv => whnf)
            exact ⟨rfl, rfl, n - 1, _, by omega, Weak.refl _, x + 1, v', rfl, by omega, hv', rfl⟩
          · conv => whnf
            refine ifC_dec (fun h6 => ?_) (fun h6 => ?_)
            · conv => whnf
              refine c_power _ (by omega) (by omega) _ _ ?_
              conv => whnf
              refine ⟨_, wi (by omega), ?_⟩
              rw [show (p2 (k * (m - wtD c x)) * p2 k) = wtF c m k x from (by unfold wtF; rw [if_pos (.inr h6)])]
              conv => whnf
              intro q
              conv => whnf
              refine ⟨H.M, _, ints (wtsUp c m k x), ints [wtF c m k x], readsNew rfl rfl, ints_one _, weakDel 0 rfl, by rw [ints_length, ints_length, hwl]; simp; omega, by rw [ints_length, ints_length, hwl]; simp [maxLen]; omega, fun v' hv' => ?_⟩
              rw [← ints_append, ← hws] at hv' ⊢
              conv => whnf
              repeat (refine ⟨_, wi (by omega), ?_⟩; conv => whnf)
              exact ⟨rfl, rfl, n - 1, _, by omega, Weak.refl _, x + 1, v', rfl, by omega, hv', rfl⟩
            · have hp38 := p2_38 (show k ≤ 38 by omega)
              conv => whnf
              refine c_power _ (by omega) (by omega) _ _ ?_
              conv => whnf
              refine ⟨_, wi (by omega), ?_⟩
              conv => whnf
              refine ⟨_, wi (by omega), ?_⟩
              rw [show (p2 (k * (m - wtD c x)) * (p2 k - 1)) = wtF c m k x from (by unfold wtF; rw [if_neg (by omega)])]
              conv => whnf
              intro q
              conv => whnf
              refine ⟨H.M, _, ints (wtsUp c m k x), ints [wtF c m k x], readsNew rfl rfl, ints_one _, weakDel 0 rfl, by rw [ints_length, ints_length, hwl]; simp; omega, by rw [ints_length, ints_length, hwl]; simp [maxLen]; omega, fun v' hv' => ?_⟩
              rw [← ints_append, ← hws] at hv' ⊢
              conv => whnf
              repeat (refine ⟨_, wi (by omega), ?_⟩; conv => whnf)
              exact ⟨rfl, rfl, n - 1, _, by omega, Weak.refl _, x + 1, v', rfl, by omega, hv', rfl⟩
        · have hxe : x = w := by omega
          subst hxe
          conv => whnf
          refine ⟨rfl, ?_⟩
          conv => whnf
          exact fin (Weak.refl _) (h1 _ hs)
end Go.Proofs.Ytohdcmkooedkcaa.A
