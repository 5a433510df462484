/- The second half of ConsentAnew in plain words. -/
import Derived.Test.YtjgljgkfflojbaaD19
namespace Go.Proofs.Ytjgljgkfflojbaa.A
open Go Go.RowKit
set_option linter.unusedVariables false
set_option linter.unusedSimpArgs false
set_option maxRecDepth 20000

/-- i things have been renewed, and made anew in the other book. -/
structure Ph (S0 S S2 : St) (i : Nat) : Prop where
  len : S.ts.length = S0.ts.length
  gone : S.gone = S0.gone
  ok : okS S
  ok2 : okS S2
  g2 : S2.gone = []
  l2 : S2.ts.length = i
  d : ∀ k : Nat, k < i → (S.th k).u = true ∧ (S2.th k).u = true ∧ (S.th k).b = (S2.th k).b ∧ ((S0.th k).u = true → (S.th k).b = (S0.th k).b)
  r : ∀ k : Nat, i ≤ k → k < S0.ts.length → S.th k = S0.th k
def anewS (S : St) (i : Nat) : St := if (S.th i).u = true then S else (rnS S i).1
theorem staleS_no {S : St} {f : List Int} (h : ∀ j ∈ f, (S.th j).u = true) : staleS S f = false := by
  unfold staleS
  rw [List.any_eq_false]
  intro j hj
  simp [h j hj]
theorem Ph.step {S0 S S2 : St} {made : List A26} {i : Nat} (h0 : okS S0) (hI : InvR S0) (hA : InvA S0 made) (h : Ph S0 S S2 i) (hi : i < made.length) :
    ((S.th i).u = false → (rnS S i).2 = 0) ∧ (mkS S2 made[i].f (lessL made[i].p S0.gone)).2.2 = 0 ∧ Ph S0 (anewS S i) (mkS S2 made[i].f (lessL made[i].p S0.gone)).1 (i + 1) ∧
      (((mkS S2 made[i].f (lessL made[i].p S0.gone)).1).th i).b = ((anewS S i).th i).b := by
  have hml := hA.len
  have hin : i < S0.ts.length := by omega
  have hti := h.r i (Nat.le_refl _) hin
  have hfi := hA.f i hi
  have hpi := hA.p i hi S0.gone fun x hx => hx
  have hfk := h0.fk hin
  have hth := h0.th _ _ (St.th_some (S := S0) (i := i) (by omega) (by omega))
  have hlt : i < S.ts.length := by rw [h.len]; exact hin
  have hst : staleS S (S.th i).f = false := staleS_no fun j hj => by
    rw [hti] at hj
    have := hfk j hj
    obtain ⟨k, rfl⟩ : ∃ k : Nat, j = k := ⟨j.toNat, by omega⟩
    exact (h.d k (by omega)).1
  have hst2 : staleS S2 made[i].f = false := staleS_no fun j hj => by
    rw [← hfi] at hj
    have := hfk j hj
    obtain ⟨k, rfl⟩ : ∃ k : Nat, j = k := ⟨j.toNat, by omega⟩
    exact (h.d k (by omega)).2.1
  have hb2 : ∀ p, baseL S2 made[i].f p = baseL S made[i].f p := fun p => baseL_on fun j hj => by
    rw [← hfi] at hj
    have := hfk j hj
    obtain ⟨k, rfl⟩ : ∃ k : Nat, j = k := ⟨j.toNat, by omega⟩
    exact (h.d k (by omega)).2.2.1.symm
  have hn := h0.n
  have hrn : (S.th i).u = false → rnS S i = (⟨S.ts.set i (rnT S (S.th i)), S.gone⟩, 0) := fun hu => by
    unfold rnS
    rw [if_neg (by omega), if_neg (by rw [hu]; simp), if_neg (by rw [hst]; simp)]
    rfl
  have hpl : (lessL made[i].p S0.gone).length ≤ 512 := by
    rw [← hpi]
    exact Nat.le_trans (List.length_filter_le _ _) hth.pl
  have hrf : riseF (-1) S2.ts.length made[i].f = true := by
    rw [h.l2, ← hfi]
    exact riseF_mono hth.f (by simp)
  have hrp : riseF (-1) 65536 (lessL made[i].p S0.gone) = true := by rw [← hpi]; exact filter_rise _ hth.p
  have hmk : mkS S2 made[i].f (lessL made[i].p S0.gone) = (⟨S2.ts ++ [⟨made[i].f, lessL made[i].p S0.gone, norm (baseL S2 made[i].f (lessL made[i].p S0.gone)), true⟩], S2.gone⟩, (S2.ts.length : Int), 0) := by
    unfold mkS
    rw [if_neg (by rw [h.l2]; omega), if_neg (by rw [hrf, hrp]; simp), if_neg (by rw [h.g2]; simp), if_neg (by rw [hst2]; simp)]
  have hok2 := h.ok2.mk' made[i].f (lessL made[i].p S0.gone)
  rw [hmk] at hok2 ⊢
  have hl2' := h.l2
  have hold2 : ∀ k : Nat, k < i → (⟨S2.ts ++ [⟨made[i].f, lessL made[i].p S0.gone, norm (baseL S2 made[i].f (lessL made[i].p S0.gone)), true⟩], S2.gone⟩ : St).th k = S2.th k := fun k hk => th_app (by rw [h.l2]; omega)
  have hself2 : (⟨S2.ts ++ [⟨made[i].f, lessL made[i].p S0.gone, norm (baseL S2 made[i].f (lessL made[i].p S0.gone)), true⟩], S2.gone⟩ : St).th i = ⟨made[i].f, lessL made[i].p S0.gone, norm (baseL S2 made[i].f (lessL made[i].p S0.gone)), true⟩ := by
    have := th_new (ts := S2.ts) (t := ⟨made[i].f, lessL made[i].p S0.gone, norm (baseL S2 made[i].f (lessL made[i].p S0.gone)), true⟩) (gone := S2.gone)
    rw [h.l2] at this
    exact this
  -- what the first book has become
  obtain ⟨hS1, hS2, hS3, hS4, hS5, hS6⟩ : (anewS S i).ts.length = S.ts.length ∧ (anewS S i).gone = S.gone ∧ okS (anewS S i) ∧ (∀ k : Nat, k ≠ i → (anewS S i).th k = S.th k) ∧ ((anewS S i).th i).u = true ∧
      ((anewS S i).th i).b = norm (baseL S made[i].f (lessL made[i].p S0.gone)) := by
    unfold anewS
    by_cases hu : (S.th i).u = true
    · rw [if_pos hu]
      refine ⟨rfl, rfl, h.ok, fun _ _ => rfl, hu, ?_⟩
      rw [hti] at hu ⊢
      obtain ⟨e1, e2⟩ := hA.b i hin hu
      rw [e1, hfi, ← lessL_id e2, hpi]
      congr 1
      refine baseL_on fun j hj => ?_
      rw [← hfi] at hj
      have := hfk j hj
      obtain ⟨k, rfl⟩ : ∃ k : Nat, j = k := ⟨j.toNat, by omega⟩
      exact ((h.d k (by omega)).2.2.2 (hI.f i hin hu _ hj).1).symm
    · have hu' : (S.th i).u = false := by simpa using hu
      rw [if_neg hu]
      have hokr := h.ok.rn' i
      rw [hrn hu'] at hokr ⊢
      refine ⟨by simp, rfl, hokr, fun k hk => th_set (by omega), ?_, ?_⟩
      · rw [show (⟨S.ts.set i (rnT S (S.th i)), S.gone⟩ : St).th i = rnT S (S.th i) from th_self hlt]; rfl
      · rw [show (⟨S.ts.set i (rnT S (S.th i)), S.gone⟩ : St).th i = rnT S (S.th i) from th_self hlt]
        show norm (baseL S (S.th i).f (lessL (S.th i).p S.gone)) = _
        rw [hti, hfi, h.gone, hpi]
  refine ⟨fun hu => by rw [hrn hu], rfl, ⟨by rw [hS1]; exact h.len, by rw [hS2]; exact h.gone, hS3, hok2, h.g2, by simp [h.l2], fun k hk => ?_, fun k hk hk2 => by rw [hS4 k (by omega)]; exact h.r k (by omega) hk2⟩, by rw [hself2, hS6, hb2]⟩
  by_cases hki : k = i
  · subst hki
    rw [hself2]
    refine ⟨hS5, rfl, by rw [hS6, hb2], fun hu => ?_⟩
    have : anewS S k = S := by unfold anewS; rw [if_pos (by rw [hti]; exact hu)]
    rw [this, hti]
  · rw [hold2 k (by omega), hS4 k hki]
    exact h.d k (by omega)
end Go.Proofs.Ytjgljgkfflojbaa.A
