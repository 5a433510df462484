/- ConsentLimits. -/
import Derived.Test.YtjgljgkfflojbaaD10
namespace Go.Proofs.Ytjgljgkfflojbaa.A
open Go Go.RowKit
set_option linter.unusedVariables false
set_option linter.unusedSimpArgs false
set_option maxRecDepth 20000

structure AllU (S : St) : Prop where
  gone : S.gone = []
  u : ∀ t ∈ S.ts, t.u = true
theorem AllU.stale {S : St} (h : AllU S) (l : List Int) : staleS S l = false := by
  unfold staleS
  rw [List.any_eq_false]
  intro i _
  have : (S.th i).u = true := by
    simp only [St.th, List.getD_eq_getElem?_getD]
    cases e : S.ts[i.toNat]? with
    | none => rfl
    | some t => exact h.u t (List.mem_of_getElem? e)
  simp [this]
theorem lim_ok {S : St} (h : AllU S) {f p : List Int} (hn : S.ts.length < 256) (hp : p.length ≤ 512) (hf : riseF (-1) S.ts.length f = true) (hp2 : riseF (-1) 65536 p = true) :
    (mkS S f p).2 = ((S.ts.length : Int), (0 : Int)) ∧ AllU (mkS S f p).1 ∧ (mkS S f p).1.ts.length = S.ts.length + 1 := by
  have e : mkS S f p = ((⟨S.ts ++ [⟨f, p, norm (baseL S f p), true⟩], S.gone⟩ : St), (S.ts.length : Int), (0 : Int)) := by
    unfold mkS
    rw [if_neg (by omega), if_neg (by rw [hf, hp2]; simp), if_neg (by rw [h.gone]; simp), if_neg (by rw [h.stale]; simp)]
  rw [e]
  refine ⟨rfl, ⟨h.gone, fun t ht => ?_⟩, by simp⟩
  rcases List.mem_append.1 ht with ht | ht
  · exact h.u t ht
  · rw [List.mem_singleton.1 ht]
theorem lim_no {S : St} {f p : List Int} (hn : S.ts.length ≥ 256) : mkS S f p = (S, 0, 4) := by
  unfold mkS; rw [if_pos (.inl hn)]
set_option maxHeartbeats 2000000 in
theorem c_ConsentLimits (n : Int) (v : Value) (l : List Int) (H : Hp) (hn : I64 n) (hv : IntsAt H v l) (R : Ending → Hp → Prop) (hR : ∀ H', R (.returned (.bool true)) H') :
    ACalls Try.prog 3 [.int .i64 n, v] H R := by
  refine acalls_code hT Try.func3 rfl rfl ?_
  conv => whnf
  refine p_New fun g H0 B0 => ?_
  conv => whnf
  refine c_Around n 4 hn (by omega) _ _ ?_
  have hb4 := around_bd n 4 (by omega)
  obtain ⟨y, ey⟩ : ∃ y : Nat, around n 4 = y := ⟨(around n 4).toNat, by omega⟩
  rw [ey] at hb4 ⊢
  conv => whnf
  repeat (refine ⟨_, wi (by omega), ?_⟩; conv => whnf)
  refine awp_loopL hT 60 [1, 5, 6, 7] (fun m vs H' => ∃ (k : Nat) (S : St), vs = [v, ptr g, .int .i64 (254 + y), .int .i64 k] ∧ m + k = 254 + y ∧ okS S ∧ AllU S ∧ S.ts.length = min k 256 ∧ Bo g S H.M H.L H') (254 + y) rfl rfl (Weak.refl _) ⟨0, ⟨[], []⟩, rfl, rfl, ⟨by simp, by simp, by simp, by simp⟩, ⟨rfl, by simp⟩, rfl, B0⟩ ?_
  rintro m u vs H' ⟨k, S, rfl, hm, hok, hU, hlen, hB⟩
  conv => whnf
  refine ifC_dec (fun h1 => ?_) (fun h1 => ?_)
  · have h5 : 0 ≤ (k : Int).tmod 5 ∧ (k : Int).tmod 5 < 5 := by rw [Int.tmod_eq_emod_of_nonneg (by omega)]; omega
    have h7 : 0 ≤ (k : Int).tmod 7 ∧ (k : Int).tmod 7 < 7 := by rw [Int.tmod_eq_emod_of_nonneg (by omega)]; omega
    have hrp : riseF (-1) 65536 [(k : Int).tmod 5] = true := riseF_iff.2 ⟨by simp, fun x hx => by rw [List.mem_singleton.1 hx]; omega⟩
    have hokM := fun f => hok.mk' f [(k : Int).tmod 5]
    conv => whnf
    refine ifC_dec (fun h2 => ?_) (fun h2 => ?_)
    · obtain ⟨L, hw, hsub, hB2⟩ := hB.reads
      conv => whnf
      refine ⟨by omega, _, rfl, ?_⟩
      conv => whnf
      refine ACalls.weak hw (c_At v l ((k : Int).tmod 7) k (by omega) _ (hv.mono (hle_sub hsub)) _ ?_)
      have hat := atv_bd l ((k : Int).tmod 7) k (by omega)
      generalize atv l ((k : Int).tmod 7) k = a at *
      conv => whnf
      intro q1
      conv => whnf
      refine ⟨H.M, _, [], ints [a], readsNew rfl rfl, ints_one _, weakNil _ 3 1, by simp [ints], by simp [ints, maxLen], fun v' hv' => ?_⟩
      rw [List.nil_append] at *
      obtain ⟨a1, a2, a3, rfl⟩ := hv'.slice
      conv => whnf
      refine ⟨by omega, _, rfl, ?_⟩
      conv => whnf
      intro q2
      conv => whnf
      refine p_Make (((hB2.add _).add _).add _) hok (f := [a]) (intsRow (l := [a]) 1 rfl hv' (by simp; omega) (by simp)) (intsRow (l := [(k : Int).tmod 5]) 0 rfl (rowNew rfl (by omega)) (by simp; omega) (by simp)) fun H3 B3 => ?_
      by_cases hk : k < 256
      · have hS : S.ts.length = k := by omega
        obtain ⟨e1, hU2, hl2⟩ := lim_ok hU (f := [a]) (p := [(k : Int).tmod 5]) (by omega) (by simp) (by rw [hS]; exact (riseF_iff.2 ⟨by simp, fun x hx => by rw [List.mem_singleton.1 hx]; omega⟩)) hrp
        have e11 : (mkS S [a] [(k : Int).tmod 5]).2.1 = k := by rw [e1, hS]
        have e12 : (mkS S [a] [(k : Int).tmod 5]).2.2 = 0 := by rw [e1]
        rw [e11, e12]
        conv => whnf
        refine ifC_pos (by omega) ?_
        conv => whnf
        refine ifC_neg (by simp) ?_
        conv => whnf
        refine ifC_neg (by omega) ?_
        conv => whnf
        repeat (refine ⟨_, wi (by omega), ?_⟩; conv => whnf)
        exact ⟨rfl, rfl, m - 1, _, by omega, Weak.refl _, k + 1, _, rfl, by omega, hokM _, hU2, by rw [hl2]; omega, (Bo.take (A := [_, _, _]) B3)⟩
      · rw [lim_no (by omega)] at *
        conv => whnf
        refine ifC_neg (by omega) ?_
        conv => whnf
        refine ifC_pos (by omega) ?_
        conv => whnf
        repeat (refine ⟨_, wi (by omega), ?_⟩; conv => whnf)
        exact ⟨rfl, rfl, m - 1, _, by omega, Weak.refl _, k + 1, S, rfl, by omega, hok, hU, by omega, (Bo.take (A := [_, _, _]) B3)⟩
    · have hk0 : k = 0 := by omega
      conv => whnf
      refine ⟨by omega, _, rfl, ?_⟩
      conv => whnf
      intro q2
      conv => whnf
      refine p_Make (hB.add _) hok (f := []) (nilI _) (intsRow (l := [(k : Int).tmod 5]) 0 rfl (rowNew rfl (by omega)) (by simp; omega) (by simp)) fun H3 B3 => ?_
      by_cases hk : k < 256
      · have hS : S.ts.length = k := by omega
        obtain ⟨e1, hU2, hl2⟩ := lim_ok hU (f := []) (p := [(k : Int).tmod 5]) (by omega) (by simp) (by rw [hS]; exact rfl) hrp
        have e11 : (mkS S [] [(k : Int).tmod 5]).2.1 = k := by rw [e1, hS]
        have e12 : (mkS S [] [(k : Int).tmod 5]).2.2 = 0 := by rw [e1]
        rw [e11, e12]
        conv => whnf
        refine ifC_pos (by omega) ?_
        conv => whnf
        refine ifC_neg (by simp) ?_
        conv => whnf
        refine ifC_neg (by omega) ?_
        conv => whnf
        repeat (refine ⟨_, wi (by omega), ?_⟩; conv => whnf)
        exact ⟨rfl, rfl, m - 1, _, by omega, Weak.refl _, k + 1, _, rfl, by omega, hokM _, hU2, by rw [hl2]; omega, (Bo.take (A := [_]) B3)⟩
      · rw [lim_no (by omega)] at *
        conv => whnf
        refine ifC_neg (by omega) ?_
        conv => whnf
        refine ifC_pos (by omega) ?_
        conv => whnf
        repeat (refine ⟨_, wi (by omega), ?_⟩; conv => whnf)
        exact ⟨rfl, rfl, m - 1, _, by omega, Weak.refl _, k + 1, S, rfl, by omega, hok, hU, by omega, (Bo.take (A := [_]) B3)⟩
  · conv => whnf
    refine c_lives26 _ _ ?_
    intro H'
    conv => whnf
    refine ⟨rfl, ?_⟩
    conv => whnf
    exact fin (Weak.refl _) (hR _)
end Go.Proofs.Ytjgljgkfflojbaa.A
