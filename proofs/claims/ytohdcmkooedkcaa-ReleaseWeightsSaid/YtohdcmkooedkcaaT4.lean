/- release: Persons. -/
import Derived.Test.YtohdcmkooedkcaaT3
import Derived.Test.YtohdcmkooedkcaaKI
namespace Go.Proofs.Ytohdcmkooedkcaa.A
open Go Go.RowKit
set_option linter.unusedVariables false
set_option linter.unusedSimpArgs false
set_option maxRecDepth 20000

def personsT (t : Tb) : List Int := if validT t = 0 then srt t.ps else []
theorem c_Persons (sv rv : Value) (sz : List Int) (rs : List RV) (H : Hp) (h : TbAt H sv rv sz rs) (ho : okTb (tbOf sz rs)) (R : Ending → Hp → Prop)
    (hR : ∀ v', RowVal v' 1 (ints (personsT (tbOf sz rs))) → R (.returned v') ⟨H.M, .row v' 3 1 (ints (personsT (tbOf sz rs))) :: H.L⟩) :
    ACalls Try.prog 12 [.agg #[sv, rv]] H R := by
  obtain ⟨ps, cs, rfl, hcs⟩ := intsAt h.s
  obtain ⟨pr, cr, rfl, hcr⟩ := rvAt h.r
  unfold personsT at hR
  refine acalls_code hT Try.func12 rfl rfl ?_
  conv => whnf
  intro g1
  conv => whnf
  refine ldA 0 rfl rfl ?_
  conv => whnf
  refine c_Valid _ _ sz rs _ (h.mono (HLe.cons H _)) ho _ ?_
  conv => whnf
  by_cases hv : validT (tbOf sz rs) = 0
  · rw [if_pos hv] at hR
    have hrl := (valid0 hv).2.1
    rw [tbOf_rows] at hrl
    refine ifC_neg (by rw [hv]; simp) ?_
    conv => whnf
    refine ldS 0 rfl rfl ?_
    conv => whnf
    refine awp_loopL hT 25 [3, 10, 11, 12] (fun m vs H' => ∃ (k : Nat) (s : Value), vs = [s, .slice pr rs.length cr, .int .i64 rs.length, .int .i64 k] ∧ m + k = rs.length ∧ RowVal s 1 (ints ((rs.take k).map (·.r.p))) ∧
      H' = ⟨H.M, .row s 3 1 (ints ((rs.take k).map (·.r.p))) :: .cells g1 31 [.slice ps sz.length cs, .slice pr rs.length cr] :: H.L⟩) rs.length rfl rfl (weakNil _ 3 1) ⟨0, .slice none 0 0, rfl, by omega, .inl ⟨rfl, rfl⟩, rfl⟩ ?_
    rintro m u vs H' ⟨k, s, rfl, hm, hs, rfl⟩
    obtain ⟨s1, s2, s3, rfl⟩ := hs.slice
    conv => whnf
    refine ifC_dec (fun h1 => ?_) (fun h1 => ?_)
    · have hkl : k < rs.length := by omega
      have hmem := List.getElem_mem hkl
      obtain ⟨gr, or', rfl, hce⟩ := hcr k hkl
      obtain ⟨pv, cv, ev, _⟩ := intsAt (h.v _ hmem)
      have hsucc : (rs.take (k + 1)).map (·.r.p) = (rs.take k).map (·.r.p) ++ [rs[k].r.p] := by rw [List.take_succ_eq_append_getElem hkl, List.map_append]; rfl
      have hlen : ((rs.take k).map (·.r.p)).length ≤ 64 := by rw [List.length_map, List.length_take]; omega
      conv => whnf
      refine ⟨gr, or', rfl, by omega, ?_⟩
      conv => whnf
      refine ⟨rvc rs[k], rfl, hce.mono (hle_sub fun a ha => by simp [ha]), ?_⟩
      unfold rvc
      rw [ev]
      conv => whnf
      intro g5
      conv => whnf
      refine stC 0 rfl rfl (by first | (refine ⟨rfl, ?_⟩; repeat' (first | exact trivial | refine ⟨rfl, ?_⟩)) | simp [oneCells, Value.oneCell', setN]) ?_
      conv => whnf
      refine ldS 0 rfl rfl ?_
      conv => whnf
      intro q
      conv => whnf
      refine ⟨H.M, _, ints ((rs.take k).map (·.r.p)), ints [rs[k].r.p], readsNew rfl rfl, ints_one _, (weakDel 0 rfl).trans (weakPull [1] rfl), by rw [ints_length, ints_length]; simp only [List.length_singleton]; omega, by rw [ints_length, ints_length]; simp only [List.length_singleton, maxLen]; omega, fun v' hv' => ?_⟩
      rw [← ints_append, ← hsucc] at *
      conv => whnf
      repeat (refine ⟨_, wi (by omega), ?_⟩; conv => whnf)
      exact ⟨rfl, rfl, m - 1, _, by omega, weakDel 1 rfl, k + 1, v', rfl, by omega, hv', rfl⟩
    · have hke : k = rs.length := by omega
      subst hke
      rw [List.take_length, ← ps_tb sz rs] at *
      conv => whnf
      refine c_Sort _ _ H.M _ hs (by simp [Tb.ps, tbOf]; omega) _ fun hs' => ?_
      conv => whnf
      refine ⟨rfl, ?_⟩
      conv => whnf
      exact fin (weakDel 1 rfl) (hR _ hs')
  · rw [if_neg hv] at hR
    refine ifC_pos (hv) ?_
    conv => whnf
    refine ⟨rfl, ?_⟩
    conv => whnf
    exact fin ((weakK 1 rfl).trans (weakNil _ 3 1)) (hR _ (.inl ⟨rfl, rfl⟩))

end Go.Proofs.Ytohdcmkooedkcaa.A
