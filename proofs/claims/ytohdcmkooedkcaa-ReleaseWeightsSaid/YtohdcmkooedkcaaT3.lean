/- dioramaref25: Valid. -/
import Derived.Test.YtohdcmkooedkcaaT2
namespace Go.Proofs.Ytohdcmkooedkcaa.A
open Go Go.RowKit
set_option linter.unusedVariables false
set_option linter.unusedSimpArgs false
set_option maxRecDepth 20000

theorem nodup_at {l : List Int} : l.Nodup ↔ ∀ i j (hi : i < l.length) (hj : j < l.length), j < i → l[i] ≠ l[j] := by
  unfold List.Nodup
  rw [List.pairwise_iff_getElem]
  constructor
  · intro h i j hi hj hlt e; exact h j i hj hi hlt e.symm
  · intro h i j hi hj hlt e; exact h j i hj hi hlt e.symm
set_option maxHeartbeats 4000000 in
theorem c_ValidR (sv rv : Value) (sz : List Int) (rs : List RV) (H : Hp) (h : TbAt H sv rv sz rs) (ho : okTb (tbOf sz rs)) (R : Ending → Hp → Prop) (hR : R (.returned (.int .i64 (validT (tbOf sz rs)))) H) :
    ACalls Try.prog 10 [.agg #[sv, rv]] H R := by
  obtain ⟨ps, cs, rfl, hcs⟩ := intsAt h.s
  obtain ⟨pr, cr, rfl, hcr⟩ := rvAt h.r
  have hsl : sz.length ≤ 1000 := ho.sl
  have hrl := ho.rl
  rw [tbOf_rows] at hrl
  have out : ∀ e, validT (tbOf sz rs) = e → R (.returned (.int .i64 e)) H := fun e he => by rw [← he]; exact hR
  clear hR
  refine acalls_code hT Try.func10 rfl rfl ?_
  conv => whnf
  intro g1
  conv => whnf
  refine ldS 0 rfl rfl ?_
  conv => whnf
  refine ifC_dec (fun c1 => ?_) (fun c1 => ?_)
  · conv => whnf
    refine ⟨rfl, ?_⟩
    conv => whnf
    exact fin (weakK 1 rfl) (out 4 (by unfold validT; rw [if_pos (by rw [tbOf_rows]; show (sz.length > 8 ∨ _); omega)]))
  · conv => whnf
    refine ldS 0 rfl rfl ?_
    conv => whnf
    refine ifC_dec (fun c2 => ?_) (fun c2 => ?_)
    · conv => whnf
      refine ⟨rfl, ?_⟩
      conv => whnf
      exact fin (weakK 1 rfl) (out 4 (by unfold validT; rw [if_pos (by rw [tbOf_rows]; show (sz.length > 8 ∨ _); omega)]))
    · have hno : ¬ ((tbOf sz rs).sizes.length > 8 ∨ (tbOf sz rs).rows.length > 64) := by rw [tbOf_rows]; show ¬ (sz.length > 8 ∨ _); omega
      conv => whnf
      refine awp_loopL hT 120 [1, 3] (fun m vs H' => ∃ k : Nat, vs = [ptr g1, .int .i64 k] ∧ m + k = sz.length ∧ (sz.take k).any badSz = false ∧ H' = ⟨H.M, .cells g1 25 [.slice ps sz.length cs, .slice pr rs.length cr] :: H.L⟩) sz.length rfl rfl (Weak.refl _) ⟨0, rfl, by omega, rfl, rfl⟩ ?_
      rintro m u vs H' ⟨k, rfl, hm, hk, rfl⟩
      conv => whnf
      refine ldS 0 rfl rfl ?_
      conv => whnf
      refine ifC_dec (fun h1 => ?_) (fun h1 => ?_)
      · have hkl : k < sz.length := by omega
        have hg := geti_at hkl
        obtain ⟨gs, os, rfl, hcell⟩ := hcs k (by omega) (by omega)
        have hcell := HLe.cell (HLe.cons H (.cells g1 25 [.slice (some ⟨gs, os, none⟩) sz.length cs, .slice pr rs.length cr])) hcell
        conv => whnf
        refine ldS 0 rfl rfl ?_
        conv => whnf
        refine ⟨gs, os, rfl, by omega, ?_⟩
        conv => whnf
        refine ⟨_, hcell, ?_⟩
        conv => whnf
        refine ifC_dec (fun h2 => ?_) (fun h2 => ?_)
        · conv => whnf
          refine ⟨rfl, ?_⟩
          conv => whnf
          exact fin (weakK 1 rfl) (out 1 (by unfold validT; rw [if_neg hno, if_pos (show (tbOf sz rs).sizes.any badSz = true from List.any_eq_true.2 ⟨sz[k], List.getElem_mem hkl, by rw [← hg]; exact decide_eq_true (by omega)⟩)]))
        · conv => whnf
          refine ldS 0 rfl rfl ?_
          conv => whnf
          refine ⟨gs, os, rfl, by omega, ?_⟩
          conv => whnf
          refine ⟨_, hcell, ?_⟩
          conv => whnf
          refine ifC_dec (fun h3 => ?_) (fun h3 => ?_)
          · conv => whnf
            refine ⟨rfl, ?_⟩
            conv => whnf
            exact fin (weakK 1 rfl) (out 1 (by unfold validT; rw [if_neg hno, if_pos (show (tbOf sz rs).sizes.any badSz = true from List.any_eq_true.2 ⟨sz[k], List.getElem_mem hkl, by rw [← hg]; exact decide_eq_true (by omega)⟩)]))
          · conv => whnf
            repeat (refine ⟨_, wi (by omega), ?_⟩; conv => whnf)
            exact ⟨rfl, rfl, m - 1, _, by omega, Weak.refl _, k + 1, rfl, by omega, any_step hkl hk (by rw [← hg]; exact decide_eq_false (by omega)), rfl⟩
      · have hke : k = sz.length := by omega
        subst hke
        rw [List.take_length] at hk
        have hval := valid_rows hno hk
        rw [show (tbOf sz rs).sizes = sz from rfl, any_rows, ps_tb] at hval
        rw [hval] at out
        clear hval
        conv => whnf
        refine awp_loopL hT 120 [1, 4] (fun m vs H' => ∃ k : Nat, vs = [ptr g1, .int .i64 k] ∧ m + k = rs.length ∧ (rs.take k).any (fun x => badRw sz x.r) = false ∧
          H' = ⟨H.M, .cells g1 25 [.slice ps sz.length cs, .slice pr rs.length cr] :: H.L⟩) rs.length rfl rfl (Weak.refl _) ⟨0, rfl, by omega, rfl, rfl⟩ ?_
        rintro m u vs H' ⟨k, rfl, hm, hkr, rfl⟩
        conv => whnf
        refine ldS 0 rfl rfl ?_
        conv => whnf
        refine ifC_dec (fun h1 => ?_) (fun h1 => ?_)
        · have hkl : k < rs.length := by omega
          have hmem := List.getElem_mem hkl
          obtain ⟨hp64, hvl, hv64⟩ := ho.row hmem
          obtain ⟨gr, or', rfl, hce⟩ := hcr k hkl
          obtain ⟨pv, cv, ev, hcv⟩ := intsAt (h.v _ hmem)
          have yes : badRw sz rs[k].r = true → R (.returned (.int .i64 1)) H := fun hb => out 1 (by rw [if_pos (List.any_eq_true.2 ⟨_, hmem, hb⟩)])
          conv => whnf
          refine ldS 0 rfl rfl ?_
          conv => whnf
          refine ⟨gr, or', rfl, by omega, ?_⟩
          conv => whnf
          refine ⟨rvc rs[k], rfl, hce.mono (HLe.cons H _), ?_⟩
          unfold rvc
          rw [ev]
          conv => whnf
          intro g5
          conv => whnf
          refine stC 0 rfl rfl (by first | (refine ⟨rfl, ?_⟩; repeat' (first | exact trivial | refine ⟨rfl, ?_⟩)) | simp [oneCells, Value.oneCell', setN]) ?_
          conv => whnf
          refine ldS 0 rfl rfl ?_
          conv => whnf
          refine ifC_dec (fun h2 => ?_) (fun h2 => ?_)
          · conv => whnf
            refine ⟨rfl, ?_⟩
            conv => whnf
            exact fin (weakK 2 rfl) (yes ((badRw_t (by omega))))
          · conv => whnf
            refine ldS 0 rfl rfl ?_
            conv => whnf
            refine ifC_dec (fun h3 => ?_) (fun h3 => ?_)
            · conv => whnf
              refine ⟨rfl, ?_⟩
              conv => whnf
              exact fin (weakK 2 rfl) (yes ((badRw_t (by omega))))
            · conv => whnf
              refine ldS 0 rfl rfl ?_
              conv => whnf
              refine ldS 1 rfl rfl ?_
              conv => whnf
              refine ifC_dec (fun h4 => ?_) (fun h4 => ?_)
              · conv => whnf
                refine ⟨rfl, ?_⟩
                conv => whnf
                exact fin (weakK 2 rfl) (yes ((badRw_t (by omega))))
              · have hlen : rs[k].r.vs.length = sz.length := by omega
                conv => whnf
                refine awp_loopL hT 120 [1, 4, 5, 6] (fun m vs H' => ∃ j : Nat, vs = [ptr g1, .int .i64 k, ptr g5, .int .i64 j] ∧ m + j = rs[k].r.vs.length ∧ (∀ i : Nat, i < j → badVal sz rs[k].r i = false) ∧
                  H' = ⟨H.M, .cells g5 60 [.int .i64 rs[k].r.p, .slice pv rs[k].r.vs.length cv] :: .cells g1 25 [.slice ps sz.length cs, .slice (some ⟨gr, or', none⟩) rs.length cr] :: H.L⟩) rs[k].r.vs.length rfl rfl (Weak.refl _) ⟨0, rfl, by omega, fun i hi => absurd hi (by omega), rfl⟩ ?_
                rintro m2 u2 vs2 H2 ⟨j, rfl, hm2, hj, rfl⟩
                conv => whnf
                refine ldS 0 rfl rfl ?_
                conv => whnf
                refine ifC_dec (fun h5 => ?_) (fun h5 => ?_)
                · have hjl : j < rs[k].r.vs.length := by omega
                  obtain ⟨gv, ov, rfl, hcell⟩ := hcv j (by omega) (by omega)
                  obtain ⟨gs, os, rfl, hcells⟩ := hcs j (by omega) (by omega)
                  have hle : HLe H ⟨H.M, .cells g5 60 [.int .i64 rs[k].r.p, .slice (some ⟨gv, ov, none⟩) rs[k].r.vs.length cv] :: .cells g1 25 [.slice (some ⟨gs, os, none⟩) sz.length cs, .slice (some ⟨gr, or', none⟩) rs.length cr] :: H.L⟩ := hle_sub fun a ha => by simp [ha]
                  conv => whnf
                  refine awp_drawQ hT hM 19 (by kernel_rfl) ?_
                  conv => whnf
                  refine ldS 0 rfl rfl ?_
                  conv => whnf
                  refine ⟨gv, ov, rfl, by omega, ?_⟩
                  conv => whnf
                  refine ⟨_, hle.cell hcell, ?_⟩
                  conv => whnf
                  refine ifC_dec (fun h6 => ?_) (fun h6 => ?_)
                  · conv => whnf
                    refine ⟨rfl, ?_⟩
                    conv => whnf
                    exact fin (weakK 2 rfl) (yes ((badRw_v hjl (.inl h6))))
                  · conv => whnf
                    refine ldS 0 rfl rfl ?_
                    conv => whnf
                    refine ⟨gv, ov, rfl, by omega, ?_⟩
                    conv => whnf
                    refine ⟨_, hle.cell hcell, ?_⟩
                    conv => whnf
                    refine ldS 1 rfl rfl ?_
                    conv => whnf
                    refine ⟨gs, os, rfl, by omega, ?_⟩
                    conv => whnf
                    refine ⟨_, hle.cell hcells, ?_⟩
                    conv => whnf
                    refine ifC_dec (fun h7 => ?_) (fun h7 => ?_)
                    · conv => whnf
                      refine ⟨rfl, ?_⟩
                      conv => whnf
                      exact fin (weakK 2 rfl) (yes ((badRw_v hjl (.inr h7))))
                    · conv => whnf
                      repeat (refine ⟨_, wi (by omega), ?_⟩; conv => whnf)
                      exact ⟨rfl, rfl, m2 - 1, _, by omega, Weak.refl _, j + 1, rfl, by omega, fun i hi => by
                        rcases Nat.lt_or_ge i j with h | h
                        · exact hj i h
                        · have : i = j := by omega
                          subst this
                          exact decide_eq_false (by omega), rfl⟩
                · have hje : j = rs[k].r.vs.length := by omega
                  subst hje
                  have hgood : badRw sz rs[k].r = false := badRw_iff.2 ⟨by omega, hj⟩
                  conv => whnf
                  repeat (refine ⟨_, wi (by omega), ?_⟩; conv => whnf)
                  exact ⟨rfl, rfl, m - 1, _, by omega, weakK 1 rfl, k + 1, rfl, by omega, any_step hkl hkr hgood, rfl⟩
        · have hke : k = rs.length := by omega
          subst hke
          rw [List.take_length] at hkr
          rw [if_neg (by rw [hkr]; simp)] at out
          conv => whnf
          refine awp_loopL hT 120 [1, 7] (fun m vs H' => ∃ i : Nat, vs = [ptr g1, .int .i64 i] ∧ m + i = rs.length ∧ (∀ a b (ha : a < rs.length) (hb : b < rs.length), a < i → b < a → rs[a].r.p ≠ rs[b].r.p) ∧
            H' = ⟨H.M, .cells g1 25 [.slice ps sz.length cs, .slice pr rs.length cr] :: H.L⟩) rs.length rfl rfl (Weak.refl _) ⟨0, rfl, by omega, fun a b ha hb h => absurd h (by omega), rfl⟩ ?_
          rintro m u vs H' ⟨i, rfl, hm, hi, rfl⟩
          conv => whnf
          refine ldS 0 rfl rfl ?_
          conv => whnf
          refine ifC_dec (fun h1 => ?_) (fun h1 => ?_)
          · have hil : i < rs.length := by omega
            obtain ⟨gr, or', rfl, hce⟩ := hcr i hil
            conv => whnf
            refine awp_loopL hT 120 [1, 7, 8] (fun m vs H' => ∃ k : Nat, vs = [ptr g1, .int .i64 i, .int .i64 k] ∧ m + k = i ∧ (∀ b (hb : b < rs.length), b < k → rs[i].r.p ≠ rs[b].r.p) ∧
              H' = ⟨H.M, .cells g1 25 [.slice ps sz.length cs, .slice (some ⟨gr, or', none⟩) rs.length cr] :: H.L⟩) i rfl rfl (Weak.refl _) ⟨0, rfl, by omega, fun b hb h => absurd h (by omega), rfl⟩ ?_
            rintro m2 u2 vs2 H2 ⟨k, rfl, hm2, hk2, rfl⟩
            conv => whnf
            refine ifC_dec (fun h2 => ?_) (fun h2 => ?_)
            · have hkl : k < rs.length := by omega
              obtain ⟨gr2, or2, e2, hce2⟩ := hcr k hkl
              cases e2
              have hle := HLe.cons H (.cells g1 25 [.slice ps sz.length cs, .slice (some ⟨gr, or', none⟩) rs.length cr])
              conv => whnf
              refine awp_drawQ hT hM 13 (by kernel_rfl) ?_
              conv => whnf
              refine ldS 0 rfl rfl ?_
              conv => whnf
              refine ⟨gr, or', rfl, by omega, ?_⟩
              conv => whnf
              refine ⟨_, (hce.mono hle) 0 _ rfl, ?_⟩
              conv => whnf
              refine ldS 0 rfl rfl ?_
              conv => whnf
              refine ⟨gr, or', rfl, by omega, ?_⟩
              conv => whnf
              refine ⟨_, (hce2.mono hle) 0 _ rfl, ?_⟩
              conv => whnf
              refine ifC_dec (fun h3 => ?_) (fun h3 => ?_)
              · conv => whnf
                refine ⟨rfl, ?_⟩
                conv => whnf
                exact fin (weakK 1 rfl) (out 7 (by rw [if_neg (fun hn => nodup_at.1 hn i k (by rw [List.length_map]; exact hil) (by rw [List.length_map]; exact hkl) (by omega) (by rw [List.getElem_map, List.getElem_map]; exact h3))]))
              · conv => whnf
                repeat (refine ⟨_, wi (by omega), ?_⟩; conv => whnf)
                exact ⟨rfl, rfl, m2 - 1, _, by omega, Weak.refl _, k + 1, rfl, by omega, fun b hb hlt => by
                  rcases Nat.lt_or_ge b k with h | h
                  · exact hk2 b hb h
                  · have : b = k := by omega
                    subst this
                    exact h3, rfl⟩
            · conv => whnf
              repeat (refine ⟨_, wi (by omega), ?_⟩; conv => whnf)
              exact ⟨rfl, rfl, m - 1, _, by omega, Weak.refl _, i + 1, rfl, by omega, fun a b ha hb hlt hba => by
                rcases Nat.lt_or_ge a i with h | h
                · exact hi a b ha hb h hba
                · have : a = i := by omega
                  subst this
                  exact hk2 b hb (by omega), rfl⟩
          · conv => whnf
            refine ⟨rfl, ?_⟩
            conv => whnf
            exact fin (weakK 1 rfl) (out 0 (by rw [if_pos (nodup_at.2 fun a b ha hb hba => by rw [List.getElem_map, List.getElem_map]; rw [List.length_map] at ha hb; exact hi a b ha hb (by omega) hba)]))
theorem valid0 {t : Tb} (h : validT t = 0) : t.sizes.length ≤ 8 ∧ t.rows.length ≤ 64 ∧ t.sizes.any badSz = false ∧ t.rows.any (badRw t.sizes) = false ∧ t.ps.Nodup := by
  unfold validT at h
  split at h
  · omega
  · rename_i h1
    split at h
    · omega
    · rename_i h2
      split at h
      · omega
      · rename_i h3
        split at h
        · rename_i h4; exact ⟨by omega, by omega, by simpa using h2, by simpa using h3, h4⟩
        · omega
theorem ps_range {t : Tb} (h : validT t = 0) : ∀ p ∈ t.ps, 0 ≤ p ∧ p ≤ 65535 := fun p hp => by
  obtain ⟨_, _, _, h4, _⟩ := valid0 h
  obtain ⟨r, hr, rfl⟩ := List.mem_map.1 hp
  have := (badRw_iff.1 (by simpa using List.any_eq_false.1 h4 r hr)).1
  omega
end Go.Proofs.Ytohdcmkooedkcaa.A
