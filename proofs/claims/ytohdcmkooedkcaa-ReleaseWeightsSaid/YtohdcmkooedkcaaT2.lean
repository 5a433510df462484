/- release: Valid. -/
import Derived.Test.YtohdcmkooedkcaaT1
namespace Go.Proofs.Ytohdcmkooedkcaa.A
open Go Go.RowKit
set_option linter.unusedVariables false
set_option linter.unusedSimpArgs false
set_option maxRecDepth 20000

theorem badRw_iff {sz : List Int} {r : Rw} : badRw sz r = false ↔ ¬ (r.p < 0 ∨ r.p > 65535 ∨ r.vs.length ≠ sz.length) ∧ ∀ k : Nat, k < r.vs.length → badVal sz r k = false := by
  unfold badRw
  rw [Bool.or_eq_false_iff, decide_eq_false_iff_not, List.any_eq_false]
  constructor
  · rintro ⟨h1, h2⟩
    exact ⟨h1, fun k hk => by simpa using h2 k (List.mem_range.2 hk)⟩
  · rintro ⟨h1, h2⟩
    exact ⟨h1, fun k hk => by simpa using h2 k (List.mem_range.1 hk)⟩
theorem badRw_t {sz : List Int} {r : Rw} (h : r.p < 0 ∨ r.p > 65535 ∨ r.vs.length ≠ sz.length) : badRw sz r = true := by
  unfold badRw; rw [decide_eq_true h]; rfl
theorem badRw_v {sz : List Int} {r : Rw} {k : Nat} (hk : k < r.vs.length) (h : geti r.vs k < 0 ∨ geti r.vs k ≥ geti sz k) : badRw sz r = true := by
  unfold badRw
  rw [Bool.or_eq_true]
  exact .inr (List.any_eq_true.2 ⟨k, List.mem_range.2 hk, decide_eq_true h⟩)
theorem valid_rows {t : Tb} (h1 : ¬ (t.sizes.length > 8 ∨ t.rows.length > 64)) (h2 : t.sizes.any badSz = false) : validT t = if t.rows.any (badRw t.sizes) = true then 1 else if t.ps.Nodup then 0 else 7 := by
  unfold validT
  rw [if_neg h1, if_neg (by rw [h2]; simp)]
theorem any_rows {sz : List Int} {rs : List RV} : (tbOf sz rs).rows.any (badRw sz) = rs.any fun x => badRw sz x.r := by simp [tbOf, List.any_map]; rfl
theorem c_Valid1 (x : Int) (H : Hp) (R : Ending → Hp → Prop) (hR : R (.returned (.bool (badSz x))) H) : ACalls Try.prog 27 [.int .i64 x] H R := by
  refine acalls_code hT Try.func27 rfl rfl ?_
  unfold badSz at hR
  conv => whnf
  refine ifC_dec (fun h1 => ?_) (fun h1 => ?_)
  · conv => whnf
    refine ⟨rfl, ?_⟩
    conv => whnf
    rw [decide_eq_true (.inl h1)] at hR
    exact fin (Weak.refl _) hR
  · conv => whnf
    refine ⟨rfl, ?_⟩
    conv => whnf
    have e : decide (12 < x) = decide (x < 1 ∨ x > 12) := by
      by_cases h : 12 < x
      · rw [decide_eq_true h, decide_eq_true (.inr h)]
      · rw [decide_eq_false h, decide_eq_false (by omega)]
    rw [e]
    exact fin (Weak.refl _) hR
set_option maxHeartbeats 2000000 in
theorem c_Valid (sv rv : Value) (sz : List Int) (rs : List RV) (H : Hp) (h : TbAt H sv rv sz rs) (ho : okTb (tbOf sz rs)) (R : Ending → Hp → Prop) (hR : R (.returned (.int .i64 (validT (tbOf sz rs)))) H) :
    ACalls Try.prog 9 [.agg #[sv, rv]] H R := by
  obtain ⟨ps, cs, rfl, hcs⟩ := intsAt h.s
  obtain ⟨pr, cr, rfl, hcr⟩ := rvAt h.r
  have hsl : sz.length ≤ 1000 := ho.sl
  have hrl := ho.rl
  rw [tbOf_rows] at hrl
  have out : ∀ e, validT (tbOf sz rs) = e → R (.returned (.int .i64 e)) H := fun e he => by rw [← he]; exact hR
  clear hR
  refine acalls_code hT Try.func9 rfl rfl ?_
  conv => whnf
  intro g1
  conv => whnf
  refine ldS 0 rfl rfl ?_
  conv => whnf
  refine ifC_dec (fun c1 => ?_) (fun c1 => ?_)
  · conv => whnf
    refine ⟨rfl, ?_⟩
    conv => whnf
    exact fin (weakK 1 rfl) (out 4 (by unfold validT; rw [if_pos (by rw [tbOf_rows]; show (sz.length > 8 ∨ _); omega)]))
  · conv => whnf
    refine ldS 0 rfl rfl ?_
    conv => whnf
    refine ifC_dec (fun c2 => ?_) (fun c2 => ?_)
    · conv => whnf
      refine ⟨rfl, ?_⟩
      conv => whnf
      exact fin (weakK 1 rfl) (out 4 (by unfold validT; rw [if_pos (by rw [tbOf_rows]; show (sz.length > 8 ∨ _); omega)]))
    · have hno : ¬ ((tbOf sz rs).sizes.length > 8 ∨ (tbOf sz rs).rows.length > 64) := by rw [tbOf_rows]; show ¬ (sz.length > 8 ∨ _); omega
      conv => whnf
      refine ldS 0 rfl rfl ?_
      conv => whnf
      refine c_ContainsFuncI _ sz _ ⟨h.s.mono (HLe.cons H _), ho.si, by omega⟩ 27 #[] badSz (fun x hx R' hR' => c_Valid1 x _ R' hR') _ ?_
      cases hb : sz.any badSz with
      | true =>
        conv => whnf
        refine ⟨rfl, ?_⟩
        conv => whnf
        exact fin (weakK 1 rfl) (out 1 (by unfold validT; rw [if_neg hno, if_pos (by exact hb)]))
      | false =>
        have hval := valid_rows hno hb
        rw [show (tbOf sz rs).sizes = sz from rfl, any_rows, ps_tb] at hval
        rw [hval] at out
        clear hval
        conv => whnf
        intro gm
        conv => whnf
        refine ldS 1 rfl rfl ?_
        conv => whnf
        refine awp_loopL hT 76 [1, 3, 23, 24, 25] (fun m vs H' => ∃ k : Nat, vs = [ptr g1, .map (some gm), .slice pr rs.length cr, .int .i64 rs.length, .int .i64 k] ∧ m + k = rs.length ∧ (rs.take k).any (fun x => badRw sz x.r) = false ∧
          H' = ⟨H.M, .obj gm (imapObj (bmap (setOf ((rs.take k).map (·.r.p))))) :: .cells g1 31 [.slice ps sz.length cs, .slice pr rs.length cr] :: H.L⟩) rs.length rfl rfl (Weak.refl _) ⟨0, rfl, by omega, rfl, rfl⟩ ?_
        rintro m u vs H' ⟨k, rfl, hm, hk, rfl⟩
        conv => whnf
        refine ifC_dec (fun h1 => ?_) (fun h1 => ?_)
        · have hkl : k < rs.length := by omega
          have hmem := List.getElem_mem hkl
          obtain ⟨hp64, hvl, hv64⟩ := ho.row hmem
          obtain ⟨gr, or', rfl, hce⟩ := hcr k hkl
          obtain ⟨pv, cv, ev, hcv⟩ := intsAt (h.v _ hmem)
          have yes : badRw sz rs[k].r = true → R (.returned (.int .i64 1)) H := fun hb => out 1 (by rw [if_pos (List.any_eq_true.2 ⟨_, hmem, hb⟩)])
          generalize hS : setOf ((rs.take k).map (·.r.p)) = S at *
          conv => whnf
          refine ⟨gr, or', rfl, by omega, ?_⟩
          conv => whnf
          refine ⟨rvc rs[k], rfl, hce.mono (hle_sub fun a ha => by simp [ha]), ?_⟩
          unfold rvc
          rw [ev]
          conv => whnf
          intro g5
          conv => whnf
          refine stC 0 rfl rfl (by first | (refine ⟨rfl, ?_⟩; repeat' (first | exact trivial | refine ⟨rfl, ?_⟩)) | simp [oneCells, Value.oneCell', setN]) ?_
          conv => whnf
          refine ldS 0 rfl rfl ?_
          conv => whnf
          refine ifC_dec (fun h2 => ?_) (fun h2 => ?_)
          · conv => whnf
            refine ⟨rfl, ?_⟩
            conv => whnf
            exact fin (weakK 3 rfl) (yes ((badRw_t (by omega))))
          · conv => whnf
            refine ldS 0 rfl rfl ?_
            conv => whnf
            refine ifC_dec (fun h3 => ?_) (fun h3 => ?_)
            · conv => whnf
              refine ⟨rfl, ?_⟩
              conv => whnf
              exact fin (weakK 3 rfl) (yes ((badRw_t (by omega))))
            · conv => whnf
              refine ldS 0 rfl rfl ?_
              conv => whnf
              refine ldS 2 rfl rfl ?_
              conv => whnf
              refine ifC_dec (fun h4 => ?_) (fun h4 => ?_)
              · conv => whnf
                refine ⟨rfl, ?_⟩
                conv => whnf
                exact fin (weakK 3 rfl) (yes ((badRw_t (by omega))))
              · have hlen : rs[k].r.vs.length = sz.length := by omega
                conv => whnf
                refine ldS 0 rfl rfl ?_
                conv => whnf
                refine awp_loopL hT 76 [1, 3, 5, 23, 24, 25, 47, 48, 49] (fun m vs H' => ∃ j : Nat, vs = [ptr g1, .map (some gm), ptr g5, .slice (some ⟨gr, or', none⟩) rs.length cr, .int .i64 rs.length, .int .i64 k, .slice pv rs[k].r.vs.length cv, .int .i64 rs[k].r.vs.length, .int .i64 j] ∧ m + j = rs[k].r.vs.length ∧ (∀ i : Nat, i < j → badVal sz rs[k].r i = false) ∧
                  H' = ⟨H.M, .cells g5 55 [.int .i64 rs[k].r.p, .slice pv rs[k].r.vs.length cv] :: .obj gm (imapObj (bmap S)) :: .cells g1 31 [.slice ps sz.length cs, .slice (some ⟨gr, or', none⟩) rs.length cr] :: H.L⟩) rs[k].r.vs.length rfl rfl (Weak.refl _) ⟨0, rfl, by omega, fun i hi => absurd hi (by omega), rfl⟩ ?_
                rintro m2 u2 vs2 H2 ⟨j, rfl, hm2, hj, rfl⟩
                conv => whnf
                refine ifC_dec (fun h5 => ?_) (fun h5 => ?_)
                · have hjl : j < rs[k].r.vs.length := by omega
                  obtain ⟨gv, ov, rfl, hcell⟩ := hcv j (by omega) (by omega)
                  obtain ⟨gs, os, rfl, hcells⟩ := hcs j (by omega) (by omega)
                  conv => whnf
                  refine ⟨gv, ov, rfl, by omega, ?_⟩
                  conv => whnf
                  refine ⟨_, HLe.cell (hle_sub fun a ha => by simp [ha]) hcell, ?_⟩
                  conv => whnf
                  refine ifC_dec (fun h6 => ?_) (fun h6 => ?_)
                  · conv => whnf
                    refine ⟨rfl, ?_⟩
                    conv => whnf
                    exact fin (weakK 3 rfl) (yes ((badRw_v hjl (.inl h6))))
                  · conv => whnf
                    refine ldS 2 rfl rfl ?_
                    conv => whnf
                    refine ⟨gs, os, rfl, by omega, ?_⟩
                    conv => whnf
                    refine ⟨_, HLe.cell (hle_sub fun a ha => by simp [ha]) hcells, ?_⟩
                    conv => whnf
                    refine ifC_dec (fun h7 => ?_) (fun h7 => ?_)
                    · conv => whnf
                      refine ⟨rfl, ?_⟩
                      conv => whnf
                      exact fin (weakK 3 rfl) (yes ((badRw_v hjl (.inr h7))))
                    · conv => whnf
                      repeat (refine ⟨_, wi (by omega), ?_⟩; conv => whnf)
                      exact ⟨rfl, rfl, m2 - 1, _, by omega, Weak.refl _, j + 1, rfl, by omega, fun i hi => by
                        rcases Nat.lt_or_ge i j with h | h
                        · exact hj i h
                        · have : i = j := by omega
                          subst this
                          exact decide_eq_false (by omega), rfl⟩
                · have hje : j = rs[k].r.vs.length := by omega
                  subst hje
                  have hgood : badRw sz rs[k].r = false := badRw_iff.2 ⟨by omega, hj⟩
                  conv => whnf
                  refine ldS 0 rfl rfl ?_
                  conv => whnf
                  refine ⟨1, _, rfl, ?_⟩
                  rw [mUpd_bmap]
                  conv => whnf
                  repeat (refine ⟨_, wi (by omega), ?_⟩; conv => whnf)
                  exact ⟨rfl, rfl, m - 1, _, by omega, weakK 1 rfl, k + 1, rfl, by omega, any_step hkl hk hgood, by rw [List.take_succ_eq_append_getElem hkl, List.map_append, List.map_cons, List.map_nil, setOf_snoc, hS]; rfl⟩
        · have hke : k = rs.length := by omega
          subst hke
          rw [List.take_length] at hk
          rw [List.take_length, if_neg (by rw [hk]; simp)] at *
          have hset := setOf_len (rs.map (·.r.p))
          conv => whnf
          refine ⟨_, .inr List.mem_cons_self, ?_⟩
          conv => whnf
          refine ldS 1 rfl rfl ?_
          conv => whnf
          have hbl : (bmap (setOf (rs.map (·.r.p)))).length = (setOf (rs.map (·.r.p))).length := by simp [bmap]
          rw [hbl]
          refine ifC_dec (fun h8 => ?_) (fun h8 => ?_)
          · conv => whnf
            refine ⟨rfl, ?_⟩
            conv => whnf
            exact fin (weakK 2 rfl) (out 7 (by rw [if_neg (hset.2.1 (by rw [List.length_map]; omega))]))
          · conv => whnf
            refine ⟨rfl, ?_⟩
            conv => whnf
            exact fin (weakK 2 rfl) (out 0 (by rw [if_pos (Classical.not_not.1 fun hn => h8 (by have := hset.2.2 hn; rw [List.length_map] at this; omega))]))
end Go.Proofs.Ytohdcmkooedkcaa.A
