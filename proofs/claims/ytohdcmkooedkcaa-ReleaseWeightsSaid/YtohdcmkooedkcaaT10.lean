/- dioramaref25: Counts, Weight. -/
import Derived.Test.YtohdcmkooedkcaaT9
import Derived.Test.YtohdcmkooedkcaaN3
namespace Go.Proofs.Ytohdcmkooedkcaa.A
open Go Go.RowKit
set_option linter.unusedVariables false
set_option linter.unusedSimpArgs false
set_option maxRecDepth 20000

def cntsL (l : List Int) (n : Nat) : List Int := (List.range n).map fun v : Nat => cntL l v
theorem cntsL_len (l : List Int) (n : Nat) : (cntsL l n).length = n := by simp [cntsL]
theorem cntsL_get (l : List Int) (n : Nat) {y : Int} (h0 : 0 ≤ y) (h1 : y < n) : geti (cntsL l n) y = cntL l y := by
  obtain ⟨k, rfl⟩ : ∃ k : Nat, y = k := ⟨y.toNat, by omega⟩
  unfold geti cntsL
  rw [List.getD_eq_getElem?_getD, List.getElem?_map, List.getElem?_range (by simp; omega)]
  rfl
theorem cntsL_set (l : List Int) (n : Nat) {y : Int} (h0 : 0 ≤ y) (h1 : y < n) : (cntsL l n).set y.toNat (cntL l y + 1) = cntsL (l ++ [y]) n := by
  obtain ⟨k, rfl⟩ : ∃ k : Nat, y = k := ⟨y.toNat, by omega⟩
  have hk : k < n := by omega
  apply List.ext_getElem?
  intro j
  rw [List.getElem?_set]
  unfold cntsL
  simp only [Int.toNat_natCast, List.length_map, List.length_range]
  by_cases hj : k = j
  · subst hj
    rw [if_pos rfl, if_pos hk, List.getElem?_map, List.getElem?_range hk]
    simp only [Option.map_some]
    rw [cntL_snoc, if_pos rfl]
  · rw [if_neg hj]
    by_cases hjn : j < n
    · rw [List.getElem?_map, List.getElem?_map, List.getElem?_range hjn]
      simp only [Option.map_some]
      rw [cntL_snoc, if_neg (by omega), Int.add_zero]
    · rw [List.getElem?_eq_none (by simpa using hjn), List.getElem?_eq_none (by simpa using hjn)]
theorem cntsL_nil (n : Nat) : cntsL [] n = List.replicate n 0 := by
  unfold cntsL
  apply List.ext_getElem?
  intro j
  rw [List.getElem?_map, List.getElem?_replicate]
  by_cases hj : j < n
  · rw [List.getElem?_range hj, if_pos hj]; rfl
  · rw [List.getElem?_eq_none (by simpa using hj), if_neg hj]; rfl
set_option maxHeartbeats 1000000 in
theorem c_Counts (sv rv : Value) (sz : List Int) (rs : List RV) (field : Int) (H : Hp) (h : TbAt H sv rv sz rs) (ho : okTb (tbOf sz rs)) (v0 : validT (tbOf sz rs) = 0) (f0 : 0 ≤ field) (f1 : field < sz.length) (R : Ending → Hp → Prop)
    (hR : ∀ v', RowVal v' 1 (ints (cntsL (fieldL rs field) (geti sz field).toNat)) → R (.returned v') ⟨H.M, .row v' 3 1 (ints (cntsL (fieldL rs field) (geti sz field).toNat)) :: H.L⟩) :
    ACalls Try.prog 36 [.agg #[sv, rv], .int .i64 field] H R := by
  obtain ⟨ps, cs, rfl, hcs⟩ := intsAt h.s
  obtain ⟨pr, cr, rfl, hcr⟩ := rvAt h.r
  have hrl := ho.rl
  rw [tbOf_rows] at hrl
  obtain ⟨_, _, hsb, hbad, _⟩ := valid0 v0
  have hsb : sz.any badSz = false := hsb
  have hs1 := List.any_eq_false.1 hsb (geti sz field) (geti_mem (by omega) (by omega))
  have hs1 : ¬ (geti sz field < 1 ∨ geti sz field > 12) := by unfold badSz at hs1; simpa using hs1
  obtain ⟨w, hw⟩ : ∃ w : Nat, geti sz field = w := ⟨(geti sz field).toNat, by omega⟩
  rw [hw] at hs1
  rw [hw, Int.toNat_natCast] at hR
  obtain ⟨gs, os, rfl, hcell⟩ := hcs field f0 (by omega)
  rw [hw] at hcell
  refine acalls_code hT Try.func36 rfl rfl ?_
  conv => whnf
  intro g2
  conv => whnf
  refine ldS 0 rfl rfl ?_
  conv => whnf
  refine ⟨gs, os, rfl, by omega, ?_⟩
  conv => whnf
  refine ⟨_, HLe.cell (HLe.cons H _) hcell, ?_⟩
  conv => whnf
  refine ⟨w, rfl, rfl, by omega, by simp [maxLen]; omega, ?_⟩
  intro g5
  conv => whnf
  refine awp_loopL hT 35 [1, 2, 5, 6] (fun m vs H' => ∃ k : Nat, vs = [.int .i64 field, ptr g2, .slice (some ⟨g5, 0, none⟩) w w, .int .i64 k] ∧ m + k = rs.length ∧
    H' = ⟨H.M, .row (.slice (some ⟨g5, 0, none⟩) w w) 3 1 (ints (cntsL (fieldL (rs.take k) field) w)) :: .cells g2 25 [.slice (some ⟨gs, os, none⟩) sz.length cs, .slice pr rs.length cr] :: H.L⟩) rs.length rfl rfl (by rw [repZ_ints, show fieldL (rs.take 0) field = [] from rfl, cntsL_nil]; exact Weak.refl _) ⟨0, rfl, by omega, rfl⟩ ?_
  rintro m u vs H' ⟨k, rfl, hm, rfl⟩
  conv => whnf
  refine ldS 1 rfl rfl ?_
  conv => whnf
  refine ifC_dec (fun h1 => ?_) (fun h1 => ?_)
  · have hkl : k < rs.length := by omega
    have hmem := List.getElem_mem hkl
    have hgood := badRw_iff.1 (by simpa using List.any_eq_false.1 hbad rs[k].r (List.mem_map.2 ⟨_, hmem, rfl⟩))
    rw [show (tbOf sz rs).sizes = sz from rfl] at hgood
    obtain ⟨hg1, hg2⟩ := hgood
    have hg3 := hg2 field.toNat (by omega)
    unfold badVal at hg3
    simp only [decide_eq_false_iff_not] at hg3
    rw [Int.toNat_of_nonneg f0, hw] at hg3
    obtain ⟨gr, or', rfl, hce⟩ := hcr k hkl
    obtain ⟨pv, cv, ev, hcv⟩ := intsAt (h.v _ hmem)
    obtain ⟨gv, ov, rfl, hcellv⟩ := hcv field (by omega) (by omega)
    have hcb := cntL_bd (fieldL (rs.take k) field) (geti rs[k].r.vs field)
    have hfl : (fieldL (rs.take k) field).length ≤ 1000 := by simp [fieldL]; omega
    have hsucc : fieldL (rs.take (k + 1)) field = fieldL (rs.take k) field ++ [geti rs[k].r.vs field] := by unfold fieldL; rw [List.take_succ_eq_append_getElem hkl, List.map_append]; rfl
    have hcl := cntsL_len (fieldL (rs.take k) field) w
    have hset := cntsL_set (fieldL (rs.take k) field) w (y := geti rs[k].r.vs field) (by omega) (by omega)
    rw [← hsucc] at hset
    obtain ⟨_, _, e1, hcc⟩ := intsAt (H := ⟨H.M, [.row (.slice (some ⟨g5, 0, none⟩) w w) 3 1 (ints (cntsL (fieldL (rs.take k) field) w))]⟩) (readsRow (e := 3) List.mem_cons_self (.inr ⟨g5, 0, w, w, rfl, by rw [ints_length, hcl, Nat.mul_one], Nat.le_refl _, by simp [maxLen]; omega⟩))
    obtain ⟨gq, oq, e2, hcellc⟩ := hcc (geti rs[k].r.vs field) (by omega) (by rw [hcl]; omega)
    rw [hcl] at e1
    cases e1
    cases e2
    rw [cntsL_get _ _ (by omega) (by omega)] at hcellc
    conv => whnf
    refine ldS 1 rfl rfl ?_
    conv => whnf
    refine ⟨gr, or', rfl, by omega, ?_⟩
    conv => whnf
    refine ⟨_, (hce.mono (hle_sub fun a ha => by simp [ha])) 1 (.slice (some ⟨gv, ov, none⟩) rs[k].r.vs.length cv) (by rw [rvc, ev]; rfl), ?_⟩
    conv => whnf
    refine ⟨gv, ov, rfl, by omega, ?_⟩
    conv => whnf
    refine ⟨_, HLe.cell (hle_sub fun a ha => by simp [ha]) hcellv, ?_⟩
    conv => whnf
    refine ⟨g5, 0, rfl, by omega, ?_⟩
    conv => whnf
    refine ⟨_, HLe.cell (hle_one List.mem_cons_self) hcellc, ?_⟩
    conv => whnf
    refine ⟨_, wi (by omega), ?_⟩
    conv => whnf
    refine ⟨g5, 0, rfl, by omega, ?_⟩
    conv => whnf
    refine stW 0 rfl (geti rs[k].r.vs field).toNat (by simp) (by rw [ints_length, hcl]; simp; omega) ⟨rfl, trivial⟩ ((ints_set _ _ _).trans (by rw [hset])) ?_
    conv => whnf
    repeat (refine ⟨_, wi (by omega), ?_⟩; conv => whnf)
    exact ⟨rfl, rfl, m - 1, _, by omega, Weak.refl _, k + 1, rfl, by omega, rfl⟩
  · have hke : k = rs.length := by omega
    subst hke
    rw [List.take_length]
    conv => whnf
    refine ⟨rfl, ?_⟩
    conv => whnf
    exact fin (weakDel 1 rfl) (hR _ (.inr ⟨g5, 0, w, w, rfl, by rw [ints_length, cntsL_len, Nat.mul_one], Nat.le_refl _, by simp [maxLen]; omega⟩))
theorem minM_alt (many most : Int) : (if most < many then most else many) = minM many most := by unfold minM; split <;> split <;> omega
set_option maxHeartbeats 2000000 in
theorem c_WeightR (sv rv av : Value) (sz : List Int) (rs : List RV) (field cost : Int) (ans : List Int) (H : Hp) (h : TbAt H sv rv sz rs) (ho : okTb (tbOf sz rs)) (ha : IntsAt H av ans) (hal : ans.length ≤ 1000) (R : Ending → Hp → Prop)
    (hR : ∀ v', RowVal v' 1 (ints (wtT sz rs field cost ans).1) → R (.returned (.tuple #[v', .int .i64 (wtT sz rs field cost ans).2])) ⟨H.M, .row v' 3 1 (ints (wtT sz rs field cost ans).1) :: H.L⟩) :
    ACalls Try.prog 24 [.agg #[sv, rv], .int .i64 field, .int .i64 cost, av] H R := by
  obtain ⟨ps, cs, rfl, hcs⟩ := intsAt h.s
  obtain ⟨pr, cr, rfl, hcr⟩ := rvAt h.r
  obtain ⟨pa, ca, rfl, _, hca⟩ := ha.open
  have hsl : sz.length ≤ 1000 := ho.sl
  unfold wtT at hR
  refine acalls_code hT Try.func24 rfl rfl ?_
  conv => whnf
  intro g4
  conv => whnf
  refine ldA 0 rfl rfl ?_
  conv => whnf
  refine c_given _ _ sz rs field cost _ (h.mono (HLe.cons H _)) ho _ ?_
  by_cases hg : givenT (tbOf sz rs) field cost = 0
  · rw [if_neg (by rw [hg]; simp)] at hR
    obtain ⟨v0, f0, f1, c1, c12⟩ := given0 hg
    rw [show (tbOf sz rs).sizes = sz from rfl] at f1
    have hmb := mostF_bd c1 c12
    rw [hg]
    conv => whnf
    refine ldS 0 rfl rfl ?_
    conv => whnf
    obtain ⟨gs, os, rfl, hcell⟩ := hcs field f0 (by omega)
    refine ⟨gs, os, rfl, by omega, ?_⟩
    conv => whnf
    refine ⟨_, HLe.cell (hle_sub fun a ha => by simp [ha]) hcell, ?_⟩
    conv => whnf
    refine ifC_dec (fun h1 => ?_) (fun h1 => ?_)
    · conv => whnf
      refine ⟨rfl, ?_⟩
      conv => whnf
      rw [if_pos (.inl (by omega))] at hR
      exact fin ((weakK 1 rfl).trans (weakNil _ 3 1)) (hR _ (.inl ⟨rfl, rfl⟩))
    · conv => whnf
      refine ldA 0 rfl rfl ?_
      conv => whnf
      refine c_Counts _ _ sz rs field _ (h.mono (HLe.cons H _)) ho v0 f0 f1 _ ?_
      have hcl := cntsL_len (fieldL rs field) (geti sz field).toNat
      intro cv hcv
      obtain ⟨c1', c3', rfl⟩ := hcv.cnt (by omega) (by rw [ints_length, Nat.mul_one])
      conv => whnf
      refine awp_loopL hT 79 [2, 3, 11, 12, 13] (fun m vs H' => ∃ (k : Nat) (s : Value), vs = [.int .i64 cost, .slice pa ans.length ca, .slice c1' (cntsL (fieldL rs field) (geti sz field).toNat).length c3', s, .int .i64 k] ∧ m + k = ans.length ∧ (ans.take k).any (badA (mostF cost)) = false ∧ RowVal s 1 (ints (wtUp rs field cost ans k)) ∧
        H' = ⟨H.M, .row s 3 1 (ints (wtUp rs field cost ans k)) :: .row (.slice c1' (cntsL (fieldL rs field) (geti sz field).toNat).length c3') 3 1 (ints (cntsL (fieldL rs field) (geti sz field).toNat)) :: .cells g4 25 [.slice (some ⟨gs, os, none⟩) sz.length cs, .slice pr rs.length cr] :: H.L⟩) ans.length rfl rfl (weakNil _ 3 1) ⟨0, .slice none 0 0, rfl, by omega, rfl, .inl ⟨rfl, rfl⟩, rfl⟩ ?_
      rintro m u vs H' ⟨k, s, rfl, hm, hbk, hs, rfl⟩
      have hwl := wtUp_len rs field cost ans k
      have hws := wtUp_succ rs field cost ans k
      obtain ⟨s1, s3, rfl⟩ := hs.cnt (by omega) (by rw [ints_length, Nat.mul_one])
      conv => whnf
      refine ifC_dec (fun h2 => ?_) (fun h2 => ?_)
      · have hkl : k < ans.length := by omega
        have hgk := geti_at hkl
        obtain ⟨ga, oa, rfl, hcella⟩ := hca k (by omega) (by omega)
        have hcella := fun L' (hL : ∀ a ∈ H.L, a ∈ L') => HLe.cell (hle_sub (M := H.M) hL) hcella
        conv => whnf
        refine awp_drawQ hT hM 14 (by kernel_rfl) ?_
        conv => whnf
        refine ⟨ga, oa, rfl, by omega, ?_⟩
        conv => whnf
        refine ⟨_, hcella _ (fun a ha => by simp [ha]), ?_⟩
        conv => whnf
        refine ifC_dec (fun h3 => ?_) (fun h3 => ?_)
        · conv => whnf
          refine ⟨rfl, ?_⟩
          conv => whnf
          rw [if_pos (.inr (List.any_eq_true.2 ⟨ans[k], List.getElem_mem hkl, by rw [← hgk]; exact decide_eq_true (by omega)⟩))] at hR
          exact fin ((weakK 3 rfl).trans (weakNil _ 3 1)) (hR _ (.inl ⟨rfl, rfl⟩))
        · conv => whnf
          refine ⟨ga, oa, rfl, by omega, ?_⟩
          conv => whnf
          refine ⟨_, hcella _ (fun a ha => by simp [ha]), ?_⟩
          conv => whnf
          refine c_Most cost (by omega) _ _ ⟨Weak.refl _, ?_⟩
          conv => whnf
          refine ifC_dec (fun h4 => ?_) (fun h4 => ?_)
          · conv => whnf
            refine ⟨rfl, ?_⟩
            conv => whnf
            rw [if_pos (.inr (List.any_eq_true.2 ⟨ans[k], List.getElem_mem hkl, by rw [← hgk]; exact decide_eq_true (by omega)⟩))] at hR
            exact fin ((weakK 3 rfl).trans (weakNil _ 3 1)) (hR _ (.inl ⟨rfl, rfl⟩))
          · have hok := minM_ok (l := fieldL rs field) (v := (k : Int)) c1 c12
            have hc0 := hok.c0
            have hcm := hok.cm
            have hHid := hidB_iff.2 hok
            have hcb := cntL_bd (fieldL rs field) k
            obtain ⟨_, _, e1, hcc⟩ := intsAt (H := ⟨H.M, [.row (.slice c1' (cntsL (fieldL rs field) (geti sz field).toNat).length c3') 3 1 (ints (cntsL (fieldL rs field) (geti sz field).toNat))]⟩) (readsRow (e := 3) List.mem_cons_self hcv)
            cases e1
            obtain ⟨gc, oc, rfl, hcellc⟩ := hcc (k : Int) (by omega) (by rw [hcl]; omega)
            rw [cntsL_get _ _ (by omega) (by omega)] at hcellc
            conv => whnf
            refine awp_draw hT hM 15 (List.range 15) (by kernel_rfl) H.M (.row (.slice s1 (wtUp rs field cost ans k).length s3) 3 1 (ints (wtUp rs field cost ans k)) :: .row (.slice (some ⟨gc, oc, none⟩) (cntsL (fieldL rs field) (geti sz field).toNat).length c3') 3 1 (ints (cntsL (fieldL rs field) (geti sz field).toNat)) :: .cells g4 25 [.slice (some ⟨gs, os, none⟩) sz.length cs, .slice pr rs.length cr] :: H.L) [] (by rw [List.append_nil]; exact Weak.refl _) ?_
            conv => whnf
            refine ⟨gc, oc, rfl, by rw [hcl]; omega, ?_⟩
            conv => whnf
            refine ⟨_, HLe.cell (hle_one (by simp)) hcellc, ?_⟩
            conv => whnf
            refine c_Most cost (by omega) _ _ ?_
            refine ⟨_, _, Weak.refl _, fun _ _ h => h, ?_⟩
            conv => whnf
            rw [minM_alt]
            refine c_Most cost (by omega) _ _ ?_
            refine ⟨_, _, Weak.refl _, fun _ _ h => h, ?_⟩
            conv => whnf
            refine c_WeightsR _ (mostF cost) cost (by omega) (by omega) (by omega) _ _ (fun hf => by rw [hHid] at hf; cases hf) (fun _ wv hwv => ?_)
            have hlw : (wtsL (minM (cntL (fieldL rs field) (k : Int)) (mostF cost)) (mostF cost) cost).length = (mostF cost + 1).toNat := wtsUp_len _ _ _ _
            obtain ⟨q1, q3, rfl⟩ := hwv.cnt (by omega) (by rw [ints_length, Nat.mul_one])
            obtain ⟨n, hn⟩ : ∃ n : Nat, geti ans k = n := ⟨(geti ans k).toNat, by omega⟩
            have hget : geti (wtsL (minM (cntL (fieldL rs field) (k : Int)) (mostF cost)) (mostF cost) cost) (geti ans k) = wtOf rs field cost ans k := by
              unfold wtOf
              rw [hn]
              unfold geti wtsL wtsUp
              rw [List.getD_eq_getElem?_getD, List.getElem?_map, List.getElem?_range (by omega)]
              rfl
            generalize hW : wtsL (minM (cntL (fieldL rs field) (k : Int)) (mostF cost)) (mostF cost) cost = W at *
            refine ⟨_, _ :: _, weakMid, fun _ _ h => h, ?_⟩
            conv => whnf
            refine ⟨_, Weak.perm List.perm_append_comm, ?_⟩
            conv => whnf
            refine ⟨ga, oa, rfl, by omega, ?_⟩
            conv => whnf
            refine ⟨_, hcella _ (fun a ha => by simp [ha]), ?_⟩
            conv => whnf
            obtain ⟨_, _, e1, hcw⟩ := intsAt (H := ⟨H.M, [.row (.slice q1 W.length q3) 3 1 (ints W)]⟩) (readsRow (e := 3) List.mem_cons_self hwv)
            cases e1
            obtain ⟨gw, ow, rfl, hcellw⟩ := hcw (geti ans k) (by omega) (by rw [hlw]; omega)
            rw [hget] at hcellw
            refine ⟨gw, ow, rfl, by rw [hlw]; omega, ?_⟩
            conv => whnf
            refine ⟨_, HLe.cell (hle_one List.mem_cons_self) hcellw, ?_⟩
            conv => whnf
            intro q
            conv => whnf
            refine ⟨H.M, _, ints (wtUp rs field cost ans k), ints [wtOf rs field cost ans k], readsNew rfl rfl, ints_one _, (weakDel 0 rfl).trans (weakPull [1] rfl), by rw [ints_length, ints_length, hwl]; simp; omega, by rw [ints_length, ints_length, hwl]; simp [maxLen]; omega, fun v' hv' => ?_⟩
            rw [← ints_append, ← hws] at hv' ⊢
            conv => whnf
            repeat (refine ⟨_, wi (by omega), ?_⟩; conv => whnf)
            exact ⟨rfl, rfl, m - 1, _, by omega, weakDel 1 rfl, k + 1, v', rfl, by omega, any_step hkl hbk (by rw [← hgk]; exact decide_eq_false (by omega)), hv', rfl⟩
      · have hke : k = ans.length := by omega
        subst hke
        rw [List.take_length] at hbk
        rw [if_neg (by rw [hbk]; simp; omega)] at hR
        conv => whnf
        refine ⟨rfl, ?_⟩
        conv => whnf
        exact fin (weakSkip 1 2 rfl) (hR _ hs)
  · rw [if_pos hg] at hR
    conv => whnf
    refine ifC_pos (hg) ?_
    conv => whnf
    refine ⟨rfl, ?_⟩
    conv => whnf
    exact fin ((weakK 1 rfl).trans (weakNil _ 3 1)) (hR _ (.inl ⟨rfl, rfl⟩))
end Go.Proofs.Ytohdcmkooedkcaa.A
