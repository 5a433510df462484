/- dioramaref25: Without; dioramalaw25: own, plain, same. -/
import Derived.Test.YtohdcmkooedkcaaT5
import Derived.Test.YtohdcmkooedkcaaSameInts
namespace Go.Proofs.Ytohdcmkooedkcaa.A
open Go Go.RowKit
set_option linter.unusedVariables false
set_option linter.unusedSimpArgs false
set_option maxRecDepth 20000

theorem keep_take {rs : List RV} {k : Nat} {person : Int} (hk : k < rs.length) : (rs.take (k + 1)).filter (keepP person) = if rs[k].r.p = person then (rs.take k).filter (keepP person) else (rs.take k).filter (keepP person) ++ [rs[k]] := by
  rw [List.take_succ_eq_append_getElem hk, List.filter_append]
  by_cases h : rs[k].r.p = person <;> simp [keepP, h]
set_option maxHeartbeats 1000000 in
theorem c_WithoutR (sv rv : Value) (sz : List Int) (rs : List RV) (person : Int) (H : Hp) (h : TbAt H sv rv sz rs) (ho : okTb (tbOf sz rs)) (R : Ending → Hp → Prop)
    (hR : ∀ v', RowVal v' 2 (rvs (rs.filter (keepP person))) → R (.returned (.agg #[sv, v'])) ⟨H.M, .row v' 60 2 (rvs (rs.filter (keepP person))) :: H.L⟩) :
    ACalls Try.prog 18 [.agg #[sv, rv], .int .i64 person] H R := by
  obtain ⟨ps, cs, rfl, _⟩ := intsAt h.s
  obtain ⟨pr, cr, rfl, hcr⟩ := rvAt h.r
  have hrl := ho.rl
  rw [tbOf_rows] at hrl
  refine acalls_code hT Try.func18 rfl rfl ?_
  conv => whnf
  intro g2
  conv => whnf
  intro g4
  conv => whnf
  refine ldS 1 rfl rfl ?_
  conv => whnf
  intro g5
  conv => whnf
  refine stC 0 rfl rfl (by first | (refine ⟨rfl, ?_⟩; repeat' (first | exact trivial | refine ⟨rfl, ?_⟩)) | simp [oneCells, Value.oneCell', setN]) ?_
  conv => whnf
  refine awp_loopL hT 36 [1, 2, 4, 5, 6] (fun m vs H' => ∃ (k : Nat) (s : Value), vs = [.int .i64 person, ptr g2, ptr g4, ptr g5, .int .i64 k] ∧ m + k = rs.length ∧ RowVal s 2 (rvs ((rs.take k).filter (keepP person))) ∧
    H' = ⟨H.M, .row s 60 2 (rvs ((rs.take k).filter (keepP person))) :: .cells g5 25 [.slice ps sz.length cs, s] :: .cells g4 25 [.slice none 0 0, .slice none 0 0] :: .cells g2 25 [.slice ps sz.length cs, .slice pr rs.length cr] :: H.L⟩) rs.length rfl rfl (weakNil _ 60 2) ⟨0, .slice none 0 0, rfl, by omega, .inl ⟨rfl, rfl⟩, rfl⟩ ?_
  rintro m u vs H' ⟨k, s, rfl, hm, hs, rfl⟩
  obtain ⟨s1, s2, s3, rfl⟩ := hs.slice
  conv => whnf
  refine ldS 3 rfl rfl ?_
  conv => whnf
  refine ifC_dec (fun h1 => ?_) (fun h1 => ?_)
  · have hkl : k < rs.length := by omega
    have hmem := List.getElem_mem hkl
    obtain ⟨gr, or', rfl, hce⟩ := hcr k hkl
    obtain ⟨pv, nv, cv, ev⟩ := (h.v _ hmem).slice
    have hkt := keep_take (person := person) hkl
    have hlk : ((rs.take k).filter (keepP person)).length ≤ 1000 := Nat.le_trans (List.length_filter_le _ _) (by rw [List.length_take]; omega)
    have hone : ∀ x ∈ rvs [rs[k]], x.oneCell' = true := rvs_one (H := H) fun x hx => by rw [List.mem_singleton.1 hx]; exact h.v _ hmem
    conv => whnf
    refine ldS 3 rfl rfl ?_
    conv => whnf
    refine ⟨gr, or', rfl, by omega, ?_⟩
    conv => whnf
    refine ⟨_, (hce.mono (hle_sub fun a ha => by simp [ha])) 0 _ rfl, ?_⟩
    conv => whnf
    refine ifC_dec (fun h2 => ?_) (fun h2 => ?_)
    · rw [if_neg h2] at hkt
      have hsucc : rvs ((rs.take (k + 1)).filter (keepP person)) = rvs ((rs.take k).filter (keepP person)) ++ rvs [rs[k]] := by rw [hkt, rvs_append]
      conv => whnf
      refine awp_draw hT hM 9 (List.range 9) (by kernel_rfl) H.M (.cells g5 25 [.slice ps sz.length cs, .slice s1 s2 s3] :: .cells g4 25 [.slice none 0 0, .slice none 0 0] :: .cells g2 25 [.slice ps sz.length cs, .slice (some ⟨gr, or', none⟩) rs.length cr] :: H.L) [.row (.slice s1 s2 s3) 60 2 (rvs ((rs.take k).filter (keepP person)))] (Weak.perm (List.perm_append_comm (l₁ := [_]))) ?_
      have hce := hce.mono (hle_sub (L' := (.cells g5 25 [.slice ps sz.length cs, .slice s1 s2 s3] :: .cells g4 25 [.slice none 0 0, .slice none 0 0] :: .cells g2 25 [.slice ps sz.length cs, .slice (some ⟨gr, or', none⟩) rs.length cr] :: H.L)) fun a ha => by simp [ha])
      conv => whnf
      refine ldS 0 rfl rfl ?_
      conv => whnf
      refine ldS 2 rfl rfl ?_
      conv => whnf
      refine ⟨gr, or', rfl, by omega, ?_⟩
      conv => whnf
      refine ⟨rvc rs[k], rfl, hce, ?_⟩
      unfold rvc
      rw [ev]
      conv => whnf
      intro q
      conv => whnf
      refine ⟨H.M, (.cells g5 25 [.slice ps sz.length cs, .slice s1 s2 s3] :: .cells g4 25 [.slice none 0 0, .slice none 0 0] :: .cells g2 25 [.slice ps sz.length cs, .slice (some ⟨gr, or', none⟩) rs.length cr] :: H.L) ++ [.row (.slice (some ⟨q, 0, none⟩) 1 1) 60 2 (rvs [rs[k]])], rvs ((rs.take k).filter (keepP person)), rvs [rs[k]], readsRow (e := 60) (v := .slice (some ⟨q, 0, none⟩) 1 1) (List.mem_append_right _ (by simp only [rvs, rvc, List.flatMap_cons, List.flatMap_nil, List.append_nil, ev]; exact List.mem_cons_self)) (rowNew (by rw [rvs_length]; rfl) (by omega)), hone,
        ?_, by simp only [rvs_length, List.length_singleton]; omega, by simp only [rvs_length, List.length_singleton, maxLen]; omega, ?_⟩
      · simp only [rvs, rvc, List.flatMap_cons, List.flatMap_nil, List.append_nil, ev]
        exact (Weak.perm List.perm_append_comm).trans ((weakPull [1] rfl).trans (Weak.perm (List.Perm.cons _ (List.perm_append_comm (l₁ := [_])))))
      rw [← hsucc]
      intro v' hv'
      obtain ⟨q1, q2, q3, rfl⟩ := hv'.slice
      refine ⟨_, _ :: _, weakMid, fun _ _ h => h, ?_⟩
      conv => whnf
      refine ⟨_, Weak.perm List.perm_append_comm, ?_⟩
      conv => whnf
      refine stC 2 rfl rfl (by first | (refine ⟨rfl, ?_⟩; repeat' (first | exact trivial | refine ⟨rfl, ?_⟩)) | simp [oneCells, Value.oneCell', setN]) ?_
      conv => whnf
      conv => whnf
      repeat (refine ⟨_, wi (by omega), ?_⟩; conv => whnf)
      exact ⟨rfl, rfl, m - 1, _, by omega, weakSkip 1 1 rfl, k + 1, _, rfl, by omega, hv', rfl⟩
    · rw [if_pos (by omega)] at hkt
      conv => whnf
      repeat (refine ⟨_, wi (by omega), ?_⟩; conv => whnf)
      exact ⟨rfl, rfl, m - 1, _, by omega, Weak.refl _, k + 1, _, rfl, by omega, by rw [hkt]; exact hs, by rw [hkt]⟩
  · have hke : k = rs.length := by omega
    subst hke
    rw [List.take_length] at hs ⊢
    conv => whnf
    refine ldA 1 rfl rfl ?_
    conv => whnf
    refine stC 2 rfl rfl (by first | (refine ⟨rfl, ?_⟩; repeat' (first | exact trivial | refine ⟨rfl, ?_⟩)) | simp [oneCells, Value.oneCell', setN]) ?_
    conv => whnf
    refine ⟨rfl, ?_⟩
    conv => whnf
    refine ldA 2 rfl rfl ?_
    conv => whnf
    exact fin (weakSkip 1 3 rfl) (hR _ hs)
set_option maxHeartbeats 1000000 in
theorem c_own (sv rv : Value) (sz : List Int) (rs : List RV) (H : Hp) (h : TbAt H sv rv sz rs) (ho : okTb (tbOf sz rs)) (R : Ending → Hp → Prop)
    (hR : ∀ v', RowVal v' 2 (rvs rs) → R (.returned (.agg #[sv, v'])) ⟨H.M, .row v' 55 2 (rvs rs) :: H.L⟩) : ACalls Try.prog 8 [.agg #[sv, rv]] H R := by
  obtain ⟨ps, cs, rfl, _⟩ := intsAt h.s
  obtain ⟨pr, cr, rfl, hcr⟩ := rvAt h.r
  have hrl := ho.rl
  rw [tbOf_rows] at hrl
  refine acalls_code hT Try.func8 rfl rfl ?_
  conv => whnf
  intro g1
  conv => whnf
  intro g2
  conv => whnf
  refine ldS 1 rfl rfl ?_
  conv => whnf
  intro g3
  conv => whnf
  refine stC 0 rfl rfl (by first | (refine ⟨rfl, ?_⟩; repeat' (first | exact trivial | refine ⟨rfl, ?_⟩)) | simp [oneCells, Value.oneCell', setN]) ?_
  conv => whnf
  refine awp_loopL hT 34 [1, 2, 3, 4] (fun m vs H' => ∃ (k : Nat) (s : Value), vs = [ptr g1, ptr g2, ptr g3, .int .i64 k] ∧ m + k = rs.length ∧ RowVal s 2 (rvs (rs.take k)) ∧
    H' = ⟨H.M, .row s 55 2 (rvs (rs.take k)) :: .cells g3 31 [.slice ps sz.length cs, s] :: .cells g2 31 [.slice none 0 0, .slice none 0 0] :: .cells g1 25 [.slice ps sz.length cs, .slice pr rs.length cr] :: H.L⟩) rs.length rfl rfl (weakNil _ 55 2) ⟨0, .slice none 0 0, rfl, by omega, .inl ⟨rfl, rfl⟩, rfl⟩ ?_
  rintro m u vs H' ⟨k, s, rfl, hm, hs, rfl⟩
  obtain ⟨s1, s3, rfl⟩ := hs.cnt (by omega) (k := k) (by rw [rvs_length, List.length_take]; omega)
  conv => whnf
  refine ldS 3 rfl rfl ?_
  conv => whnf
  refine ifC_dec (fun h1 => ?_) (fun h1 => ?_)
  · have hkl : k < rs.length := by omega
    have hmem := List.getElem_mem hkl
    obtain ⟨gr, or', rfl, hce⟩ := hcr k hkl
    obtain ⟨pv, nv, cv, ev⟩ := (h.v _ hmem).slice
    have hsucc : rvs (rs.take (k + 1)) = rvs (rs.take k) ++ rvs [rs[k]] := by rw [List.take_succ_eq_append_getElem hkl, rvs_append]
    have hlk : (rvs (rs.take k)).length ≤ 2000 := by rw [rvs_length, List.length_take]; omega
    have hone : ∀ x ∈ rvs [rs[k]], x.oneCell' = true := rvs_one (H := H) fun x hx => by rw [List.mem_singleton.1 hx]; exact h.v _ hmem
    conv => whnf
    refine awp_draw hT hM 17 (List.range 17) (by kernel_rfl) H.M (.cells g3 31 [.slice ps sz.length cs, .slice s1 k s3] :: .cells g2 31 [.slice none 0 0, .slice none 0 0] :: .cells g1 25 [.slice ps sz.length cs, .slice (some ⟨gr, or', none⟩) rs.length cr] :: H.L) [.row (.slice s1 k s3) 55 2 (rvs (rs.take k))] (Weak.perm (List.perm_append_comm (l₁ := [_]))) ?_
    have hce := hce.mono (hle_sub (L' := (.cells g3 31 [.slice ps sz.length cs, .slice s1 k s3] :: .cells g2 31 [.slice none 0 0, .slice none 0 0] :: .cells g1 25 [.slice ps sz.length cs, .slice (some ⟨gr, or', none⟩) rs.length cr] :: H.L)) fun a ha => by simp [ha])
    conv => whnf
    refine ldS 0 rfl rfl ?_
    conv => whnf
    refine ldS 2 rfl rfl ?_
    conv => whnf
    refine ⟨gr, or', rfl, by omega, ?_⟩
    conv => whnf
    refine ⟨_, hce 0 _ rfl, ?_⟩
    conv => whnf
    refine ldS 2 rfl rfl ?_
    conv => whnf
    refine ⟨gr, or', rfl, by omega, ?_⟩
    conv => whnf
    refine ⟨_, hce 1 (.slice pv nv cv) (by rw [rvc, ev]; rfl), ?_⟩
    conv => whnf
    intro q
    conv => whnf
    refine ⟨H.M, (.cells g3 31 [.slice ps sz.length cs, .slice s1 k s3] :: .cells g2 31 [.slice none 0 0, .slice none 0 0] :: .cells g1 25 [.slice ps sz.length cs, .slice (some ⟨gr, or', none⟩) rs.length cr] :: H.L) ++ [.row (.slice (some ⟨q, 0, none⟩) 1 1) 55 2 (rvs [rs[k]])], rvs (rs.take k), rvs [rs[k]], readsRow (e := 55) (v := .slice (some ⟨q, 0, none⟩) 1 1) (List.mem_append_right _ (by simp only [rvs, rvc, List.flatMap_cons, List.flatMap_nil, List.append_nil, ev]; exact List.mem_cons_self)) (rowNew (by rw [rvs_length]; rfl) (by omega)), hone,
      ?_, by simp only [rvs_length, List.length_take, List.length_singleton]; omega, by simp only [rvs_length, List.length_take, List.length_singleton, maxLen]; omega, ?_⟩
    · simp only [rvs, rvc, List.flatMap_cons, List.flatMap_nil, List.append_nil, ev]
      exact (Weak.perm List.perm_append_comm).trans ((weakPull [1] rfl).trans (Weak.perm (List.Perm.cons _ (List.perm_append_comm (l₁ := [_])))))
    rw [← hsucc]
    intro v' hv'
    obtain ⟨q1, q3, rfl⟩ := hv'.cnt (by omega) (k := k + 1) (by rw [rvs_length, List.length_take]; omega)
    refine ⟨_, _ :: _, weakMid, fun _ _ h => h, ?_⟩
    conv => whnf
    refine ⟨_, Weak.perm List.perm_append_comm, ?_⟩
    conv => whnf
    refine stC 2 rfl rfl (by first | (refine ⟨rfl, ?_⟩; repeat' (first | exact trivial | refine ⟨rfl, ?_⟩)) | simp [oneCells, Value.oneCell', setN]) ?_
    conv => whnf
    conv => whnf
    repeat (refine ⟨_, wi (by omega), ?_⟩; conv => whnf)
    exact ⟨rfl, rfl, m - 1, _, by omega, weakSkip 1 1 rfl, k + 1, _, rfl, by omega, hv', rfl⟩
  · have hke : k = rs.length := by omega
    subst hke
    rw [List.take_length] at hs ⊢
    conv => whnf
    refine ldA 1 rfl rfl ?_
    conv => whnf
    refine stC 2 rfl rfl (by first | (refine ⟨rfl, ?_⟩; repeat' (first | exact trivial | refine ⟨rfl, ?_⟩)) | simp [oneCells, Value.oneCell', setN]) ?_
    conv => whnf
    refine ⟨rfl, ?_⟩
    conv => whnf
    refine ldA 2 rfl rfl ?_
    conv => whnf
    exact fin (weakSkip 1 3 rfl) (hR _ hs)
set_option maxHeartbeats 1000000 in
theorem c_plain (sv rv : Value) (sz : List Int) (rs : List RV) (H : Hp) (h : TbAt H sv rv sz rs) (ho : okTb (tbOf sz rs)) (R : Ending → Hp → Prop)
    (hR : ∀ v', RowVal v' 2 (rvs rs) → R (.returned (.agg #[sv, v'])) ⟨H.M, .row v' 60 2 (rvs rs) :: H.L⟩) : ACalls Try.prog 16 [.agg #[sv, rv]] H R := by
  obtain ⟨ps, cs, rfl, _⟩ := intsAt h.s
  obtain ⟨pr, cr, rfl, hcr⟩ := rvAt h.r
  have hrl := ho.rl
  rw [tbOf_rows] at hrl
  refine acalls_code hT Try.func16 rfl rfl ?_
  conv => whnf
  intro g1
  conv => whnf
  intro g2
  conv => whnf
  refine ldS 1 rfl rfl ?_
  conv => whnf
  intro g3
  conv => whnf
  refine stC 0 rfl rfl (by first | (refine ⟨rfl, ?_⟩; repeat' (first | exact trivial | refine ⟨rfl, ?_⟩)) | simp [oneCells, Value.oneCell', setN]) ?_
  conv => whnf
  refine awp_loopL hT 34 [1, 2, 3, 4] (fun m vs H' => ∃ (k : Nat) (s : Value), vs = [ptr g1, ptr g2, ptr g3, .int .i64 k] ∧ m + k = rs.length ∧ RowVal s 2 (rvs (rs.take k)) ∧
    H' = ⟨H.M, .row s 60 2 (rvs (rs.take k)) :: .cells g3 25 [.slice ps sz.length cs, s] :: .cells g2 25 [.slice none 0 0, .slice none 0 0] :: .cells g1 31 [.slice ps sz.length cs, .slice pr rs.length cr] :: H.L⟩) rs.length rfl rfl (weakNil _ 60 2) ⟨0, .slice none 0 0, rfl, by omega, .inl ⟨rfl, rfl⟩, rfl⟩ ?_
  rintro m u vs H' ⟨k, s, rfl, hm, hs, rfl⟩
  obtain ⟨s1, s3, rfl⟩ := hs.cnt (by omega) (k := k) (by rw [rvs_length, List.length_take]; omega)
  conv => whnf
  refine ldS 3 rfl rfl ?_
  conv => whnf
  refine ifC_dec (fun h1 => ?_) (fun h1 => ?_)
  · have hkl : k < rs.length := by omega
    have hmem := List.getElem_mem hkl
    obtain ⟨gr, or', rfl, hce⟩ := hcr k hkl
    obtain ⟨pv, nv, cv, ev⟩ := (h.v _ hmem).slice
    have hsucc : rvs (rs.take (k + 1)) = rvs (rs.take k) ++ rvs [rs[k]] := by rw [List.take_succ_eq_append_getElem hkl, rvs_append]
    have hlk : (rvs (rs.take k)).length ≤ 2000 := by rw [rvs_length, List.length_take]; omega
    have hone : ∀ x ∈ rvs [rs[k]], x.oneCell' = true := rvs_one (H := H) fun x hx => by rw [List.mem_singleton.1 hx]; exact h.v _ hmem
    conv => whnf
    refine awp_draw hT hM 17 (List.range 17) (by kernel_rfl) H.M (.cells g3 25 [.slice ps sz.length cs, .slice s1 k s3] :: .cells g2 25 [.slice none 0 0, .slice none 0 0] :: .cells g1 31 [.slice ps sz.length cs, .slice (some ⟨gr, or', none⟩) rs.length cr] :: H.L) [.row (.slice s1 k s3) 60 2 (rvs (rs.take k))] (Weak.perm (List.perm_append_comm (l₁ := [_]))) ?_
    have hce := hce.mono (hle_sub (L' := (.cells g3 25 [.slice ps sz.length cs, .slice s1 k s3] :: .cells g2 25 [.slice none 0 0, .slice none 0 0] :: .cells g1 31 [.slice ps sz.length cs, .slice (some ⟨gr, or', none⟩) rs.length cr] :: H.L)) fun a ha => by simp [ha])
    conv => whnf
    refine ldS 0 rfl rfl ?_
    conv => whnf
    refine ldS 2 rfl rfl ?_
    conv => whnf
    refine ⟨gr, or', rfl, by omega, ?_⟩
    conv => whnf
    refine ⟨_, hce 0 _ rfl, ?_⟩
    conv => whnf
    refine ldS 2 rfl rfl ?_
    conv => whnf
    refine ⟨gr, or', rfl, by omega, ?_⟩
    conv => whnf
    refine ⟨_, hce 1 (.slice pv nv cv) (by rw [rvc, ev]; rfl), ?_⟩
    conv => whnf
    intro q
    conv => whnf
    refine ⟨H.M, (.cells g3 25 [.slice ps sz.length cs, .slice s1 k s3] :: .cells g2 25 [.slice none 0 0, .slice none 0 0] :: .cells g1 31 [.slice ps sz.length cs, .slice (some ⟨gr, or', none⟩) rs.length cr] :: H.L) ++ [.row (.slice (some ⟨q, 0, none⟩) 1 1) 60 2 (rvs [rs[k]])], rvs (rs.take k), rvs [rs[k]], readsRow (e := 60) (v := .slice (some ⟨q, 0, none⟩) 1 1) (List.mem_append_right _ (by simp only [rvs, rvc, List.flatMap_cons, List.flatMap_nil, List.append_nil, ev]; exact List.mem_cons_self)) (rowNew (by rw [rvs_length]; rfl) (by omega)), hone,
      ?_, by simp only [rvs_length, List.length_take, List.length_singleton]; omega, by simp only [rvs_length, List.length_take, List.length_singleton, maxLen]; omega, ?_⟩
    · simp only [rvs, rvc, List.flatMap_cons, List.flatMap_nil, List.append_nil, ev]
      exact (Weak.perm List.perm_append_comm).trans ((weakPull [1] rfl).trans (Weak.perm (List.Perm.cons _ (List.perm_append_comm (l₁ := [_])))))
    rw [← hsucc]
    intro v' hv'
    obtain ⟨q1, q3, rfl⟩ := hv'.cnt (by omega) (k := k + 1) (by rw [rvs_length, List.length_take]; omega)
    refine ⟨_, _ :: _, weakMid, fun _ _ h => h, ?_⟩
    conv => whnf
    refine ⟨_, Weak.perm List.perm_append_comm, ?_⟩
    conv => whnf
    refine stC 2 rfl rfl (by first | (refine ⟨rfl, ?_⟩; repeat' (first | exact trivial | refine ⟨rfl, ?_⟩)) | simp [oneCells, Value.oneCell', setN]) ?_
    conv => whnf
    conv => whnf
    repeat (refine ⟨_, wi (by omega), ?_⟩; conv => whnf)
    exact ⟨rfl, rfl, m - 1, _, by omega, weakSkip 1 1 rfl, k + 1, _, rfl, by omega, hv', rfl⟩
  · have hke : k = rs.length := by omega
    subst hke
    rw [List.take_length] at hs ⊢
    conv => whnf
    refine ldA 1 rfl rfl ?_
    conv => whnf
    refine stC 2 rfl rfl (by first | (refine ⟨rfl, ?_⟩; repeat' (first | exact trivial | refine ⟨rfl, ?_⟩)) | simp [oneCells, Value.oneCell', setN]) ?_
    conv => whnf
    refine ⟨rfl, ?_⟩
    conv => whnf
    refine ldA 2 rfl rfl ?_
    conv => whnf
    exact fin (weakSkip 1 3 rfl) (hR _ hs)
theorem c_same (sv rv sv' rv' : Value) (sz : List Int) (rs rs' : List RV) (H : Hp) (h : TbAt H sv rv sz rs) (h' : TbAt H sv' rv' sz rs') (ho : okTb (tbOf sz rs)) (he : rs.map (·.r) = rs'.map (·.r)) (R : Ending → Hp → Prop) (hR : R (.returned (.bool true)) H) :
    ACalls Try.prog 15 [.agg #[sv, rv], .agg #[sv', rv']] H R := by
  obtain ⟨ps, cs, rfl, _⟩ := intsAt h.s
  obtain ⟨ps', cs', rfl, _⟩ := intsAt h'.s
  obtain ⟨pr, cr, rfl, hcr⟩ := rvAt h.r
  obtain ⟨pr', cr', rfl, hcr'⟩ := rvAt h'.r
  have hll : rs.length = rs'.length := by have := congrArg List.length he; simpa using this
  have hrl := ho.rl
  rw [tbOf_rows] at hrl
  have hsl : sz.length ≤ 1000 := ho.sl
  refine acalls_code hT Try.func15 rfl rfl ?_
  conv => whnf
  intro g2
  conv => whnf
  intro g3
  conv => whnf
  refine ldS 1 rfl rfl ?_
  conv => whnf
  refine ldS 0 rfl rfl ?_
  conv => whnf
  refine c_SameInts _ _ sz sz _ ⟨h.s.mono (hle_sub fun a ha => by simp [ha]), ho.si, by omega⟩ ⟨h'.s.mono (hle_sub fun a ha => by simp [ha]), ho.si, by omega⟩ _ ?_
  rw [decide_eq_true rfl]
  conv => whnf
  refine ldS 1 rfl rfl ?_
  conv => whnf
  refine ldS 0 rfl rfl ?_
  conv => whnf
  refine ifC_neg (by omega) ?_
  conv => whnf
  refine awp_loopL hT 57 [2, 3, 5] (fun m vs H' => ∃ k : Nat, vs = [ptr g2, ptr g3, .int .i64 k] ∧ m + k = rs.length ∧ H' = ⟨H.M, .cells g3 25 [.slice ps' sz.length cs', .slice pr' rs'.length cr'] :: .cells g2 25 [.slice ps sz.length cs, .slice pr rs.length cr] :: H.L⟩) rs.length rfl rfl (Weak.refl _) ⟨0, rfl, by omega, rfl⟩ ?_
  rintro m u vs H' ⟨k, rfl, hm, rfl⟩
  conv => whnf
  refine ldS 1 rfl rfl ?_
  conv => whnf
  refine ifC_dec (fun h1 => ?_) (fun h1 => ?_)
  · have hkl : k < rs.length := by omega
    have hkl' : k < rs'.length := by omega
    have hmem := List.getElem_mem hkl
    have hmem' := List.getElem_mem hkl'
    have hrr : rs[k].r = rs'[k].r := by
      have h1 : (rs.map (·.r))[k]? = (rs'.map (·.r))[k]? := by rw [he]
      simpa [hkl, hkl'] using h1
    obtain ⟨hp64, hvl, hv64⟩ := ho.row hmem
    obtain ⟨gr, or', rfl, hce⟩ := hcr k hkl
    obtain ⟨gr', or2, rfl, hce'⟩ := hcr' k hkl'
    have hle : HLe H ⟨H.M, .cells g3 25 [.slice ps' sz.length cs', .slice (some ⟨gr', or2, none⟩) rs'.length cr'] :: .cells g2 25 [.slice ps sz.length cs, .slice (some ⟨gr, or', none⟩) rs.length cr] :: H.L⟩ := hle_sub fun a ha => by simp [ha]
    have hce := hce.mono hle
    have hce' := hce'.mono hle
    conv => whnf
    refine awp_drawQ hT hM 29 (by kernel_rfl) ?_
    conv => whnf
    refine ldS 1 rfl rfl ?_
    conv => whnf
    refine ⟨gr, or', rfl, by omega, ?_⟩
    conv => whnf
    refine ⟨_, hce 0 _ rfl, ?_⟩
    conv => whnf
    refine ldS 0 rfl rfl ?_
    conv => whnf
    refine ⟨gr', or2, rfl, by omega, ?_⟩
    conv => whnf
    refine ⟨_, hce' 0 _ rfl, ?_⟩
    conv => whnf
    refine ifC_neg (by rw [hrr]; simp) ?_
    conv => whnf
    refine ldS 1 rfl rfl ?_
    conv => whnf
    refine ⟨gr, or', rfl, by omega, ?_⟩
    conv => whnf
    refine ⟨_, hce 1 _ rfl, ?_⟩
    conv => whnf
    refine ldS 0 rfl rfl ?_
    conv => whnf
    refine ⟨gr', or2, rfl, by omega, ?_⟩
    conv => whnf
    refine ⟨_, hce' 1 _ rfl, ?_⟩
    conv => whnf
    refine c_SameInts _ _ rs[k].r.vs rs[k].r.vs _ ⟨(h.v _ hmem).mono hle, hv64, by omega⟩ ⟨by rw [hrr]; exact (h'.v _ hmem').mono hle, hv64, by omega⟩ _ ⟨Weak.refl _, ?_⟩
    rw [decide_eq_true rfl]
    conv => whnf
    repeat (refine ⟨_, wi (by omega), ?_⟩; conv => whnf)
    exact ⟨rfl, rfl, m - 1, _, by omega, Weak.refl _, k + 1, rfl, by omega, rfl⟩
  · conv => whnf
    refine ⟨rfl, ?_⟩
    conv => whnf
    exact fin (weakK 2 rfl) hR
end Go.Proofs.Ytohdcmkooedkcaa.A
