/- dioramaref25: Made. -/
import Derived.Test.YtohdcmkooedkcaaT5
namespace Go.Proofs.Ytohdcmkooedkcaa.A
open Go Go.RowKit
set_option linter.unusedVariables false
set_option linter.unusedSimpArgs false
set_option maxRecDepth 20000

structure madeOk (sz : List Int) (rs : List RV) : Prop where
  v : validT (tbOf sz rs) = 0
  n0 : 1 ≤ sz.length
  n1 : sz.length ≤ 3
  s : ∀ n ∈ sz, 1 ≤ n ∧ n ≤ 5
  r : rs.length ≤ 10
  p : ∀ x ∈ rs, 0 ≤ x.r.p ∧ x.r.p < 40
theorem valid_nil {sz : List Int} (h : sz.length ≤ 8) (hs : ∀ n ∈ sz, 1 ≤ n ∧ n ≤ 5) : validT (tbOf sz []) = 0 := by
  unfold validT
  rw [if_neg (by simp [tbOf]; omega), if_neg (by
    intro h'
    obtain ⟨n, hn, hb⟩ := List.any_eq_true.1 h'
    have := hs n hn
    unfold badSz at hb
    simp at hb
    omega), if_neg (by simp [tbOf]), if_pos (by simp [Tb.ps, tbOf])]
theorem okTb_of {sz : List Int} {rs : List RV} (h1 : sz.length ≤ 1000) (h2 : ∀ n ∈ sz, I64 n) (h3 : rs.length ≤ 1000) (h4 : ∀ x ∈ rs, I64 x.r.p ∧ x.r.vs.length ≤ 1000 ∧ ∀ n ∈ x.r.vs, I64 n) : okTb (tbOf sz rs) where
  sl := h1
  si := h2
  rl := by rw [tbOf_rows]; exact h3
  rp r hr := by obtain ⟨x, hx, rfl⟩ := List.mem_map.1 hr; exact (h4 x hx).1
  rvl r hr := by obtain ⟨x, hx, rfl⟩ := List.mem_map.1 hr; exact (h4 x hx).2.1
  ri r hr := by obtain ⟨x, hx, rfl⟩ := List.mem_map.1 hr; exact (h4 x hx).2.2
theorem madeOk.ok {sz : List Int} {rs : List RV} (h : madeOk sz rs) : okTb (tbOf sz rs) := by
  refine okTb_of (by have := h.n1; omega) (fun n hn => by have := h.s n hn; omega) (by have := h.r; omega) fun x hx => ?_
  have hp := h.p x hx
  obtain ⟨_, _, _, h4, _⟩ := valid0 h.v
  have hb := badRw_iff.1 (by simpa using List.any_eq_false.1 h4 x.r (List.mem_map.2 ⟨x, hx, rfl⟩))
  have hl : x.r.vs.length = sz.length := by have := hb.1; show x.r.vs.length = (tbOf sz rs).sizes.length; omega
  refine ⟨by omega, by have := h.n1; omega, fun n hn => ?_⟩
  obtain ⟨k, hk, rfl⟩ := List.getElem_of_mem hn
  have h5 := hb.2 k hk
  unfold badVal at h5
  simp only [decide_eq_false_iff_not] at h5
  rw [geti_at hk] at h5
  have h6 := h.s (geti sz k) (geti_mem (by omega) (by omega))
  have : (tbOf sz rs).sizes = sz := rfl
  rw [this] at h5
  omega
set_option maxHeartbeats 4000000 in
theorem c_Made (v : Value) (l : List Int) (H : Hp) (hv : IntsAt H v l) (R : Ending → Hp → Prop)
    (hR : ∀ sv rv sz rs N, TbAt ⟨H.M, N⟩ sv rv sz rs → madeOk sz rs → R (.returned (.agg #[sv, rv])) ⟨H.M, N ++ H.L⟩) : ACalls Try.prog 6 [v] H R := by
  refine acalls_code hT Try.func6 rfl rfl ?_
  conv => whnf
  intro g2
  conv => whnf
  intro g3
  conv => whnf
  refine c_At v l 0 3 (by omega) _ (hv.mono (hle_sub fun a ha => by simp [ha])) _ ?_
  have hb3 := atv_bd l 0 3 (by omega)
  obtain ⟨n, hn⟩ : ∃ n : Nat, 1 + atv l 0 3 = n := ⟨(1 + atv l 0 3).toNat, by omega⟩
  conv => whnf
  repeat (refine ⟨_, wi (by omega), ?_⟩; conv => whnf)
  rw [hn]
  refine awp_loopL hT 79 [0, 2, 3, 4, 5] (fun m vs H' => ∃ (k : Nat) (s : Value) (sz : List Int), vs = [v, ptr g2, ptr g3, .int .i64 n, .int .i64 k] ∧ m + k = n ∧ sz.length = k ∧ (∀ x ∈ sz, 1 ≤ x ∧ x ≤ 5) ∧ RowVal s 1 (ints sz) ∧
    H' = ⟨H.M, .row s 3 1 (ints sz) :: .cells g3 25 [s, .slice none 0 0] :: .cells g2 25 [.slice none 0 0, .slice none 0 0] :: H.L⟩) n rfl rfl (weakNil _ 3 1) ⟨0, .slice none 0 0, [], rfl, rfl, rfl, by simp, .inl ⟨rfl, rfl⟩, rfl⟩ ?_
  rintro m u vs H' ⟨k, s, sz, rfl, hm, hszl, hszb, hs, rfl⟩
  obtain ⟨s1, s2, s3, rfl⟩ := hs.slice
  conv => whnf
  refine ifC_dec (fun h1 => ?_) (fun h1 => ?_)
  · have h5 := atv_bd l (1 + k) 5 (by omega)
    conv => whnf
    refine awp_draw hT hM 9 (List.range 9) (by kernel_rfl) H.M (.cells g3 25 [.slice s1 s2 s3, .slice none 0 0] :: .cells g2 25 [.slice none 0 0, .slice none 0 0] :: H.L) [.row (.slice s1 s2 s3) 3 1 (ints sz)] (Weak.perm (List.perm_append_comm (l₁ := [_]))) ?_
    conv => whnf
    refine ldS 0 rfl rfl ?_
    conv => whnf
    conv => whnf
    repeat (refine ⟨_, wi (by omega), ?_⟩; conv => whnf)
    refine c_At v l (1 + k) 5 (by omega) _ (hv.mono (hle_sub fun a ha => by simp [ha])) _ ?_
    refine ⟨_, _, Weak.refl _, fun _ _ h => h, ?_⟩
    conv => whnf
    conv => whnf
    repeat (refine ⟨_, wi (by omega), ?_⟩; conv => whnf)
    intro q
    conv => whnf
    refine ⟨H.M, (.cells g3 25 [.slice s1 s2 s3, .slice none 0 0] :: .cells g2 25 [.slice none 0 0, .slice none 0 0] :: H.L) ++ [.row (.slice (some ⟨q, 0, none⟩) 1 1) 3 1 (ints [1 + atv l (1 + k) 5])], ints sz, ints [1 + atv l (1 + k) 5], readsRow (e := 3) (v := .slice (some ⟨q, 0, none⟩) 1 1) (List.mem_append_right _ List.mem_cons_self) (rowNew rfl (by omega)), ints_one _,
      (Weak.perm List.perm_append_comm).trans ((weakPull [1] rfl).trans (Weak.perm (List.Perm.cons _ (List.perm_append_comm (l₁ := [_]))))), by rw [ints_length, ints_length]; simp; omega, by rw [ints_length, ints_length]; simp [maxLen]; omega, ?_⟩
    rw [← ints_append]
    intro v' hv'
    obtain ⟨q1, q2, q3, rfl⟩ := hv'.slice
    refine ⟨_, _ :: _, weakMid, fun _ _ h => h, ?_⟩
    conv => whnf
    refine ⟨_, Weak.perm List.perm_append_comm, ?_⟩
    conv => whnf
    refine stC 2 rfl rfl (by first | (refine ⟨rfl, ?_⟩; repeat' (first | exact trivial | refine ⟨rfl, ?_⟩)) | simp [oneCells, Value.oneCell', setN]) ?_
    conv => whnf
    conv => whnf
    repeat (refine ⟨_, wi (by omega), ?_⟩; conv => whnf)
    exact ⟨rfl, rfl, m - 1, _, by omega, weakSkip 1 1 rfl, k + 1, _, sz ++ [1 + atv l (1 + k) 5], rfl, by omega, by simp [hszl], fun x hx => (List.mem_append.1 hx).elim (hszb x) fun hx => by rw [List.mem_singleton.1 hx]; omega, hv', rfl⟩
  · have hkn : k = n := by omega
    subst hkn
    have hszI : ∀ x ∈ sz, I64 x := fun x hx => by have := hszb x hx; omega
    have hb11 := atv_bd l 4 11 (by omega)
    obtain ⟨w, hw⟩ : ∃ w : Nat, atv l 4 11 = w := ⟨(atv l 4 11).toNat, by omega⟩
    rw [hw] at hb11
    conv => whnf
    refine awp_loopL hT 79 [0, 2, 3, 4, 6] (fun m vs H' => ∃ (i : Nat) (rv : Value) (rs : List RV) (N : List Atom), vs = [v, ptr g2, ptr g3, .int .i64 k, .int .i64 i] ∧ m + i = w ∧ rs.length ≤ i ∧ validT (tbOf sz rs) = 0 ∧ (∀ x ∈ rs, 0 ≤ x.r.p ∧ x.r.p < 40) ∧ RowVal rv 2 (rvs rs) ∧
      (∀ x ∈ rs, Reads ⟨H.M, N⟩ x.v 1 (ints x.r.vs)) ∧ H' = ⟨H.M, .row rv 60 2 (rvs rs) :: .row (.slice s1 s2 s3) 3 1 (ints sz) :: .cells g3 25 [.slice s1 s2 s3, rv] :: .cells g2 25 [.slice none 0 0, .slice none 0 0] :: (N ++ H.L)⟩) w rfl rfl
      (weakNil _ 60 2) ⟨0, .slice none 0 0, [], [], rfl, rfl, Nat.le_refl _, valid_nil (by omega) hszb, by simp, .inl ⟨rfl, rfl⟩, by simp, rfl⟩ ?_
    rintro m2 u2 vs2 H2 ⟨i, rv, rs, N, rfl, hm2, hrl, hval, hpp, hrv, hN, rfl⟩
    obtain ⟨r1, r3, rfl⟩ := hrv.cnt (by omega) (rvs_length rs)
    have hmo : madeOk sz rs := ⟨hval, by omega, by omega, hszb, by omega, hpp⟩
    have hokr := hmo.ok
    conv => whnf
    refine c_At v l 4 11 (by omega) _ (hv.mono (hle_sub fun a ha => by simp [ha])) _ ?_
    rw [hw]
    conv => whnf
    refine ifC_dec (fun h2 => ?_) (fun h2 => ?_)
    · have hkb := atv_bd l (5 + i) 1048576 (by omega)
      conv => whnf
      repeat (refine ⟨_, wi (by omega), ?_⟩; conv => whnf)
      refine c_At v l (5 + i) 1048576 (by omega) _ (hv.mono (hle_sub fun a ha => by simp [ha])) _ ?_
      obtain ⟨K, hK⟩ : ∃ K, atv l (5 + i) 1048576 = K := ⟨_, rfl⟩
      rw [hK] at hkb ⊢
      have h40 : 0 ≤ K.tmod 40 ∧ K.tmod 40 < 40 := by rw [Int.tmod_eq_emod_of_nonneg (by omega)]; omega
      conv => whnf
      refine ⟨by omega, _, rfl, ?_⟩
      generalize K.tmod 40 = pp at *
      conv => whnf
      intro g8
      conv => whnf
      refine stC 0 rfl rfl (by first | (refine ⟨rfl, ?_⟩; repeat' (first | exact trivial | refine ⟨rfl, ?_⟩)) | simp [oneCells, Value.oneCell', setN]) ?_
      conv => whnf
      refine awp_loopL hT 79 [0, 2, 3, 4, 6, 7, 8, 9] (fun m vs H' => ∃ (j : Nat) (kk : Int) (s : Value) (ws : List Int), vs = [v, ptr g2, ptr g3, .int .i64 k, .int .i64 i, .int .i64 kk, ptr g8, .int .i64 j] ∧ m + j = k ∧ 0 ≤ kk ∧ kk < 1048576 ∧ ws.length = j ∧ (∀ a : Nat, a < j → 0 ≤ geti ws a ∧ geti ws a < geti sz a) ∧ RowVal s 1 (ints ws) ∧
        H' = ⟨H.M, .row s 3 1 (ints ws) :: .cells g8 60 [.int .i64 pp, s] :: .row (.slice r1 rs.length r3) 60 2 (rvs rs) :: .row (.slice s1 s2 s3) 3 1 (ints sz) :: .cells g3 25 [.slice s1 s2 s3, .slice r1 rs.length r3] :: .cells g2 25 [.slice none 0 0, .slice none 0 0] :: (N ++ H.L)⟩) k rfl rfl
        (weakNil _ 3 1) ⟨0, K, .slice none 0 0, [], rfl, by omega, by omega, by omega, rfl, fun a ha => absurd ha (by omega), .inl ⟨rfl, rfl⟩, rfl⟩ ?_
      rintro m3 u3 vs3 H3 ⟨j, kk, ss, ws, rfl, hm3, hk0, hk1, hwl, hwb, hws, rfl⟩
      obtain ⟨w1, w2, w3, rfl⟩ := hws.slice
      conv => whnf
      refine ifC_dec (fun h3 => ?_) (fun h3 => ?_)
      · have hjl : j < sz.length := by omega
        have hg := geti_at hjl
        obtain ⟨_, _, e1, hcs⟩ := intsAt (readsRow (H := ⟨H.M, [.row (.slice s1 s2 s3) 3 1 (ints sz)]⟩) (e := 3) List.mem_cons_self hs)
        obtain ⟨gs, os, rfl, hcell⟩ := hcs j (by omega) (by omega)
        cases e1
        have hsb := hszb _ (geti_mem (l := sz) (i := (j : Int)) (by omega) (by omega))
        obtain ⟨zj, hzj⟩ : ∃ zj, geti sz j = zj := ⟨_, rfl⟩
        rw [hzj] at hsb hcell
        have hdiv : 0 ≤ kk.tdiv 40 ∧ kk.tdiv 40 < 1048576 := by rw [Int.tdiv_eq_ediv_of_nonneg (by omega)]; omega
        have hdiv5 : 0 ≤ kk.tdiv 5 ∧ kk.tdiv 5 < 1048576 := by rw [Int.tdiv_eq_ediv_of_nonneg (by omega)]; omega
        conv => whnf
        refine awp_draw hT hM 12 (List.range 12) (by kernel_rfl) H.M (.cells g8 60 [.int .i64 pp, .slice w1 w2 w3] :: .row (.slice r1 rs.length r3) 60 2 (rvs rs) :: .row (.slice (some ⟨gs, os, none⟩) sz.length s3) 3 1 (ints sz) :: .cells g3 25 [.slice (some ⟨gs, os, none⟩) sz.length s3, .slice r1 rs.length r3] :: .cells g2 25 [.slice none 0 0, .slice none 0 0] :: (N ++ H.L))
          [.row (.slice w1 w2 w3) 3 1 (ints ws)] (Weak.perm (List.perm_append_comm (l₁ := [_]))) ?_
        conv => whnf
        refine ldS 0 rfl rfl ?_
        conv => whnf
        refine ⟨by omega, _, rfl, ?_⟩
        rw [← wi (by omega)]
        generalize hd : kk.tdiv 40 = d at *
        conv => whnf
        refine ldS 3 rfl rfl ?_
        conv => whnf
        refine ⟨gs, os, rfl, by omega, ?_⟩
        conv => whnf
        refine ⟨_, HLe.cell (hle_one (by simp)) hcell, ?_⟩
        conv => whnf
        refine ⟨by omega, _, rfl, ?_⟩
        have hmd : 0 ≤ d.tmod zj ∧ d.tmod zj < zj := by
          rw [Int.tmod_eq_emod_of_nonneg (by omega)]
          exact ⟨Int.emod_nonneg _ (by omega), Int.emod_lt_of_pos _ (by omega)⟩
        generalize d.tmod zj = y at *
        conv => whnf
        intro q
        conv => whnf
        refine ⟨H.M, (.cells g8 60 [.int .i64 pp, .slice w1 w2 w3] :: .row (.slice r1 rs.length r3) 60 2 (rvs rs) :: .row (.slice (some ⟨gs, os, none⟩) sz.length s3) 3 1 (ints sz) :: .cells g3 25 [.slice (some ⟨gs, os, none⟩) sz.length s3, .slice r1 rs.length r3] :: .cells g2 25 [.slice none 0 0, .slice none 0 0] :: (N ++ H.L)) ++ [.row (.slice (some ⟨q, 0, none⟩) 1 1) 3 1 (ints [y])],
          ints ws, ints [y], readsRow (e := 3) (v := .slice (some ⟨q, 0, none⟩) 1 1) (List.mem_append_right _ List.mem_cons_self) (rowNew rfl (by omega)), ints_one _,
          (Weak.perm List.perm_append_comm).trans ((weakPull [1] rfl).trans (Weak.perm (List.Perm.cons _ (List.perm_append_comm (l₁ := [_]))))), by rw [ints_length, ints_length]; simp; omega, by rw [ints_length, ints_length]; simp [maxLen]; omega, ?_⟩
        rw [← ints_append]
        intro v' hv'
        obtain ⟨q1, q2, q3, rfl⟩ := hv'.slice
        refine ⟨_, _ :: _, weakMid, fun _ _ h => h, ?_⟩
        conv => whnf
        refine ⟨_, Weak.perm List.perm_append_comm, ?_⟩
        conv => whnf
        refine stC 2 rfl rfl (by first | (refine ⟨rfl, ?_⟩; repeat' (first | exact trivial | refine ⟨rfl, ?_⟩)) | simp [oneCells, Value.oneCell', setN]) ?_
        conv => whnf
        refine ⟨by omega, _, rfl, ?_⟩
        rw [← wi (by omega)]
        conv => whnf
        repeat (refine ⟨_, wi (by omega), ?_⟩; conv => whnf)
        refine ⟨rfl, rfl, m3 - 1, _, by omega, weakSkip 1 1 rfl, j + 1, kk.tdiv 5, _, ws ++ [y], rfl, by omega, by omega, by omega, by simp [hwl], fun a ha => ?_, hv', rfl⟩
        rcases Nat.lt_or_ge a j with h | h
        · have := hwb a h
          have e : geti (ws ++ [y]) a = geti ws a := by simp [geti, List.getD_eq_getElem?_getD, List.getElem?_append_left (show a < ws.length by omega)]
          rw [e]; exact this
        · have : a = j := by omega
          subst this
          have e : geti (ws ++ [y]) a = y := by simp [geti, List.getD_eq_getElem?_getD, ← hwl]
          rw [e, hzj]; exact hmd
      · have hjk : j = k := by omega
        subst hjk
        obtain ⟨x, ex⟩ : ∃ x : RV, x = ⟨.slice w1 w2 w3, ⟨pp, ws⟩⟩ := ⟨_, rfl⟩
        have hone : ∀ y ∈ rvs [x], y.oneCell' = true := by rw [ex]; simp [rvs, rvc, Value.oneCell']
        conv => whnf
        refine ldS 4 rfl rfl ?_
        conv => whnf
        refine ldA 1 rfl rfl ?_
        conv => whnf
        intro q
        conv => whnf
        refine ⟨H.M, .row (.slice w1 w2 w3) 3 1 (ints ws) :: .cells g8 60 [.int .i64 pp, .slice w1 w2 w3] :: .row (.slice s1 s2 s3) 3 1 (ints sz) :: .cells g3 25 [.slice s1 s2 s3, .slice r1 rs.length r3] :: .cells g2 25 [.slice none 0 0, .slice none 0 0] :: (N ++ H.L), rvs rs, rvs [x], readsRow (e := 60) (v := .slice (some ⟨q, 0, none⟩) 1 1) (by rw [ex]; exact List.mem_cons_self) (rowNew (by rw [rvs_length]; rfl) (by omega)), hone,
          (weakDel 0 rfl).trans (weakPull [2] rfl), by rw [rvs_length, rvs_length]; simp; omega, by rw [rvs_length, rvs_length]; simp [maxLen]; omega, fun rv' hrv' => ?_⟩
        rw [← rvs_append] at hrv' ⊢
        obtain ⟨q1, q3, rfl⟩ := hrv'.cnt (by omega) (rvs_length _)
        rw [show (rs ++ [x]).length = rs.length + 1 by simp] at *
        have hNx : ∀ y ∈ rs ++ [x], Reads ⟨H.M, .row (.slice w1 w2 w3) 3 1 (ints ws) :: N⟩ y.v 1 (ints y.r.vs) := fun y hy => by
          rcases List.mem_append.1 hy with hy | hy
          · exact (hN y hy).mono (hle_sub fun a ha => List.mem_cons_of_mem _ ha)
          · rw [List.mem_singleton.1 hy, ex]; exact readsRow (e := 3) List.mem_cons_self hws
        have hppx : ∀ y ∈ rs ++ [x], 0 ≤ y.r.p ∧ y.r.p < 40 := fun y hy => by
          rcases List.mem_append.1 hy with hy | hy
          · exact hpp y hy
          · rw [List.mem_singleton.1 hy, ex]; exact h40
        have hwI : ∀ n ∈ ws, I64 n := fun n hn => by
          obtain ⟨a, ha, rfl⟩ := List.getElem_of_mem hn
          have h1 := hwb a (by omega)
          rw [geti_at ha] at h1
          have h2 := hszb (geti sz a) (geti_mem (by omega) (by omega))
          omega
        have hokx : okTb (tbOf sz (rs ++ [x])) := okTb_of (by omega) hszI (by simp; omega) fun y hy => by
          rcases List.mem_append.1 hy with hy | hy
          · exact hokr.row hy
          · rw [List.mem_singleton.1 hy, ex]; exact ⟨by show I64 pp; omega, by show ws.length ≤ 1000; omega, hwI⟩
        conv => whnf
        refine stC 4 rfl rfl (by first | (refine ⟨rfl, ?_⟩; repeat' (first | exact trivial | refine ⟨rfl, ?_⟩)) | simp [oneCells, Value.oneCell', setN]) ?_
        conv => whnf
        refine ldA 4 rfl rfl ?_
        conv => whnf
        refine c_ValidR _ _ sz (rs ++ [x]) _ ⟨readsRow (e := 3) (by simp) hs, readsRow (e := 60) List.mem_cons_self hrv', fun y hy => (hNx y hy).mono (hle_sub fun a ha => by
          rcases List.mem_cons.1 ha with h | h
          · simp [h]
          · simp [h])⟩ hokx _ ?_
        conv => whnf
        by_cases hvx : validT (tbOf sz (rs ++ [x])) = 0
        · refine ifC_neg (by rw [hvx]; simp) ?_
          conv => whnf
          repeat (refine ⟨_, wi (by omega), ?_⟩; conv => whnf)
          exact ⟨rfl, rfl, m2 - 1, _, by omega, (weakDel 2 rfl).trans (weakPull [0, 1, 1, 1, 0] rfl), i + 1, _, rs ++ [x], .row (.slice w1 w2 w3) 3 1 (ints ws) :: N, rfl, by omega, by simp; omega, hvx, hppx, hrv', hNx, rfl⟩
        · refine ifC_pos (hvx) ?_
          conv => whnf
          refine ldS 4 rfl rfl ?_
          conv => whnf
          refine ldS 4 rfl rfl ?_
          conv => whnf
          conv => whnf
          repeat (refine ⟨_, wi (by omega), ?_⟩; conv => whnf)
          have hle3 := hrv'.le
          refine ⟨rs.length, by omega, by omega, ?_⟩
          conv => whnf
          refine stC 4 rfl rfl (by first | (refine ⟨rfl, ?_⟩; repeat' (first | exact trivial | refine ⟨rfl, ?_⟩)) | simp [oneCells, Value.oneCell', setN]) ?_
          conv => whnf
          have hq1 : ∃ g o, q1 = some ⟨g, o, none⟩ := by
            rcases hrv' with ⟨h, _⟩ | ⟨g, o, n', c', h, _⟩
            · cases h
            · cases h; exact ⟨g, o, rfl⟩
          obtain ⟨gq, oq, rfl⟩ := hq1
          have hsub : subAddr (some ⟨gq, oq, none⟩) q3 0 2 = some ⟨gq, oq, none⟩ := by
            unfold subAddr
            split
            · rfl
            · simp [Addr.add]
          have htake : (rvs (rs ++ [x])).take (rs.length * 2) = rvs rs := by rw [rvs_take]; simp
          have hrv2 : RowVal (.slice (some ⟨gq, oq, none⟩) rs.length q3) 2 (rvs rs) := by
            rcases hrv' with ⟨h, _⟩ | ⟨g, o, n', c', h, h1, h2, h3⟩
            · cases h
            · cases h; exact .inr ⟨gq, oq, rs.length, q3, rfl, rvs_length rs, by omega, h3⟩
          have hwp := weakPrefixN (M := H.M) (L := .row (.slice w1 w2 w3) 3 1 (ints ws) :: .cells g8 60 [.int .i64 pp, .slice w1 w2 w3] :: .row (.slice s1 s2 s3) 3 1 (ints sz) :: .cells g3 25 [.slice s1 s2 s3, .slice (some ⟨gq, oq, none⟩) rs.length q3] :: .cells g2 25 [.slice none 0 0, .slice none 0 0] :: (N ++ H.L)) (g := gq) (o := oq) (n := rs.length + 1) (c := q3) (k := rs.length) (sz := 2) (e := 60) (xs := rvs (rs ++ [x])) (by omega)
          rw [htake] at hwp
          rw [hsub]
          conv => whnf
          repeat (refine ⟨_, wi (by omega), ?_⟩; conv => whnf)
          exact ⟨rfl, rfl, m2 - 1, _, by omega, hwp.trans ((weakDel 2 rfl).trans (weakPull [0, 1, 1, 1, 0] rfl)), i + 1, _, rs, .row (.slice w1 w2 w3) 3 1 (ints ws) :: N, rfl, by omega, by omega, hval, hpp, hrv2, fun y hy => (hN y hy).mono (hle_sub fun a ha => List.mem_cons_of_mem _ ha), rfl⟩
    · conv => whnf
      refine ldA 2 rfl rfl ?_
      conv => whnf
      refine stC 3 rfl rfl (by first | (refine ⟨rfl, ?_⟩; repeat' (first | exact trivial | refine ⟨rfl, ?_⟩)) | simp [oneCells, Value.oneCell', setN]) ?_
      conv => whnf
      refine ⟨rfl, ?_⟩
      conv => whnf
      refine ldA 3 rfl rfl ?_
      conv => whnf
      exact fin ((weakSkip 2 2 rfl)) (hR (.slice s1 s2 s3) _ sz rs (.row (.slice r1 rs.length r3) 60 2 (rvs rs) :: .row (.slice s1 s2 s3) 3 1 (ints sz) :: N) ⟨readsRow (e := 3) (List.mem_cons_of_mem _ List.mem_cons_self) hs, readsRow (e := 60) List.mem_cons_self hrv, fun x hx => (hN x hx).mono (hle_sub fun a ha => List.mem_cons_of_mem _ (List.mem_cons_of_mem _ ha))⟩ hmo)
end Go.Proofs.Ytohdcmkooedkcaa.A
