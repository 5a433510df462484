/- ReleaseNeighbours. -/
import Derived.Test.YtohdcmkooedkcaaT15
import Derived.Test.YtohdcmkooedkcaaT11
import Derived.Test.YtohdcmkooedkcaaT7
namespace Go.Proofs.Ytohdcmkooedkcaa.A
open Go Go.RowKit
set_option linter.unusedVariables false
set_option linter.unusedSimpArgs false
set_option maxRecDepth 20000

theorem cellsOwn' {H : Hp} {g : Nat} {e : TypeId} {cs : List Value} (h : Atom.cells g e cs ∈ H.L) : CellsAt H g 0 cs := fun j v hj => by
  rw [Nat.zero_add]
  exact cellOwn h hj
theorem valid_filter {sz : List Int} {rs : List RV} (h : validT (tbOf sz rs) = 0) (P : RV → Bool) : validT (tbOf sz (rs.filter P)) = 0 := by
  obtain ⟨h1, h2, h3, h4, h5⟩ := valid0 h
  have hl := List.length_filter_le P rs
  rw [tbOf_rows] at h2
  unfold validT
  rw [if_neg (by rw [tbOf_rows]; have : (tbOf sz (rs.filter P)).sizes.length = (tbOf sz rs).sizes.length := rfl; omega), if_neg (by
    have : (tbOf sz (rs.filter P)).sizes = (tbOf sz rs).sizes := rfl
    rw [this, h3]; simp), if_neg (by
    intro h'
    obtain ⟨r, hr, hb⟩ := List.any_eq_true.1 h'
    obtain ⟨x, hx, rfl⟩ := List.mem_map.1 hr
    have := List.any_eq_false.1 h4 x.r (List.mem_map.2 ⟨x, (List.mem_filter.1 hx).1, rfl⟩)
    have e : (tbOf sz (rs.filter P)).sizes = (tbOf sz rs).sizes := rfl
    rw [e] at hb
    exact this hb), if_pos (by
    rw [ps_tb] at h5 ⊢
    exact h5.sublist (List.Sublist.map _ List.filter_sublist))]
theorem given_ok {sz : List Int} {rs : List RV} {f k : Int} (h : validT (tbOf sz rs) = 0) (f0 : 0 ≤ f) (f1 : f < sz.length) (k1 : 1 ≤ k) (k2 : k ≤ 12) : givenT (tbOf sz rs) f k = 0 := by
  unfold givenT
  rw [if_neg (by omega), if_neg (by have : (tbOf sz rs).sizes = sz := rfl; rw [this]; omega), if_neg (by omega)]
theorem wtT_good {sz : List Int} {rs : List RV} {f k : Int} {ans : List Int} (h : validT (tbOf sz rs) = 0) (f0 : 0 ≤ f) (f1 : f < sz.length) (k1 : 1 ≤ k) (k2 : k ≤ 12) (hl : (ans.length : Int) = geti sz f) (hb : ∀ x ∈ ans, 0 ≤ x ∧ x ≤ mostF k) : wtT sz rs f k ans = (wtUp rs f k ans ans.length, 0) := by
  unfold wtT
  rw [if_neg (by rw [given_ok h f0 f1 k1 k2]; simp), if_neg]
  intro h'
  rcases h' with h' | h'
  · omega
  · obtain ⟨x, hx, hb'⟩ := List.any_eq_true.1 h'
    have := hb x hx
    unfold badA at hb'
    simp at hb'
    omega
theorem hid01 {k : Int} (h1 : 1 ≤ k) (h2 : k ≤ 12) : HidOk 0 (mostF k) k ∧ HidOk 1 (mostF k) k := by
  have := mostF_bd h1 h2
  exact ⟨⟨by omega, by omega, by omega, by omega, h1, h2, this.2.2⟩, ⟨by omega, by omega, by omega, by omega, h1, h2, this.2.2⟩⟩
set_option maxHeartbeats 16000000 in
theorem c_ReleaseNeighbours (v av : Value) (l aw : List Int) (person field cost : Int) (H : Hp) (hv : IntsAt H v l) (hav : IntsAt H av aw) (hp : I64 person) (hf : I64 field) (hc : I64 cost) (R : Ending → Hp → Prop) (hR : ∀ H', R (.returned (.bool true)) H') :
    ACalls Try.prog 5 [v, .int .i64 person, .int .i64 field, .int .i64 cost, av] H R := by
  obtain ⟨pv, cv, rfl, _⟩ := hv.open
  obtain ⟨pa, ca, rfl, _⟩ := hav.open
  refine acalls_code hT Try.func5 rfl rfl ?_
  conv => whnf
  refine c_Made _ l _ hv _ fun sv rv sz rs N1 h1 m1 => ?_
  obtain ⟨a1, a3, rfl, hsz⟩ := intsAt h1.s
  obtain ⟨b1, b2, b3, rfl⟩ := h1.r.slice
  have hszl := m1.n1
  have hsz1 := m1.n0
  have hrl := m1.r
  have hok := m1.ok
  have hval := m1.v
  have hszb := m1.s
  conv => whnf
  refine c_own _ _ sz rs _ (h1.mono (hle_sub fun a ha => List.mem_append_left _ ha)) m1.ok _ fun ov hov => ?_
  obtain ⟨o1, o3, rfl⟩ := hov.cnt (by omega) (rvs_length rs)
  conv => whnf
  intro g11
  conv => whnf
  refine stC 0 rfl rfl (by first | (refine ⟨rfl, ?_⟩; repeat' (first | exact trivial | refine ⟨rfl, ?_⟩)) | simp [oneCells, Value.oneCell', setN]) ?_
  conv => whnf
  obtain ⟨K, hK⟩ : ∃ K, K = .row (.slice o1 rs.length o3) 55 2 (rvs rs) :: (N1 ++ H.L) := ⟨_, rfl⟩
  rw [← hK]
  have hN : ∀ a ∈ N1, a ∈ K := fun a ha => hK ▸ List.mem_cons_of_mem _ (List.mem_append_left _ ha)
  have hxo : TbAt ⟨H.M, K⟩ (.slice a1 sz.length a3) (.slice o1 rs.length o3) sz rs := ⟨(h1.mono (hle_sub hN)).s, readsRow (e := 55) (hK ▸ List.mem_cons_self) hov, (h1.mono (hle_sub hN)).v⟩
  have havK : IntsAt ⟨H.M, K⟩ (.slice pa aw.length ca) aw := hav.mono (hle_sub fun a ha => hK ▸ List.mem_cons_of_mem _ (List.mem_append_right _ ha))
  have hsz := fun i (h0 : 0 ≤ i) (h1 : i < (sz.length : Int)) => hsz i h0 h1
  have hvlen : ∀ x ∈ rs, x.r.vs.length = sz.length := fun x hx => by
    obtain ⟨_, _, _, h4, _⟩ := valid0 hval
    have hb := badRw_iff.1 (by simpa using List.any_eq_false.1 h4 x.r (List.mem_map.2 ⟨x, hx, rfl⟩))
    have := hb.1
    show x.r.vs.length = (tbOf sz rs).sizes.length
    omega
  have hxv := hxo.v
  clear hav hv m1
  have hb12 := around_bd cost 12 (by omega)
  refine c_Around cost 12 hc (by omega) _ _ ?_
  conv => whnf
  repeat (refine ⟨_, wi (by omega), ?_⟩; conv => whnf)
  obtain ⟨k, hk⟩ : ∃ k, k = 1 + around cost 12 := ⟨_, rfl⟩
  rw [← hk]
  have hk1 : 1 ≤ k := by omega
  have hk12 : k ≤ 12 := by omega
  clear hk hb12
  refine ldS 0 rfl rfl ?_
  conv => whnf
  have hbf := around_bd field sz.length (by omega)
  refine c_Around field sz.length hf (by omega) _ _ ?_
  generalize around field sz.length = f at *
  conv => whnf
  have hb42 := around_bd person 42 (by omega)
  refine c_Around person 42 hp (by omega) _ _ ?_
  generalize around person 42 = p at *
  conv => whnf
  refine c_Most k (by omega) _ _ ?_
  obtain ⟨hm2b, hm37, _⟩ := mostF_bd hk1 hk12
  obtain ⟨mo, hmo⟩ : ∃ mo, mostF k = mo := ⟨_, rfl⟩
  rw [hmo] at hm2b hm37 ⊢
  obtain ⟨gz, oz, e, hcz⟩ := hsz f (by omega) (by omega)
  subst e
  have hnb := hszb _ (geti_mem (l := sz) (i := f) (by omega) (by omega))
  obtain ⟨n, hn⟩ : ∃ n : Nat, geti sz f = n := ⟨(geti sz f).toNat, by omega⟩
  rw [hn] at hnb
  have hcz : ∀ L, (∀ a ∈ N1, a ∈ L) → Hp.cell ⟨H.M, L⟩ gz (oz + f.toNat * 1) (.int .i64 n) := fun L hL => by rw [hn] at hcz; exact HLe.cell (hle_sub hL) hcz
  clear hsz hp hf hc
  conv => whnf
  refine awp_loopL hT 211 [4, 11, 12, 13, 14, 15, 16, 17] (fun m vs H' => ∃ (i : Nat) (s : Value) (az : List Int), vs = [.slice pa aw.length ca, ptr g11, .int .i64 k, .int .i64 f, .int .i64 p, .int .i64 mo, s, .int .i64 i] ∧ m + i = n ∧ az.length = i ∧ (∀ x ∈ az, 0 ≤ x ∧ x ≤ mo) ∧ RowVal s 1 (ints az) ∧
    H' = ⟨H.M, .row s 3 1 (ints az) :: .cells g11 31 [.slice (some ⟨gz, oz, none⟩) sz.length a3, .slice o1 rs.length o3] :: K⟩) n rfl rfl (weakNil _ 3 1) ⟨0, .slice none 0 0, [], rfl, by omega, rfl, by simp, .inl ⟨rfl, rfl⟩, rfl⟩ ?_
  rintro m u vs H' ⟨i, s, az, rfl, hm, hazl, hazb, hs, rfl⟩
  obtain ⟨z1, z3, rfl⟩ := hs.cnt (by omega) (by rw [ints_length, Nat.mul_one])
  conv => whnf
  refine ldS 1 rfl rfl ?_
  conv => whnf
  refine ⟨_, _, rfl, by omega, ?_⟩
  conv => whnf
  refine ⟨_, hcz _ (fun a ha => by simp [hN a ha]), ?_⟩
  conv => whnf
  refine ifC_dec (fun hi => ?_) (fun hi => ?_)
  · have hab := atv_bd aw i (mo + 1) (by omega)
    conv => whnf
    repeat (refine ⟨_, wi (by omega), ?_⟩; conv => whnf)
    refine c_At _ aw i (mo + 1) (by omega) _ (havK.mono (hle_sub fun a ha => by simp [ha])) _ ?_
    generalize atv aw i (mo + 1) = y at *
    conv => whnf
    intro q3
    conv => whnf
    refine ⟨H.M, _, ints az, ints [y], readsNew rfl rfl, ints_one _, weakDel 0 rfl, by rw [ints_length, ints_length]; simp; omega, by rw [ints_length, ints_length]; simp [maxLen]; omega, fun v' hv' => ?_⟩
    rw [← ints_append] at hv' ⊢
    conv => whnf
    repeat (refine ⟨_, wi (by omega), ?_⟩; conv => whnf)
    exact ⟨rfl, rfl, m - 1, _, by omega, Weak.refl _, i + 1, _, az ++ [y], rfl, by omega, by simp [hazl], fun x hx => (List.mem_append.1 hx).elim (hazb x) fun hx => by rw [List.mem_singleton.1 hx]; omega, hv', rfl⟩
  · obtain rfl : i = n := by omega
    clear hm
    have hazI : ∀ x ∈ az, I64 x := fun x hx => by have := hazb x hx; omega
    have haz0 : IntsAt ⟨H.M, .row (.slice z1 az.length z3) 3 1 (ints az) :: K⟩ (.slice z1 az.length z3) az := ⟨readsRow (e := 3) List.mem_cons_self hs, hazI, by omega⟩
    have hvalf := valid_filter hval (keepP p)
    have hokf : okTb (tbOf sz (rs.filter (keepP p))) := okTb_of hok.sl hok.si (by have := List.length_filter_le (keepP p) rs; omega) fun x hx => hok.row (List.mem_filter.1 hx).1
    have hw1 : wtT sz rs f k az = (wtUp rs f k az az.length, 0) := wtT_good hval (by omega) (by omega) hk1 hk12 (by omega) (fun x hx => by rw [hmo]; exact hazb x hx)
    have hw2 : wtT sz (rs.filter (keepP p)) f k az = (wtUp (rs.filter (keepP p)) f k az az.length, 0) := wtT_good hvalf (by omega) (by omega) hk1 hk12 (by omega) (fun x hx => by rw [hmo]; exact hazb x hx)
    obtain ⟨W1, hW1⟩ : ∃ W1, W1 = wtUp rs f k az az.length := ⟨_, rfl⟩
    obtain ⟨W2, hW2⟩ : ∃ W2, W2 = wtUp (rs.filter (keepP p)) f k az az.length := ⟨_, rfl⟩
    rw [← hW1] at hw1
    rw [← hW2] at hw2
    have hW1l : W1.length = az.length := by rw [hW1, wtUp_len]
    have hW2l : W2.length = az.length := by rw [hW2, wtUp_len]
    have hnd : (rs.map (·.r.p)).Nodup := by
      have := (valid0 hval).2.2.2.2
      rw [ps_tb] at this
      exact this
    have hfl := List.length_filter_le (keepP p) rs
    have hwo := (without_cnt (p := p) (f := f) hnd).1
    conv => whnf
    refine ldA 1 rfl rfl ?_
    conv => whnf
    refine c_Without _ _ sz rs p _ (hxo.mono (hle_sub fun a ha => by simp [ha])) hok _ fun v7 hv7 => ?_
    obtain ⟨w1, w3, rfl⟩ := hv7.cnt (by omega) (rvs_length _)
    conv => whnf
    intro g18
    conv => whnf
    refine stC 0 rfl rfl (by first | (refine ⟨rfl, ?_⟩; repeat' (first | exact trivial | refine ⟨rfl, ?_⟩)) | simp [oneCells, Value.oneCell', setN]) ?_
    conv => whnf
    refine ldA 3 rfl rfl ?_
    conv => whnf
    refine c_Weight _ _ _ sz rs f k az _ (hxo.mono (hle_sub fun a ha => by simp [ha])) hok (haz0.mono (hle_sub fun a ha => by simp at ha ⊢; rcases ha with h | h <;> simp [h])) (by omega) _ fun v8 hv8 => ?_
    rw [hw1] at hv8 ⊢
    replace hv8 : RowVal v8 1 (ints W1) := hv8
    show callK _ _ (.returned (.tuple #[v8, .int .i64 0])) ⟨H.M, .row v8 3 1 (ints W1) :: _⟩
    obtain ⟨r1, r3, rfl⟩ := hv8.cnt (by omega) (by rw [ints_length, Nat.mul_one])
    conv => whnf
    refine ldA 1 rfl rfl ?_
    conv => whnf
    refine c_Weight _ _ _ sz (rs.filter (keepP p)) f k az _ ⟨(hxo.mono (hle_sub fun a ha => by simp [ha])).s, readsRow (e := 55) (by simp) hv7, fun x hx => (hxo.mono (hle_sub fun a ha => by simp [ha])).v x (List.mem_filter.1 hx).1⟩ hokf (haz0.mono (hle_sub fun a ha => by simp at ha ⊢; rcases ha with h | h <;> simp [h])) (by omega) _ fun v9 hv9 => ?_
    rw [hw2] at hv9 ⊢
    replace hv9 : RowVal v9 1 (ints W2) := hv9
    show callK _ _ (.returned (.tuple #[v9, .int .i64 0])) ⟨H.M, .row v9 3 1 (ints W2) :: _⟩
    obtain ⟨t1, t3, rfl⟩ := hv9.cnt (by omega) (by rw [ints_length, Nat.mul_one])
    conv => whnf
    refine ifC_neg (by omega) ?_
    conv => whnf
    refine ifC_neg (by omega) ?_
    conv => whnf
    refine ldS 5 rfl rfl ?_
    conv => whnf
    refine ldS 2 rfl rfl ?_
    conv => whnf
    conv => whnf
    repeat (refine ⟨_, wi (by omega), ?_⟩; conv => whnf)
    refine ifC_neg (by omega) ?_
    obtain ⟨_, _, e, hcr⟩ := rvAt hxo.r
    injection e with e1 e2 e3
    subst e1
    clear hv7 hxo hK
    conv => whnf
    refine awp_loopL hT 211 [11, 12, 13, 14, 15, 19, 21, 23, 24] (fun m vs H' => ∃ (j : Nat), vs = [ptr g11, .int .i64 k, .int .i64 f, .int .i64 p, .int .i64 mo, .slice r1 W1.length r3, .slice t1 W2.length t3, .int .i64 (valF p f (rs.take j)), .int .i64 j] ∧ m + j = rs.length ∧
      H' = ⟨H.M, .row (.slice t1 W2.length t3) 3 1 (ints W2) :: .row (.slice r1 W1.length r3) 3 1 (ints W1) :: .cells g11 31 [.slice (some ⟨gz, oz, none⟩) sz.length a3, .slice o1 rs.length o3] :: K⟩) rs.length rfl rfl (weakSkip 2 3 rfl) ⟨0, rfl, by omega, rfl⟩ ?_
    rintro m2 u2 vs H' ⟨j, rfl, hm2, rfl⟩
    conv => whnf
    refine ldS 2 rfl rfl ?_
    conv => whnf
    refine ifC_dec (fun hj => ?_) (fun hj => ?_)
    · have hjl : j < rs.length := by omega
      have htk : rs.take (j + 1) = rs.take j ++ [rs[j]] := List.take_succ_eq_append_getElem hjl
      obtain ⟨gr, or', e', hce⟩ := hcr j hjl
      subst e'
      have hmem := List.getElem_mem hjl
      have hvr := hxv _ hmem
      have hvl : rs[j].r.vs.length = sz.length := hvlen _ hmem
      generalize rs[j] = x at *
      obtain ⟨xv, ⟨xp, xvs⟩⟩ := x
      simp only at hvr hvl
      obtain ⟨x1, x3, rfl, hcx⟩ := intsAt hvr
      obtain ⟨gx, ox, rfl, hcxf⟩ := hcx f (by omega) (by omega)
      conv => whnf
      refine ldS 2 rfl rfl ?_
      conv => whnf
      refine ⟨_, _, rfl, by omega, ?_⟩
      conv => whnf
      refine ⟨_, (hce.mono (hle_sub fun a ha => by simp [ha])) 0 _ rfl, ?_⟩
      conv => whnf
      refine ifC_dec (fun hpp => ?_) (fun hpp => ?_)
      · conv => whnf
        refine ldS 2 rfl rfl ?_
        conv => whnf
        refine ⟨_, _, rfl, by omega, ?_⟩
        conv => whnf
        refine ⟨_, (hce.mono (hle_sub fun a ha => by simp [ha])) 1 _ rfl, ?_⟩
        conv => whnf
        refine ⟨_, _, rfl, by omega, ?_⟩
        conv => whnf
        refine ⟨_, HLe.cell (hle_sub fun a ha => by simp [ha]) hcxf, ?_⟩
        conv => whnf
        repeat (refine ⟨_, wi (by omega), ?_⟩; conv => whnf)
        exact ⟨rfl, rfl, m2 - 1, _, by omega, Weak.refl _, j + 1, by rw [htk, valF_snoc, if_pos hpp]; rfl, by omega, rfl⟩
      · conv => whnf
        repeat (refine ⟨_, wi (by omega), ?_⟩; conv => whnf)
        exact ⟨rfl, rfl, m2 - 1, _, by omega, Weak.refl _, j + 1, by rw [htk, valF_snoc, if_neg hpp]; rfl, by omega, rfl⟩
    · obtain rfl : j = rs.length := by omega
      rw [List.take_length]
      clear hcr hm2
      conv => whnf
      refine awp_loopL hT 211 [12, 15, 19, 21, 23, 25] (fun m vs H' => ∃ (x : Nat), vs = [.int .i64 k, .int .i64 mo, .slice r1 W1.length r3, .slice t1 W2.length t3, .int .i64 (valF p f rs), .int .i64 x] ∧ m + x = az.length ∧
        H' = ⟨H.M, .row (.slice t1 W2.length t3) 3 1 (ints W2) :: .row (.slice r1 W1.length r3) 3 1 (ints W1) :: .cells g11 31 [.slice (some ⟨gz, oz, none⟩) sz.length a3, .slice o1 rs.length o3] :: K⟩) az.length rfl rfl (Weak.refl _) ⟨0, rfl, by omega, rfl⟩ ?_
      rintro m3 u3 vs H' ⟨x, rfl, hm3, rfl⟩
      conv => whnf
      refine ifC_dec (fun hx => ?_) (fun hx => ?_)
      · obtain ⟨_, _, e, hc1⟩ := intsAt (H := ⟨H.M, [.row (.slice r1 W1.length r3) 3 1 (ints W1)]⟩) (readsRow (e := 3) List.mem_cons_self hv8)
        injection e with e1 e2 e3
        subst e1
        obtain ⟨ga, oa, e', hc1⟩ := hc1 x (by omega) (by omega)
        subst e'
        obtain ⟨_, _, e, hc2⟩ := intsAt (H := ⟨H.M, [.row (.slice t1 W2.length t3) 3 1 (ints W2)]⟩) (readsRow (e := 3) List.mem_cons_self hv9)
        injection e with e1 e2 e3
        subst e1
        obtain ⟨gb, ob, e', hc2⟩ := hc2 x (by omega) (by omega)
        subst e'
        have hax := hazb _ (geti_mem (l := az) (i := (x : Int)) (by omega) (by omega))
        have hget : ∀ rr : List RV, geti (wtUp rr f k az az.length) x = wtOf rr f k az x := fun rr => by
          rw [geti_at (by rw [wtUp_len]; omega)]
          unfold wtUp
          rw [List.getElem_map, List.getElem_range]
        obtain ⟨n1, n2, n3⟩ := wt_near (p := p) (f := f) hnd hk1 hk12 az x hax.1 (by rw [hmo]; exact hax.2)
        have q1 : 1 ≤ wtOf rs f k az x ∧ wtOf rs f k az x ≤ 274877906944 := wtF_bd (minM_ok hk1 hk12) hax.1 (by rw [hmo]; exact hax.2)
        have q2 : 1 ≤ wtOf (rs.filter (keepP p)) f k az x ∧ wtOf (rs.filter (keepP p)) f k az x ≤ 274877906944 := wtF_bd (minM_ok hk1 hk12) hax.1 (by rw [hmo]; exact hax.2)
        have hg1 : geti W1 x = wtOf rs f k az x := by rw [hW1, hget]
        have hg2 : geti W2 x = wtOf (rs.filter (keepP p)) f k az x := by rw [hW2, hget]
        rw [hg1] at hc1
        rw [hg2] at hc2
        have sh1 := shl_fit q1.1 q1.2 hk12
        have sh2 := shl_fit q2.1 q2.2 hk12
        have hc1 : ∀ L, Atom.row (.slice (some ⟨ga, oa, none⟩) W1.length r3) 3 1 (ints W1) ∈ L → Hp.cell ⟨H.M, L⟩ ga (oa + (x : Int).toNat * 1) (.int .i64 (wtOf rs f k az x)) := fun L hL => HLe.cell (hle_sub fun a ha => by rw [List.mem_singleton.1 ha]; exact hL) hc1
        have hc2 : ∀ L, Atom.row (.slice (some ⟨gb, ob, none⟩) W2.length t3) 3 1 (ints W2) ∈ L → Hp.cell ⟨H.M, L⟩ gb (ob + (x : Int).toNat * 1) (.int .i64 (wtOf (rs.filter (keepP p)) f k az x)) := fun L hL => HLe.cell (hle_sub fun a ha => by rw [List.mem_singleton.1 ha]; exact hL) hc2
        generalize wtOf rs f k az x = A at *
        generalize wtOf (rs.filter (keepP p)) f k az x = B at *
        generalize valF p f rs = vp at *
        conv => whnf
        refine awp_drawQ hT hM 56 (by kernel_rfl) ?_
        conv => whnf
        refine ⟨_, _, rfl, by omega, ?_⟩
        conv => whnf
        refine ⟨_, hc1 _ (by simp), ?_⟩
        conv => whnf
        refine ifC_neg (by omega) ?_
        conv => whnf
        refine ⟨_, _, rfl, by omega, ?_⟩
        conv => whnf
        refine ⟨_, hc2 _ (by simp), ?_⟩
        conv => whnf
        refine ifC_neg (by omega) ?_
        conv => whnf
        refine ifC_dec (fun hxp => ?_) (fun hxp => ?_)
        · have hAB : A = B := n1 hxp
          conv => whnf
          refine ⟨_, _, rfl, by omega, ?_⟩
          conv => whnf
          refine ⟨_, hc1 _ (by simp), ?_⟩
          conv => whnf
          refine ⟨_, _, rfl, by omega, ?_⟩
          conv => whnf
          refine ⟨_, hc2 _ (by simp), ?_⟩
          conv => whnf
          refine ifC_neg (by omega) ?_
          conv => whnf
          refine ⟨_, _, rfl, by omega, ?_⟩
          conv => whnf
          refine ⟨_, hc1 _ (by simp), ?_⟩
          conv => whnf
          refine ⟨_, _, rfl, by omega, ?_⟩
          conv => whnf
          refine ⟨_, hc2 _ (by simp), ?_⟩
          conv => whnf
          refine ⟨_, wu (by omega), ?_⟩
          conv => whnf
          refine ⟨by omega, _, shl_w (m := B) (by omega) (by omega) sh2, ?_⟩
          conv => whnf
          refine ifC_neg (by omega) ?_
          conv => whnf
          refine ⟨_, _, rfl, by omega, ?_⟩
          conv => whnf
          refine ⟨_, hc2 _ (by simp), ?_⟩
          conv => whnf
          refine ⟨_, _, rfl, by omega, ?_⟩
          conv => whnf
          refine ⟨_, hc1 _ (by simp), ?_⟩
          conv => whnf
          refine ⟨_, wu (by omega), ?_⟩
          conv => whnf
          refine ⟨by omega, _, shl_w (m := A) (by omega) (by omega) sh1, ?_⟩
          conv => whnf
          refine ifC_neg (by omega) ?_
          conv => whnf
          repeat (refine ⟨_, wi (by omega), ?_⟩; conv => whnf)
          exact ⟨rfl, rfl, m3 - 1, _, by omega, Weak.refl _, x + 1, rfl, by omega, rfl⟩
        · conv => whnf
          refine ⟨_, _, rfl, by omega, ?_⟩
          conv => whnf
          refine ⟨_, hc1 _ (by simp), ?_⟩
          conv => whnf
          refine ⟨_, _, rfl, by omega, ?_⟩
          conv => whnf
          refine ⟨_, hc2 _ (by simp), ?_⟩
          conv => whnf
          refine ⟨_, wu (by omega), ?_⟩
          conv => whnf
          refine ⟨by omega, _, shl_w (m := B) (by omega) (by omega) sh2, ?_⟩
          conv => whnf
          refine ifC_neg (by omega) ?_
          conv => whnf
          refine ⟨_, _, rfl, by omega, ?_⟩
          conv => whnf
          refine ⟨_, hc2 _ (by simp), ?_⟩
          conv => whnf
          refine ⟨_, _, rfl, by omega, ?_⟩
          conv => whnf
          refine ⟨_, hc1 _ (by simp), ?_⟩
          conv => whnf
          refine ⟨_, wu (by omega), ?_⟩
          conv => whnf
          refine ⟨by omega, _, shl_w (m := A) (by omega) (by omega) sh1, ?_⟩
          conv => whnf
          refine ifC_neg (by omega) ?_
          conv => whnf
          repeat (refine ⟨_, wi (by omega), ?_⟩; conv => whnf)
          exact ⟨rfl, rfl, m3 - 1, _, by omega, Weak.refl _, x + 1, rfl, by omega, rfl⟩
      · obtain ⟨d0, d1⟩ := hid01 hk1 hk12
        rw [hmo] at d0 d1
        conv => whnf
        refine c_Loss mo k d0 d1 (by omega) _ _ ?_
        conv => whnf
        refine ifC_pos (rfl) ?_
        conv => whnf
        refine c_lives25 _ _ fun N => ?_
        conv => whnf
        refine ⟨rfl, ?_⟩
        conv => whnf
        exact fin (Weak.refl _) (hR _)
end Go.Proofs.Ytohdcmkooedkcaa.A
