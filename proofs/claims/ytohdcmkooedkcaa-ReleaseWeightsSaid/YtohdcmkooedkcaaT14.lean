/- ReleaseWeights. -/
import Derived.Test.YtohdcmkooedkcaaT13
import Derived.Test.YtohdcmkooedkcaaT10
import Derived.Test.YtohdcmkooedkcaaKT
namespace Go.Proofs.Ytohdcmkooedkcaa.A
open Go Go.RowKit
set_option linter.unusedVariables false
set_option linter.unusedSimpArgs false
set_option maxRecDepth 20000

theorem wtT_ok (sz : List Int) (rs : List RV) (field cost : Int) (ans : List Int) (hl : ans.length ≤ 1000) : (∀ x ∈ (wtT sz rs field cost ans).1, I64 x) ∧ (wtT sz rs field cost ans).1.length ≤ 1000 := by
  unfold wtT
  split
  · simp
  · rename_i hg
    obtain ⟨_, _, _, c1, c12⟩ := given0 (Classical.not_not.1 hg)
    split
    · simp
    · rename_i ha
      simp only [not_or] at ha
      refine ⟨fun x hx => ?_, by rw [wtUp_len]; exact hl⟩
      obtain ⟨k, hk, rfl⟩ := List.mem_map.1 hx
      rw [List.mem_range] at hk
      have hb : ¬ (geti ans k < 0 ∨ geti ans k > mostF cost) := by
        have := List.any_eq_false.1 (by simpa using ha.2) (geti ans k) (geti_mem (by omega) (by omega))
        unfold badA at this
        simpa using this
      have := wtF_bd (minM_ok (l := fieldL rs field) (v := (k : Int)) c1 c12) (x := geti ans k) (by omega) (by omega)
      unfold wtOf
      omega
structure AL where
  v : Value
  l : List Int
def alc (x : AL) : List Value := [x.v]
def als (l : List AL) : List Value := l.flatMap alc
theorem alAt {H : Hp} {v : Value} {ts : List AL} (hr : Reads H v 1 (als ts)) : ∃ p c, v = .slice p ts.length c ∧ ∀ k (hk : k < ts.length), ∃ g o, p = some ⟨g, o, none⟩ ∧ CellsAt H g (o + k * 1) (alc ts[k]) :=
  flatAt (sz := 1) alc (fun _ => rfl) (by decide) hr
set_option maxHeartbeats 16000000 in
theorem c_ReleaseWeights (v av : Value) (l aw : List Int) (at' how by' field cost : Int) (H : Hp) (hv : IntsAt H v l) (hav : IntsAt H av aw) (ha : I64 at') (hh : I64 how) (hy : I64 by') (hf : I64 field) (hc : I64 cost) (R : Ending → Hp → Prop) (hR : ∀ H', R (.returned (.bool true)) H') :
    ACalls Try.prog 4 [v, .int .i64 at', .int .i64 how, .int .i64 by', .int .i64 field, .int .i64 cost, av] H R := by
  obtain ⟨pv, cv, rfl, _⟩ := hv.open
  obtain ⟨pa, ca, rfl, _⟩ := hav.open
  refine acalls_code hT Try.func4 rfl rfl ?_
  conv => whnf
  refine c_Made _ l _ hv _ fun sv rv sz rs N1 h1 m1 => ?_
  obtain ⟨a1, a2, a3, rfl⟩ := h1.s.slice
  obtain ⟨b1, b2, b3, rfl⟩ := h1.r.slice
  have s1 := m1.sm
  conv => whnf
  intro g15
  conv => whnf
  refine stC 0 rfl rfl (by first | (refine ⟨rfl, ?_⟩; repeat' (first | exact trivial | refine ⟨rfl, ?_⟩)) | simp [oneCells, Value.oneCell', setN]) ?_
  conv => whnf
  obtain ⟨K, hK⟩ : ∃ K, K = .cells g15 25 [.slice a1 a2 a3, .slice b1 b2 b3] :: (N1 ++ H.L) := ⟨_, rfl⟩
  have h1K : TbAt ⟨H.M, K⟩ (.slice a1 a2 a3) (.slice b1 b2 b3) sz rs := h1.mono (hle_sub fun a ha => hK ▸ List.mem_cons_of_mem _ (List.mem_append_left _ ha))
  have hcK : CellsAt ⟨H.M, K⟩ g15 0 [.slice a1 a2 a3, .slice b1 b2 b3] := cellsOwn (e := 25) (hK ▸ List.mem_cons_self)
  have havK : IntsAt ⟨H.M, K⟩ (.slice pa aw.length ca) aw := hav.mono (hle_sub fun a ha => hK ▸ List.mem_cons_of_mem _ (List.mem_append_right _ ha))
  refine awp_draw hT hM 7 (List.range 7) (by kernel_rfl) H.M K [] (by rw [List.append_nil, hK]; exact Weak.refl _) ?_
  conv => whnf
  refine ⟨_, rfl, hcK, ?_⟩
  conv => whnf
  refine ⟨_, rfl, hcK, ?_⟩
  conv => whnf
  refine c_Bent _ _ sz rs at' how by' 10 _ (h1K.mono (hle_sub fun a ha => by simp [ha])) s1 (by omega) ha hh hy _ fun sv2 rv2 sz2 rs2 N2 h2 s2 => ?_
  obtain ⟨c1, c2, c3, rfl⟩ := h2.s.slice
  obtain ⟨d1, d2, d3, rfl⟩ := h2.r.slice
  refine ⟨_, N2, by rw [List.append_nil]; exact Weak.perm List.perm_append_comm, fun _ _ h => h, ?_⟩
  conv => whnf
  intro q
  conv => whnf
  obtain ⟨ts, hts⟩ : ∃ ts : List TV, ts = [⟨.slice a1 a2 a3, .slice b1 b2 b3, sz, rs⟩, ⟨.slice c1 c2 c3, .slice d1 d2 d3, sz2, rs2⟩] := ⟨_, rfl⟩
  have hlt : ts.length = 2 := by rw [hts]; rfl
  obtain ⟨K4, hK4⟩ : ∃ K4, K4 = .row (.slice (some ⟨q, 0, none⟩) 2 2) 25 2 (tbs ts) :: (N2 ++ K) := ⟨_, rfl⟩
  have hKs : ∀ a ∈ K, a ∈ K4 := fun a ha => hK4 ▸ List.mem_cons_of_mem _ (List.mem_append_right _ ha)
  have hin : TbsIn H.M K4 ts := by
    intro x hx
    rw [hts] at hx
    simp only [List.mem_cons, List.not_mem_nil, or_false] at hx
    rcases hx with rfl | rfl
    · exact ⟨h1K.mono (hle_sub hKs), m1.ok⟩
    · exact ⟨h2.mono (hle_sub fun a ha => hK4 ▸ List.mem_cons_of_mem _ (List.mem_append_left _ ha)), s2.ok (by omega)⟩
  have havK := havK.mono (hle_sub (M := H.M) hKs)
  have hrd : Reads ⟨H.M, K4⟩ (.slice (some ⟨q, 0, none⟩) 2 2) 2 (tbs ts) := readsRow (e := 25) (hK4 ▸ List.mem_cons_self) (rowNew (by rw [hts]; rfl) (by omega))
  obtain ⟨_, _, e, hct⟩ := tbAt hrd
  injection e with e1 e2 e3
  subst e1
  refine ⟨⟨H.M, K4⟩, by rw [hK4, hts]; exact Weak.perm (List.perm_middle.trans (List.Perm.cons _ List.perm_append_comm)), ?_⟩
  clear hv hav hK4 hcK h1K h2 h1 s1 s2 hK hrd hKs
  conv => whnf
  refine awp_loopL hT 176 [4, 5, 6, 16, 17] (fun m vs H' => ∃ (i : Nat), vs = [.int .i64 field, .int .i64 cost, .slice pa aw.length ca, .slice (some ⟨q, 0, none⟩) 2 2, .int .i64 i] ∧ m + i = 2 ∧
    H' = ⟨H.M, K4⟩) 2 rfl rfl (Weak.refl _) ⟨0, rfl, rfl, rfl⟩ ?_
  rintro m u vs H' ⟨i, rfl, hm, rfl⟩
  conv => whnf
  refine ifC_dec (fun hi => ?_) (fun hi => ?_)
  · have hil : i < ts.length := by omega
    obtain ⟨g', o', e', hce⟩ := hct i hil
    cases e'
    obtain ⟨hx, hok⟩ := hin _ (List.getElem_mem hil)
    generalize ts[i] = x at *
    obtain ⟨xs, xr, xsz, xrs⟩ := x
    simp only at hx hok
    obtain ⟨x1, x3, rfl, hcz⟩ := intsAt hx.s
    obtain ⟨y1, y2, y3, rfl⟩ := hx.r.slice
    have hce : ∀ L, (∀ a ∈ K4, a ∈ L) → CellsAt ⟨H.M, L⟩ q (0 + i * 2) [.slice x1 xsz.length x3, .slice y1 y2 y3] := fun L hL => hce.mono (hle_sub hL)
    have hszl := hok.sl
    replace hszl : xsz.length ≤ 1000 := hszl
    conv => whnf
    refine ⟨_, _, rfl, by omega, ?_⟩
    conv => whnf
    refine ⟨_, (hce _ (fun a ha => ha)) 0 _ rfl, ?_⟩
    conv => whnf
    have hbF := around_bd field (xsz.length + 2) (by omega)
    conv => whnf
    repeat (refine ⟨_, wi (by omega), ?_⟩; conv => whnf)
    refine c_Around field (xsz.length + 2) hf (by omega) _ _ ?_
    generalize around field (xsz.length + 2) = fa at *
    conv => whnf
    repeat (refine ⟨_, wi (by omega), ?_⟩; conv => whnf)
    intro q1
    conv => whnf
    have hb12 := around_bd cost 12 (by omega)
    refine c_Around cost 12 hc (by omega) _ _ ?_
    generalize around cost 12 = ca12 at *
    conv => whnf
    repeat (refine ⟨_, wi (by omega), ?_⟩; conv => whnf)
    intro q2
    conv => whnf
    obtain ⟨K6, hK6⟩ : ∃ K6, K6 = .row (.slice (some ⟨q2, 0, none⟩) 2 2) 3 1 (ints [1 + ca12, cost]) :: .row (.slice (some ⟨q1, 0, none⟩) 2 2) 3 1 (ints [fa - 1, field]) :: K4 := ⟨_, rfl⟩
    have hsub6 : ∀ a ∈ K4, a ∈ K6 := fun a ha => hK6 ▸ List.mem_cons_of_mem _ (List.mem_cons_of_mem _ ha)
    have hfs : IntsAt ⟨H.M, K6⟩ (.slice (some ⟨q1, 0, none⟩) 2 2) [fa - 1, field] := intsRow (i := 1) (by rw [hK6]; rfl) (rowNew rfl (by omega)) (by simp; omega) (by simp)
    have hcs : IntsAt ⟨H.M, K6⟩ (.slice (some ⟨q2, 0, none⟩) 2 2) [1 + ca12, cost] := intsRow (i := 0) (by rw [hK6]; rfl) (rowNew rfl (by omega)) (by simp; omega) (by simp)
    obtain ⟨_, _, e, hcf⟩ := intsAt hfs.reads
    cases e
    obtain ⟨_, _, e, hcc⟩ := intsAt hcs.reads
    cases e
    refine awp_loopL hT 176 [4, 5, 6, 16, 17, 18, 19, 20, 21] (fun m vs H' => ∃ (j : Nat), vs = [.int .i64 field, .int .i64 cost, .slice pa aw.length ca, .slice (some ⟨q, 0, none⟩) 2 2, .int .i64 i, .int .i64 xsz.length, .slice (some ⟨q1, 0, none⟩) 2 2, .slice (some ⟨q2, 0, none⟩) 2 2, .int .i64 j] ∧ m + j = 2 ∧
      H' = ⟨H.M, K6⟩) 2 rfl rfl (by rw [hK6]; exact Weak.refl _) ⟨0, rfl, rfl, rfl⟩ ?_
    rintro m2 u2 vs H' ⟨j, rfl, hm2, rfl⟩
    conv => whnf
    refine ifC_dec (fun hj => ?_) (fun hj => ?_)
    · obtain ⟨_, _, e', hcfj⟩ := hcf j (by omega) (by simp; omega)
      cases e'
      obtain ⟨_, _, e', hccj⟩ := hcc j (by omega) (by simp; omega)
      cases e'
      obtain ⟨_, _, e', hcc0⟩ := hcc 0 (by omega) (by simp)
      cases e'
      replace hcc0 : Hp.cell ⟨H.M, K6⟩ q2 0 (.int .i64 (1 + ca12)) := hcc0
      have hfj : I64 (geti [fa - 1, field] j) := hfs.fit _ (geti_mem (by omega) (by simp; omega))
      have hcj : I64 (geti [1 + ca12, cost] j) := hcs.fit _ (geti_mem (by omega) (by simp; omega))
      generalize geti [fa - 1, field] j = fj at *
      generalize geti [1 + ca12, cost] j = cj at *
      conv => whnf
      refine ⟨_, _, rfl, by omega, ?_⟩
      conv => whnf
      refine ⟨_, hcfj, ?_⟩
      conv => whnf
      refine ifC_dec (fun f0 => ?_) (fun f0 => ?_)
      · conv => whnf
        refine ⟨_, _, rfl, by omega, ?_⟩
        conv => whnf
        refine ⟨_, hcfj, ?_⟩
        conv => whnf
        refine ifC_dec (fun f1 => ?_) (fun f1 => ?_)
        · conv => whnf
          refine awp_drawQ hT hM 13 (by kernel_rfl) ?_
          conv => whnf
          obtain ⟨gz, oz, e', hczj⟩ := hcz fj (by omega) (by omega)
          subst e'
          refine ⟨_, _, rfl, by omega, ?_⟩
          conv => whnf
          refine ⟨_, (hce _ hsub6) 0 _ rfl, ?_⟩
          conv => whnf
          refine ⟨_, _, rfl, by omega, ?_⟩
          conv => whnf
          refine ⟨_, hcfj, ?_⟩
          conv => whnf
          refine ⟨_, _, rfl, by omega, ?_⟩
          conv => whnf
          refine ⟨_, HLe.cell (hle_sub hsub6) hczj, ?_⟩
          conv => whnf
          generalize hN : (if (if 14 < geti xsz fj then 14 else geti xsz fj) > 0 then (if 14 < geti xsz fj then 14 else geti xsz fj) else 0) = zz at *
          have hz14 : 0 ≤ zz ∧ zz ≤ 14 := by
            rw [← hN]
            split <;> split at * <;> omega
          obtain ⟨nn, rfl⟩ : ∃ nn : Nat, zz = nn := ⟨zz.toNat, by omega⟩
          conv => whnf
          refine ⟨_, _, rfl, by omega, ?_⟩
          conv => whnf
          refine ⟨_, hcc0, ?_⟩
          conv => whnf
          refine c_Most (1 + ca12) (by omega) _ _ ?_
          obtain ⟨hm2b, hm37, _⟩ := mostF_bd (cost := 1 + ca12) (by omega) (by omega)
          generalize mostF (1 + ca12) = mo at *
          conv => whnf
          refine awp_loopL hT 176 [4, 5, 6, 16, 17, 18, 19, 20, 21, 22, 23, 24, 25] (fun m vs H' => ∃ (k : Nat) (s : Value) (az : List Int), vs = [.int .i64 field, .int .i64 cost, .slice pa aw.length ca, .slice (some ⟨q, 0, none⟩) 2 2, .int .i64 i, .int .i64 xsz.length, .slice (some ⟨q1, 0, none⟩) 2 2, .slice (some ⟨q2, 0, none⟩) 2 2, .int .i64 j, .int .i64 (nn : Nat), .int .i64 mo, s, .int .i64 k] ∧ m + k = nn ∧ az.length = k ∧ (∀ x ∈ az, I64 x) ∧ RowVal s 1 (ints az) ∧
            H' = ⟨H.M, .row s 3 1 (ints az) :: K6⟩) nn rfl rfl (weakNil _ 3 1) ⟨0, .slice none 0 0, [], rfl, by omega, rfl, by simp, .inl ⟨rfl, rfl⟩, rfl⟩ ?_
          rintro m3 u3 vs H' ⟨k, s, az, rfl, hm3, hasl, hasI, hs, rfl⟩
          obtain ⟨z1, z3, rfl⟩ := hs.cnt (by omega) (by rw [ints_length, Nat.mul_one])
          conv => whnf
          refine ifC_dec (fun hk => ?_) (fun hk => ?_)
          · have hab := atv_bd aw k (mo + 1) (by omega)
            conv => whnf
            repeat (refine ⟨_, wi (by omega), ?_⟩; conv => whnf)
            refine c_At _ aw k (mo + 1) (by omega) _ (havK.mono (hle_sub fun a ha => List.mem_cons_of_mem _ (hsub6 a ha))) _ ?_
            generalize atv aw k (mo + 1) = y at *
            conv => whnf
            intro q3
            conv => whnf
            refine ⟨H.M, _, ints az, ints [y], readsNew rfl rfl, ints_one _, weakDel 0 rfl, by rw [ints_length, ints_length]; simp; omega, by rw [ints_length, ints_length]; simp [maxLen]; omega, fun v' hv' => ?_⟩
            rw [← ints_append] at hv' ⊢
            conv => whnf
            repeat (refine ⟨_, wi (by omega), ?_⟩; conv => whnf)
            exact ⟨rfl, rfl, m3 - 1, _, by omega, Weak.refl _, k + 1, _, az ++ [y], rfl, by omega, by simp [hasl], fun x hx => (List.mem_append.1 hx).elim (hasI x) fun hx => by rw [List.mem_singleton.1 hx]; omega, hv', rfl⟩
          · conv => whnf
            intro q4
            conv => whnf
            refine ⟨H.M, _, [], ints az, readsRow (e := 3) (List.mem_cons_of_mem _ List.mem_cons_self) hs, ints_one _, Weak.refl _, by rw [ints_length]; simp; omega, by rw [ints_length]; simp [maxLen]; omega, fun s5 hs5 => ?_⟩
            rw [List.nil_append] at hs5 ⊢
            obtain ⟨y1', y3', rfl⟩ := hs5.cnt (k := az.length) (by omega) (by rw [ints_length, Nat.mul_one])
            conv => whnf
            intro q5
            conv => whnf
            refine ⟨H.M, _, ints az, ints [0], readsNew rfl rfl, ints_one _, weakDel 0 rfl, by rw [ints_length, ints_length]; simp; omega, by rw [ints_length, ints_length]; simp [maxLen]; omega, fun s6 hs6 => ?_⟩
            rw [← ints_append] at hs6 ⊢
            obtain ⟨w1', w2', w3', rfl⟩ := hs6.slice
            conv => whnf
            refine c_Take _ aw 14 _ (havK.mono (hle_sub fun a ha => List.mem_cons_of_mem _ (List.mem_cons_of_mem _ (hsub6 a ha)))) (by omega) _ fun s7 hs7 => ?_
            obtain ⟨t1', t2', t3', rfl⟩ := hs7.slice
            conv => whnf
            intro q6
            conv => whnf
            obtain ⟨al, hal⟩ : ∃ al : List AL, al = [⟨.slice z1 az.length z3, az⟩, ⟨.slice w1' w2' w3', az ++ [0]⟩, ⟨.slice t1' t2' t3', aw.take 14⟩] := ⟨_, rfl⟩
            have hall : al.length = 3 := by rw [hal]; rfl
            obtain ⟨K7, hK7⟩ : ∃ K7, K7 = .row (.slice (some ⟨q6, 0, none⟩) 3 3) 22 1 (als al) :: .row (.slice t1' t2' t3') 3 1 (ints (aw.take 14)) :: .row (.slice w1' w2' w3') 3 1 (ints (az ++ [0])) :: .row (.slice z1 az.length z3) 3 1 (ints az) :: K6 := ⟨_, rfl⟩
            have hsub7 : ∀ a ∈ K4, a ∈ K7 := fun a ha => by rw [hK7]; simp [hsub6 a ha]
            have hsub67 : ∀ a ∈ K6, a ∈ K7 := fun a ha => by rw [hK7]; simp [ha]
            have hali : ∀ x ∈ al, IntsAt ⟨H.M, K7⟩ x.v x.l ∧ x.l.length ≤ 1000 := by
              intro x hx
              rw [hal] at hx
              simp only [List.mem_cons, List.not_mem_nil, or_false] at hx
              rcases hx with rfl | rfl | rfl
              · exact ⟨⟨readsRow (e := 3) (by rw [hK7]; simp) hs, hasI, by simp only; omega⟩, by simp only; omega⟩
              · exact ⟨⟨readsRow (e := 3) (by rw [hK7]; simp) hs6, fun x hx => (List.mem_append.1 hx).elim (hasI x) fun hx => by rw [List.mem_singleton.1 hx]; omega, by simp; omega⟩, by simp; omega⟩
              · exact ⟨⟨readsRow (e := 3) (by rw [hK7]; simp) hs7, fun x hx => havK.fit x (List.mem_of_mem_take hx), by have := List.length_take_le 14 aw; show ((aw.take 14).length : Int) ≤ _; omega⟩, by have := List.length_take_le 14 aw; show (aw.take 14).length ≤ 1000; omega⟩
            have hrd7 : Reads ⟨H.M, K7⟩ (.slice (some ⟨q6, 0, none⟩) 3 3) 1 (als al) := readsRow (e := 22) (by rw [hK7]; exact List.mem_cons_self) (rowNew (by rw [hal]; rfl) (by omega))
            obtain ⟨_, _, e, hct7⟩ := alAt hrd7
            injection e with e1 e2 e3
            subst e1
            refine awp_loopL hT 176 [4, 5, 6, 16, 17, 18, 19, 20, 21, 26, 27] (fun m vs H' => ∃ (n : Nat), vs = [.int .i64 field, .int .i64 cost, .slice pa aw.length ca, .slice (some ⟨q, 0, none⟩) 2 2, .int .i64 i, .int .i64 xsz.length, .slice (some ⟨q1, 0, none⟩) 2 2, .slice (some ⟨q2, 0, none⟩) 2 2, .int .i64 j, .slice (some ⟨q6, 0, none⟩) 3 3, .int .i64 n] ∧ m + n = 3 ∧
              H' = ⟨H.M, K7⟩) 3 rfl rfl (by rw [hK7, hal]; exact Weak.refl _) ⟨0, rfl, rfl, rfl⟩ ?_
            rintro m4 u4 vs H' ⟨n, rfl, hm4, rfl⟩
            conv => whnf
            refine ifC_dec (fun hn => ?_) (fun hn => ?_)
            · obtain ⟨_, _, e', hc7⟩ := hct7 n (by omega)
              cases e'
              obtain ⟨hxi, hxl⟩ := hali _ (List.getElem_mem (show n < al.length by omega))
              generalize al[n] = y at *
              obtain ⟨yv, yl⟩ := y
              simp only at hxi hxl
              obtain ⟨p9, c9, rfl, _⟩ := hxi.open
              obtain ⟨hwI, hwL⟩ := wtT_ok xsz xrs fj cj yl hxl
              have hc7 : ∀ L, (∀ a ∈ K7, a ∈ L) → CellsAt ⟨H.M, L⟩ q6 (0 + n * 1) [.slice p9 yl.length c9] := fun L hL => hc7.mono (hle_sub hL)
              conv => whnf
              refine awp_draw hT hM 22 (List.range 22) (by kernel_rfl) H.M K7 [] (by rw [List.append_nil]; exact Weak.refl _) ?_
              conv => whnf
              refine ⟨_, _, rfl, by omega, ?_⟩
              conv => whnf
              refine ⟨_, rfl, hce _ hsub7, ?_⟩
              conv => whnf
              refine c_own _ _ xsz xrs _ (hx.mono (hle_sub fun a ha => by simp [hsub7 a ha])) hok _ fun ov hov => ?_
              obtain ⟨o1, o2, o3, rfl⟩ := hov.slice
              refine ⟨_, [_], weakMid, fun _ _ h => h, ?_⟩
              conv => whnf
              refine ⟨_, _, rfl, by omega, ?_⟩
              conv => whnf
              refine ⟨_, HLe.cell (hle_sub hsub67) hcfj, ?_⟩
              conv => whnf
              refine ⟨_, _, rfl, by omega, ?_⟩
              conv => whnf
              refine ⟨_, HLe.cell (hle_sub hsub67) hccj, ?_⟩
              conv => whnf
              refine ⟨_, _, rfl, by omega, ?_⟩
              conv => whnf
              refine ⟨_, (hc7 _ (fun a ha => ha)) 0 _ rfl, ?_⟩
              conv => whnf
              refine c_Weight _ _ _ xsz xrs fj cj yl _ ⟨(hx.mono (hle_sub fun a ha => by simp [hsub7 a ha])).s, readsRow (e := 55) (by simp) hov, (hx.mono (hle_sub fun a ha => by simp [hsub7 a ha])).v⟩ hok (hxi.mono (hle_sub fun a ha => by simp [ha])) hxl _ fun wv hwv => ?_
              generalize hW : wtT xsz xrs fj cj yl = W at *
              refine ⟨_, [_, _], weakMid, fun _ _ h => h, ?_⟩
              conv => whnf
              refine ⟨⟨H.M, .row wv 3 1 (ints W.1) :: K7⟩, (Weak.perm List.perm_append_comm).trans (weakDel 1 rfl), ?_⟩
              conv => whnf
              refine awp_draw hT hM 21 (List.range 21) (by kernel_rfl) H.M (.row wv 3 1 (ints W.1) :: K7) [] (by rw [List.append_nil]; exact Weak.refl _) ?_
              conv => whnf
              refine ⟨_, _, rfl, by omega, ?_⟩
              conv => whnf
              refine ⟨_, rfl, hce _ (fun a ha => List.mem_cons_of_mem _ (hsub7 a ha)), ?_⟩
              conv => whnf
              refine ⟨_, _, rfl, by omega, ?_⟩
              conv => whnf
              refine ⟨_, HLe.cell (hle_sub fun a ha => List.mem_cons_of_mem _ (hsub67 a ha)) hcfj, ?_⟩
              conv => whnf
              refine ⟨_, _, rfl, by omega, ?_⟩
              conv => whnf
              refine ⟨_, HLe.cell (hle_sub fun a ha => List.mem_cons_of_mem _ (hsub67 a ha)) hccj, ?_⟩
              conv => whnf
              refine ⟨_, _, rfl, by omega, ?_⟩
              conv => whnf
              refine ⟨_, (hc7 _ (fun a ha => List.mem_cons_of_mem _ ha)) 0 _ rfl, ?_⟩
              conv => whnf
              refine c_WeightR _ _ _ xsz xrs fj cj yl _ (hx.mono (hle_sub fun a ha => by simp [hsub7 a ha])) hok (hxi.mono (hle_sub fun a ha => by simp [ha])) hxl _ fun wv2 hwv2 => ?_
              rw [hW] at hwv2 ⊢
              refine ⟨_, [_], weakMid, fun _ _ h => h, ?_⟩
              conv => whnf
              refine ⟨⟨H.M, .row wv2 3 1 (ints W.1) :: .row wv 3 1 (ints W.1) :: K7⟩, Weak.perm List.perm_append_comm, ?_⟩
              conv => whnf
              refine ifC_dec (fun c => absurd c (by simp)) (fun c => ?_)
              conv => whnf
              refine c_SameInts wv wv2 W.1 W.1 _ ⟨readsRow (e := 3) (by simp) hwv, hwI, by omega⟩ ⟨readsRow (e := 3) (by simp) hwv2, hwI, by omega⟩ _ ?_
              rw [decide_eq_true rfl]
              conv => whnf
              repeat (refine ⟨_, wi (by omega), ?_⟩; conv => whnf)
              exact ⟨rfl, rfl, m4 - 1, ⟨H.M, K7⟩, by omega, weakK 2 rfl, n + 1, rfl, by omega, rfl⟩
            · conv => whnf
              repeat (refine ⟨_, wi (by omega), ?_⟩; conv => whnf)
              exact ⟨rfl, rfl, m2 - 1, ⟨H.M, K6⟩, by omega, by rw [hK7]; exact weakK 4 rfl, j + 1, rfl, by omega, rfl⟩
        · conv => whnf
          refine ⟨_, _, rfl, by omega, ?_⟩
          conv => whnf
          refine ⟨_, hcc0, ?_⟩
          conv => whnf
          refine c_Most (1 + ca12) (by omega) _ _ ?_
          obtain ⟨hm2b, hm37, _⟩ := mostF_bd (cost := 1 + ca12) (by omega) (by omega)
          generalize mostF (1 + ca12) = mo at *
          conv => whnf
          refine awp_loopL hT 176 [4, 5, 6, 16, 17, 18, 19, 20, 21, 22, 23, 24, 25] (fun m vs H' => ∃ (k : Nat) (s : Value) (az : List Int), vs = [.int .i64 field, .int .i64 cost, .slice pa aw.length ca, .slice (some ⟨q, 0, none⟩) 2 2, .int .i64 i, .int .i64 xsz.length, .slice (some ⟨q1, 0, none⟩) 2 2, .slice (some ⟨q2, 0, none⟩) 2 2, .int .i64 j, .int .i64 (3 : Nat), .int .i64 mo, s, .int .i64 k] ∧ m + k = 3 ∧ az.length = k ∧ (∀ x ∈ az, I64 x) ∧ RowVal s 1 (ints az) ∧
            H' = ⟨H.M, .row s 3 1 (ints az) :: K6⟩) 3 rfl rfl (weakNil _ 3 1) ⟨0, .slice none 0 0, [], rfl, by omega, rfl, by simp, .inl ⟨rfl, rfl⟩, rfl⟩ ?_
          rintro m3 u3 vs H' ⟨k, s, az, rfl, hm3, hasl, hasI, hs, rfl⟩
          obtain ⟨z1, z3, rfl⟩ := hs.cnt (by omega) (by rw [ints_length, Nat.mul_one])
          conv => whnf
          refine ifC_dec (fun hk => ?_) (fun hk => ?_)
          · have hab := atv_bd aw k (mo + 1) (by omega)
            conv => whnf
            repeat (refine ⟨_, wi (by omega), ?_⟩; conv => whnf)
            refine c_At _ aw k (mo + 1) (by omega) _ (havK.mono (hle_sub fun a ha => List.mem_cons_of_mem _ (hsub6 a ha))) _ ?_
            generalize atv aw k (mo + 1) = y at *
            conv => whnf
            intro q3
            conv => whnf
            refine ⟨H.M, _, ints az, ints [y], readsNew rfl rfl, ints_one _, weakDel 0 rfl, by rw [ints_length, ints_length]; simp; omega, by rw [ints_length, ints_length]; simp [maxLen]; omega, fun v' hv' => ?_⟩
            rw [← ints_append] at hv' ⊢
            conv => whnf
            repeat (refine ⟨_, wi (by omega), ?_⟩; conv => whnf)
            exact ⟨rfl, rfl, m3 - 1, _, by omega, Weak.refl _, k + 1, _, az ++ [y], rfl, by omega, by simp [hasl], fun x hx => (List.mem_append.1 hx).elim (hasI x) fun hx => by rw [List.mem_singleton.1 hx]; omega, hv', rfl⟩
          · conv => whnf
            intro q4
            conv => whnf
            refine ⟨H.M, _, [], ints az, readsRow (e := 3) (List.mem_cons_of_mem _ List.mem_cons_self) hs, ints_one _, Weak.refl _, by rw [ints_length]; simp; omega, by rw [ints_length]; simp [maxLen]; omega, fun s5 hs5 => ?_⟩
            rw [List.nil_append] at hs5 ⊢
            obtain ⟨y1', y3', rfl⟩ := hs5.cnt (k := az.length) (by omega) (by rw [ints_length, Nat.mul_one])
            conv => whnf
            intro q5
            conv => whnf
            refine ⟨H.M, _, ints az, ints [0], readsNew rfl rfl, ints_one _, weakDel 0 rfl, by rw [ints_length, ints_length]; simp; omega, by rw [ints_length, ints_length]; simp [maxLen]; omega, fun s6 hs6 => ?_⟩
            rw [← ints_append] at hs6 ⊢
            obtain ⟨w1', w2', w3', rfl⟩ := hs6.slice
            conv => whnf
            refine c_Take _ aw 14 _ (havK.mono (hle_sub fun a ha => List.mem_cons_of_mem _ (List.mem_cons_of_mem _ (hsub6 a ha)))) (by omega) _ fun s7 hs7 => ?_
            obtain ⟨t1', t2', t3', rfl⟩ := hs7.slice
            conv => whnf
            intro q6
            conv => whnf
            obtain ⟨al, hal⟩ : ∃ al : List AL, al = [⟨.slice z1 az.length z3, az⟩, ⟨.slice w1' w2' w3', az ++ [0]⟩, ⟨.slice t1' t2' t3', aw.take 14⟩] := ⟨_, rfl⟩
            have hall : al.length = 3 := by rw [hal]; rfl
            obtain ⟨K7, hK7⟩ : ∃ K7, K7 = .row (.slice (some ⟨q6, 0, none⟩) 3 3) 22 1 (als al) :: .row (.slice t1' t2' t3') 3 1 (ints (aw.take 14)) :: .row (.slice w1' w2' w3') 3 1 (ints (az ++ [0])) :: .row (.slice z1 az.length z3) 3 1 (ints az) :: K6 := ⟨_, rfl⟩
            have hsub7 : ∀ a ∈ K4, a ∈ K7 := fun a ha => by rw [hK7]; simp [hsub6 a ha]
            have hsub67 : ∀ a ∈ K6, a ∈ K7 := fun a ha => by rw [hK7]; simp [ha]
            have hali : ∀ x ∈ al, IntsAt ⟨H.M, K7⟩ x.v x.l ∧ x.l.length ≤ 1000 := by
              intro x hx
              rw [hal] at hx
              simp only [List.mem_cons, List.not_mem_nil, or_false] at hx
              rcases hx with rfl | rfl | rfl
              · exact ⟨⟨readsRow (e := 3) (by rw [hK7]; simp) hs, hasI, by simp only; omega⟩, by simp only; omega⟩
              · exact ⟨⟨readsRow (e := 3) (by rw [hK7]; simp) hs6, fun x hx => (List.mem_append.1 hx).elim (hasI x) fun hx => by rw [List.mem_singleton.1 hx]; omega, by simp; omega⟩, by simp; omega⟩
              · exact ⟨⟨readsRow (e := 3) (by rw [hK7]; simp) hs7, fun x hx => havK.fit x (List.mem_of_mem_take hx), by have := List.length_take_le 14 aw; show ((aw.take 14).length : Int) ≤ _; omega⟩, by have := List.length_take_le 14 aw; show (aw.take 14).length ≤ 1000; omega⟩
            have hrd7 : Reads ⟨H.M, K7⟩ (.slice (some ⟨q6, 0, none⟩) 3 3) 1 (als al) := readsRow (e := 22) (by rw [hK7]; exact List.mem_cons_self) (rowNew (by rw [hal]; rfl) (by omega))
            obtain ⟨_, _, e, hct7⟩ := alAt hrd7
            injection e with e1 e2 e3
            subst e1
            refine awp_loopL hT 176 [4, 5, 6, 16, 17, 18, 19, 20, 21, 26, 27] (fun m vs H' => ∃ (n : Nat), vs = [.int .i64 field, .int .i64 cost, .slice pa aw.length ca, .slice (some ⟨q, 0, none⟩) 2 2, .int .i64 i, .int .i64 xsz.length, .slice (some ⟨q1, 0, none⟩) 2 2, .slice (some ⟨q2, 0, none⟩) 2 2, .int .i64 j, .slice (some ⟨q6, 0, none⟩) 3 3, .int .i64 n] ∧ m + n = 3 ∧
              H' = ⟨H.M, K7⟩) 3 rfl rfl (by rw [hK7, hal]; exact Weak.refl _) ⟨0, rfl, rfl, rfl⟩ ?_
            rintro m4 u4 vs H' ⟨n, rfl, hm4, rfl⟩
            conv => whnf
            refine ifC_dec (fun hn => ?_) (fun hn => ?_)
            · obtain ⟨_, _, e', hc7⟩ := hct7 n (by omega)
              cases e'
              obtain ⟨hxi, hxl⟩ := hali _ (List.getElem_mem (show n < al.length by omega))
              generalize al[n] = y at *
              obtain ⟨yv, yl⟩ := y
              simp only at hxi hxl
              obtain ⟨p9, c9, rfl, _⟩ := hxi.open
              obtain ⟨hwI, hwL⟩ := wtT_ok xsz xrs fj cj yl hxl
              have hc7 : ∀ L, (∀ a ∈ K7, a ∈ L) → CellsAt ⟨H.M, L⟩ q6 (0 + n * 1) [.slice p9 yl.length c9] := fun L hL => hc7.mono (hle_sub hL)
              conv => whnf
              refine awp_draw hT hM 22 (List.range 22) (by kernel_rfl) H.M K7 [] (by rw [List.append_nil]; exact Weak.refl _) ?_
              conv => whnf
              refine ⟨_, _, rfl, by omega, ?_⟩
              conv => whnf
              refine ⟨_, rfl, hce _ hsub7, ?_⟩
              conv => whnf
              refine c_own _ _ xsz xrs _ (hx.mono (hle_sub fun a ha => by simp [hsub7 a ha])) hok _ fun ov hov => ?_
              obtain ⟨o1, o2, o3, rfl⟩ := hov.slice
              refine ⟨_, [_], weakMid, fun _ _ h => h, ?_⟩
              conv => whnf
              refine ⟨_, _, rfl, by omega, ?_⟩
              conv => whnf
              refine ⟨_, HLe.cell (hle_sub hsub67) hcfj, ?_⟩
              conv => whnf
              refine ⟨_, _, rfl, by omega, ?_⟩
              conv => whnf
              refine ⟨_, HLe.cell (hle_sub hsub67) hccj, ?_⟩
              conv => whnf
              refine ⟨_, _, rfl, by omega, ?_⟩
              conv => whnf
              refine ⟨_, (hc7 _ (fun a ha => ha)) 0 _ rfl, ?_⟩
              conv => whnf
              refine c_Weight _ _ _ xsz xrs fj cj yl _ ⟨(hx.mono (hle_sub fun a ha => by simp [hsub7 a ha])).s, readsRow (e := 55) (by simp) hov, (hx.mono (hle_sub fun a ha => by simp [hsub7 a ha])).v⟩ hok (hxi.mono (hle_sub fun a ha => by simp [ha])) hxl _ fun wv hwv => ?_
              generalize hW : wtT xsz xrs fj cj yl = W at *
              refine ⟨_, [_, _], weakMid, fun _ _ h => h, ?_⟩
              conv => whnf
              refine ⟨⟨H.M, .row wv 3 1 (ints W.1) :: K7⟩, (Weak.perm List.perm_append_comm).trans (weakDel 1 rfl), ?_⟩
              conv => whnf
              refine awp_draw hT hM 21 (List.range 21) (by kernel_rfl) H.M (.row wv 3 1 (ints W.1) :: K7) [] (by rw [List.append_nil]; exact Weak.refl _) ?_
              conv => whnf
              refine ⟨_, _, rfl, by omega, ?_⟩
              conv => whnf
              refine ⟨_, rfl, hce _ (fun a ha => List.mem_cons_of_mem _ (hsub7 a ha)), ?_⟩
              conv => whnf
              refine ⟨_, _, rfl, by omega, ?_⟩
              conv => whnf
              refine ⟨_, HLe.cell (hle_sub fun a ha => List.mem_cons_of_mem _ (hsub67 a ha)) hcfj, ?_⟩
              conv => whnf
              refine ⟨_, _, rfl, by omega, ?_⟩
              conv => whnf
              refine ⟨_, HLe.cell (hle_sub fun a ha => List.mem_cons_of_mem _ (hsub67 a ha)) hccj, ?_⟩
              conv => whnf
              refine ⟨_, _, rfl, by omega, ?_⟩
              conv => whnf
              refine ⟨_, (hc7 _ (fun a ha => List.mem_cons_of_mem _ ha)) 0 _ rfl, ?_⟩
              conv => whnf
              refine c_WeightR _ _ _ xsz xrs fj cj yl _ (hx.mono (hle_sub fun a ha => by simp [hsub7 a ha])) hok (hxi.mono (hle_sub fun a ha => by simp [ha])) hxl _ fun wv2 hwv2 => ?_
              rw [hW] at hwv2 ⊢
              refine ⟨_, [_], weakMid, fun _ _ h => h, ?_⟩
              conv => whnf
              refine ⟨⟨H.M, .row wv2 3 1 (ints W.1) :: .row wv 3 1 (ints W.1) :: K7⟩, Weak.perm List.perm_append_comm, ?_⟩
              conv => whnf
              refine ifC_dec (fun c => absurd c (by simp)) (fun c => ?_)
              conv => whnf
              refine c_SameInts wv wv2 W.1 W.1 _ ⟨readsRow (e := 3) (by simp) hwv, hwI, by omega⟩ ⟨readsRow (e := 3) (by simp) hwv2, hwI, by omega⟩ _ ?_
              rw [decide_eq_true rfl]
              conv => whnf
              repeat (refine ⟨_, wi (by omega), ?_⟩; conv => whnf)
              exact ⟨rfl, rfl, m4 - 1, ⟨H.M, K7⟩, by omega, weakK 2 rfl, n + 1, rfl, by omega, rfl⟩
            · conv => whnf
              repeat (refine ⟨_, wi (by omega), ?_⟩; conv => whnf)
              exact ⟨rfl, rfl, m2 - 1, ⟨H.M, K6⟩, by omega, by rw [hK7]; exact weakK 4 rfl, j + 1, rfl, by omega, rfl⟩
      · conv => whnf
        refine ⟨_, _, rfl, by omega, ?_⟩
        conv => whnf
        refine ⟨_, hcc0, ?_⟩
        conv => whnf
        refine c_Most (1 + ca12) (by omega) _ _ ?_
        obtain ⟨hm2b, hm37, _⟩ := mostF_bd (cost := 1 + ca12) (by omega) (by omega)
        generalize mostF (1 + ca12) = mo at *
        conv => whnf
        refine awp_loopL hT 176 [4, 5, 6, 16, 17, 18, 19, 20, 21, 22, 23, 24, 25] (fun m vs H' => ∃ (k : Nat) (s : Value) (az : List Int), vs = [.int .i64 field, .int .i64 cost, .slice pa aw.length ca, .slice (some ⟨q, 0, none⟩) 2 2, .int .i64 i, .int .i64 xsz.length, .slice (some ⟨q1, 0, none⟩) 2 2, .slice (some ⟨q2, 0, none⟩) 2 2, .int .i64 j, .int .i64 (3 : Nat), .int .i64 mo, s, .int .i64 k] ∧ m + k = 3 ∧ az.length = k ∧ (∀ x ∈ az, I64 x) ∧ RowVal s 1 (ints az) ∧
          H' = ⟨H.M, .row s 3 1 (ints az) :: K6⟩) 3 rfl rfl (weakNil _ 3 1) ⟨0, .slice none 0 0, [], rfl, by omega, rfl, by simp, .inl ⟨rfl, rfl⟩, rfl⟩ ?_
        rintro m3 u3 vs H' ⟨k, s, az, rfl, hm3, hasl, hasI, hs, rfl⟩
        obtain ⟨z1, z3, rfl⟩ := hs.cnt (by omega) (by rw [ints_length, Nat.mul_one])
        conv => whnf
        refine ifC_dec (fun hk => ?_) (fun hk => ?_)
        · have hab := atv_bd aw k (mo + 1) (by omega)
          conv => whnf
          repeat (refine ⟨_, wi (by omega), ?_⟩; conv => whnf)
          refine c_At _ aw k (mo + 1) (by omega) _ (havK.mono (hle_sub fun a ha => List.mem_cons_of_mem _ (hsub6 a ha))) _ ?_
          generalize atv aw k (mo + 1) = y at *
          conv => whnf
          intro q3
          conv => whnf
          refine ⟨H.M, _, ints az, ints [y], readsNew rfl rfl, ints_one _, weakDel 0 rfl, by rw [ints_length, ints_length]; simp; omega, by rw [ints_length, ints_length]; simp [maxLen]; omega, fun v' hv' => ?_⟩
          rw [← ints_append] at hv' ⊢
          conv => whnf
          repeat (refine ⟨_, wi (by omega), ?_⟩; conv => whnf)
          exact ⟨rfl, rfl, m3 - 1, _, by omega, Weak.refl _, k + 1, _, az ++ [y], rfl, by omega, by simp [hasl], fun x hx => (List.mem_append.1 hx).elim (hasI x) fun hx => by rw [List.mem_singleton.1 hx]; omega, hv', rfl⟩
        · conv => whnf
          intro q4
          conv => whnf
          refine ⟨H.M, _, [], ints az, readsRow (e := 3) (List.mem_cons_of_mem _ List.mem_cons_self) hs, ints_one _, Weak.refl _, by rw [ints_length]; simp; omega, by rw [ints_length]; simp [maxLen]; omega, fun s5 hs5 => ?_⟩
          rw [List.nil_append] at hs5 ⊢
          obtain ⟨y1', y3', rfl⟩ := hs5.cnt (k := az.length) (by omega) (by rw [ints_length, Nat.mul_one])
          conv => whnf
          intro q5
          conv => whnf
          refine ⟨H.M, _, ints az, ints [0], readsNew rfl rfl, ints_one _, weakDel 0 rfl, by rw [ints_length, ints_length]; simp; omega, by rw [ints_length, ints_length]; simp [maxLen]; omega, fun s6 hs6 => ?_⟩
          rw [← ints_append] at hs6 ⊢
          obtain ⟨w1', w2', w3', rfl⟩ := hs6.slice
          conv => whnf
          refine c_Take _ aw 14 _ (havK.mono (hle_sub fun a ha => List.mem_cons_of_mem _ (List.mem_cons_of_mem _ (hsub6 a ha)))) (by omega) _ fun s7 hs7 => ?_
          obtain ⟨t1', t2', t3', rfl⟩ := hs7.slice
          conv => whnf
          intro q6
          conv => whnf
          obtain ⟨al, hal⟩ : ∃ al : List AL, al = [⟨.slice z1 az.length z3, az⟩, ⟨.slice w1' w2' w3', az ++ [0]⟩, ⟨.slice t1' t2' t3', aw.take 14⟩] := ⟨_, rfl⟩
          have hall : al.length = 3 := by rw [hal]; rfl
          obtain ⟨K7, hK7⟩ : ∃ K7, K7 = .row (.slice (some ⟨q6, 0, none⟩) 3 3) 22 1 (als al) :: .row (.slice t1' t2' t3') 3 1 (ints (aw.take 14)) :: .row (.slice w1' w2' w3') 3 1 (ints (az ++ [0])) :: .row (.slice z1 az.length z3) 3 1 (ints az) :: K6 := ⟨_, rfl⟩
          have hsub7 : ∀ a ∈ K4, a ∈ K7 := fun a ha => by rw [hK7]; simp [hsub6 a ha]
          have hsub67 : ∀ a ∈ K6, a ∈ K7 := fun a ha => by rw [hK7]; simp [ha]
          have hali : ∀ x ∈ al, IntsAt ⟨H.M, K7⟩ x.v x.l ∧ x.l.length ≤ 1000 := by
            intro x hx
            rw [hal] at hx
            simp only [List.mem_cons, List.not_mem_nil, or_false] at hx
            rcases hx with rfl | rfl | rfl
            · exact ⟨⟨readsRow (e := 3) (by rw [hK7]; simp) hs, hasI, by simp only; omega⟩, by simp only; omega⟩
            · exact ⟨⟨readsRow (e := 3) (by rw [hK7]; simp) hs6, fun x hx => (List.mem_append.1 hx).elim (hasI x) fun hx => by rw [List.mem_singleton.1 hx]; omega, by simp; omega⟩, by simp; omega⟩
            · exact ⟨⟨readsRow (e := 3) (by rw [hK7]; simp) hs7, fun x hx => havK.fit x (List.mem_of_mem_take hx), by have := List.length_take_le 14 aw; show ((aw.take 14).length : Int) ≤ _; omega⟩, by have := List.length_take_le 14 aw; show (aw.take 14).length ≤ 1000; omega⟩
          have hrd7 : Reads ⟨H.M, K7⟩ (.slice (some ⟨q6, 0, none⟩) 3 3) 1 (als al) := readsRow (e := 22) (by rw [hK7]; exact List.mem_cons_self) (rowNew (by rw [hal]; rfl) (by omega))
          obtain ⟨_, _, e, hct7⟩ := alAt hrd7
          injection e with e1 e2 e3
          subst e1
          refine awp_loopL hT 176 [4, 5, 6, 16, 17, 18, 19, 20, 21, 26, 27] (fun m vs H' => ∃ (n : Nat), vs = [.int .i64 field, .int .i64 cost, .slice pa aw.length ca, .slice (some ⟨q, 0, none⟩) 2 2, .int .i64 i, .int .i64 xsz.length, .slice (some ⟨q1, 0, none⟩) 2 2, .slice (some ⟨q2, 0, none⟩) 2 2, .int .i64 j, .slice (some ⟨q6, 0, none⟩) 3 3, .int .i64 n] ∧ m + n = 3 ∧
            H' = ⟨H.M, K7⟩) 3 rfl rfl (by rw [hK7, hal]; exact Weak.refl _) ⟨0, rfl, rfl, rfl⟩ ?_
          rintro m4 u4 vs H' ⟨n, rfl, hm4, rfl⟩
          conv => whnf
          refine ifC_dec (fun hn => ?_) (fun hn => ?_)
          · obtain ⟨_, _, e', hc7⟩ := hct7 n (by omega)
            cases e'
            obtain ⟨hxi, hxl⟩ := hali _ (List.getElem_mem (show n < al.length by omega))
            generalize al[n] = y at *
            obtain ⟨yv, yl⟩ := y
            simp only at hxi hxl
            obtain ⟨p9, c9, rfl, _⟩ := hxi.open
            obtain ⟨hwI, hwL⟩ := wtT_ok xsz xrs fj cj yl hxl
            have hc7 : ∀ L, (∀ a ∈ K7, a ∈ L) → CellsAt ⟨H.M, L⟩ q6 (0 + n * 1) [.slice p9 yl.length c9] := fun L hL => hc7.mono (hle_sub hL)
            conv => whnf
            refine awp_draw hT hM 22 (List.range 22) (by kernel_rfl) H.M K7 [] (by rw [List.append_nil]; exact Weak.refl _) ?_
            conv => whnf
            refine ⟨_, _, rfl, by omega, ?_⟩
            conv => whnf
            refine ⟨_, rfl, hce _ hsub7, ?_⟩
            conv => whnf
            refine c_own _ _ xsz xrs _ (hx.mono (hle_sub fun a ha => by simp [hsub7 a ha])) hok _ fun ov hov => ?_
            obtain ⟨o1, o2, o3, rfl⟩ := hov.slice
            refine ⟨_, [_], weakMid, fun _ _ h => h, ?_⟩
            conv => whnf
            refine ⟨_, _, rfl, by omega, ?_⟩
            conv => whnf
            refine ⟨_, HLe.cell (hle_sub hsub67) hcfj, ?_⟩
            conv => whnf
            refine ⟨_, _, rfl, by omega, ?_⟩
            conv => whnf
            refine ⟨_, HLe.cell (hle_sub hsub67) hccj, ?_⟩
            conv => whnf
            refine ⟨_, _, rfl, by omega, ?_⟩
            conv => whnf
            refine ⟨_, (hc7 _ (fun a ha => ha)) 0 _ rfl, ?_⟩
            conv => whnf
            refine c_Weight _ _ _ xsz xrs fj cj yl _ ⟨(hx.mono (hle_sub fun a ha => by simp [hsub7 a ha])).s, readsRow (e := 55) (by simp) hov, (hx.mono (hle_sub fun a ha => by simp [hsub7 a ha])).v⟩ hok (hxi.mono (hle_sub fun a ha => by simp [ha])) hxl _ fun wv hwv => ?_
            generalize hW : wtT xsz xrs fj cj yl = W at *
            refine ⟨_, [_, _], weakMid, fun _ _ h => h, ?_⟩
            conv => whnf
            refine ⟨⟨H.M, .row wv 3 1 (ints W.1) :: K7⟩, (Weak.perm List.perm_append_comm).trans (weakDel 1 rfl), ?_⟩
            conv => whnf
            refine awp_draw hT hM 21 (List.range 21) (by kernel_rfl) H.M (.row wv 3 1 (ints W.1) :: K7) [] (by rw [List.append_nil]; exact Weak.refl _) ?_
            conv => whnf
            refine ⟨_, _, rfl, by omega, ?_⟩
            conv => whnf
            refine ⟨_, rfl, hce _ (fun a ha => List.mem_cons_of_mem _ (hsub7 a ha)), ?_⟩
            conv => whnf
            refine ⟨_, _, rfl, by omega, ?_⟩
            conv => whnf
            refine ⟨_, HLe.cell (hle_sub fun a ha => List.mem_cons_of_mem _ (hsub67 a ha)) hcfj, ?_⟩
            conv => whnf
            refine ⟨_, _, rfl, by omega, ?_⟩
            conv => whnf
            refine ⟨_, HLe.cell (hle_sub fun a ha => List.mem_cons_of_mem _ (hsub67 a ha)) hccj, ?_⟩
            conv => whnf
            refine ⟨_, _, rfl, by omega, ?_⟩
            conv => whnf
            refine ⟨_, (hc7 _ (fun a ha => List.mem_cons_of_mem _ ha)) 0 _ rfl, ?_⟩
            conv => whnf
            refine c_WeightR _ _ _ xsz xrs fj cj yl _ (hx.mono (hle_sub fun a ha => by simp [hsub7 a ha])) hok (hxi.mono (hle_sub fun a ha => by simp [ha])) hxl _ fun wv2 hwv2 => ?_
            rw [hW] at hwv2 ⊢
            refine ⟨_, [_], weakMid, fun _ _ h => h, ?_⟩
            conv => whnf
            refine ⟨⟨H.M, .row wv2 3 1 (ints W.1) :: .row wv 3 1 (ints W.1) :: K7⟩, Weak.perm List.perm_append_comm, ?_⟩
            conv => whnf
            refine ifC_dec (fun c => absurd c (by simp)) (fun c => ?_)
            conv => whnf
            refine c_SameInts wv wv2 W.1 W.1 _ ⟨readsRow (e := 3) (by simp) hwv, hwI, by omega⟩ ⟨readsRow (e := 3) (by simp) hwv2, hwI, by omega⟩ _ ?_
            rw [decide_eq_true rfl]
            conv => whnf
            repeat (refine ⟨_, wi (by omega), ?_⟩; conv => whnf)
            exact ⟨rfl, rfl, m4 - 1, ⟨H.M, K7⟩, by omega, weakK 2 rfl, n + 1, rfl, by omega, rfl⟩
          · conv => whnf
            repeat (refine ⟨_, wi (by omega), ?_⟩; conv => whnf)
            exact ⟨rfl, rfl, m2 - 1, ⟨H.M, K6⟩, by omega, by rw [hK7]; exact weakK 4 rfl, j + 1, rfl, by omega, rfl⟩
    · conv => whnf
      repeat (refine ⟨_, wi (by omega), ?_⟩; conv => whnf)
      exact ⟨rfl, rfl, m - 1, ⟨H.M, K4⟩, by omega, by rw [hK6]; exact weakK 2 rfl, i + 1, rfl, by omega, rfl⟩
  · conv => whnf
    refine c_lives25 _ _ fun N => ?_
    conv => whnf
    refine ⟨rfl, ?_⟩
    conv => whnf
    exact fin (Weak.refl _) (hR _)
end Go.Proofs.Ytohdcmkooedkcaa.A
