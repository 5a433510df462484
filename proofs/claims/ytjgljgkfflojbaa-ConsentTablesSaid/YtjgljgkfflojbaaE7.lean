/- ConsentTables. -/
import Derived.Test.YtjgljgkfflojbaaD10
import Derived.Test.YtjgljgkfflojbaaT4
import Derived.Test.YtjgljgkfflojbaaT5
import Derived.Test.YtjgljgkfflojbaaT7
namespace Go.Proofs.Ytjgljgkfflojbaa.A
open Go Go.RowKit
set_option linter.unusedVariables false
set_option linter.unusedSimpArgs false
set_option maxRecDepth 20000

theorem srt_inc2 {l : List Int} (h : l.Nodup) : Inc (srt l) := by
  have h1 := srt_sorted l
  have h2 : (srt l).Nodup := (List.mergeSort_perm l _).nodup_iff.2 h
  exact (h1.and h2).imp fun {a b} h => by omega
theorem cellsOwn2 {H : Hp} {g : Nat} {e : TypeId} {cs : List Value} (h : Atom.cells g e cs ∈ H.L) : CellsAt H g 0 cs := fun j v hj => by
  rw [Nat.zero_add]
  exact cellOwn h hj
theorem valid_filter2 {sz : List Int} {rs : List RV} (h : validT (tbOf sz rs) = 0) (P : RV → Bool) : validT (tbOf sz (rs.filter P)) = 0 := by
  obtain ⟨h1, h2, h3, h4, h5⟩ := valid0 h
  have hl := List.length_filter_le P rs
  rw [tbOf_rows] at h2
  unfold validT
  rw [if_neg (by rw [tbOf_rows]; have : (tbOf sz (rs.filter P)).sizes.length = (tbOf sz rs).sizes.length := rfl; omega), if_neg (by
    have : (tbOf sz (rs.filter P)).sizes = (tbOf sz rs).sizes := rfl
    rw [this, h3]; simp), if_neg (by
    intro h'
    obtain ⟨r, hr, hb⟩ := List.any_eq_true.1 h'
    obtain ⟨x, hx, rfl⟩ := List.mem_map.1 hr
    have := List.any_eq_false.1 h4 x.r (List.mem_map.2 ⟨x, (List.mem_filter.1 hx).1, rfl⟩)
    have e : (tbOf sz (rs.filter P)).sizes = (tbOf sz rs).sizes := rfl
    rw [e] at hb
    exact this hb), if_pos (by
    rw [ps_tb] at h5 ⊢
    exact h5.sublist (List.Sublist.map _ List.filter_sublist))]
/-- One thing, made of the persons themselves. -/
def TS (P : List Int) : St := ⟨[⟨[], P, P, true⟩], []⟩
def TS2 (P : List Int) (x : Int) : St := ⟨[⟨[], P, P, false⟩], [x]⟩
theorem mk_ts {P : List Int} (h : Inc P) (hb : ∀ x ∈ P, 0 ≤ x ∧ x < 65536) (hl : P.length ≤ 512) : mkS ⟨[], []⟩ [] P = (TS P, 0, 0) := by
  refine mkS_ok (by simp; omega) ?_ (by simp) (by simp [staleS]) h (fun x => by simp [baseL])
  have h1 : riseF (-1) 65536 P = true := riseF_iff.2 ⟨h, fun x hx => by have := hb x hx; omega⟩
  rw [h1]
  simp [riseF]
theorem rm_ts {P : List Int} {x : Int} (h0 : 0 ≤ x) (h1 : x < 65536) (hx : x ∈ P) : rmS (TS P) x = (TS2 P x, [0], 0) := by
  unfold rmS
  rw [if_neg (by omega), if_neg (by simp [TS])]
  have e : rmL (TS P) x = [0] := by
    show ((List.range 1).filter _).map _ = [0]
    simp [List.range_succ, St.th, TS, hx]
  rw [e]
  simp [TS, TS2, rmT, hx]
theorem rn_ts {P : List Int} {x : Int} (h : Inc P) : rnS (TS2 P x) 0 = (⟨[⟨[], P.filter fun y => !decide (y = x), P.filter fun y => !decide (y = x), true⟩], [x]⟩, 0) := by
  have e := rnS_ok (S := TS2 P x) (i := 0) (b := P.filter fun y => !decide (y = x)) (by simp [TS2]) (by simp [TS2, St.th]) (by simp [TS2, St.th, staleS]) (h.filter _) (fun y => by simp [TS2, St.th, baseL])
  rw [e]
  simp [TS2, St.th]
theorem base_ts (t : Th) (gone : List Int) (u : Bool) (want : List Int) (hu : t.u = u) (hb : t.b = want) : baseB ⟨[t], gone⟩ 0 want u = true := by
  unfold baseB
  simp [St.th, hu, hb]
theorem persons_filter {sz : List Int} {rs : List RV} (h : validT (tbOf sz rs) = 0) (x : Int) : personsT (tbOf sz (rs.filter (keepP x))) = (personsT (tbOf sz rs)).filter fun y => !decide (y = x) := by
  unfold personsT
  rw [if_pos h, if_pos (valid_filter2 h _)]
  have hn := (valid0 h).2.2.2.2
  have hn2 := (valid0 (valid_filter2 h (keepP x))).2.2.2.2
  refine inc_ext (srt_inc2 hn2) ((srt_inc2 hn).filter _) fun y => ?_
  rw [mem_srt, List.mem_filter, mem_srt, ps_tb, ps_tb, List.mem_map, List.mem_map]
  constructor
  · rintro ⟨r, hr, rfl⟩
    obtain ⟨h1, h2⟩ := List.mem_filter.1 hr
    unfold keepP at h2
    exact ⟨⟨r, h1, rfl⟩, by simpa using h2⟩
  · rintro ⟨⟨r, hr, rfl⟩, h2⟩
    exact ⟨r, List.mem_filter.2 ⟨hr, by unfold keepP; simpa using h2⟩, rfl⟩
set_option maxHeartbeats 8000000 in
theorem c_ConsentTables (v : Value) (l : List Int) (at' : Int) (H : Hp) (hv : IntsAt H v l) (ha : I64 at') (R : Ending → Hp → Prop) (hR : ∀ H', R (.returned (.bool true)) H') :
    ACalls Try.prog 7 [v, .int .i64 at'] H R := by
  obtain ⟨pv, cv, rfl, _⟩ := hv.open
  refine acalls_code hT Try.func7 rfl rfl ?_
  conv => whnf
  refine c_Made _ l _ hv _ fun sv rv sz rs N1 h m1 => ?_
  obtain ⟨ps, cs, rfl, _⟩ := intsAt h.s
  obtain ⟨pr, cr, rfl, hcr⟩ := rvAt h.r
  have hok := m1.ok
  have hval := m1.v
  have hrl := m1.r
  obtain ⟨K, hK⟩ : ∃ K, K = N1 ++ H.L := ⟨_, rfl⟩
  rw [← hK]
  have hNK : ∀ a ∈ N1, a ∈ K := fun a ha => hK ▸ List.mem_append_left _ ha
  clear hK hv
  conv => whnf
  intro g5
  conv => whnf
  refine stC 0 rfl rfl (by first | (refine ⟨rfl, ?_⟩; repeat' (first | exact trivial | refine ⟨rfl, ?_⟩)) | simp [oneCells, Value.oneCell', setN]) ?_
  conv => whnf
  refine ldS 0 rfl rfl ?_
  conv => whnf
  intro g6
  conv => whnf
  refine stC 0 rfl rfl (by first | (refine ⟨rfl, ?_⟩; repeat' (first | exact trivial | refine ⟨rfl, ?_⟩)) | simp [oneCells, Value.oneCell', setN]) ?_
  conv => whnf
  refine awp_loopL hT 114 [1, 5, 6, 7] (fun m vs H' => ∃ (k : Nat) (s : Value), vs = [.int .i64 at', ptr g5, ptr g6, .int .i64 k] ∧ m + k = rs.length ∧ RowVal s 2 (rvs (rs.take k)) ∧
    H' = ⟨H.M, .row s 70 2 (rvs (rs.take k)) :: .cells g6 67 [.slice ps sz.length cs, s] :: .cells g5 63 [.slice ps sz.length cs, .slice pr rs.length cr] :: K⟩) rs.length rfl rfl (weakNil _ 70 2) ⟨0, .slice none 0 0, rfl, by omega, .inl ⟨rfl, rfl⟩, rfl⟩ ?_
  rintro m u vs H' ⟨k, s, rfl, hm, hs, rfl⟩
  obtain ⟨s1, s3, rfl⟩ := hs.cnt (by omega) (k := k) (by rw [rvs_length, List.length_take]; omega)
  conv => whnf
  refine ldS 2 rfl rfl ?_
  conv => whnf
  refine ifC_dec (fun h1 => ?_) (fun h1 => ?_)
  · have hkl : k < rs.length := by omega
    have hmem := List.getElem_mem hkl
    obtain ⟨gr, or', rfl, hce⟩ := hcr k hkl
    obtain ⟨pv, nv, cv, ev⟩ := (h.v _ hmem).slice
    have hsucc : rvs (rs.take (k + 1)) = rvs (rs.take k) ++ rvs [rs[k]] := by rw [List.take_succ_eq_append_getElem hkl, rvs_append]
    have hlk : (rvs (rs.take k)).length ≤ 2000 := by rw [rvs_length, List.length_take]; omega
    have hone : ∀ x ∈ rvs [rs[k]], x.oneCell' = true := rvs_one (H := ⟨H.M, N1⟩) fun x hx => by rw [List.mem_singleton.1 hx]; exact h.v _ hmem
    conv => whnf
    refine awp_draw hT hM 17 (List.range 17) (by kernel_rfl) H.M (.cells g6 67 [.slice ps sz.length cs, .slice s1 k s3] :: .cells g5 63 [.slice ps sz.length cs, .slice (some ⟨gr, or', none⟩) rs.length cr] :: K) [.row (.slice s1 k s3) 70 2 (rvs (rs.take k))] (Weak.perm (List.perm_append_comm (l₁ := [_]))) ?_
    have hce := hce.mono (hle_sub (L' := (.cells g6 67 [.slice ps sz.length cs, .slice s1 k s3] :: .cells g5 63 [.slice ps sz.length cs, .slice (some ⟨gr, or', none⟩) rs.length cr] :: K)) fun a ha => by simp [hNK a ha])
    conv => whnf
    refine ldS 0 rfl rfl ?_
    conv => whnf
    refine ldS 1 rfl rfl ?_
    conv => whnf
    refine ⟨gr, or', rfl, by omega, ?_⟩
    conv => whnf
    refine ⟨_, hce 0 _ rfl, ?_⟩
    conv => whnf
    refine ldS 1 rfl rfl ?_
    conv => whnf
    refine ⟨gr, or', rfl, by omega, ?_⟩
    conv => whnf
    refine ⟨_, hce 1 (.slice pv nv cv) (by rw [rvc, ev]; rfl), ?_⟩
    conv => whnf
    intro q
    conv => whnf
    refine ⟨H.M, (.cells g6 67 [.slice ps sz.length cs, .slice s1 k s3] :: .cells g5 63 [.slice ps sz.length cs, .slice (some ⟨gr, or', none⟩) rs.length cr] :: K) ++ [.row (.slice (some ⟨q, 0, none⟩) 1 1) 70 2 (rvs [rs[k]])], rvs (rs.take k), rvs [rs[k]], readsRow (e := 70) (v := .slice (some ⟨q, 0, none⟩) 1 1) (List.mem_append_right _ (by simp only [rvs, rvc, List.flatMap_cons, List.flatMap_nil, List.append_nil, ev]; exact List.mem_cons_self)) (rowNew (by rw [rvs_length]; rfl) (by omega)), hone,
      ?_, by simp only [rvs_length, List.length_take, List.length_singleton]; omega, by simp only [rvs_length, List.length_take, List.length_singleton, maxLen]; omega, ?_⟩
    · simp only [rvs, rvc, List.flatMap_cons, List.flatMap_nil, List.append_nil, ev]
      exact (Weak.perm List.perm_append_comm).trans ((weakPull [1] rfl).trans (Weak.perm (List.Perm.cons _ (List.perm_append_comm (l₁ := [_])))))
    rw [← hsucc]
    intro v' hv'
    obtain ⟨q1, q3, rfl⟩ := hv'.cnt (by omega) (k := k + 1) (by rw [rvs_length, List.length_take]; omega)
    refine ⟨_, _ :: _, weakMid, fun _ _ h => h, ?_⟩
    conv => whnf
    refine ⟨_, Weak.perm List.perm_append_comm, ?_⟩
    conv => whnf
    refine stC 2 rfl rfl (by first | (refine ⟨rfl, ?_⟩; repeat' (first | exact trivial | refine ⟨rfl, ?_⟩)) | simp [oneCells, Value.oneCell', setN]) ?_
    conv => whnf
    conv => whnf
    repeat (refine ⟨_, wi (by omega), ?_⟩; conv => whnf)
    exact ⟨rfl, rfl, m - 1, _, by omega, weakSkip 1 1 rfl, k + 1, _, rfl, by omega, hv', rfl⟩
  · have hke : k = rs.length := by omega
    subst hke
    rw [List.take_length] at hs ⊢
    have hTb : ∀ L, (∀ a ∈ N1, a ∈ L) → Atom.row (.slice s1 rs.length s3) 70 2 (rvs rs) ∈ L → TbAt ⟨H.M, L⟩ (.slice ps sz.length cs) (.slice s1 rs.length s3) sz rs := fun L h1 h2 =>
      ⟨(h.mono (hle_sub h1)).s, readsRow (e := 70) h2 hs, (h.mono (hle_sub h1)).v⟩
    conv => whnf
    refine ldA 1 rfl rfl ?_
    conv => whnf
    refine c_Persons _ _ sz rs _ (hTb _ (fun a ha => by simp [hNK a ha]) (by simp)) hok _ fun pw hpw => ?_
    obtain ⟨P, hP⟩ : ∃ P, P = personsT (tbOf sz rs) := ⟨_, rfl⟩
    rw [← hP] at hpw ⊢
    have hPe : P = srt (tbOf sz rs).ps := by rw [hP]; unfold personsT; rw [if_pos hval]
    have hPi : Inc P := by rw [hPe]; exact srt_inc2 (valid0 hval).2.2.2.2
    have hPb : ∀ x ∈ P, 0 ≤ x ∧ x < 65536 := fun x hx => by
      rw [hPe, mem_srt] at hx
      have := ps_range hval x hx
      omega
    have hPl : P.length ≤ 10 := by rw [hPe, srt_length, ps_tb, List.length_map]; omega
    obtain ⟨pp, cp, rfl⟩ : ∃ p c, pw = .slice p P.length c := hpw.cnt (by omega) (by rw [ints_length, Nat.mul_one])
    have hPI : ∀ L, Atom.row (.slice pp P.length cp) 3 1 (ints P) ∈ L → IntsAt ⟨H.M, L⟩ (.slice pp P.length cp) P := fun L hL => ⟨readsRow (e := 3) hL hpw, fun x hx => by have := hPb x hx; omega, by omega⟩
    conv => whnf
    refine p_New fun g H0 B0 => ?_
    conv => whnf
    have o0 : okS ⟨[], []⟩ := ⟨by simp, by simp, by simp, by simp⟩
    have o1 : okS (TS P) := by have := o0.mk' [] P; rw [mk_ts hPi hPb (by omega)] at this; exact this
    refine p_Make B0 o0 (nilI _) (hPI _ List.mem_cons_self) fun H1 B1 => ?_
    rw [mk_ts hPi hPb (by omega)] at B1 ⊢
    conv => whnf
    replace B1 : Bo g (TS P) H.M _ H1 := B1
    refine ACalls.weakR (p_base B1 o1 (hPI _ List.mem_cons_self) fun H2 B2 => ?_)
    obtain ⟨L, hw, hsub, B3⟩ := B2.reads
    refine ⟨⟨H.M, L⟩, hw, ?_⟩
    rw [show baseB (TS P) 0 P true = true from base_ts ⟨[], P, P, true⟩ [] true P rfl rfl]
    conv => whnf
    refine ifC_dec (fun hP0 => ?_) (fun hP0 => ?_)
    · conv => whnf
      refine c_lives26 _ _ fun H' => ?_
      conv => whnf
      refine ⟨rfl, ?_⟩
      conv => whnf
      exact fin (Weak.refl _) (hR _)
    · have hba := around_bd at' P.length (by omega)
      conv => whnf
      refine c_Around at' P.length ha (by omega) _ _ ?_
      generalize around at' P.length = ai at *
      have hPL := hPI L (hsub _ List.mem_cons_self)
      obtain ⟨_, _, e, hcP⟩ := intsAt hPL.reads
      injection e with e1 e2 e3
      subst e1
      obtain ⟨gp, op, e', hcp⟩ := hcP ai (by omega) (by omega)
      subst e'
      have hxm : geti P ai ∈ P := geti_mem (by omega) (by omega)
      generalize geti P ai = x at *
      have hx := hPb x hxm
      conv => whnf
      refine ⟨_, _, rfl, by omega, ?_⟩
      conv => whnf
      refine ⟨_, hcp, ?_⟩
      conv => whnf
      have o2 : okS (TS2 P x) := by have := o1.rm' x; rw [rm_ts hx.1 hx.2 hxm] at this; exact this
      refine ACalls.weakR (p_Remove B3 o1 fun H5 s5 hs5 B5 => ?_)
      rw [rm_ts hx.1 hx.2 hxm] at hs5 B5 ⊢
      replace B5 : Bo g (TS2 P x) H.M _ H5 := B5
      replace hs5 : RowVal s5 1 (ints [0]) := hs5
      obtain ⟨L5, hw5, hsub5, B6⟩ := B5.reads
      refine ⟨⟨H.M, L5⟩, hw5, ?_⟩
      have hN5 : ∀ a ∈ N1, a ∈ L5 := fun a ha => hsub5 _ (List.mem_cons_of_mem _ (by simp [hNK a ha]))
      have hrow5 : Atom.row (.slice s1 rs.length s3) 70 2 (rvs rs) ∈ L5 := hsub5 _ (List.mem_cons_of_mem _ (by simp))
      have hown5 : Atom.cells g6 67 [.slice ps sz.length cs, .slice s1 rs.length s3] ∈ L5 := hsub5 _ (List.mem_cons_of_mem _ (by simp))
      conv => whnf
      refine ⟨_, rfl, cellsOwn2 hown5, ?_⟩
      conv => whnf
      refine c_Without _ _ sz rs x _ (hTb _ hN5 hrow5) hok _ fun v7 hv7 => ?_
      obtain ⟨w1, w2, w3, rfl⟩ := hv7.slice
      have B7 := B6.add (.row (.slice w1 w2 w3) 70 2 (rvs (rs.filter (keepP x))))
      conv => whnf
      have hokf : okTb (tbOf sz (rs.filter (keepP x))) := okTb_of hok.sl hok.si (by have := List.length_filter_le (keepP x) rs; omega) fun y hy => hok.row (List.mem_filter.1 hy).1
      refine c_Persons _ _ sz _ _ ⟨((hTb _ hN5 hrow5).mono (hle_sub fun a ha => List.mem_cons_of_mem _ ha)).s, readsRow (e := 70) List.mem_cons_self hv7, fun y hy => ((hTb _ hN5 hrow5).mono (hle_sub fun a ha => List.mem_cons_of_mem _ ha)).v y (List.mem_filter.1 hy).1⟩ hokf _ fun v8 hv8 => ?_
      rw [persons_filter hval, ← hP] at hv8 ⊢
      have B8 := B7.add (.row v8 3 1 (ints (P.filter fun y => !decide (y = x))))
      have hflt := List.length_filter_le (fun y => !decide (y = x)) P
      conv => whnf
      intro q9
      have B9 := B8.add (.row (.slice (some ⟨q9, 0, none⟩) 1 1) 3 1 (ints [0]))
      conv => whnf
      refine c_SameInts s5 _ [0] [0] _ ⟨readsRow (e := 3) (List.mem_cons_of_mem _ (List.mem_cons_of_mem _ (List.mem_cons_of_mem _ (hsub5 _ List.mem_cons_self)))) hs5, by simp; omega, by simp⟩ (intsRow 0 rfl (rowNew rfl (by omega)) (by simp; omega) (by simp)) _ ?_
      rw [decide_eq_true rfl]
      conv => whnf
      refine p_base B9 o2 (hPI _ (by simp)) fun H10 B10 => ?_
      rw [show baseB (TS2 P x) 0 P false = true from base_ts ⟨[], P, P, false⟩ [x] false P rfl rfl]
      conv => whnf
      have o3 : okS ⟨[⟨[], P.filter fun y => !decide (y = x), P.filter fun y => !decide (y = x), true⟩], [x]⟩ := by have := o2.rn' 0; rw [rn_ts hPi] at this; exact this
      refine p_Renew B10 o2 fun H11 B11 => ?_
      rw [rn_ts hPi] at B11 ⊢
      replace B11 : Bo g ⟨[⟨[], P.filter fun y => !decide (y = x), P.filter fun y => !decide (y = x), true⟩], [x]⟩ H.M _ H11 := B11
      conv => whnf
      refine p_base B11 o3 (want := P.filter fun y => !decide (y = x)) ⟨readsRow (e := 3) (by simp) hv8, fun y hy => by have := hPb y (List.mem_filter.1 hy).1; omega, by omega⟩ fun H12 B12 => ?_
      rw [base_ts ⟨[], P.filter fun y => !decide (y = x), P.filter fun y => !decide (y = x), true⟩ [x] true (P.filter fun y => !decide (y = x)) rfl rfl]
      conv => whnf
      refine c_lives26 _ _ fun H' => ?_
      conv => whnf
      refine ⟨rfl, ?_⟩
      conv => whnf
      exact fin (Weak.refl _) (hR _)
end Go.Proofs.Ytjgljgkfflojbaa.A
