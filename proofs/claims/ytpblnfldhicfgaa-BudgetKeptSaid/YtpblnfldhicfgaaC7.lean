/- BudgetKept. -/
import Derived.Test.YtpblnfldhicfgaaC6
namespace Go.Proofs.Ytpblnfldhicfgaa.A
open Go Go.RowKit
set_option linter.unusedVariables false
set_option linter.unusedSimpArgs false
set_option maxRecDepth 20000

set_option maxHeartbeats 4000000 in
theorem c_BudgetKept (v vs' : Value) (l s : List Int) (H : Hp) (hv : IntsAt H v l) (hs : IntsAt H vs' s) (R : Ending → Hp → Prop) (hR : ∀ H', R (.returned (.bool true)) H') :
    ACalls Try.prog 5 [v, vs'] H R := by
  refine acalls_code hT Try.func5 rfl rfl ?_
  conv => whnf
  refine c_begun v l _ hv _ ?_
  intro g a b c d g' a' b' c' d' e' f' hV hV'
  have hB0 := begB_ok l
  have hn := begB_n l
  have hm := begB_m l
  have bn := bgN_bd l
  have bm := bgM_bd l
  have hK := beg_kept l
  have hLs := LastOk.zero l
  generalize begB l = B0 at *
  have l1 := hB0.l1; have l4 := hB0.l4
  conv => whnf
  have hle1 : HLe H ⟨H.M, bkA g a b c d B0 ++ (rbA g' a' b' c' d' e' f' B0 ++ H.L)⟩ := (hle_pre (rbA g' a' b' c' d' e' f' B0) _).trans (hle_pre (bkA g a b c d B0) _)
  have hr0 : RbAt ⟨H.M, rbA g' a' b' c' d' e' f' B0⟩ g' a' b' c' d' e' f' B0 := (rbAt (L := []) hV').mono (hle_sub fun a ha => by simpa using ha)
  obtain ⟨pb, cb, rfl, _⟩ := frsAt hr0.b
  obtain ⟨pf, cf, rfl, _⟩ := frsAt hr0.f
  obtain ⟨pa, ca, rfl, ha0⟩ := frsAt hr0.a
  obtain ⟨pe, ce, rfl, he0⟩ := frsAt hr0.e
  have hr := fun (L : List Atom) h => hr0.mono (hle_sub (L' := L) h)
  refine ⟨_, (hr _ (fun a ha => by simp [ha])).h 1 _ rfl, ?_⟩
  conv => whnf
  refine c_Script vs' s B0.sp.length _ (hs.mono hle1) (by omega) _ ?_
  intro v' cs hcs hrow hv'
  have hlen : cs.length ≤ 20 := by
    have := congrArg List.length hcs
    rw [List.length_map] at this
    rw [this]; exact script_length _ _
  have hS : Scr cs := ⟨hrow, map_ok hcs (script_ok (by omega)), by omega⟩
  obtain ⟨v4, v5, rfl, _⟩ := acsAt (H := ⟨H.M, [.row v' 50 4 (acs cs)]⟩) (readsRow List.mem_cons_self hv')
  conv => whnf
  refine AWp.weak (H1 := ⟨H.M, bkA g a b c d B0 ++ (rbA g' (.slice pa B0.lim.length ca) (.slice pb B0.sp.length cb) c' d' (.slice pe B0.most.length ce) (.slice pf B0.owed.length cf) B0 ++ (scA (.slice v4 cs.length v5) cs ++ H.L))⟩) (Weak.perm (permBegin (X := scA _ cs))) ?_
  refine awp_draw hT hM 12 (List.range 12) (by kernel_rfl) H.M _ [] (by rw [List.append_nil]; exact Weak.refl _) ?_
  conv => whnf
  refine ⟨_, (hr _ (fun a ha => by simp [ha])).h 1 _ rfl, ?_⟩
  conv => whnf
  refine ⟨_, (hr _ (fun a ha => by simp [ha])).h 5 _ rfl, ?_⟩
  conv => whnf
  repeat (refine ⟨_, wi (by omega), ?_⟩; conv => whnf)
  refine ⟨B0.lim.length + B0.most.length, by omega, by omega, by omega, by simp [maxLen]; omega, fun gl => ?_⟩
  rw [repZ_frs]
  conv => whnf
  refine ⟨_, Weak.perm List.perm_append_comm, ?_⟩
  conv => whnf
  have hvl : ∀ Ls : List Fr, Ls.length = B0.lim.length + B0.most.length → RowVal (.slice (some ⟨gl, 0, none⟩) (B0.lim.length + B0.most.length) (B0.lim.length + B0.most.length)) 2 (frs Ls) := fun Ls h => rowNew (by rw [frs_length, h]) (by omega)
  refine awp_loopL hT 126 [5, 6, 7, 8, 9] (fun n vs Hx => ∃ (k : Nat) (a b c d : Value) (B : Bk) (Ls : List Fr), vs = [ptr g, ptr g', .slice v4 cs.length v5, .slice (some ⟨gl, 0, none⟩) (B0.lim.length + B0.most.length) (B0.lim.length + B0.most.length), .int .i64 k] ∧ n + k = cs.length ∧ okB B ∧ BkV a b c d B ∧ Kept B ∧ B.lim = B0.lim ∧ B.most = B0.most ∧ LastOk B Ls ∧
    Hx = ⟨H.M, bkA g a b c d B ++ (rbA g' (.slice pa B0.lim.length ca) (.slice pb B0.sp.length cb) c' d' (.slice pe B0.most.length ce) (.slice pf B0.owed.length cf) B0 ++ (.row (.slice (some ⟨gl, 0, none⟩) (B0.lim.length + B0.most.length) (B0.lim.length + B0.most.length)) 24 2 (frs Ls) :: (scA (.slice v4 cs.length v5) cs ++ H.L)))⟩) cs.length rfl rfl
    (Weak.perm (permBegin (X := [_]))) ⟨0, a, b, c, d, B0, _, rfl, rfl, hB0, hV, hK, rfl, rfl, hLs, rfl⟩ ?_
  clear hV hV' hB0 hK hLs hv hs
  rintro n u vs Hx ⟨k, a, b, c, d, B, Ls, rfl, hk, hB, hV, hK, hlim, hmost, hLs, rfl⟩
  conv => whnf
  refine ifC_dec (fun h1 => ?_) (fun h1 => ?_)
  · have hkd : k < cs.length := by omega
    have hread : ∀ L, (∀ a ∈ scA (.slice v4 cs.length v5) cs, a ∈ L) → Reads ⟨H.M, L⟩ (.slice v4 cs.length v5) 4 (acs cs) := fun L h => readsRow (e := 50) (h _ (by simp [scA])) hv'
    conv => whnf
    obtain ⟨q1, q2, eq, hcell⟩ := acsAt (hread (bkA g a b c d B ++ (rbA g' (.slice pa B0.lim.length ca) (.slice pb B0.sp.length cb) c' d' (.slice pe B0.most.length ce) (.slice pf B0.owed.length cf) B0 ++ (.row (.slice (some ⟨gl, 0, none⟩) (B0.lim.length + B0.most.length) (B0.lim.length + B0.most.length)) 24 2 (frs Ls) :: (scA (.slice v4 cs.length v5) cs ++ H.L)))) (fun a ha => by simp [ha]))
    obtain ⟨gq, oq, e3, hcel⟩ := hcell k hkd
    cases eq
    subst e3
    clear hcell
    refine ⟨gq, oq, rfl, by omega, ?_⟩
    conv => whnf
    refine ⟨_, rfl, hcel, ?_⟩
    conv => whnf
    have hokx := hS.ok _ (List.getElem_mem hkd)
    have hnx := hokx.n
    refine c_act g a b c d B cs[k].1 cs[k].2 H.M _ hB hV (hS.ints hkd (fun a ha => by simp [scA, ha])) (by omega) hokx.I _ fun a b c d hV => ?_
    have hkp := act_kept (x := cs[k].2) hB
    have hB := hB.act cs[k].2
    have hK := hkp.1 hK
    have hLs := hLs.grow hkp.2
    have hlim := hkp.2.lim.trans hlim
    have hmost := hkp.2.most.trans hmost
    generalize (actB B cs[k].2).2 = e at *
    generalize (actB B cs[k].2).1 = B at *
    clear hkp
    have hl2 : B.lim.length = B0.lim.length := by rw [hlim]
    have hm2 : B.most.length = B0.most.length := by rw [hmost]
    conv => whnf
    refine awp_loopL hT 126 [5, 6, 7, 8, 9, 10] (fun n vs Hx => ∃ (j : Nat) (Ls : List Fr), vs = [ptr g, ptr g', .slice (some ⟨gq, oq, none⟩) cs.length v5, .slice (some ⟨gl, 0, none⟩) (B0.lim.length + B0.most.length) (B0.lim.length + B0.most.length), .int .i64 k, .int .i64 j] ∧ n + j = B0.lim.length + B0.most.length ∧ LastOk B Ls ∧
      Hx = ⟨H.M, bkA g a b c d B ++ (rbA g' (.slice pa B0.lim.length ca) (.slice pb B0.sp.length cb) c' d' (.slice pe B0.most.length ce) (.slice pf B0.owed.length cf) B0 ++ (.row (.slice (some ⟨gl, 0, none⟩) (B0.lim.length + B0.most.length) (B0.lim.length + B0.most.length)) 24 2 (frs Ls) :: (scA (.slice (some ⟨gq, oq, none⟩) cs.length v5) cs ++ H.L)))⟩) (B0.lim.length + B0.most.length) rfl rfl
      (Weak.refl _) ⟨0, _, rfl, by omega, hLs, rfl⟩ ?_
    clear hLs
    rintro n' u' vs' Hx' ⟨j, Ls, rfl, hj, hLs, rfl⟩
    conv => whnf
    refine ifC_dec (fun h2 => ?_) (fun h2 => ?_)
    · conv => whnf
      intro g11
      conv => whnf
      intro g13
      conv => whnf
      refine stC 0 rfl rfl (by first | (refine ⟨rfl, ?_⟩; repeat' (first | exact trivial | refine ⟨rfl, ?_⟩)) | simp [oneCells, Value.oneCell', setN]) ?_
      conv => whnf
      refine ⟨_, (hr _ (fun a ha => by simp [ha])).h 1 _ rfl, ?_⟩
      conv => whnf
      have hcur : okF (cur B j) := by
        unfold cur; split
        · exact hB.spk (by omega) (by omega)
        · rw [show ((j : Int) - B.lim.length) = ((j - B.lim.length : Nat) : Int) by omega]; exact hB.owedk (by omega)
      refine ifC_dec (fun h3 => ?_) (fun h3 => ?_)
      · conv => whnf
        refine c_Spent g a b c d B _ _ hB (bkIn hV fun a ha => by simp [ha]) _ ?_
        have hc : cur B j = getf B.sp j := if_pos (by omega)
        rw [show usedF B.sp (j : Int) = (cur B j, 0) from by rw [hc]; exact if_neg (by rw [hB.l1]; omega)]
        conv => whnf
        refine stC 1 rfl rfl (by first | (refine ⟨rfl, ?_⟩; repeat' (first | exact trivial | refine ⟨rfl, ?_⟩)) | simp [oneCells, Value.oneCell', setN]) ?_
        conv => whnf
        refine ⟨_, (hr _ (fun a ha => by simp [ha])).h 0 _ rfl, ?_⟩
        conv => whnf
        obtain ⟨gv, ov, ev, hcv⟩ := ha0 j (by omega) (by omega)
        subst ev
        refine ⟨gv, ov, rfl, by omega, ?_⟩
        conv => whnf
        refine ⟨_, rfl, hcv.mono (hle_sub fun a ha => by simp [ha]), ?_⟩
        conv => whnf
        refine stC 0 rfl rfl (by first | (refine ⟨rfl, ?_⟩; repeat' (first | exact trivial | refine ⟨rfl, ?_⟩)) | simp [oneCells, Value.oneCell', setN]) ?_
        conv => whnf
        have hle : (cur B j).q ≤ (getf B0.lim j).q := by rw [hc, ← hlim]; exact hK.sp j (by omega) (by omega)
        have hlok : okF (getf B0.lim j) := by rw [← hlim]; exact hB.limk (by omega) (by omega)
        generalize getf B0.lim (j : Int) = lm at *
        refine awp_drawQ hT hM 17 (by kernel_rfl) ?_
        conv => whnf
        refine ldA 1 rfl rfl ?_
        conv => whnf
        refine ldA 0 rfl rfl ?_
        conv => whnf
        refine c_Compare (cur B j) lm hcur.I hlok.I _ _ ⟨Weak.refl _, ?_⟩
        conv => whnf
        refine ifC_neg (fun h => Rat.not_lt.2 hle ((cmpF_pos hcur hlok).1 h)) ?_
        conv => whnf
        refine ldA 1 rfl rfl ?_
        conv => whnf
        refine ⟨gl, 0, rfl, by omega, ?_⟩
        conv => whnf
        refine ⟨_, rfl, frCell (e := 24) (n := B0.lim.length + B0.most.length) (k := j) (l := Ls) (by simp) (by rw [hLs.len]; omega), ?_⟩
        conv => whnf
        have hlk : okF (getf Ls (j : Int)) := hLs.ok _ (getf_mem (by omega) (by rw [hLs.len]; omega))
        refine c_Compare (cur B j) (getf Ls j) hcur.I hlk.I _ _ ⟨Weak.refl _, ?_⟩
        conv => whnf
        refine ifC_neg (fun h => Rat.not_lt.2 (hLs.le j (by omega)) ((cmpF_neg hcur hlk).1 h)) ?_
        conv => whnf
        refine ldA 1 rfl rfl ?_
        conv => whnf
        refine ⟨gl, 0, rfl, by omega, ?_⟩
        conv => whnf
        refine stF 14 rfl j (cur B j) (by rw [hLs.len]; omega) rfl ?_
        conv => whnf
        repeat (refine ⟨_, wi (by omega), ?_⟩; conv => whnf)
        exact ⟨rfl, rfl, n' - 1, _, by omega, weakK 2 rfl, j + 1, Ls.set j (cur B j), rfl, by omega, hLs.set (by omega) hcur, rfl⟩
      · conv => whnf
        refine ⟨_, (hr _ (fun a ha => by simp [ha])).h 1 _ rfl, ?_⟩
        conv => whnf
        repeat (refine ⟨_, wi (by omega), ?_⟩; conv => whnf)
        refine c_Owed g a b c d B _ _ hB (bkIn hV fun a ha => by simp [ha]) _ ?_
        have hc : cur B j = getf B.owed ((j : Int) - B0.sp.length) := by unfold cur; rw [if_neg (by omega), hlim, l1]
        rw [show usedF B.owed ((j : Int) - B0.sp.length) = (cur B j, 0) from by rw [hc]; exact if_neg (by rw [hB.l4]; omega)]
        conv => whnf
        refine stC 1 rfl rfl (by first | (refine ⟨rfl, ?_⟩; repeat' (first | exact trivial | refine ⟨rfl, ?_⟩)) | simp [oneCells, Value.oneCell', setN]) ?_
        conv => whnf
        refine awp_drawQ hT hM 13 (by kernel_rfl) ?_
        conv => whnf
        refine ⟨_, (hr _ (fun a ha => by simp [ha])).h 4 _ rfl, ?_⟩
        conv => whnf
        refine ⟨_, (hr _ (fun a ha => by simp [ha])).h 1 _ rfl, ?_⟩
        conv => whnf
        repeat (refine ⟨_, wi (by omega), ?_⟩; conv => whnf)
        obtain ⟨gv, ov, ev, hcv⟩ := he0 ((j : Int) - B0.sp.length) (by omega) (by omega)
        subst ev
        refine ⟨gv, ov, rfl, by omega, ?_⟩
        conv => whnf
        refine ⟨_, rfl, hcv.mono (hle_sub fun a ha => by simp [ha]), ?_⟩
        conv => whnf
        refine stC 0 rfl rfl (by first | (refine ⟨rfl, ?_⟩; repeat' (first | exact trivial | refine ⟨rfl, ?_⟩)) | simp [oneCells, Value.oneCell', setN]) ?_
        conv => whnf
        have hjn : (j : Int) - B0.sp.length = ((j - B0.sp.length : Nat) : Int) := by omega
        have hle : (cur B j).q ≤ (getf B0.most ((j : Int) - B0.sp.length)).q := by rw [hc, ← hmost, hjn]; exact hK.owed _ (by omega)
        have hlok : okF (getf B0.most ((j : Int) - B0.sp.length)) := by rw [← hmost, hjn]; exact hB.mostk (by omega)
        generalize getf B0.most ((j : Int) - B0.sp.length) = lm at *
        refine awp_drawQ hT hM 17 (by kernel_rfl) ?_
        conv => whnf
        refine ldA 1 rfl rfl ?_
        conv => whnf
        refine ldA 0 rfl rfl ?_
        conv => whnf
        refine c_Compare (cur B j) lm hcur.I hlok.I _ _ ⟨Weak.refl _, ?_⟩
        conv => whnf
        refine ifC_neg (fun h => Rat.not_lt.2 hle ((cmpF_pos hcur hlok).1 h)) ?_
        conv => whnf
        refine ldA 1 rfl rfl ?_
        conv => whnf
        refine ⟨gl, 0, rfl, by omega, ?_⟩
        conv => whnf
        refine ⟨_, rfl, frCell (e := 24) (n := B0.lim.length + B0.most.length) (k := j) (l := Ls) (by simp) (by rw [hLs.len]; omega), ?_⟩
        conv => whnf
        have hlk : okF (getf Ls (j : Int)) := hLs.ok _ (getf_mem (by omega) (by rw [hLs.len]; omega))
        refine c_Compare (cur B j) (getf Ls j) hcur.I hlk.I _ _ ⟨Weak.refl _, ?_⟩
        conv => whnf
        refine ifC_neg (fun h => Rat.not_lt.2 (hLs.le j (by omega)) ((cmpF_neg hcur hlk).1 h)) ?_
        conv => whnf
        refine ldA 1 rfl rfl ?_
        conv => whnf
        refine ⟨gl, 0, rfl, by omega, ?_⟩
        conv => whnf
        refine stF 14 rfl j (cur B j) (by rw [hLs.len]; omega) rfl ?_
        conv => whnf
        repeat (refine ⟨_, wi (by omega), ?_⟩; conv => whnf)
        exact ⟨rfl, rfl, n' - 1, _, by omega, weakK 2 rfl, j + 1, Ls.set j (cur B j), rfl, by omega, hLs.set (by omega) hcur, rfl⟩
    · conv => whnf
      repeat (refine ⟨_, wi (by omega), ?_⟩; conv => whnf)
      exact ⟨rfl, rfl, n - 1, _, by omega, Weak.refl _, k + 1, a, b, c, d, B, Ls, rfl, by omega, hB, hV, hK, hlim, hmost, hLs, rfl⟩
  · conv => whnf
    refine c_lives _ _ ?_
    conv => whnf
    refine ⟨rfl, ?_⟩
    conv => whnf
    exact fin (Weak.refl _) (hR _)
end Go.Proofs.Ytpblnfldhicfgaa.A
