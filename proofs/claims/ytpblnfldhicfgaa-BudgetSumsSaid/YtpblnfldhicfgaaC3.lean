/- Scripts in memory; BudgetAsks. -/
import Derived.Test.YtpblnfldhicfgaaC2
namespace Go.Proofs.Ytpblnfldhicfgaa.A
open Go Go.RowKit
set_option linter.unusedVariables false
set_option linter.unusedSimpArgs false
set_option maxRecDepth 20000

theorem hle_sub {M : Nat → Option Obj} {L L' : List Atom} (h : ∀ a ∈ L, a ∈ L') : HLe ⟨M, L⟩ ⟨M, L'⟩ := fun g i v hv => by
  rcases hv with hv | ⟨b, hb, hv⟩
  · exact .inl hv
  · exact .inr ⟨b, h b hb, hv⟩
theorem acs_cells {cs : List (Value × Ac)} {k : Nat} (hk : k < cs.length) : ((acs cs).drop (k * 4)).take 4 = acv cs[k] := by
  induction cs generalizing k with
  | nil => simp at hk
  | cons a l ih =>
    cases k with
    | zero => simp [acs, acv]
    | succ k =>
      have := ih (k := k) (by simpa using hk)
      rw [show (k + 1) * 4 = 4 + k * 4 by omega, ← List.drop_drop]
      simp only [acs, List.flatMap_cons, acv, List.cons_append, List.nil_append, List.drop_succ_cons, List.drop_zero, List.getElem_cons_succ] at *
      simpa using this
theorem acsAt {H : Hp} {v : Value} {cs : List (Value × Ac)} (hr : Reads H v 4 (acs cs)) : ∃ p c, v = .slice p cs.length c ∧
    ∀ k (hk : k < cs.length), ∃ g o, p = some ⟨g, o, none⟩ ∧ CellsAt H g (o + k * 4) (acv cs[k]) := by
  obtain ⟨p, n, c, rfl, hnc, hl, hc⟩ := hr
  rw [acs_length] at hl
  have hn : n = cs.length := by omega
  subst hn
  refine ⟨p, c, rfl, fun k hk => ?_⟩
  obtain ⟨g, o, rfl, hcells⟩ := hc (by omega)
  have := acs_cells hk
  refine ⟨g, o, rfl, fun j v hj => ?_⟩
  rw [← this, List.getElem?_take] at hj
  split at hj
  · rw [List.getElem?_drop] at hj
    rw [Nat.add_assoc]; exact hcells _ _ hj
  · cases hj
/-- An act whose numbers are in bounds. -/
structure acOk (x : Ac) : Prop where
  ps : ∀ y ∈ x.ps, I64 y
  n : x.ps.length ≤ 6
  c : okF x.cost ∨ x.cost.I
theorem acOk.I {x : Ac} (h : acOk x) : x.cost.I := h.c.elim (fun h => h.I) id
theorem scAct_ok (l : List Int) {n : Int} (hn : 0 ≤ n ∧ n ≤ 1000) (i : Nat) : acOk (scAct l n i) := by
  refine ⟨fun y hy => ?_, ?_, .inl (costF_ok _)⟩
  · simp only [scAct, scPs, List.mem_map] at hy
    obtain ⟨k, _, rfl⟩ := hy
    have := scP_bd l hn.1 i k
    omega
  · show (scPs l n i (scK l i)).length ≤ 6
    rw [scPs_length]; have := scK_bd l i; omega
theorem script_ok {l : List Int} {n : Int} (hn : 0 ≤ n ∧ n ≤ 1000) : ∀ x ∈ script l n, acOk x := by
  intro x hx
  simp only [script, scriptN, List.mem_map] at hx
  obtain ⟨i, _, rfl⟩ := hx
  exact scAct_ok l hn i
theorem script_length (l : List Int) (n : Int) : (script l n).length ≤ 20 := by simp [script, scriptN, scN]; omega
/-- A script in memory. -/
structure Scr (cs : List (Value × Ac)) : Prop where
  row : ∀ c ∈ cs, RowVal c.1 1 (ints c.2.ps)
  ok : ∀ c ∈ cs, acOk c.2
  len : cs.length ≤ 100
def scA (v : Value) (cs : List (Value × Ac)) : List Atom := .row v 50 4 (acs cs) :: acR cs
theorem acR_append (l m : List (Value × Ac)) : acR (l ++ m) = acR l ++ acR m := by simp [acR]
theorem Scr.ints {cs : List (Value × Ac)} (h : Scr cs) {k : Nat} (hk : k < cs.length) {H : Hp} (hm : ∀ a ∈ acR cs, a ∈ H.L) : IntsAt H cs[k].1 cs[k].2.ps := by
  have hmem := List.getElem_mem hk
  have hx := h.ok _ hmem
  exact ⟨readsRow (e := 3) (hm _ (List.mem_map.2 ⟨_, hmem, rfl⟩)) (h.row _ hmem), hx.ps, by have := hx.n; omega⟩
theorem permBegin {X B R L : List Atom} : (X ++ (B ++ (R ++ L))).Perm (B ++ (R ++ (X ++ L))) :=
  (List.perm_append_comm_assoc X B (R ++ L)).trans (List.Perm.append_left B (List.perm_append_comm_assoc X R L))
theorem newB_lim (p : List Fr) (o : List Int) (q : List Fr) : (newB p o q).lim = p := rfl
theorem begB_n (l : List Int) : (begB l).lim.length = bgN l := costL_length _ _ _ _
theorem begB_m (l : List Int) : (begB l).most.length = bgM l := costL_length _ _ _ _
theorem map_ok {cs : List (Value × Ac)} {l : List Ac} (h : cs.map (·.2) = l) (hl : ∀ x ∈ l, acOk x) : ∀ c ∈ cs, acOk c.2 := fun c hc => hl _ (h ▸ List.mem_map.2 ⟨c, hc, rfl⟩)

theorem permAsks {r x : Atom} {A B R L : List Atom} : (r :: (A ++ (B ++ (R ++ (x :: L))))).Perm ((x :: (A ++ (B ++ (R ++ L)))) ++ [r]) := by
  have h1 : (A ++ (B ++ (R ++ (x :: L)))).Perm (x :: (A ++ (B ++ (R ++ L)))) := by
    have : A ++ (B ++ (R ++ (x :: L))) = (A ++ B ++ R) ++ x :: L := by simp
    rw [this]
    exact List.perm_middle.trans (by simp)
  exact (List.Perm.cons r h1).trans (List.perm_append_comm (l₁ := [r]))
theorem permNew {x y z : Atom} {A Y : List Atom} : ([x, y, z] ++ (A ++ Y)).Perm ((A ++ [z, x, y]) ++ Y) := by
  rw [List.append_assoc]
  refine (List.perm_append_comm_assoc [x, y, z] A Y).trans (List.Perm.append_left _ ?_)
  exact List.Perm.append_right _ (List.perm_append_comm (l₁ := [x, y]) (l₂ := [z]))
theorem permMid {B R X : List Atom} : (B ++ (R ++ X)).Perm (X ++ (B ++ R)) := by
  rw [← List.append_assoc]; exact List.perm_append_comm
theorem permMid2 {B R X : List Atom} : (X ++ (B ++ R)).Perm (R ++ (B ++ X)) :=
  (List.perm_append_comm (l₁ := X)).trans (by rw [List.append_assoc]; exact (List.perm_append_comm_assoc B R X))
set_option maxHeartbeats 4000000 in
theorem c_BudgetAsks (v vs' vp : Value) (l s p : List Int) (cost : Fr) (H : Hp) (hv : IntsAt H v l) (hs : IntsAt H vs' s) (hp : IntsAt H vp p) (hcost : cost.I) (R : Ending → Hp → Prop) (hR : ∀ H', R (.returned (.bool true)) H') :
    ACalls Try.prog 4 [v, vs', vp, cost.v] H R := by
  refine acalls_code hT Try.func4 rfl rfl ?_
  conv => whnf
  intro g7
  conv => whnf
  refine c_begun v l _ (hv.mono (HLe.cons _ _)) _ ?_
  intro g a b c d g' a' b' c' d' e' f' hV hV'
  have hB := begB_ok l
  have hn := begB_n l
  have bn := bgN_bd l
  have e2 : (begB l).sp.length = bgN l := by rw [hB.l1, hn]
  generalize begB l = B at *
  conv => whnf
  have hle1 : HLe H ⟨H.M, bkA g a b c d B ++ (rbA g' a' b' c' d' e' f' B ++ (frA g7 cost :: H.L))⟩ := (HLe.cons _ (frA g7 cost)).trans ((hle_pre (rbA g' a' b' c' d' e' f' B) _).trans (hle_pre (bkA g a b c d B) _))
  obtain ⟨pb, cb, rfl, _⟩ := frsAt (rbAt (M := H.M) (L := []) (g := g') hV').b
  refine ldS 5 rfl rfl ?_
  conv => whnf
  refine c_Script vs' s B.sp.length _ (hs.mono hle1) (by omega) _ ?_
  intro v' cs hcs hrow hv'
  have hok : ∀ c ∈ cs, acOk c.2 := map_ok hcs (script_ok (by omega))
  have hlen : cs.length ≤ 20 := by
    have := congrArg List.length hcs
    rw [List.length_map] at this
    rw [this]; exact script_length _ _
  obtain ⟨v1, v2, v3, rfl⟩ := hv'.slice
  conv => whnf
  refine awp_draw hT hM 13 [1, 2, 8, 9, 0, 3, 4, 5, 6, 7, 10, 11, 12] (by kernel_rfl) H.M (frA g7 cost :: (acR cs ++ (bkA g a b c d B ++ (rbA g' a' (.slice pb B.sp.length cb) c' d' e' f' B ++ H.L)))) [.row (.slice v1 v2 v3) 50 4 (acs cs)]
    (Weak.perm permAsks) ?_
  have hleS : HLe H ⟨H.M, frA g7 cost :: (acR cs ++ (bkA g a b c d B ++ (rbA g' a' (.slice pb B.sp.length cb) c' d' e' f' B ++ H.L)))⟩ := hle_sub (fun a ha => by simp [ha])
  have hpS := hp.mono hleS
  conv => whnf
  refine c_Take vp p 6 _ (hpS.mono (hle_app _ _ _)) (by omega) _ ?_
  intro p1 r1
  refine ⟨_, _ :: _, weakMid, fun _ _ h => h, ?_⟩
  obtain ⟨p11, p12, p13, rfl⟩ := r1.slice
  conv => whnf
  refine c_Take vp p 1 _ (hpS.mono (hle_app _ _ _)) (by omega) _ ?_
  intro p3 r3
  refine ⟨_, _ :: _, weakMid, fun _ _ h => h, ?_⟩
  obtain ⟨p31, p32, p33, rfl⟩ := r3.slice
  conv => whnf
  refine ldA 0 rfl rfl ?_
  conv => whnf
  intro g2
  conv => whnf
  refine ldA 0 rfl rfl ?_
  conv => whnf
  intro ga
  conv => whnf
  obtain ⟨x1, ex1⟩ : ∃ x1 : Ac, x1 = ⟨false, p.take 6, cost⟩ := ⟨_, rfl⟩
  obtain ⟨x2, ex2⟩ : ∃ x2 : Ac, x2 = ⟨false, [0], cost⟩ := ⟨_, rfl⟩
  obtain ⟨x3, ex3⟩ : ∃ x3 : Ac, x3 = ⟨true, p.take 1, ⟨0, 0⟩⟩ := ⟨_, rfl⟩
  have hx1 : acOk x1 := by rw [ex1]; exact ⟨fun y hy => hp.fit y (List.mem_of_mem_take hy), by simp; omega, .inr hcost⟩
  have hx2 : acOk x2 := by rw [ex2]; exact ⟨fun y hy => by simp at hy; omega, by simp, .inr hcost⟩
  have hx3 : acOk x3 := by rw [ex3]; exact ⟨fun y hy => hp.fit y (List.mem_of_mem_take hy), by simp; omega, .inl (.inl ⟨rfl, rfl⟩)⟩
  have hS : Scr (cs ++ [(.slice p11 p12 p13, x1), (.slice (some ⟨g2, 0, none⟩) 1 1, x2), (.slice p31 p32 p33, x3)]) := by
    refine ⟨fun c hc => ?_, fun c hc => ?_, by simp; omega⟩
    · rcases List.mem_append.1 hc with h | h
      · exact hrow c h
      · simp only [List.mem_cons, List.not_mem_nil, or_false] at h
        rcases h with rfl | rfl | rfl
        · rw [ex1]; exact r1
        · rw [ex2]; exact rowNew rfl (by omega)
        · rw [ex3]; exact r3
    · rcases List.mem_append.1 hc with h | h
      · exact hok c h
      · simp only [List.mem_cons, List.not_mem_nil, or_false] at h
        rcases h with rfl | rfl | rfl
        · exact hx1
        · exact hx2
        · exact hx3
  refine ⟨H.M, _ ++ [.row (.slice (some ⟨g2, 0, none⟩) 1 1) 3 1 (ints [0]), .row (.slice p31 p32 p33) 3 1 (ints (p.take 1)), .row (.slice p11 p12 p13) 3 1 (ints (p.take 6))], acs cs, acs [(.slice p11 p12 p13, x1), (.slice (some ⟨g2, 0, none⟩) 1 1, x2), (.slice p31 p32 p33, x3)], ?_, ?_,
    (Weak.perm List.perm_append_comm).trans ((weakPull [4] rfl).trans ((weakDel 1 rfl).trans (Weak.perm (List.Perm.cons _ (List.perm_append_comm (l₁ := [_, _, _])))))), ?_, ?_, ?_⟩
  · refine readsRow (e := 50) (v := .slice (some ⟨ga, 0, none⟩) 3 3) ?_ (rowNew (by rw [acs_length]; rfl) (by omega))
    rw [ex1, ex2, ex3]
    exact List.mem_append_right _ List.mem_cons_self
  · rw [ex1, ex2, ex3]
    simp [acs, acv, Value.oneCell']
  · rw [acs_length, acs_length]; simp; omega
  · rw [acs_length, acs_length]; simp [maxLen]; omega
  rw [← acs_append]
  intro v'' hv''
  refine ⟨_, _ :: _, weakMid, fun _ _ h => h, ?_⟩
  conv => whnf
  refine ⟨_, Weak.perm List.perm_append_comm, ?_⟩
  have hfin : Weak ⟨H.M, .row v'' 50 4 (acs (cs ++ [(.slice p11 p12 p13, x1), (.slice (some ⟨g2, 0, none⟩) 1 1, x2), (.slice p31 p32 p33, x3)])) :: .row (.slice (some ⟨g2, 0, none⟩) 1 1) 3 1 (ints [0]) :: .row (.slice p31 p32 p33) 3 1 (ints (p.take 1)) :: .row (.slice p11 p12 p13) 3 1 (ints (p.take 6)) ::
      frA g7 cost :: (acR cs ++ (bkA g a b c d B ++ (rbA g' a' (.slice pb B.sp.length cb) c' d' e' f' B ++ H.L)))⟩
      ⟨H.M, bkA g a b c d B ++ (rbA g' a' (.slice pb B.sp.length cb) c' d' e' f' B ++ (scA v'' (cs ++ [(.slice p11 p12 p13, x1), (.slice (some ⟨g2, 0, none⟩) 1 1, x2), (.slice p31 p32 p33, x3)]) ++ H.L))⟩ := by
    refine (weakDel 4 rfl).trans ((Weak.perm ?_).trans (Weak.perm permBegin))
    rw [scA, acR_append, show acR [(.slice p11 p12 p13, x1), (.slice (some ⟨g2, 0, none⟩) 1 1, x2), (.slice p31 p32 p33, x3)] = [.row (.slice p11 p12 p13) 3 1 (ints (p.take 6)), .row (.slice (some ⟨g2, 0, none⟩) 1 1) 3 1 (ints [0]), .row (.slice p31 p32 p33) 3 1 (ints (p.take 1))] by rw [ex1, ex2, ex3]; rfl]
    exact List.Perm.cons _ permNew
  generalize cs ++ [(Value.slice p11 p12 p13, x1), (Value.slice (some ⟨g2, 0, none⟩) 1 1, x2), (Value.slice p31 p32 p33, x3)] = ds at *
  obtain ⟨v4, v5, rfl, _⟩ := acsAt (H := ⟨H.M, [.row v'' 50 4 (acs ds)]⟩) (readsRow List.mem_cons_self hv'')
  conv => whnf
  refine awp_loopL hT 66 [9, 10, 11, 12] (fun n vs Hx => ∃ (k : Nat) (a b c d a' b' c' d' e' f' : Value) (B : Bk), vs = [ptr g, ptr g', .slice v4 ds.length v5, .int .i64 k] ∧ n + k = ds.length ∧ okB B ∧ BkV a b c d B ∧ RbV a' b' c' d' e' f' B ∧
    Hx = ⟨H.M, bkA g a b c d B ++ (rbA g' a' b' c' d' e' f' B ++ (scA (.slice v4 ds.length v5) ds ++ H.L))⟩) ds.length rfl rfl hfin ⟨0, a, b, c, d, a', _, c', d', e', f', B, rfl, rfl, hB, hV, hV', rfl⟩ ?_
  clear hV hV' hB hfin
  rintro n u vs Hx ⟨k, a, b, c, d, a', b', c', d', e', f', B, rfl, hk, hB, hV, hV', rfl⟩
  conv => whnf
  have hSl := hS.len
  refine ifC_dec (fun h1 => ?_) (fun h1 => ?_)
  · have hkd : k < ds.length := by omega
    conv => whnf
    refine awp_draw hT hM 19 (List.range 19) (by kernel_rfl) H.M (scA (.slice v4 ds.length v5) ds ++ H.L) (bkA g a b c d B ++ rbA g' a' b' c' d' e' f' B) (Weak.perm permMid) ?_
    have hread : Reads ⟨H.M, scA (.slice v4 ds.length v5) ds ++ H.L⟩ (.slice v4 ds.length v5) 4 (acs ds) := readsRow (e := 50) (by simp [scA]) hv''
    obtain ⟨q1, q2, eq, hcell⟩ := acsAt hread
    obtain ⟨gq, oq, e3, hcel⟩ := hcell k hkd
    clear hcell
    cases eq
    subst e3
    have hokx := hS.ok _ (List.getElem_mem hkd)
    have hpx : ∀ Y, IntsAt ⟨H.M, Y ++ (scA (.slice (some ⟨gq, oq, none⟩) ds.length v5) ds ++ H.L)⟩ ds[k].1 ds[k].2.ps := fun Y => hS.ints hkd (fun a ha => by simp [scA, ha])
    have hx := hokx.I
    have hnx := hokx.n
    conv => whnf
    refine ⟨gq, oq, rfl, by omega, ?_⟩
    conv => whnf
    refine ⟨_, rfl, hcel, ?_⟩
    conv => whnf
    refine ACalls.weak (Weak.perm permMid.symm) (c_act g a b c d B ds[k].1 ds[k].2 H.M _ hB hV ?_ (by omega) hx _ fun a b c d hV => ?_)
    · rw [← List.append_assoc]; exact hpx _
    refine ⟨_, bkA g a b c d _ ++ rbA g' a' b' c' d' e' f' B, Weak.perm permMid, fun _ _ h => h, ?_⟩
    conv => whnf
    refine ⟨gq, oq, rfl, by omega, ?_⟩
    conv => whnf
    refine ⟨_, rfl, hcel, ?_⟩
    conv => whnf
    refine ACalls.weak (Weak.perm permMid2) (c_model g' a' b' c' d' e' f' B ds[k].1 ds[k].2 H.M _ hB hV' ?_ (by omega) hx _ fun b' f' hV' => ?_)
    · rw [← List.append_assoc]; exact hpx _
    refine ⟨_, bkA g a b c d _ ++ rbA g' a' b' c' d' e' f' _, Weak.perm permMid2.symm, fun _ _ h => h, ?_⟩
    have hB := hB.act ds[k].2
    generalize (actB B ds[k].2).2 = e at *
    generalize (actB B ds[k].2).1 = B at *
    conv => whnf
    refine ifC_neg (by simp) ?_
    conv => whnf
    refine c_agrees g a b c d g' a' b' c' d' e' f' B _ hB ((bkAt (L := []) hV).mono (hle_sub fun a ha => by simp at ha; simp [ha])) ((rbAt (L := []) hV').mono (hle_sub fun a ha => by simp at ha; simp [ha])) _ ?_
    refine ⟨_, _, Weak.refl _, fun _ _ h => h, ?_⟩
    conv => whnf
    refine ⟨_, Weak.perm permMid.symm, ?_⟩
    conv => whnf
    repeat (refine ⟨_, wi (by omega), ?_⟩; conv => whnf)
    exact ⟨rfl, rfl, n - 1, _, by omega, Weak.refl _, k + 1, a, b, c, d, a', b', c', d', e', f', B, rfl, by omega, hB, hV, hV', rfl⟩
  · conv => whnf
    refine c_lives _ _ ?_
    conv => whnf
    refine ⟨rfl, ?_⟩
    conv => whnf
    exact fin (Weak.refl _) (hR _)
end Go.Proofs.Ytpblnfldhicfgaa.A
