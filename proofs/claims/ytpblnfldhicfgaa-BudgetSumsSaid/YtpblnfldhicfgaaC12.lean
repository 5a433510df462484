/- BudgetSums. -/
import Derived.Test.YtpblnfldhicfgaaC11
namespace Go.Proofs.Ytpblnfldhicfgaa.A
open Go Go.RowKit
set_option linter.unusedVariables false
set_option linter.unusedSimpArgs false
set_option maxRecDepth 20000

structure Sums (N : Int) (B : Bk) (all : Fr) (Ow : List Fr) : Prop where
  g : Grid N all
  all : all.q = tot B
  len : Ow.length = B.lim.length
  own : ∀ k : Nat, k < B.lim.length → Grid N (getf Ow k) ∧ (getf Ow k).q = (getf B.sp k).q
theorem Sums.mono {N M : Int} {B : Bk} {all : Fr} {Ow : List Fr} (h : Sums N B all Ow) (hm : N ≤ M) : Sums M B all Ow :=
  ⟨h.g.mono hm, h.all, h.len, fun k hk => ⟨(h.own k hk).1.mono hm, (h.own k hk).2⟩⟩
/-- While the persons of an ask are gone through. -/
structure Some' (N : Int) (B : Bk) (c : Fr) (l : List Int) (Ow : List Fr) : Prop where
  len : Ow.length = B.lim.length
  own : ∀ k : Nat, k < B.lim.length → Grid N (getf Ow k) ∧ (getf Ow k).q = (getf B.sp k).q + if (k : Int) ∈ l then c.q else 0
/-- A store of a fraction into a row that changes. -/
theorem stFR {S L : List Atom} {l : List Fr} {Φ : List Atom → Prop} {g o : Nat} {p : Option Addr} {n c : Nat} (i : Nat) (h : L[i]? = some (.row (.slice p n c) 24 2 (frs l))) (k : Nat) (a : Fr) (hk : k < l.length)
    (hp : p = some ⟨g, o, none⟩) (hΦ : Φ (S ++ L.set i (.row (.slice p n c) 24 2 (frs (l.set k a))))) : oneCells a.cs ∧ ∃ L', StoreTo (S ++ L) g (o + k * 2) a.cs L' ∧ Φ L' := by
  refine stF (S.length + i) (l := l) (p := p) (n := n) (c := c) ?_ k a hk hp ?_
  · rw [List.getElem?_append_right (by omega), Nat.add_sub_cancel_left]; exact h
  · rw [List.set_append_right _ _ (by omega), Nat.add_sub_cancel_left]; exact hΦ
theorem Grid.of_q {N : Int} {a b : Fr} (ha : okF a) (hq : a.q = b.q) (h : Grid N b) : Grid N a := ⟨ha, by rw [hq]; exact h.n⟩
theorem HLe.cell {H H' : Hp} {g i : Nat} {v : Value} (h : HLe H H') (hc : H.cell g i v) : H'.cell g i v := h g i v hc
theorem Sums.rem {N : Int} {B : Bk} {all : Fr} {Ow : List Fr} (h : Sums N B all Ow) (p : Int) : Sums N (remB B p).1 all Ow := by
  unfold remB; split
  · exact h
  · split
    · exact h
    · exact ⟨h.g, h.all, h.len, h.own⟩
theorem beg_sums (l : List Int) : Sums 0 (begB l) ⟨0, 0⟩ (List.replicate (begB l).lim.length ⟨0, 0⟩) := by
  refine ⟨Grid.zero (by omega), ?_, by simp, fun k hk => ?_⟩
  · unfold tot
    rw [q_zero, sumQ_congr (g := fun _ => 0) (fun k _ => ?_), sumQ_zero]
    show (getf (List.replicate (bgQ l).length ⟨0, 0⟩) k).q = 0
    rw [getf_rep, q_zero]
  · rw [getf_rep]
    refine ⟨Grid.zero (by omega), ?_⟩
    show _ = (getf (List.replicate (bgP l).length ⟨0, 0⟩) k).q
    rw [getf_rep]

set_option maxHeartbeats 8000000 in
theorem c_BudgetSums (v vs' : Value) (l s : List Int) (H : Hp) (hv : IntsAt H v l) (hs : IntsAt H vs' s) (R : Ending → Hp → Prop) (hR : ∀ H', R (.returned (.bool true)) H') :
    ACalls Try.prog 6 [v, vs'] H R := by
  refine acalls_code hT Try.func6 rfl rfl ?_
  conv => whnf
  refine c_begun v l _ hv _ ?_
  intro g a b c d g' a' b' c' d' e' f' hV hV'
  have hB0 := begB_ok l
  have hn := begB_n l
  have hm := begB_m l
  have bn := bgN_bd l
  have bm := bgM_bd l
  have hG := beg_grid l
  have hSu := beg_sums l
  generalize begB l = B0 at *
  have l1 := hB0.l1; have l4 := hB0.l4
  conv => whnf
  have hle1 : HLe H ⟨H.M, bkA g a b c d B0 ++ (rbA g' a' b' c' d' e' f' B0 ++ H.L)⟩ := (hle_pre (rbA g' a' b' c' d' e' f' B0) _).trans (hle_pre (bkA g a b c d B0) _)
  have hr0 : RbAt ⟨H.M, rbA g' a' b' c' d' e' f' B0⟩ g' a' b' c' d' e' f' B0 := rbIn hV' fun a ha => ha
  obtain ⟨pb, cb, rfl, _⟩ := frsAt hr0.b
  obtain ⟨pf, cf, rfl, _⟩ := frsAt hr0.f
  have hr := fun (L : List Atom) h => hr0.mono (hle_sub (L' := L) h)
  refine ⟨_, (hr _ (fun a ha => by simp [ha])).h 1 _ rfl, ?_⟩
  conv => whnf
  refine c_Script vs' s B0.sp.length _ (hs.mono hle1) (by omega) _ ?_
  intro v' cs hcs hrow hv'
  have hlen : cs.length ≤ 20 := by
    have := congrArg List.length hcs
    rw [List.length_map] at this
    rw [this]; exact script_length _ _
  have hS : Scr cs := ⟨hrow, map_ok hcs (script_ok (by omega)), by omega⟩
  have hScr : ∀ c ∈ cs, acScr c.2 := fun c hc => script_scr _ (hcs ▸ List.mem_map.2 ⟨c, hc, rfl⟩)
  obtain ⟨v4, v5, rfl, _⟩ := acsAt (H := ⟨H.M, [.row v' 50 4 (acs cs)]⟩) (readsRow List.mem_cons_self hv')
  conv => whnf
  intro ga
  conv => whnf
  refine ⟨_, (hr _ (fun a ha => by simp [ha, scA])).h 1 _ rfl, ?_⟩
  conv => whnf
  refine ⟨B0.sp.length, rfl, rfl, by omega, by simp [maxLen]; omega, fun go => ?_⟩
  rw [repZ_frs]
  conv => whnf
  rw [l1] at *
  obtain ⟨n0, en0⟩ : ∃ n0, n0 = B0.lim.length := ⟨_, rfl⟩
  refine awp_loopL hT 178 [5, 6, 7, 8, 9, 10] (fun n vs Hx => ∃ (k : Nat) (a b c d : Value) (B : Bk) (all : Fr) (Ow : List Fr), vs = [ptr g, ptr g', .slice v4 cs.length v5, ptr ga, .slice (some ⟨go, 0, none⟩) B0.lim.length B0.lim.length, .int .i64 k] ∧ n + k = cs.length ∧ okB B ∧ BkV a b c d B ∧ GridB (432 * k) B ∧ B.lim = B0.lim ∧ B.most = B0.most ∧ Sums (432 * k) B all Ow ∧
    Hx = ⟨H.M, bkA g a b c d B ++ (rbA g' a' (.slice pb B0.lim.length cb) c' d' e' (.slice pf B0.owed.length cf) B0 ++ (frA ga all :: .row (.slice (some ⟨go, 0, none⟩) B0.lim.length B0.lim.length) 24 2 (frs Ow) :: (scA (.slice v4 cs.length v5) cs ++ H.L)))⟩) cs.length rfl rfl
    ?_ ⟨0, a, b, c, d, B0, ⟨0, 0⟩, List.replicate B0.lim.length ⟨0, 0⟩, rfl, rfl, hB0, hV, hG.mono (by omega), rfl, rfl, hSu.mono (by omega), rfl⟩ ?_
  · exact weakBlk [[_], [_], scA (.slice v4 cs.length v5) cs, bkA g a b c d B0, rbA g' a' (.slice pb B0.lim.length cb) c' d' e' (.slice pf B0.owed.length cf) B0] [3, 3, 1, 0, 0] H.L rfl
  clear hV hV' hB0 hG hv hs hSu
  rintro n u vs Hx ⟨k, a, b, c, d, B, all, Ow, rfl, hk, hB, hV, hG, hlim, hmost, hSu, rfl⟩
  have hl2 : B.lim.length = B0.lim.length := by rw [hlim]
  have hm2 : B.most.length = B0.most.length := by rw [hmost]
  conv => whnf
  refine ifC_dec (fun h1 => ?_) (fun h1 => ?_)
  · have hkd : k < cs.length := by omega
    have hread : ∀ L, (∀ a ∈ scA (.slice v4 cs.length v5) cs, a ∈ L) → Reads ⟨H.M, L⟩ (.slice v4 cs.length v5) 4 (acs cs) := fun L h => readsRow (e := 50) (h _ (by simp [scA])) hv'
    obtain ⟨q1, q2, eq, hcell⟩ := acsAt (hread (scA (.slice v4 cs.length v5) cs) (fun a ha => ha))
    obtain ⟨gq, oq, e3, kcel⟩ := hcell k hkd
    cases eq
    subst e3
    clear hcell hread
    have hcel := fun (L : List Atom) h => kcel.mono (hle_sub (L' := L) h)
    have hokx := hS.ok _ (List.getElem_mem hkd)
    have hsx := hScr _ (List.getElem_mem hkd)
    have hix := fun (L : List Atom) (h : ∀ a ∈ scA (.slice (some ⟨gq, oq, none⟩) cs.length v5) cs, a ∈ L) => hS.ints hkd (H := ⟨H.M, L⟩) fun a ha => h a (by simp [scA, ha])
    generalize hxk : cs[k] = x at *
    obtain ⟨pv, x⟩ := x
    simp only at hokx hsx hix
    obtain ⟨p, cp, rfl, hlc, hc0⟩ := (hix _ (fun a ha => ha)).open
    have hnx := hsx.n
    have okc := hsx.c.ok.1
    conv => whnf
    refine ⟨gq, oq, rfl, by omega, ?_⟩
    conv => whnf
    refine ⟨_, rfl, hcel _ (fun a ha => by simp [ha]), ?_⟩
    conv => whnf
    refine c_act g a b c d B (.slice p x.ps.length cp) x H.M _ hB hV (hix _ (fun a ha => by simp [ha])) (by omega) okc.I _ fun a2 b2 c2 d2 hV2 => ?_
    have hkp := act_kept (x := x) hB
    have hB' := hB.act x
    have hG' := act_grid hB hG hsx (by omega)
    have hlim' := hkp.2.lim.trans hlim
    have hmost' := hkp.2.most.trans hmost
    have hno := act_no (x := x) hB
    refine ifC_dec (fun he => ?_) (fun he => ?_)
    · have hBB := hno he
      conv => whnf
      repeat (refine ⟨_, wi (by omega), ?_⟩; conv => whnf)
      exact ⟨rfl, rfl, n - 1, _, by omega, Weak.refl _, k + 1, a2, b2, c2, d2, _, all, Ow, rfl, by omega, hB', hV2, hG'.mono (by omega), hlim', hmost', (by rw [hBB]; exact hSu.mono (by omega)), rfl⟩
    · have he : (actB B x).2 = 0 := Classical.not_not.1 he
      conv => whnf
      refine ⟨gq, oq, rfl, by omega, ?_⟩
      conv => whnf
      refine ⟨_, hcel _ (fun a ha => by simp [ha]) 0 _ rfl, ?_⟩
      conv => whnf
      refine ifC_cases (fun hrem => ?_) (fun hrem => ?_)
      · have hBB : actB B x = remB B (geti x.ps 0) := by
          unfold actB at *
          by_cases h0 : 0 < x.ps.length
          · rw [if_pos ⟨hrem, h0⟩]
          · rw [if_neg (fun h => h0 h.2)] at he
            unfold askB at he
            rw [if_pos (.inl (by omega))] at he
            simp at he
        conv => whnf
        repeat (refine ⟨_, wi (by omega), ?_⟩; conv => whnf)
        exact ⟨rfl, rfl, n - 1, _, by omega, Weak.refl _, k + 1, a2, b2, c2, d2, _, all, Ow, rfl, by omega, hB', hV2, hG'.mono (by omega), hlim', hmost', (by rw [hBB]; exact (hSu.mono (by omega)).rem _), rfl⟩
      · have hBB : actB B x = askB B x.ps x.cost := by
          have hrem' : ¬ x.rem = true := by simpa using hrem
          unfold actB; rw [if_neg (fun h => hrem' h.1)]
        rw [hBB] at hB' hV2 hG' hlim' hmost' he
        rw [hBB]
        have hq := (askQ hB hG hsx.c hnx (by omega) (by omega)).1 he
        have hd := askedQ hB hG hsx.c hnx (by omega) (by omega) he
        have hin := knE_in hq.kn
        have hnd := (knE_nodup hq.kn).1
        have htot := asked_tot hB hq hd hnx
        obtain ⟨hgall, hqall⟩ := hSu.g.add hsx.c.grid (by omega)
        have hfit := hSu.g.fit hsx.c.grid (by omega)
        rw [he]
        generalize (askB B x.ps x.cost).1 = B' at *
        conv => whnf
        refine awp_draw hT hM 12 (List.range 12) (by kernel_rfl) H.M _ [] (by rw [List.append_nil]; exact Weak.refl _) ?_
        conv => whnf
        refine ldA 12 rfl rfl ?_
        conv => whnf
        refine ⟨gq, oq, rfl, by omega, ?_⟩
        conv => whnf
        refine ⟨_, rfl, acv_cost (hcel _ (fun a ha => by simp [ha])), ?_⟩
        conv => whnf
        refine c_Add all x.cost hSu.g.ok.I okc.I _ _ ?_
        rw [hfit]
        refine ⟨_, _, Weak.refl _, fun _ _ h => h, ?_⟩
        conv => whnf
        intro g11
        conv => whnf
        refine stR 0 rfl rfl (by first | (refine ⟨rfl, ?_⟩; repeat' (first | exact trivial | refine ⟨rfl, ?_⟩)) | simp [oneCells, Value.oneCell', setN]) ?_
        conv => whnf
        refine ⟨_, _, Weak.refl _, fun _ _ h => h, ?_⟩
        conv => whnf
        refine ⟨_, Weak.perm List.perm_append_comm, ?_⟩
        conv => whnf
        refine ldA 0 rfl rfl ?_
        conv => whnf
        refine stC 13 rfl rfl (by first | (refine ⟨rfl, ?_⟩; repeat' (first | exact trivial | refine ⟨rfl, ?_⟩)) | simp [oneCells, Value.oneCell', setN]) ?_
        conv => whnf
        obtain ⟨sm, esm⟩ : ∃ sm, sm = (addF all x.cost).1 := ⟨_, rfl⟩
        rw [← esm] at hgall hqall
        refine awp_loopL hT 178 [5, 6, 7, 8, 9, 10, 13] (fun m vs Hx => ∃ (j : Nat) (Ow : List Fr), vs = [ptr g, ptr g', .slice (some ⟨gq, oq, none⟩) cs.length v5, ptr ga, .slice (some ⟨go, 0, none⟩) B0.lim.length B0.lim.length, .int .i64 k, .int .i64 j] ∧ m + j = x.ps.length ∧ Some' (432 * k + 432) B x.cost (x.ps.take j) Ow ∧
          Hx = ⟨H.M, bkA g a2 b2 c2 d2 B' ++ (rbA g' a' (.slice pb B0.lim.length cb) c' d' e' (.slice pf B0.owed.length cf) B0 ++ (frA ga sm :: .row (.slice (some ⟨go, 0, none⟩) B0.lim.length B0.lim.length) 24 2 (frs Ow) :: (scA (.slice (some ⟨gq, oq, none⟩) cs.length v5) cs ++ H.L)))⟩) x.ps.length rfl rfl
          (by rw [esm]; exact weakK 1 rfl) ⟨0, Ow, rfl, rfl, ⟨hSu.len, fun k hk => ⟨(hSu.own k hk).1.mono (by omega), by rw [(hSu.own k hk).2]; simp [Rat.add_zero]⟩⟩, rfl⟩ ?_
        have hSall := hSu.all
        clear hSu
        rintro m u' vs' Hx' ⟨j, Ow, rfl, hj, hI, rfl⟩
        conv => whnf
        refine ⟨gq, oq, rfl, by omega, ?_⟩
        conv => whnf
        refine ⟨_, hcel _ (fun a ha => by simp [ha]) 1 _ rfl, ?_⟩
        conv => whnf
        refine ifC_dec (fun h4 => ?_) (fun h4 => ?_)
        · have hjl : j < x.ps.length := by omega
          obtain ⟨gp, op, rfl, hcj⟩ := hc0 j (by omega) (by omega)
          have hmem : geti x.ps j ∈ x.ps := geti_mem (by omega) (by omega)
          have hgj : geti x.ps j = x.ps[j] := geti_at hjl
          have hqin := hin _ hmem
          have hnot : geti x.ps j ∉ x.ps.take j := by
            rw [hgj]
            intro hm
            obtain ⟨i, hi, e⟩ := List.getElem_of_mem hm
            rw [List.getElem_take] at e
            have := (List.getElem_inj hnd).1 e
            simp at hi
            omega
          have htk : x.ps.take (j + 1) = x.ps.take j ++ [geti x.ps j] := by rw [List.take_succ_eq_append_getElem hjl, hgj]
          obtain ⟨qn, eqn⟩ : ∃ qn : Nat, geti x.ps j = qn := ⟨(geti x.ps j).toNat, by omega⟩
          rw [eqn] at hcj hqin hnot htk
          conv => whnf
          refine ⟨gq, oq, rfl, by omega, ?_⟩
          conv => whnf
          refine ⟨_, hcel _ (fun a ha => by simp [ha]) 1 _ rfl, ?_⟩
          conv => whnf
          refine ⟨gp, op, rfl, by omega, ?_⟩
          conv => whnf
          refine ⟨_, HLe.cell (hle_sub fun a ha => by simp [ha]) hcj, ?_⟩
          conv => whnf
          refine ifC_neg (by omega) ?_
          conv => whnf
          refine AWp.weak (weakBlk [bkA g a2 b2 c2 d2 B', rbA g' a' (.slice pb B0.lim.length cb) c' d' e' (.slice pf B0.owed.length cf) B0, [frA ga sm], [.row (.slice (some ⟨go, 0, none⟩) B0.lim.length B0.lim.length) 24 2 (frs Ow)]] [3] (scA (.slice (some ⟨gq, oq, none⟩) cs.length v5) cs ++ H.L)
            (L := [.row (.slice (some ⟨go, 0, none⟩) B0.lim.length B0.lim.length) 24 2 (frs Ow)] ++ (bkA g a2 b2 c2 d2 B' ++ (rbA g' a' (.slice pb B0.lim.length cb) c' d' e' (.slice pf B0.owed.length cf) B0 ++ ([frA ga sm] ++ (scA (.slice (some ⟨gq, oq, none⟩) cs.length v5) cs ++ H.L))))) rfl) ?_
          refine awp_drawL (lk := [109]) hT hM 17 (List.range 17) (by kernel_rfl) H.M _ _ (Weak.perm List.perm_append_comm) ?_
          conv => whnf
          refine ⟨go, 0, rfl, by omega, ?_⟩
          conv => whnf
          refine ⟨_, rfl, frCell (e := 24) (n := B0.lim.length) (k := qn) (l := Ow) (by simp) (by rw [hI.len]; omega), ?_⟩
          refine ⟨_, _, Weak.refl _, fun _ _ h => h, ?_⟩
          conv => whnf
          refine ⟨gq, oq, rfl, by omega, ?_⟩
          conv => whnf
          refine ⟨_, rfl, acv_cost (hcel _ (fun a ha => by simp [ha])), ?_⟩
          conv => whnf
          obtain ⟨hg1, hq1⟩ := hI.own qn (by omega)
          rw [if_neg hnot, Rat.add_zero] at hq1
          have hg2 : Grid (432 * k) (getf Ow qn) := Grid.of_q hg1.ok hq1 (hG.spk hB (by omega) (by omega))
          obtain ⟨hg3, hq3⟩ := hg2.add hsx.c.grid (by omega)
          refine c_Add (getf Ow qn) x.cost hg1.ok.I okc.I _ _ ?_
          rw [hg2.fit hsx.c.grid (by omega)]
          refine ⟨_, _, Weak.refl _, fun _ _ h => h, ?_⟩
          conv => whnf
          refine ⟨go, 0, rfl, by omega, ?_⟩
          conv => whnf
          refine stFR 0 rfl qn (addF (getf Ow qn) x.cost).1 (by rw [hI.len]; omega) rfl ?_
          refine ⟨_, _, Weak.refl _, fun _ _ h => h, ?_⟩
          conv => whnf
          refine ⟨_, Weak.perm List.perm_append_comm, ?_⟩
          conv => whnf
          repeat (refine ⟨_, wi (by omega), ?_⟩; conv => whnf)
          refine ⟨rfl, rfl, m - 1, _, by omega, weakBlk [[_], bkA g a2 b2 c2 d2 B', rbA g' a' (.slice pb B0.lim.length cb) c' d' e' (.slice pf B0.owed.length cf) B0, [_]] [1, 1, 1, 0] _ rfl, j + 1, Ow.set qn (addF (getf Ow qn) x.cost).1, rfl, by omega, ⟨by rw [List.length_set]; exact hI.len, fun i hi => ?_⟩, rfl⟩
          by_cases hiq : qn = i
          · subst hiq
            rw [getf_set_eq (by rw [hI.len]; omega), htk, if_pos (by simp)]
            exact ⟨hg3.mono (by omega), by rw [hq3, hq1]⟩
          · rw [getf_set_ne hiq, htk]
            have := hI.own i hi
            have e : ((i : Int) ∈ x.ps.take j ++ [(qn : Int)]) ↔ (i : Int) ∈ x.ps.take j := by
              rw [List.mem_append, List.mem_singleton]
              exact ⟨fun h => h.elim id fun h => absurd h (by omega), .inl⟩
            simp only [e]
            exact this
        · have hje : j = x.ps.length := by omega
          subst hje
          rw [List.take_length] at hI
          conv => whnf
          repeat (refine ⟨_, wi (by omega), ?_⟩; conv => whnf)
          refine ⟨rfl, rfl, n - 1, _, by omega, Weak.refl _, k + 1, a2, b2, c2, d2, B', sm, Ow, rfl, by omega, hB', hV2, hG'.mono (by omega), hlim', hmost', ⟨hgall.mono (by omega), by rw [hqall, htot, ← hSall], by rw [hd.lim]; exact hI.len, fun i hi => ?_⟩, rfl⟩
          rw [hd.lim] at hi
          have := hI.own i hi
          exact ⟨this.1.mono (by omega), by rw [this.2, hd.sp i (by omega) (by omega)]⟩
  · have hke : k = cs.length := by omega
    have hkept : 432 * (k : Int) ≤ 8640 := by omega
    have hl3 : B.owed.length = B.most.length := hB.l4
    conv => whnf
    intro g15
    conv => whnf
    refine awp_loopL hT 178 [5, 6, 8, 9, 15, 16] (fun m vs Hx => ∃ (j : Nat) (acc : Fr), vs = [ptr g, ptr g', ptr ga, .slice (some ⟨go, 0, none⟩) B0.lim.length B0.lim.length, ptr g15, .int .i64 j] ∧ m + j = B.most.length ∧ Grid (8640 * j) acc ∧ acc.q = sumQ j (fun o => (getf B.owed o).q) ∧
      Hx = ⟨H.M, frA g15 acc :: (bkA g a b c d B ++ (rbA g' a' (.slice pb B0.lim.length cb) c' d' e' (.slice pf B0.owed.length cf) B0 ++ (frA ga all :: .row (.slice (some ⟨go, 0, none⟩) B0.lim.length B0.lim.length) 24 2 (frs Ow) :: (scA (.slice v4 cs.length v5) cs ++ H.L))))⟩) B.most.length rfl rfl
      (Weak.refl _) ⟨0, ⟨0, 0⟩, rfl, rfl, Grid.zero (by omega), by rw [q_zero]; rfl, rfl⟩ ?_
    rintro m u' vs' Hx' ⟨j, acc, rfl, hj, hga, hqa, rfl⟩
    conv => whnf
    refine ⟨_, (hr _ (fun a ha => by simp [ha])).h 5 _ rfl, ?_⟩
    conv => whnf
    refine ifC_dec (fun h2 => ?_) (fun h2 => ?_)
    · conv => whnf
      refine c_Owed g a b c d B _ _ hB (bkIn hV fun a ha => by simp [ha]) _ ?_
      rw [show usedF B.owed (j : Int) = (getf B.owed j, 0) from if_neg (by omega)]
      conv => whnf
      intro g17
      conv => whnf
      refine stC 0 rfl rfl (by first | (refine ⟨rfl, ?_⟩; repeat' (first | exact trivial | refine ⟨rfl, ?_⟩)) | simp [oneCells, Value.oneCell', setN]) ?_
      conv => whnf
      refine ldA 1 rfl rfl ?_
      conv => whnf
      refine ldA 0 rfl rfl ?_
      conv => whnf
      have hgo := (hG.owedk hB (k := j) (by omega)).mono hkept
      obtain ⟨hg3, hq3⟩ := hga.add hgo (by omega)
      refine c_Add acc (getf B.owed j) hga.ok.I hgo.ok.I _ _ ?_
      rw [hga.fit hgo (by omega)]
      conv => whnf
      intro g19
      conv => whnf
      refine stC 0 rfl rfl (by first | (refine ⟨rfl, ?_⟩; repeat' (first | exact trivial | refine ⟨rfl, ?_⟩)) | simp [oneCells, Value.oneCell', setN]) ?_
      conv => whnf
      refine ldA 0 rfl rfl ?_
      conv => whnf
      refine stC 2 rfl rfl (by first | (refine ⟨rfl, ?_⟩; repeat' (first | exact trivial | refine ⟨rfl, ?_⟩)) | simp [oneCells, Value.oneCell', setN]) ?_
      conv => whnf
      conv => whnf
      repeat (refine ⟨_, wi (by omega), ?_⟩; conv => whnf)
      exact ⟨rfl, rfl, m - 1, _, by omega, weakK 2 rfl, j + 1, (addF acc (getf B.owed j)).1, rfl, by omega, hg3.mono (by omega), by rw [hq3, hqa]; rfl, rfl⟩
    · have hje : j = B.most.length := by omega
      subst hje
      have hsame : cmpF acc all = 0 := (cmpF_zero hga.ok hSu.g.ok).2 (by rw [hqa, hSu.all]; rfl)
      conv => whnf
      refine awp_loopL hT 178 [5, 8, 9, 15, 21] (fun m vs Hx => ∃ (j : Nat), vs = [ptr g, ptr ga, .slice (some ⟨go, 0, none⟩) B0.lim.length B0.lim.length, ptr g15, .int .i64 j] ∧ m + j = B0.lim.length ∧
        Hx = ⟨H.M, frA g15 acc :: (bkA g a b c d B ++ (rbA g' a' (.slice pb B0.lim.length cb) c' d' e' (.slice pf B0.owed.length cf) B0 ++ (frA ga all :: .row (.slice (some ⟨go, 0, none⟩) B0.lim.length B0.lim.length) 24 2 (frs Ow) :: (scA (.slice v4 cs.length v5) cs ++ H.L))))⟩) B0.lim.length rfl rfl
        (Weak.refl _) ⟨0, rfl, rfl, rfl⟩ ?_
      rintro m u' vs' Hx' ⟨j, rfl, hj, rfl⟩
      conv => whnf
      refine ifC_dec (fun h3 => ?_) (fun h3 => ?_)
      · conv => whnf
        refine c_Spent g a b c d B _ _ hB (bkIn hV fun a ha => by simp [ha]) _ ?_
        rw [show usedF B.sp (j : Int) = (getf B.sp j, 0) from if_neg (by rw [hB.l1]; omega)]
        conv => whnf
        intro g22
        conv => whnf
        refine stC 0 rfl rfl (by first | (refine ⟨rfl, ?_⟩; repeat' (first | exact trivial | refine ⟨rfl, ?_⟩)) | simp [oneCells, Value.oneCell', setN]) ?_
        conv => whnf
        refine awp_drawQ hT hM 11 (by kernel_rfl) ?_
        conv => whnf
        refine ldA 0 rfl rfl ?_
        conv => whnf
        refine ⟨go, 0, rfl, by omega, ?_⟩
        conv => whnf
        refine ⟨_, rfl, frCell (e := 24) (n := B0.lim.length) (k := j) (l := Ow) (by simp) (by rw [hSu.len]; omega), ?_⟩
        conv => whnf
        have hok := hB.spk (k := (j : Int)) (by omega) (by omega)
        obtain ⟨hg4, hq4⟩ := hSu.own j (by omega)
        refine c_same _ _ hok.I hg4.ok.I _ _ ?_
        rw [(cmpF_zero hok hg4.ok).2 hq4.symm]
        refine ⟨Weak.refl _, ?_⟩
        conv => whnf
        repeat (refine ⟨_, wi (by omega), ?_⟩; conv => whnf)
        exact ⟨rfl, rfl, m - 1, _, by omega, weakK 1 rfl, j + 1, rfl, by omega, rfl⟩
      · conv => whnf
        refine ldA 0 rfl rfl ?_
        conv => whnf
        refine ldA 13 rfl rfl ?_
        conv => whnf
        refine c_same _ _ hga.ok.I hSu.g.ok.I _ _ ?_
        rw [hsame]
        conv => whnf
        refine c_lives _ _ ?_
        conv => whnf
        refine ⟨rfl, ?_⟩
        conv => whnf
        exact fin (Weak.refl _) (hR _)
end Go.Proofs.Ytpblnfldhicfgaa.A
