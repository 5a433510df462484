/- ConsentAnew. -/
import Derived.Test.YtjgljgkfflojbaaD16
import Derived.Test.YtjgljgkfflojbaaD20
namespace Go.Proofs.Ytjgljgkfflojbaa.A
open Go Go.RowKit
set_option linter.unusedVariables false
set_option linter.unusedSimpArgs false
set_option maxRecDepth 20000

structure RJ (g : Nat) (M : Nat → Option Obj) (K X : List Atom) (cs : List AV) (a : Value) (N : List Atom) (S : St) (gv mv : Value) (made : List AV) (i : Nat) : Prop where
  ok : okS S
  inv : InvR S
  ia : InvA S (made.map (·.a))
  gv : RowVal gv 1 (ints S.gone)
  mv : RowVal mv 2 (mcs made)
  gl : S.gone.length ≤ i
  ml : made.length ≤ i
  mr : ∀ c ∈ made, Reads ⟨M, K⟩ c.fv 1 (ints c.a.f) ∧ Reads ⟨M, K⟩ c.pv 1 (ints c.a.p)
  oa : ∀ c ∈ made, okA c.a
  mo : ∀ v ∈ mcs made, v.oneCell' = true
  ka : ∀ b ∈ .row a 42 4 (avs cs) :: N, b ∈ K
  bo : BoO g S M K X
theorem RJ.up {g : Nat} {M : Nat → Option Obj} {K X K' X' : List Atom} {cs : List AV} {a : Value} {N : List Atom} {S : St} {gv mv : Value} {made : List AV} {i : Nat}
    (h : RJ g M K X cs a N S gv mv made i) (hk : ∀ b ∈ K, b ∈ K') (hb : BoO g S M K' X') : RJ g M K' X' cs a N S gv mv made i :=
  ⟨h.ok, h.inv, h.ia, h.gv, h.mv, h.gl, h.ml, fun c hc => ⟨(h.mr c hc).1.mono (hle_sub hk), (h.mr c hc).2.mono (hle_sub hk)⟩, h.oa, h.mo, fun b hb' => hk b (h.ka b hb'), hb⟩
set_option maxHeartbeats 4000000 in
theorem c_ConsentAnew (v : Value) (l : List Int) (H : Hp) (hv : IntsAt H v l) (R : Ending → Hp → Prop) (hR : ∀ H', R (.returned (.bool true)) H') :
    ACalls Try.prog 5 [v] H R := by
  refine acalls_code hT Try.func5 rfl rfl ?_
  conv => whnf
  refine p_New fun g H0 B0 => ?_
  obtain ⟨X0, hw0, O0⟩ := B0.o
  conv => whnf
  refine ACalls.weak hw0 (c_Script26 v l _ (hv.mono (hle_sub O0.1)) _ fun a cs N hcs hra hN => ?_)
  have hcl : cs.length ≤ 24 := by
    have := congrArg List.length hcs
    rw [List.length_map] at this
    rw [this]
    have := (sc26_bd l (scN26 l) (by unfold scN26; omega)).2.2.1
    unfold script26; rw [this]; unfold scN26; omega
  have hoa : ∀ c ∈ cs, okA c.a := fun c hc => by
    refine (sc26_bd l (scN26 l) (by unfold scN26; omega)).2.2.2 c.a ?_
    have : c.a ∈ script26 l := by rw [← hcs]; exact List.mem_map.2 ⟨c, hc, rfl⟩
    exact this
  have O1 : BoO g ⟨[], []⟩ H.M (.row a 42 4 (avs cs) :: (N ++ H.L)) (.row a 42 4 (avs cs) :: (N ++ X0)) := by
    have := O0.add (.row a 42 4 (avs cs) :: N)
    exact this
  obtain ⟨pa, ca, rfl, hca⟩ := flatAt avc (fun _ => rfl) (by omega) (H := ⟨H.M, .row a 42 4 (avs cs) :: (N ++ H.L)⟩) (l := cs) (readsRow (e := 42) List.mem_cons_self hra)
  conv => whnf
  refine awp_loopL hT 141 [3, 4, 5, 6, 7] (fun m vs H' => ∃ (i : Nat) (S : St) (gv mv : Value) (made : List AV) (K X : List Atom), vs = [ptr g, gv, mv, .slice pa cs.length ca, .int .i64 i] ∧ m + i = cs.length ∧
    RJ g H.M K X cs (.slice pa cs.length ca) N S gv mv made i ∧ H' = ⟨H.M, .row gv 3 1 (ints S.gone) :: .row mv 40 2 (mcs made) :: X⟩) cs.length rfl rfl
    ((weakNil _ 40 2).trans (weakNil _ 3 1))
    ⟨0, ⟨[], []⟩, _, _, [], _, _, rfl, by omega, ⟨⟨by simp, by simp, by simp, by simp⟩, ⟨by simp, by simp⟩, ⟨rfl, by simp, by simp, by simp⟩, .inl ⟨rfl, rfl⟩, .inl ⟨rfl, rfl⟩, by simp, by simp, by simp, by simp, by simp [mcs], fun b hb => by
      rcases List.mem_cons.1 hb with e | hb
      · exact e ▸ List.mem_cons_self
      · exact List.mem_cons_of_mem _ (List.mem_append_left _ hb), O1⟩, rfl⟩ ?_
  rintro m u vs H' ⟨i, S, gv, mv, made, K, X, rfl, hm, hI, rfl⟩
  conv => whnf
  refine ifC_dec (fun h1 => ?_) (fun h1 => ?_)
  · have hil : i < cs.length := by omega
    have hmem := List.getElem_mem hil
    have ho := hoa _ hmem
    obtain ⟨ga, oa, rfl, _⟩ := hca i hil
    have hce : ∀ X, (∀ b ∈ K, b ∈ X) → CellsAt ⟨H.M, X⟩ ga (oa + i * 4) (avc cs[i]) := fun X hX => by
      obtain ⟨p, c, e, hc⟩ := flatAt avc (fun _ => rfl) (by omega) (H := ⟨H.M, X⟩) (l := cs) (v := .slice (some ⟨ga, oa, none⟩) cs.length ca) (readsRow (e := 42) (hX _ (hI.ka _ List.mem_cons_self)) hra)
      obtain ⟨g', o', e', h⟩ := hc i hil
      cases e; cases e'
      exact h
    obtain ⟨rf, rp⟩ := hN cs[i] hmem K fun b hb => hI.ka b (List.mem_cons_of_mem _ hb)
    conv => whnf
    refine ⟨ga, oa, rfl, by omega, ?_⟩
    conv => whnf
    refine ⟨avc cs[i], rfl, hce _ (fun b hb => by simp [hI.bo.1 b hb]), ?_⟩
    conv => whnf
    refine q_do [_, _] hI.bo hI.ok (x := cs[i]) ⟨rf, fun x hx => by have := ho.f.2 x hx; omega, by have := ho.f.1; omega⟩ ⟨rp, fun x hx => by have := ho.p.2 x hx; omega, by have := ho.p.1; omega⟩ ?_
    intro X2 s hs O2
    obtain ⟨s1, s2, s3, rfl⟩ := hs.slice
    have hdid := did hI.ok hI.inv (a := cs[i].a)
    have hia := invA_do hI.ok hI.inv hI.ia (a := cs[i].a)
    have hno := do_no (S := S) (a := cs[i].a)
    have hokd := hI.ok.do' cs[i].a
    unfold madeS at hia
    generalize hDS : doS S cs[i].a = D at *
    obtain ⟨S', n', r', e'⟩ := D
    simp only at O2 hdid hno hokd hia ⊢
    have hKX : ∀ b ∈ K, b ∈ X2 := fun b hb => O2.1 b (List.mem_cons_of_mem _ hb)
    conv => whnf
    refine ifC_dec (fun he => ?_) (fun he => ?_)
    · have hd := hdid he
      have hia := hia he
      conv => whnf
      refine ⟨ga, oa, rfl, by omega, ?_⟩
      conv => whnf
      refine ⟨_, hce _ (fun b hb => by simp [hKX b hb]) 0 _ rfl, ?_⟩
      conv => whnf
      refine ifC_dec (fun hk0 => ?_) (fun hk0 => ?_)
      · obtain ⟨e1, e2, e3, e4, e5⟩ := hd.new (by omega) (by omega)
        rw [if_pos ⟨he, by omega, by omega⟩] at hia
        have hml0 := hI.ml
        have hone : ∀ x ∈ mcs [cs[i]], x.oneCell' = true := fun x hx => by
          obtain ⟨_, _, _, ef, _⟩ := rf
          obtain ⟨_, _, _, ep, _⟩ := rp
          simp [mcs, mcc] at hx
          rcases hx with h | h
          · rw [h, ef]; rfl
          · rw [h, ep]; rfl
        conv => whnf
        refine ⟨ga, oa, rfl, by omega, ?_⟩
        conv => whnf
        have hce2 : CellsAt ⟨H.M, .row gv 3 1 (ints S.gone) :: .row mv 40 2 (mcs made) :: X2⟩ ga (oa + i * 4 + 2) (mcc cs[i]) := cellsDrop (hce _ fun b hb => by simp [hKX b hb]) 2
        refine ⟨mcc cs[i], rfl, hce2, ?_⟩
        conv => whnf
        intro q
        conv => whnf
        refine ⟨H.M, .row gv 3 1 (ints S.gone) :: X2, mcs made, mcs [cs[i]], readsRow (e := 40) (v := .slice (some ⟨q, 0, none⟩) 1 1) List.mem_cons_self (rowNew rfl (by omega)), hone, (weakDel 0 rfl).trans (weakPull [1] rfl), by rw [mcs_length, mcs_length]; simp; omega, by rw [mcs_length, mcs_length]; simp [maxLen]; omega, fun v2 hv2 => ?_⟩
        rw [← mcs_append] at hv2 ⊢
        rw [← e1]
        conv => whnf
        refine ifC_pos (he) ?_
        conv => whnf
        refine ⟨ga, oa, rfl, by omega, ?_⟩
        conv => whnf
        refine ⟨_, hce _ (fun b hb => by simp [hKX b hb]) 0 _ rfl, ?_⟩
        conv => whnf
        refine ifC_neg (by omega) ?_
        conv => whnf
        repeat (refine ⟨_, wi (by omega), ?_⟩; conv => whnf)
        refine ⟨rfl, rfl, m - 1, _, by omega, weakPull [1, 0] rfl, i + 1, S', gv, v2, made ++ [cs[i]], _, X2, rfl, by omega, { ok := hokd, inv := hd.inv, ia := by rw [List.map_append]; exact hia, gv := by rw [e1]; exact hI.gv, mv := hv2, gl := by rw [e1]; have := hI.gl; omega, ml := by simp; omega, mr := fun c hc => ?_, oa := fun c hc => ?_, mo := fun x hx => ?_, ka := fun b hb => List.mem_cons_of_mem _ (hI.ka b hb), bo := O2 }, rfl⟩
        · rcases List.mem_append.1 hc with hc | hc
          · exact ⟨(hI.mr _ hc).1.mono (hle_sub fun b hb => List.mem_cons_of_mem _ hb), (hI.mr _ hc).2.mono (hle_sub fun b hb => List.mem_cons_of_mem _ hb)⟩
          · rw [List.mem_singleton.1 hc]
            exact ⟨rf.mono (hle_sub fun b hb => List.mem_cons_of_mem _ hb), rp.mono (hle_sub fun b hb => List.mem_cons_of_mem _ hb)⟩
        · rcases List.mem_append.1 hc with hc | hc
          · exact hI.oa _ hc
          · rw [List.mem_singleton.1 hc]; exact ho
        · rw [mcs_append] at hx
          rcases List.mem_append.1 hx with hx | hx
          · exact hI.mo x hx
          · exact hone x hx
      · rw [if_neg (by have := ho.k; omega)] at hia
        conv => whnf
        refine ifC_pos (he) ?_
        conv => whnf
        refine ⟨ga, oa, rfl, by omega, ?_⟩
        conv => whnf
        refine ⟨_, hce _ (fun b hb => by simp [hKX b hb]) 0 _ rfl, ?_⟩
        conv => whnf
        refine ifC_dec (fun hk1 => ?_) (fun hk1 => ?_)
        · obtain ⟨e1, e2, e3⟩ := hd.rm hk1
          have hgl0 := hI.gl
          conv => whnf
          refine ⟨ga, oa, rfl, by omega, ?_⟩
          conv => whnf
          refine ⟨_, hce _ (fun b hb => by simp [hKX b hb]) 1 _ rfl, ?_⟩
          conv => whnf
          intro q
          conv => whnf
          refine ⟨H.M, .row mv 40 2 (mcs made) :: X2, ints S.gone, ints [cs[i].a.n], readsNew rfl rfl, ints_one _, weakDel 0 rfl, by rw [ints_length, ints_length]; simp; omega, by rw [ints_length, ints_length]; simp [maxLen]; omega, fun v2 hv2 => ?_⟩
          rw [← ints_append, ← e1] at hv2 ⊢
          conv => whnf
          repeat (refine ⟨_, wi (by omega), ?_⟩; conv => whnf)
          exact ⟨rfl, rfl, m - 1, _, by omega, Weak.refl _, i + 1, S', v2, mv, made, _, X2, rfl, by omega, { ok := hokd, inv := hd.inv, ia := hia, gv := hv2, mv := hI.mv, gl := by rw [e1]; simp; omega, ml := by have := hI.ml; omega, mr := fun c hc => ⟨(hI.mr c hc).1.mono (hle_sub fun b hb => List.mem_cons_of_mem _ hb), (hI.mr c hc).2.mono (hle_sub fun b hb => List.mem_cons_of_mem _ hb)⟩, oa := hI.oa, mo := hI.mo, ka := fun b hb => List.mem_cons_of_mem _ (hI.ka b hb), bo := O2 }, rfl⟩
        · obtain ⟨e1, e2, e3⟩ := hd.rn (by have := ho.k; omega)
          rw [← e1]
          conv => whnf
          repeat (refine ⟨_, wi (by omega), ?_⟩; conv => whnf)
          exact ⟨rfl, rfl, m - 1, _, by omega, Weak.refl _, i + 1, S', gv, mv, made, _, X2, rfl, by omega, { ok := hokd, inv := hd.inv, ia := hia, gv := by rw [e1]; exact hI.gv, mv := hI.mv, gl := by rw [e1]; have := hI.gl; omega, ml := by have := hI.ml; omega, mr := fun c hc => ⟨(hI.mr c hc).1.mono (hle_sub fun b hb => List.mem_cons_of_mem _ hb), (hI.mr c hc).2.mono (hle_sub fun b hb => List.mem_cons_of_mem _ hb)⟩, oa := hI.oa, mo := hI.mo, ka := fun b hb => List.mem_cons_of_mem _ (hI.ka b hb), bo := O2 }, rfl⟩
    · have hS := hno he
      subst hS
      conv => whnf
      refine ifC_neg (he) ?_
      conv => whnf
      repeat (refine ⟨_, wi (by omega), ?_⟩; conv => whnf)
      exact ⟨rfl, rfl, m - 1, _, by omega, Weak.refl _, i + 1, S', gv, mv, made, _, X2, rfl, by omega, { hI.up (fun b hb => List.mem_cons_of_mem _ hb) O2 with gl := by have := hI.gl; omega, ml := by have := hI.ml; omega }, rfl⟩
  · obtain ⟨pg, cg, rfl⟩ := hI.gv.sl
    obtain ⟨pm, cm, rfl, hcm⟩ := flatAt mcc (fun _ => rfl) (by omega) (H := ⟨H.M, [.row mv 40 2 (mcs made)]⟩) (l := made) (readsRow (e := 40) List.mem_cons_self hI.mv)
    have hml0 := hI.ml
    conv => whnf
    refine o_New (H := ⟨H.M, .row (.slice pg S.gone.length cg) 3 1 (ints S.gone) :: .row (.slice pm made.length cm) 40 2 (mcs made) :: X⟩) fun g2 B2 hB2 => ?_
    conv => whnf
    refine awp_loopL hT 141 [3, 4, 5, 11, 12] (fun m vs H' => ∃ (i : Nat) (S1 S2 : St) (B2 K1 X1 : List Atom), vs = [ptr g, .slice pg S.gone.length cg, .slice pm made.length cm, ptr g2, .int .i64 i] ∧ m + i = made.length ∧ Ph S S1 S2 i ∧ BoO g S1 H.M K1 X1 ∧ Own g2 S2 H.M B2 ∧
      (∀ b ∈ .row (.slice pg S.gone.length cg) 3 1 (ints S.gone) :: .row (.slice pm made.length cm) 40 2 (mcs made) :: K, b ∈ K1) ∧ H' = ⟨H.M, B2 ++ X1⟩) made.length rfl rfl (Weak.refl _)
      ⟨0, S, ⟨[], []⟩, B2, .row (.slice pg S.gone.length cg) 3 1 (ints S.gone) :: .row (.slice pm made.length cm) 40 2 (mcs made) :: K, _, rfl, by omega, ⟨rfl, rfl, hI.ok, ⟨by simp, by simp, by simp, by simp⟩, rfl, rfl, fun k hk => absurd hk (by omega), fun _ _ _ => rfl⟩, hI.bo.add [.row (.slice pg S.gone.length cg) 3 1 (ints S.gone), .row (.slice pm made.length cm) 40 2 (mcs made)], hB2, fun b hb => hb, rfl⟩ ?_
    rintro m2 u2 vs2 H2 ⟨j, S1, S2, B3, K1, X1, rfl, hm2, hph, O3, hB3, hK1, rfl⟩
    conv => whnf
    refine ifC_dec (fun h2 => ?_) (fun h2 => ?_)
    · have hj : j < made.length := by omega
      have hst := hph.step (made := made.map (·.a)) hI.ok hI.inv hI.ia (by simpa using hj)
      rw [List.getElem_map] at hst
      have hjn : j < S1.ts.length := by have := hI.ia.len; rw [List.length_map] at this; rw [hph.len]; omega
      conv => whnf
      refine q_Depends B3 O3 hph.ok (i := j) ⟨by omega, by omega⟩ ?_
      intro X2 w hw O4
      obtain ⟨w1, w2, w3, rfl⟩ := hw.slice
      have hok5 := hst.2.2.1.ok
      have hjm : made[j] ∈ made := List.getElem_mem hj
      obtain ⟨gm, om, rfl, hcm1⟩ := hcm j hj
      have hoj := hI.oa _ hjm
      obtain ⟨pf, cf, ef, _⟩ := intsAt (hI.mr _ hjm).1
      have hrf : Reads ⟨H.M, K⟩ (.slice pf made[j].a.f.length cf) 1 (ints made[j].a.f) := by rw [← ef]; exact (hI.mr _ hjm).1
      rcases Bool.eq_false_or_eq_true (S1.th j).u with hu | hu
      · have ea : anewS S1 j = S1 := by unfold anewS; rw [if_pos hu]
        rw [hu]
        conv => whnf
        rw [← ea] at O4
        have hXm : ∀ b ∈ K1, b ∈ X2 := fun b hb => O4.1 b (List.mem_cons_of_mem _ hb)
        refine awp_draw hT hM 19 (List.range 19) (by kernel_rfl) H.M X2 B3 (Weak.perm List.perm_append_comm) ?_
        conv => whnf
        refine ⟨gm, om, rfl, by omega, ?_⟩
        conv => whnf
        refine ⟨_, (hcm1.mono (hle_one (M := H.M) (hXm _ (hK1 _ (List.mem_cons_of_mem _ List.mem_cons_self))))) 0 (.slice pf made[j].a.f.length cf) (by rw [mcc, ef]; rfl), ?_⟩
        conv => whnf
        refine ⟨gm, om, rfl, by omega, ?_⟩
        conv => whnf
        refine ⟨_, (hcm1.mono (hle_one (M := H.M) (hXm _ (hK1 _ (List.mem_cons_of_mem _ List.mem_cons_self))))) 1 _ rfl, ?_⟩
        conv => whnf
        have hKm : ∀ b ∈ K, b ∈ X2 := fun b hb => hXm _ (hK1 _ (List.mem_cons_of_mem _ (List.mem_cons_of_mem _ hb)))
        refine c_without _ _ made[j].a.p S.gone _ ⟨(hI.mr _ hjm).2.mono (hle_sub fun b hb => by simp [hKm b hb]), fun x hx => by have := hoj.p.2 x hx; omega, by have := hoj.p.1; omega⟩ ⟨(readsRow (H := ⟨H.M, [.row (.slice pg S.gone.length cg) 3 1 (ints S.gone)]⟩) (e := 3) List.mem_cons_self hI.gv).mono (hle_one (by simp [hXm _ (hK1 _ List.mem_cons_self)])), fun x hx => by have := hI.ok.gone x hx; omega, by have := hI.gl; omega⟩ (by have := hoj.p.1; omega) _ ?_
        intro wv hwv
        obtain ⟨v1, v2, v3, rfl⟩ := hwv.slice
        refine ⟨_, _ :: _, weakMid, fun _ _ h => h, ?_⟩
        conv => whnf
        have hmf : made[j].a.f.length ≤ 4 := hoj.f.1
        have hle := List.length_filter_le (fun x => !decide (x ∈ S.gone)) made[j].a.p
        refine ACalls.weak (Weak.perm (List.perm_middle.trans ((List.Perm.cons _ List.perm_append_comm).trans List.perm_middle.symm))) (o_Make (L := .row (.slice v1 v2 v3) 3 1 (ints (lessL made[j].a.p S.gone)) :: X2) hB3 hph.ok2 (f := made[j].a.f) (p := lessL made[j].a.p S.gone) ⟨hrf.mono (hle_sub fun b hb => by simp [hKm b hb]), fun x hx => by have := hoj.f.2 x hx; omega, by omega⟩ ⟨readsRow (e := 3) List.mem_cons_self hwv, fun x hx => by have := hoj.p.2 x (List.mem_filter.1 hx).1; omega, by have := hoj.p.1; unfold lessL; omega⟩ hst.2.1 ?_)
        intro B4 hB4
        refine ⟨_, .row (.slice v1 v2 v3) 3 1 (ints (lessL made[j].a.p S.gone)) :: B4, Weak.perm (List.perm_middle.trans ((List.Perm.cons _ List.perm_append_comm).trans List.perm_middle.symm)), fun _ _ h => h, ?_⟩
        conv => whnf
        refine ⟨⟨H.M, B4 ++ X2⟩, (Weak.perm List.perm_middle).trans ((Weak.drop _ _ _).trans (Weak.perm List.perm_append_comm)), ?_⟩
        conv => whnf
        obtain ⟨_, hst1, hst2, hst3⟩ := hst
        refine o_Depends (L := X2) hB4 hst2.ok2 (i := j) ⟨by omega, by rw [hst2.l2]; omega⟩ ?_
        intro dv hdv
        obtain ⟨d1, d2, d3, rfl⟩ := hdv.slice
        conv => whnf
        rw [hst3] at hdv ⊢
        have hjl : j < (anewS S1 j).ts.length := by rw [hst2.len, ← hph.len]; exact hjn
        obtain ⟨hz1, hz2, _⟩ := base_I64 hst2.ok hjl
        refine ACalls.weak (Weak.perm List.perm_middle.symm) (q_base B4 (BoO.add O4 [.row (.slice d1 d2 d3) 3 1 (ints ((anewS S1 j).th j).b)]) hst2.ok (i := j) (want := ((anewS S1 j).th j).b) (u := true) ⟨readsRow (e := 3) List.mem_cons_self hdv, fun x hx => by have := hz1 x hx; omega, by omega⟩ ?_)
        intro X7 O7
        rw [show baseB (anewS S1 j) j ((anewS S1 j).th j).b true = true from decide_eq_true ⟨by omega, by omega, (hst2.d j (by omega)).1, rfl⟩]
        conv => whnf
        repeat (refine ⟨_, wi (by omega), ?_⟩; conv => whnf)
        exact ⟨rfl, rfl, m2 - 1, _, by omega, Weak.refl _, j + 1, anewS S1 j, _, B4, _, X7, rfl, by omega, hst2, O7, hB4, fun b hb => List.mem_cons_of_mem _ (List.mem_cons_of_mem _ (hK1 b hb)), rfl⟩
      · have ea : anewS S1 j = (rnS S1 j).1 := by unfold anewS; rw [if_neg (by rw [hu]; simp)]
        rw [hu]
        conv => whnf
        refine q_Renew B3 O4 hph.ok (i := j) ?_
        intro X5 O5
        rw [hst.1 hu]
        conv => whnf
        rw [← ea] at O5
        have hXm : ∀ b ∈ K1, b ∈ X5 := fun b hb => O5.1 b (List.mem_cons_of_mem _ hb)
        refine awp_draw hT hM 19 (List.range 19) (by kernel_rfl) H.M X5 B3 (Weak.perm List.perm_append_comm) ?_
        conv => whnf
        refine ⟨gm, om, rfl, by omega, ?_⟩
        conv => whnf
        refine ⟨_, (hcm1.mono (hle_one (M := H.M) (hXm _ (hK1 _ (List.mem_cons_of_mem _ List.mem_cons_self))))) 0 (.slice pf made[j].a.f.length cf) (by rw [mcc, ef]; rfl), ?_⟩
        conv => whnf
        refine ⟨gm, om, rfl, by omega, ?_⟩
        conv => whnf
        refine ⟨_, (hcm1.mono (hle_one (M := H.M) (hXm _ (hK1 _ (List.mem_cons_of_mem _ List.mem_cons_self))))) 1 _ rfl, ?_⟩
        conv => whnf
        have hKm : ∀ b ∈ K, b ∈ X5 := fun b hb => hXm _ (hK1 _ (List.mem_cons_of_mem _ (List.mem_cons_of_mem _ hb)))
        refine c_without _ _ made[j].a.p S.gone _ ⟨(hI.mr _ hjm).2.mono (hle_sub fun b hb => by simp [hKm b hb]), fun x hx => by have := hoj.p.2 x hx; omega, by have := hoj.p.1; omega⟩ ⟨(readsRow (H := ⟨H.M, [.row (.slice pg S.gone.length cg) 3 1 (ints S.gone)]⟩) (e := 3) List.mem_cons_self hI.gv).mono (hle_one (by simp [hXm _ (hK1 _ List.mem_cons_self)])), fun x hx => by have := hI.ok.gone x hx; omega, by have := hI.gl; omega⟩ (by have := hoj.p.1; omega) _ ?_
        intro wv hwv
        obtain ⟨v1, v2, v3, rfl⟩ := hwv.slice
        refine ⟨_, _ :: _, weakMid, fun _ _ h => h, ?_⟩
        conv => whnf
        have hmf : made[j].a.f.length ≤ 4 := hoj.f.1
        have hle := List.length_filter_le (fun x => !decide (x ∈ S.gone)) made[j].a.p
        refine ACalls.weak (Weak.perm (List.perm_middle.trans ((List.Perm.cons _ List.perm_append_comm).trans List.perm_middle.symm))) (o_Make (L := .row (.slice v1 v2 v3) 3 1 (ints (lessL made[j].a.p S.gone)) :: X5) hB3 hph.ok2 (f := made[j].a.f) (p := lessL made[j].a.p S.gone) ⟨hrf.mono (hle_sub fun b hb => by simp [hKm b hb]), fun x hx => by have := hoj.f.2 x hx; omega, by omega⟩ ⟨readsRow (e := 3) List.mem_cons_self hwv, fun x hx => by have := hoj.p.2 x (List.mem_filter.1 hx).1; omega, by have := hoj.p.1; unfold lessL; omega⟩ hst.2.1 ?_)
        intro B4 hB4
        refine ⟨_, .row (.slice v1 v2 v3) 3 1 (ints (lessL made[j].a.p S.gone)) :: B4, Weak.perm (List.perm_middle.trans ((List.Perm.cons _ List.perm_append_comm).trans List.perm_middle.symm)), fun _ _ h => h, ?_⟩
        conv => whnf
        refine ⟨⟨H.M, B4 ++ X5⟩, (Weak.perm List.perm_middle).trans ((Weak.drop _ _ _).trans (Weak.perm List.perm_append_comm)), ?_⟩
        conv => whnf
        obtain ⟨_, hst1, hst2, hst3⟩ := hst
        refine o_Depends (L := X5) hB4 hst2.ok2 (i := j) ⟨by omega, by rw [hst2.l2]; omega⟩ ?_
        intro dv hdv
        obtain ⟨d1, d2, d3, rfl⟩ := hdv.slice
        conv => whnf
        rw [hst3] at hdv ⊢
        have hjl : j < (anewS S1 j).ts.length := by rw [hst2.len, ← hph.len]; exact hjn
        obtain ⟨hz1, hz2, _⟩ := base_I64 hst2.ok hjl
        refine ACalls.weak (Weak.perm List.perm_middle.symm) (q_base B4 (BoO.add O5 [.row (.slice d1 d2 d3) 3 1 (ints ((anewS S1 j).th j).b)]) hst2.ok (i := j) (want := ((anewS S1 j).th j).b) (u := true) ⟨readsRow (e := 3) List.mem_cons_self hdv, fun x hx => by have := hz1 x hx; omega, by omega⟩ ?_)
        intro X7 O7
        rw [show baseB (anewS S1 j) j ((anewS S1 j).th j).b true = true from decide_eq_true ⟨by omega, by omega, (hst2.d j (by omega)).1, rfl⟩]
        conv => whnf
        repeat (refine ⟨_, wi (by omega), ?_⟩; conv => whnf)
        exact ⟨rfl, rfl, m2 - 1, _, by omega, Weak.refl _, j + 1, anewS S1 j, _, B4, _, X7, rfl, by omega, hst2, O7, hB4, fun b hb => List.mem_cons_of_mem _ (List.mem_cons_of_mem _ (hK1 b hb)), rfl⟩
    · conv => whnf
      refine c_lives26 _ _ ?_
      intro H'
      conv => whnf
      refine ⟨rfl, ?_⟩
      conv => whnf
      exact fin (Weak.refl _) (hR _)
end Go.Proofs.Ytjgljgkfflojbaa.A
