/- ConsentRemoved. -/
import Derived.Test.YtjgljgkfflojbaaSameInts
import Derived.Test.YtjgljgkfflojbaaD15
namespace Go.Proofs.Ytjgljgkfflojbaa.A
open Go Go.RowKit
set_option linter.unusedVariables false
set_option linter.unusedSimpArgs false
set_option maxRecDepth 20000

def mcc (x : AV) : List Value := [x.fv, x.pv]
def mcs (l : List AV) : List Value := l.flatMap mcc
theorem mcs_append (l m : List AV) : mcs (l ++ m) = mcs l ++ mcs m := by simp [mcs]
theorem mcs_length (l : List AV) : (mcs l).length = l.length * 2 := by
  induction l with
  | nil => rfl
  | cons c cs ih => simp only [mcs, List.flatMap_cons, List.length_append, List.length_cons] at *; rw [ih]; simp [mcc]; omega
theorem vals_flat (l : List Value) : l.flatMap (fun v => [v]) = l := by induction l with
  | nil => rfl
  | cons a l ih => simp [ih]
theorem RowVal.sl {v : Value} {l : List Int} (h : RowVal v 1 (ints l)) : ∃ p c, v = .slice p l.length c := by
  rcases h with ⟨rfl, h⟩ | ⟨g, o, n, cap, rfl, h, _, _⟩
  · have := congrArg List.length h
    rw [ints_length] at this
    exact ⟨none, 0, by rw [show l.length = 0 from this]⟩
  · rw [ints_length] at h
    exact ⟨_, _, by rw [show l.length = n by omega]⟩
structure RI (g : Nat) (M : Nat → Option Obj) (K X : List Atom) (cs : List AV) (a : Value) (N : List Atom) (S : St) (gv mv bv : Value) (made : List AV) (vals : List Value) (P : Nat → Prop) (i : Nat) : Prop where
  ok : okS S
  inv : InvR S
  gv : RowVal gv 1 (ints S.gone)
  mv : RowVal mv 2 (mcs made)
  bv : RowVal bv 1 vals
  ml : made.length = S.ts.length
  bl : vals.length = S.ts.length
  gl : S.gone.length ≤ i
  sl : S.ts.length ≤ i
  mr : ∀ k (h : k < made.length), Reads ⟨M, K⟩ made[k].fv 1 (ints (S.th k).f)
  br : ∀ k (h : k < vals.length), P k → Reads ⟨M, K⟩ vals[k] 1 (ints (S.th k).b)
  vo : ∀ v ∈ vals, v.oneCell' = true
  mo : ∀ v ∈ mcs made, v.oneCell' = true
  ka : ∀ b ∈ .row a 42 4 (avs cs) :: N, b ∈ K
  bo : BoO g S M K X
theorem RI.up {g : Nat} {M : Nat → Option Obj} {K X K' X' : List Atom} {cs : List AV} {a : Value} {N : List Atom} {S : St} {gv mv bv : Value} {made : List AV} {vals : List Value} {P : Nat → Prop} {i : Nat}
    (h : RI g M K X cs a N S gv mv bv made vals P i) (hk : ∀ b ∈ K, b ∈ K') (hb : BoO g S M K' X') : RI g M K' X' cs a N S gv mv bv made vals P i :=
  ⟨h.ok, h.inv, h.gv, h.mv, h.bv, h.ml, h.bl, h.gl, h.sl, fun k hk' => (h.mr k hk').mono (hle_sub hk), fun k hk' hp => (h.br k hk' hp).mono (hle_sub hk), h.vo, h.mo, fun b hb' => hk b (h.ka b hb'), hb⟩
theorem cellsDrop {H : Hp} {g o : Nat} {vs : List Value} (h : CellsAt H g o vs) (n : Nat) : CellsAt H g (o + n) (vs.drop n) := fun j v hj => by
  rw [List.getElem?_drop] at hj
  rw [Nat.add_assoc]; exact h _ _ hj
theorem hle_one {M : Nat → Option Obj} {a : Atom} {L : List Atom} (h : a ∈ L) : HLe ⟨M, [a]⟩ ⟨M, L⟩ := hle_sub fun b hb => List.mem_singleton.1 hb ▸ h
theorem sliceOne (p : Option Addr) (n c : Nat) : (Value.slice p n c).oneCell' = true := rfl
theorem base_I64 {S : St} (h : okS S) {k : Nat} (hk : k < S.ts.length) : (∀ x ∈ (S.th k).b, 0 ≤ x ∧ x < 65536) ∧ (S.th k).b.length ≤ 65536 ∧ Inc (S.th k).b := by
  have hbb := h.bb (i := k) (by omega) (by omega)
  have hinc := (h.th _ _ (St.th_some (S := S) (i := k) (by omega) (by omega))).b
  exact ⟨hbb, inc_len hinc hbb, hinc⟩
set_option maxHeartbeats 4000000 in
theorem c_ConsentRemoved (v : Value) (l : List Int) (H : Hp) (hv : IntsAt H v l) (R : Ending → Hp → Prop) (hR : ∀ H', R (.returned (.bool true)) H') :
    ACalls Try.prog 4 [v] H R := by
  refine acalls_code hT Try.func4 rfl rfl ?_
  conv => whnf
  refine p_New fun g H0 B0 => ?_
  obtain ⟨X0, hw0, O0⟩ := B0.o
  conv => whnf
  refine ACalls.weak hw0 (c_Script26 v l _ (hv.mono (hle_sub O0.1)) _ fun a cs N hcs hra hN => ?_)
  have hcl : cs.length ≤ 24 := by
    have := congrArg List.length hcs
    rw [List.length_map] at this
    rw [this]
    have := (sc26_bd l (scN26 l) (by unfold scN26; omega)).2.2.1
    unfold script26; rw [this]; unfold scN26; omega
  have hoa : ∀ c ∈ cs, okA c.a := fun c hc => by
    refine (sc26_bd l (scN26 l) (by unfold scN26; omega)).2.2.2 c.a ?_
    have : c.a ∈ script26 l := by rw [← hcs]; exact List.mem_map.2 ⟨c, hc, rfl⟩
    exact this
  have O1 : BoO g ⟨[], []⟩ H.M (.row a 42 4 (avs cs) :: (N ++ H.L)) (.row a 42 4 (avs cs) :: (N ++ X0)) := by
    have := O0.add (.row a 42 4 (avs cs) :: N)
    exact this
  obtain ⟨pa, ca, rfl, hca⟩ := flatAt avc (fun _ => rfl) (by omega) (H := ⟨H.M, .row a 42 4 (avs cs) :: (N ++ H.L)⟩) (l := cs) (readsRow (e := 42) List.mem_cons_self hra)
  conv => whnf
  refine awp_loopL hT 164 [3, 4, 5, 6, 7, 8] (fun m vs H' => ∃ (i : Nat) (S : St) (gv mv bv : Value) (made : List AV) (vals : List Value) (K X : List Atom), vs = [ptr g, gv, mv, bv, .slice pa cs.length ca, .int .i64 i] ∧ m + i = cs.length ∧
    RI g H.M K X cs (.slice pa cs.length ca) N S gv mv bv made vals (fun _ => True) i ∧ H' = ⟨H.M, .row gv 3 1 (ints S.gone) :: .row mv 40 2 (mcs made) :: .row bv 22 1 vals :: X⟩) cs.length rfl rfl
    ((weakNil _ 22 1).trans ((weakNil _ 40 2).trans (weakNil _ 3 1)))
    ⟨0, ⟨[], []⟩, _, _, _, [], [], _, _, rfl, by omega, ⟨⟨by simp, by simp, by simp, by simp⟩, ⟨by simp, by simp⟩, .inl ⟨rfl, rfl⟩, .inl ⟨rfl, rfl⟩, .inl ⟨rfl, rfl⟩, rfl, rfl, by simp, by simp, by simp, by simp, by simp, by simp [mcs], fun b hb => by
      rcases List.mem_cons.1 hb with e | hb
      · exact e ▸ List.mem_cons_self
      · exact List.mem_cons_of_mem _ (List.mem_append_left _ hb), O1⟩, rfl⟩ ?_
  rintro m u vs H' ⟨i, S, gv, mv, bv, made, vals, K, X, rfl, hm, hI, rfl⟩
  conv => whnf
  refine ifC_dec (fun h1 => ?_) (fun h1 => ?_)
  · have hil : i < cs.length := by omega
    have hmem := List.getElem_mem hil
    have ho := hoa _ hmem
    obtain ⟨ga, oa, rfl, _⟩ := hca i hil
    have hce : ∀ X, (∀ b ∈ K, b ∈ X) → CellsAt ⟨H.M, X⟩ ga (oa + i * 4) (avc cs[i]) := fun X hX => by
      obtain ⟨p, c, e, hc⟩ := flatAt avc (fun _ => rfl) (by omega) (H := ⟨H.M, X⟩) (l := cs) (v := .slice (some ⟨ga, oa, none⟩) cs.length ca) (readsRow (e := 42) (hX _ (hI.ka _ List.mem_cons_self)) hra)
      obtain ⟨g', o', e', h⟩ := hc i hil
      cases e; cases e'
      exact h
    obtain ⟨rf, rp⟩ := hN cs[i] hmem K fun b hb => hI.ka b (List.mem_cons_of_mem _ hb)
    conv => whnf
    refine ⟨ga, oa, rfl, by omega, ?_⟩
    conv => whnf
    refine ⟨avc cs[i], rfl, hce _ (fun b hb => by simp [hI.bo.1 b hb]), ?_⟩
    conv => whnf
    refine q_do [_, _, _] hI.bo hI.ok (x := cs[i]) ⟨rf, fun x hx => by have := ho.f.2 x hx; omega, by have := ho.f.1; omega⟩ ⟨rp, fun x hx => by have := ho.p.2 x hx; omega, by have := ho.p.1; omega⟩ ?_
    intro X2 s hs O2
    obtain ⟨s1, s2, s3, rfl⟩ := hs.slice
    have hdid := did hI.ok hI.inv (a := cs[i].a)
    have hno := do_no (S := S) (a := cs[i].a)
    have hokd := hI.ok.do' cs[i].a
    generalize hDS : doS S cs[i].a = D at *
    obtain ⟨S', n', r', e'⟩ := D
    simp only at O2 hdid hno hokd ⊢
    have hKX : ∀ b ∈ K, b ∈ X2 := fun b hb => O2.1 b (List.mem_cons_of_mem _ hb)
    conv => whnf
    refine ifC_dec (fun he => ?_) (fun he => ?_)
    · have hS := hno he
      subst hS
      conv => whnf
      repeat (refine ⟨_, wi (by omega), ?_⟩; conv => whnf)
      exact ⟨rfl, rfl, m - 1, _, by omega, Weak.refl _, i + 1, S', gv, mv, bv, made, vals, _, X2, rfl, by omega, { hI.up (fun b hb => List.mem_cons_of_mem _ hb) O2 with gl := by have := hI.gl; omega, sl := by have := hI.sl; omega }, rfl⟩
    · have hd := hdid (Classical.not_not.1 he)
      conv => whnf
      refine ⟨ga, oa, rfl, by omega, ?_⟩
      conv => whnf
      refine ⟨_, hce _ (fun b hb => by simp [hKX b hb]) 0 _ rfl, ?_⟩
      conv => whnf
      refine ifC_dec (fun hk0 => ?_) (fun hk0 => ?_)
      · have hn1 := hd.new (by omega) (by omega)
        conv => whnf
        refine ⟨ga, oa, rfl, by omega, ?_⟩
        conv => whnf
        have hce2 : CellsAt ⟨H.M, .row gv 3 1 (ints S.gone) :: .row mv 40 2 (mcs made) :: .row bv 22 1 vals :: X2⟩ ga (oa + i * 4 + 2) (mcc cs[i]) := cellsDrop (hce _ fun b hb => by simp [hKX b hb]) 2
        refine ⟨mcc cs[i], rfl, hce2, ?_⟩
        conv => whnf
        intro q
        conv => whnf
        obtain ⟨e1, e2, e3, e4, e5⟩ := hn1
        have hml0 := hI.ml
        have hbl0 := hI.bl
        have hsl0 := hI.sl
        have hone : ∀ x ∈ mcs [cs[i]], x.oneCell' = true := fun x hx => by
          obtain ⟨_, _, _, ef, _⟩ := rf
          obtain ⟨_, _, _, ep, _⟩ := rp
          simp [mcs, mcc] at hx
          rcases hx with h | h
          · rw [h, ef]; rfl
          · rw [h, ep]; rfl
        refine ⟨H.M, .row gv 3 1 (ints S.gone) :: .row bv 22 1 vals :: X2, mcs made, mcs [cs[i]], readsRow (e := 40) (v := .slice (some ⟨q, 0, none⟩) 1 1) List.mem_cons_self (rowNew rfl (by omega)), fun x hx => ?_, (weakDel 0 rfl).trans (weakPull [1] rfl), by rw [mcs_length, mcs_length]; simp; omega, by rw [mcs_length, mcs_length]; simp [maxLen]; omega, fun v2 hv2 => ?_⟩
        · exact hone x hx
        rw [← mcs_append] at *
        conv => whnf
        intro q2
        conv => whnf
        refine ⟨H.M, .row v2 40 2 (mcs (made ++ [cs[i]])) :: .row gv 3 1 (ints S.gone) :: X2, vals, [.slice none 0 0], readsRow (e := 22) (v := .slice (some ⟨q2, 0, none⟩) 1 1) List.mem_cons_self (rowNew rfl (by omega)), fun x hx => by rw [List.mem_singleton.1 hx]; rfl, (weakDel 0 rfl).trans (weakPull [2] rfl), by simp; omega, by simp [maxLen]; omega, fun v3 hv3 => ?_⟩
        rw [← e1]
        have hRI : RI g H.M (.row (.slice s1 s2 s3) 3 1 (ints r') :: K) X2 cs (.slice (some ⟨ga, oa, none⟩) cs.length ca) N S' gv v2 v3 (made ++ [cs[i]]) (vals ++ [.slice none 0 0]) (fun k => (k : Int) ≠ n') (i + 1) := by
          refine { ok := hokd, inv := hd.inv, gv := by rw [e1]; exact hI.gv, mv := hv2, bv := hv3, ml := by simp; omega, bl := by simp; omega, gl := by rw [e1]; have := hI.gl; omega, sl := by omega, mr := fun k h => ?_, br := fun k h hp => ?_, vo := fun x hx => ?_, mo := fun x hx => ?_, ka := fun b hb => List.mem_cons_of_mem _ (hI.ka b hb), bo := O2 }
          · rcases Nat.lt_or_ge k made.length with hk | hk
            · rw [List.getElem_append_left hk, (e5 k (by omega)).2]; exact (hI.mr k hk).mono (hle_sub fun b hb => List.mem_cons_of_mem _ hb)
            · have hkk : k = S.ts.length := by simp at h; omega
              subst hkk
              rw [List.getElem_append_right hk, e4]
              simp only [List.getElem_singleton]
              exact rf.mono (hle_sub fun b hb => List.mem_cons_of_mem _ hb)
          · rcases Nat.lt_or_ge k vals.length with hk | hk
            · rw [List.getElem_append_left hk, (e5 k (by omega)).1]; exact (hI.br k hk trivial).mono (hle_sub fun b hb => List.mem_cons_of_mem _ hb)
            · exact absurd (show (k : Int) = n' by simp at h; omega) hp
          · rcases List.mem_append.1 hx with hx | hx
            · exact hI.vo x hx
            · rw [List.mem_singleton.1 hx]; rfl
          · rw [mcs_append] at hx
            rcases List.mem_append.1 hx with hx | hx
            · exact hI.mo x hx
            · exact hone x hx
        conv => whnf
        refine awp_loopL hT 164 [3, 4, 5, 6, 7, 8, 12, 13] (fun m vs H' => ∃ (k : Nat) (bv : Value) (vals : List Value) (K X : List Atom), vs = [ptr g, gv, v2, bv, .slice (some ⟨ga, oa, none⟩) cs.length ca, .int .i64 i, .int .i64 n', .int .i64 k] ∧ m + k = S'.ts.length ∧
          RI g H.M K X cs (.slice (some ⟨ga, oa, none⟩) cs.length ca) N S' gv v2 bv (made ++ [cs[i]]) vals (fun j => j < k ∨ (j : Int) ≠ n') (i + 1) ∧ H' = ⟨H.M, .row gv 3 1 (ints S'.gone) :: .row v2 40 2 (mcs (made ++ [cs[i]])) :: .row bv 22 1 vals :: X⟩) S'.ts.length rfl rfl (weakPull [2, 1, 0] rfl)
          ⟨0, v3, (vals ++ [.slice none 0 0]), _, _, rfl, by omega, { hRI with br := fun k h hp => hRI.br k h (hp.resolve_left (by omega)) }, rfl⟩ ?_
        rintro m1 u1 vs1 H1 ⟨k, bk, valk, Kk, Xk, rfl, hm1, hJ, rfl⟩
        have hml := hJ.ml
        have hbl' := hJ.bl
        obtain ⟨pm, cm, rfl, hcm⟩ := flatAt mcc (fun _ => rfl) (by omega) (H := ⟨H.M, [.row v2 40 2 (mcs (made ++ [cs[i]]))]⟩) (l := (made ++ [cs[i]])) (readsRow (e := 40) List.mem_cons_self hJ.mv)
        obtain ⟨pg, cg, rfl⟩ := hJ.gv.sl
        obtain ⟨pb, cb, rfl, hcb⟩ := flatAt (sz := 1) (fun v : Value => [v]) (fun _ => rfl) (by omega) (H := ⟨H.M, [.row bk 22 1 valk]⟩) (v := bk) (l := valk) (by rw [vals_flat]; exact readsRow (e := 22) List.mem_cons_self hJ.bv)
        conv => whnf
        refine ifC_dec (fun h2 => ?_) (fun h2 => ?_)
        · have hk : k < S'.ts.length := by omega
          have hgl := hJ.gl
          have hsl := hJ.sl
          obtain ⟨hbb, hbl, hbi⟩ := base_I64 hJ.ok hk
          have hFl : (S'.th k).f.length ≤ k := inc_len (riseF_iff.1 (hJ.ok.th _ _ (St.th_some (S := S') (i := k) (by omega) (by omega))).f).1 (hJ.ok.fk hk)
          obtain ⟨gm, om, rfl, hcm1⟩ := hcm k (by omega)
          obtain ⟨gb, ob, rfl, hcb1⟩ := hcb k (by omega)
          have hI64 : ∀ j : Nat, j < S'.ts.length → ∀ x ∈ (S'.th j).b, I64 x := fun j hj x hx => by have := (base_I64 hJ.ok hj).1 x hx; omega
          conv => whnf
          refine q_Depends [_, _, _] hJ.bo hJ.ok (i := k) ⟨by omega, by omega⟩ ?_
          intro X3 bs hbs O3
          have hJ3 := hJ.up (fun b hb => List.mem_cons_of_mem _ hb) O3
          obtain ⟨pB, cB, rfl⟩ := hbs.sl
          obtain ⟨uu, eu⟩ : ∃ uu, (S'.th k).u = uu := ⟨_, rfl⟩
          rw [eu]
          have hcb2 := fun L (h : _ ∈ L) => hcb1.mono (hle_one (M := H.M) (L := L) h)
          conv => whnf
          refine ifC_dec (fun hko => ?_) (fun hko => ?_)
          · conv => whnf
            refine ⟨gb, ob, rfl, by omega, ?_⟩
            conv => whnf
            refine ⟨_, hcb2 _ (by simp) 0 _ rfl, ?_⟩
            conv => whnf
            refine c_SameInts _ _ (S'.th k).b (S'.th k).b _ ⟨readsRow (e := 3) (by simp [O3.1 _ List.mem_cons_self]) hbs, hI64 k hk, by omega⟩ ⟨(hJ3.br k (by omega) (.inr hko)).mono (hle_sub fun b hb => by simp [O3.1 _ hb]), hI64 k hk, by omega⟩ _ ?_
            rw [decide_eq_true (show (S'.th k).b = (S'.th k).b from rfl)]
            conv => whnf
            refine ⟨gb, ob, rfl, by omega, ?_⟩
            conv => whnf
            refine stW 2 rfl k (by omega) (by simp; omega) ⟨rfl, trivial⟩ (xs' := valk.set k (.slice pB (S'.th k).b.length cB)) (by simp [setN]) ?_
            conv => whnf
            have hJ4 : RI g H.M (.row (.slice pB (S'.th k).b.length cB) 3 1 (ints (S'.th k).b) :: Kk) X3 cs (.slice (some ⟨ga, oa, none⟩) cs.length ca) N S' _ _ _ _ (valk.set k (.slice pB (S'.th k).b.length cB)) (fun j => j < k + 1 ∨ (j : Int) ≠ n') (i + 1) :=
              { hJ3 with
                bv := RowVal.len hJ3.bv (by simp)
                bl := by rw [List.length_set]; exact hbl'
                br := fun j h hp => by
                  rw [List.length_set] at h
                  by_cases hjk : j = k
                  · subst hjk; rw [List.getElem_set_self]; exact readsRow (e := 3) List.mem_cons_self hbs
                  · rw [List.getElem_set_ne (by omega)]; exact hJ3.br j h (hp.imp (by omega) id)
                vo := fun x hx => (List.mem_or_eq_of_mem_set hx).elim (hJ3.vo x) fun e => by rw [e]; rfl }
            refine awp_loopL hT 164 [3, 4, 5, 6, 7, 8, 12, 13, 14, 15, 17] (fun m vs H' => ∃ (j : Nat), vs = [ptr g, .slice pg S'.gone.length cg, .slice (some ⟨gm, om, none⟩) _ cm, .slice (some ⟨gb, ob, none⟩) valk.length cb, .slice (some ⟨ga, oa, none⟩) cs.length ca, .int .i64 i, .int .i64 _, .int .i64 k, .slice pB (S'.th k).b.length cB, .bool uu, .int .i64 j] ∧ m + j = S'.gone.length ∧
              H' = ⟨H.M, .row _ 3 1 _ :: .row _ 40 2 _ :: .row _ 22 1 _ :: X3⟩) S'.gone.length rfl rfl (Weak.refl _) ⟨0, rfl, by omega, rfl⟩ ?_
            rintro m2 u2 vs2 H2 ⟨j2, rfl, hj2, rfl⟩
            have hIg : IntsAt ⟨H.M, .row (.slice pg S'.gone.length cg) 3 1 (ints S'.gone) :: .row (.slice (some ⟨gm, om, none⟩) (List.length (made ++ [cs[i]])) cm) 40 2 (mcs (made ++ [cs[i]])) :: .row (.slice (some ⟨gb, ob, none⟩) valk.length cb) 22 1 (valk.set k (.slice pB (S'.th k).b.length cB)) :: X3⟩ (.slice pg S'.gone.length cg) S'.gone := ⟨readsRow (e := 3) List.mem_cons_self hJ.gv, fun x hx => by have := hJ.ok.gone x hx; omega, by have := hJ.gl; omega⟩
            obtain ⟨_, _, ez, _, hcg⟩ := hIg.open
            cases ez
            conv => whnf
            refine ifC_dec (fun h3 => ?_) (fun h3 => ?_)
            · rcases Bool.eq_false_or_eq_true uu with hu | hu
              · rw [hu]
                conv => whnf
                obtain ⟨g1, o1, rfl, hcell⟩ := hcg j2 (by omega) (by omega)
                refine ⟨g1, o1, rfl, by omega, ?_⟩
                conv => whnf
                refine ⟨_, hcell, ?_⟩
                conv => whnf
                refine c_Has26 _ (S'.th k).b _ _ ⟨readsRow (e := 3) (by simp [O3.1 _ List.mem_cons_self]) hbs, hI64 k hk, by omega⟩ _ ?_
                rw [decide_eq_false (hJ.inv.g k hk (by rw [eu, hu]) _ (geti_mem (by omega) (by omega)))]
                conv => whnf
                repeat (refine ⟨_, wi (by omega), ?_⟩; conv => whnf)
                exact ⟨rfl, rfl, m2 - 1, _, by omega, Weak.refl _, j2 + 1, by first | rfl | (rw [hu]; rfl), by omega, rfl⟩
              · rw [hu]
                conv => whnf
                refine awp_loopL hT 164 [3, 4, 5, 6, 7, 8, 12, 13, 14, 15, 18] (fun m vs H' => ∃ (j : Nat) (K X : List Atom), vs = [ptr g, .slice pg S'.gone.length cg, .slice (some ⟨gm, om, none⟩) _ cm, .slice (some ⟨gb, ob, none⟩) valk.length cb, .slice (some ⟨ga, oa, none⟩) cs.length ca, .int .i64 i, .int .i64 _, .int .i64 k, .slice pB (S'.th k).b.length cB, .bool uu, .int .i64 j] ∧ m + j = (S'.th k).f.length ∧
                  RI g H.M K X cs (.slice (some ⟨ga, oa, none⟩) cs.length ca) N S' _ _ _ _ _ _ (i + 1) ∧ Atom.row (.slice pB (S'.th k).b.length cB) 3 1 (ints (S'.th k).b) ∈ K ∧ H' = ⟨H.M, .row _ 3 1 _ :: .row _ 40 2 _ :: .row _ 22 1 _ :: X⟩) (S'.th k).f.length rfl rfl (Weak.refl _)
                  ⟨0, _, _, by first | rfl | (rw [hu]; rfl), by omega, hJ4, List.mem_cons_self, rfl⟩ ?_
                rintro m3 u3 vs3 H3 ⟨j3, K5, X5, rfl, hj3, hJ5, hbK, rfl⟩
                obtain ⟨pF, cF, eF, hcF⟩ := intsAt (hJ5.mr k (by omega))
                have hcm2 : ∀ L, _ ∈ L → _ := fun L h => hcm1.mono (hle_one (M := H.M) (L := L) h)
                conv => whnf
                refine ⟨gm, om, rfl, by omega, ?_⟩
                conv => whnf
                refine ⟨_, hcm2 _ (by simp) 0 _ (by rw [mcc, eF]; rfl), ?_⟩
                conv => whnf
                refine ifC_dec (fun h4 => ?_) (fun h4 => ?_)
                · rcases Bool.eq_false_or_eq_true uu with hu | hu
                  · rw [hu] at eu ⊢
                    conv => whnf
                    refine ⟨gm, om, rfl, by omega, ?_⟩
                    conv => whnf
                    refine ⟨_, hcm2 _ (by simp) 0 _ (by rw [mcc, eF]; rfl), ?_⟩
                    conv => whnf
                    obtain ⟨g2, o2, rfl, hcell2⟩ := hcF j3 (by omega) (by omega)
                    refine ⟨g2, o2, rfl, by omega, ?_⟩
                    conv => whnf
                    refine ⟨_, HLe.cell (hle_sub fun b hb => by simp [hJ5.bo.1 b hb]) hcell2, ?_⟩
                    have hmemF := geti_mem (l := (S'.th k).f) (i := (j3 : Int)) (by omega) (by omega)
                    have hfk := hJ.ok.fk hk _ hmemF
                    have hff := hJ.inv.f k hk eu _ hmemF
                    obtain ⟨fj, hfj⟩ : ∃ fj : Nat, geti (S'.th k).f j3 = fj := ⟨(geti (S'.th k).f j3).toNat, by omega⟩
                    rw [hfj] at hfk hff ⊢
                    obtain ⟨hd1, hd2, _⟩ := base_I64 hJ.ok (k := fj) (by omega)
                    conv => whnf
                    refine q_Depends [_, _, _] hJ5.bo hJ5.ok (i := fj) ⟨by omega, by omega⟩ ?_
                    intro X6 ds hds O6
                    obtain ⟨pD, cD, rfl⟩ := hds.sl
                    conv => whnf
                    refine c_Both _ _ (S'.th k).b (S'.th fj).b _ ⟨readsRow (e := 3) (by simp [O6.1 _ (List.mem_cons_of_mem _ hbK)]) hbs, hI64 k hk, by omega⟩ ⟨readsRow (e := 3) (by simp [O6.1 _ List.mem_cons_self]) hds, hI64 fj (by omega), by omega⟩ (fun x hx => (List.mem_append.1 hx).elim (fun hx => by have := hbb x hx; omega) fun hx => by have := hd1 x hx; omega) (by omega) _ ?_
                    intro w hw
                    rw [both_len hbi hff.2] at hw ⊢
                    obtain ⟨pW, cW, rfl⟩ := hw.sl
                    conv => whnf
                    refine ifC_neg (by simp) ?_
                    conv => whnf
                    repeat (refine ⟨_, wi (by omega), ?_⟩; conv => whnf)
                    exact ⟨rfl, rfl, m3 - 1, _, by omega, weakDel 0 rfl, j3 + 1, _, X6, by first | rfl | (rw [hu]; rfl), by omega, hJ5.up (fun b hb => List.mem_cons_of_mem _ hb) O6, List.mem_cons_of_mem _ hbK, rfl⟩
                  · rw [hu]
                    conv => whnf
                    conv => whnf
                    repeat (refine ⟨_, wi (by omega), ?_⟩; conv => whnf)
                    exact ⟨rfl, rfl, m1 - 1, _, by omega, Weak.refl _, k + 1, _, _, _, _, rfl, by omega, hJ5, rfl⟩
                · conv => whnf
                  conv => whnf
                  repeat (refine ⟨_, wi (by omega), ?_⟩; conv => whnf)
                  exact ⟨rfl, rfl, m1 - 1, _, by omega, Weak.refl _, k + 1, _, _, _, _, rfl, by omega, hJ5, rfl⟩
            · conv => whnf
              refine awp_loopL hT 164 [3, 4, 5, 6, 7, 8, 12, 13, 14, 15, 18] (fun m vs H' => ∃ (j : Nat) (K X : List Atom), vs = [ptr g, .slice pg S'.gone.length cg, .slice (some ⟨gm, om, none⟩) _ cm, .slice (some ⟨gb, ob, none⟩) valk.length cb, .slice (some ⟨ga, oa, none⟩) cs.length ca, .int .i64 i, .int .i64 _, .int .i64 k, .slice pB (S'.th k).b.length cB, .bool uu, .int .i64 j] ∧ m + j = (S'.th k).f.length ∧
                RI g H.M K X cs (.slice (some ⟨ga, oa, none⟩) cs.length ca) N S' _ _ _ _ _ _ (i + 1) ∧ Atom.row (.slice pB (S'.th k).b.length cB) 3 1 (ints (S'.th k).b) ∈ K ∧ H' = ⟨H.M, .row _ 3 1 _ :: .row _ 40 2 _ :: .row _ 22 1 _ :: X⟩) (S'.th k).f.length rfl rfl (Weak.refl _)
                ⟨0, _, _, by first | rfl | (rw [hu]; rfl), by omega, hJ4, List.mem_cons_self, rfl⟩ ?_
              rintro m3 u3 vs3 H3 ⟨j3, K5, X5, rfl, hj3, hJ5, hbK, rfl⟩
              obtain ⟨pF, cF, eF, hcF⟩ := intsAt (hJ5.mr k (by omega))
              have hcm2 : ∀ L, _ ∈ L → _ := fun L h => hcm1.mono (hle_one (M := H.M) (L := L) h)
              conv => whnf
              refine ⟨gm, om, rfl, by omega, ?_⟩
              conv => whnf
              refine ⟨_, hcm2 _ (by simp) 0 _ (by rw [mcc, eF]; rfl), ?_⟩
              conv => whnf
              refine ifC_dec (fun h4 => ?_) (fun h4 => ?_)
              · rcases Bool.eq_false_or_eq_true uu with hu | hu
                · rw [hu] at eu ⊢
                  conv => whnf
                  refine ⟨gm, om, rfl, by omega, ?_⟩
                  conv => whnf
                  refine ⟨_, hcm2 _ (by simp) 0 _ (by rw [mcc, eF]; rfl), ?_⟩
                  conv => whnf
                  obtain ⟨g2, o2, rfl, hcell2⟩ := hcF j3 (by omega) (by omega)
                  refine ⟨g2, o2, rfl, by omega, ?_⟩
                  conv => whnf
                  refine ⟨_, HLe.cell (hle_sub fun b hb => by simp [hJ5.bo.1 b hb]) hcell2, ?_⟩
                  have hmemF := geti_mem (l := (S'.th k).f) (i := (j3 : Int)) (by omega) (by omega)
                  have hfk := hJ.ok.fk hk _ hmemF
                  have hff := hJ.inv.f k hk eu _ hmemF
                  obtain ⟨fj, hfj⟩ : ∃ fj : Nat, geti (S'.th k).f j3 = fj := ⟨(geti (S'.th k).f j3).toNat, by omega⟩
                  rw [hfj] at hfk hff ⊢
                  obtain ⟨hd1, hd2, _⟩ := base_I64 hJ.ok (k := fj) (by omega)
                  conv => whnf
                  refine q_Depends [_, _, _] hJ5.bo hJ5.ok (i := fj) ⟨by omega, by omega⟩ ?_
                  intro X6 ds hds O6
                  obtain ⟨pD, cD, rfl⟩ := hds.sl
                  conv => whnf
                  refine c_Both _ _ (S'.th k).b (S'.th fj).b _ ⟨readsRow (e := 3) (by simp [O6.1 _ (List.mem_cons_of_mem _ hbK)]) hbs, hI64 k hk, by omega⟩ ⟨readsRow (e := 3) (by simp [O6.1 _ List.mem_cons_self]) hds, hI64 fj (by omega), by omega⟩ (fun x hx => (List.mem_append.1 hx).elim (fun hx => by have := hbb x hx; omega) fun hx => by have := hd1 x hx; omega) (by omega) _ ?_
                  intro w hw
                  rw [both_len hbi hff.2] at hw ⊢
                  obtain ⟨pW, cW, rfl⟩ := hw.sl
                  conv => whnf
                  refine ifC_neg (by simp) ?_
                  conv => whnf
                  repeat (refine ⟨_, wi (by omega), ?_⟩; conv => whnf)
                  exact ⟨rfl, rfl, m3 - 1, _, by omega, weakDel 0 rfl, j3 + 1, _, X6, by first | rfl | (rw [hu]; rfl), by omega, hJ5.up (fun b hb => List.mem_cons_of_mem _ hb) O6, List.mem_cons_of_mem _ hbK, rfl⟩
                · rw [hu]
                  conv => whnf
                  conv => whnf
                  repeat (refine ⟨_, wi (by omega), ?_⟩; conv => whnf)
                  exact ⟨rfl, rfl, m1 - 1, _, by omega, Weak.refl _, k + 1, _, _, _, _, rfl, by omega, hJ5, rfl⟩
              · conv => whnf
                conv => whnf
                repeat (refine ⟨_, wi (by omega), ?_⟩; conv => whnf)
                exact ⟨rfl, rfl, m1 - 1, _, by omega, Weak.refl _, k + 1, _, _, _, _, rfl, by omega, hJ5, rfl⟩
          · conv => whnf
            refine ⟨gb, ob, rfl, by omega, ?_⟩
            conv => whnf
            refine stW 2 rfl k (by omega) (by simp; omega) ⟨rfl, trivial⟩ (xs' := valk.set k (.slice pB (S'.th k).b.length cB)) (by simp [setN]) ?_
            conv => whnf
            have hJ4 : RI g H.M (.row (.slice pB (S'.th k).b.length cB) 3 1 (ints (S'.th k).b) :: Kk) X3 cs (.slice (some ⟨ga, oa, none⟩) cs.length ca) N S' _ _ _ _ (valk.set k (.slice pB (S'.th k).b.length cB)) (fun j => j < k + 1 ∨ (j : Int) ≠ n') (i + 1) :=
              { hJ3 with
                bv := RowVal.len hJ3.bv (by simp)
                bl := by rw [List.length_set]; exact hbl'
                br := fun j h hp => by
                  rw [List.length_set] at h
                  by_cases hjk : j = k
                  · subst hjk; rw [List.getElem_set_self]; exact readsRow (e := 3) List.mem_cons_self hbs
                  · rw [List.getElem_set_ne (by omega)]; exact hJ3.br j h (hp.imp (by omega) id)
                vo := fun x hx => (List.mem_or_eq_of_mem_set hx).elim (hJ3.vo x) fun e => by rw [e]; rfl }
            refine awp_loopL hT 164 [3, 4, 5, 6, 7, 8, 12, 13, 14, 15, 17] (fun m vs H' => ∃ (j : Nat), vs = [ptr g, .slice pg S'.gone.length cg, .slice (some ⟨gm, om, none⟩) _ cm, .slice (some ⟨gb, ob, none⟩) valk.length cb, .slice (some ⟨ga, oa, none⟩) cs.length ca, .int .i64 i, .int .i64 _, .int .i64 k, .slice pB (S'.th k).b.length cB, .bool uu, .int .i64 j] ∧ m + j = S'.gone.length ∧
              H' = ⟨H.M, .row _ 3 1 _ :: .row _ 40 2 _ :: .row _ 22 1 _ :: X3⟩) S'.gone.length rfl rfl (Weak.refl _) ⟨0, rfl, by omega, rfl⟩ ?_
            rintro m2 u2 vs2 H2 ⟨j2, rfl, hj2, rfl⟩
            have hIg : IntsAt ⟨H.M, .row (.slice pg S'.gone.length cg) 3 1 (ints S'.gone) :: .row (.slice (some ⟨gm, om, none⟩) (List.length (made ++ [cs[i]])) cm) 40 2 (mcs (made ++ [cs[i]])) :: .row (.slice (some ⟨gb, ob, none⟩) valk.length cb) 22 1 (valk.set k (.slice pB (S'.th k).b.length cB)) :: X3⟩ (.slice pg S'.gone.length cg) S'.gone := ⟨readsRow (e := 3) List.mem_cons_self hJ.gv, fun x hx => by have := hJ.ok.gone x hx; omega, by have := hJ.gl; omega⟩
            obtain ⟨_, _, ez, _, hcg⟩ := hIg.open
            cases ez
            conv => whnf
            refine ifC_dec (fun h3 => ?_) (fun h3 => ?_)
            · rcases Bool.eq_false_or_eq_true uu with hu | hu
              · rw [hu]
                conv => whnf
                obtain ⟨g1, o1, rfl, hcell⟩ := hcg j2 (by omega) (by omega)
                refine ⟨g1, o1, rfl, by omega, ?_⟩
                conv => whnf
                refine ⟨_, hcell, ?_⟩
                conv => whnf
                refine c_Has26 _ (S'.th k).b _ _ ⟨readsRow (e := 3) (by simp [O3.1 _ List.mem_cons_self]) hbs, hI64 k hk, by omega⟩ _ ?_
                rw [decide_eq_false (hJ.inv.g k hk (by rw [eu, hu]) _ (geti_mem (by omega) (by omega)))]
                conv => whnf
                repeat (refine ⟨_, wi (by omega), ?_⟩; conv => whnf)
                exact ⟨rfl, rfl, m2 - 1, _, by omega, Weak.refl _, j2 + 1, by first | rfl | (rw [hu]; rfl), by omega, rfl⟩
              · rw [hu]
                conv => whnf
                refine awp_loopL hT 164 [3, 4, 5, 6, 7, 8, 12, 13, 14, 15, 18] (fun m vs H' => ∃ (j : Nat) (K X : List Atom), vs = [ptr g, .slice pg S'.gone.length cg, .slice (some ⟨gm, om, none⟩) _ cm, .slice (some ⟨gb, ob, none⟩) valk.length cb, .slice (some ⟨ga, oa, none⟩) cs.length ca, .int .i64 i, .int .i64 _, .int .i64 k, .slice pB (S'.th k).b.length cB, .bool uu, .int .i64 j] ∧ m + j = (S'.th k).f.length ∧
                  RI g H.M K X cs (.slice (some ⟨ga, oa, none⟩) cs.length ca) N S' _ _ _ _ _ _ (i + 1) ∧ Atom.row (.slice pB (S'.th k).b.length cB) 3 1 (ints (S'.th k).b) ∈ K ∧ H' = ⟨H.M, .row _ 3 1 _ :: .row _ 40 2 _ :: .row _ 22 1 _ :: X⟩) (S'.th k).f.length rfl rfl (Weak.refl _)
                  ⟨0, _, _, by first | rfl | (rw [hu]; rfl), by omega, hJ4, List.mem_cons_self, rfl⟩ ?_
                rintro m3 u3 vs3 H3 ⟨j3, K5, X5, rfl, hj3, hJ5, hbK, rfl⟩
                obtain ⟨pF, cF, eF, hcF⟩ := intsAt (hJ5.mr k (by omega))
                have hcm2 : ∀ L, _ ∈ L → _ := fun L h => hcm1.mono (hle_one (M := H.M) (L := L) h)
                conv => whnf
                refine ⟨gm, om, rfl, by omega, ?_⟩
                conv => whnf
                refine ⟨_, hcm2 _ (by simp) 0 _ (by rw [mcc, eF]; rfl), ?_⟩
                conv => whnf
                refine ifC_dec (fun h4 => ?_) (fun h4 => ?_)
                · rcases Bool.eq_false_or_eq_true uu with hu | hu
                  · rw [hu] at eu ⊢
                    conv => whnf
                    refine ⟨gm, om, rfl, by omega, ?_⟩
                    conv => whnf
                    refine ⟨_, hcm2 _ (by simp) 0 _ (by rw [mcc, eF]; rfl), ?_⟩
                    conv => whnf
                    obtain ⟨g2, o2, rfl, hcell2⟩ := hcF j3 (by omega) (by omega)
                    refine ⟨g2, o2, rfl, by omega, ?_⟩
                    conv => whnf
                    refine ⟨_, HLe.cell (hle_sub fun b hb => by simp [hJ5.bo.1 b hb]) hcell2, ?_⟩
                    have hmemF := geti_mem (l := (S'.th k).f) (i := (j3 : Int)) (by omega) (by omega)
                    have hfk := hJ.ok.fk hk _ hmemF
                    have hff := hJ.inv.f k hk eu _ hmemF
                    obtain ⟨fj, hfj⟩ : ∃ fj : Nat, geti (S'.th k).f j3 = fj := ⟨(geti (S'.th k).f j3).toNat, by omega⟩
                    rw [hfj] at hfk hff ⊢
                    obtain ⟨hd1, hd2, _⟩ := base_I64 hJ.ok (k := fj) (by omega)
                    conv => whnf
                    refine q_Depends [_, _, _] hJ5.bo hJ5.ok (i := fj) ⟨by omega, by omega⟩ ?_
                    intro X6 ds hds O6
                    obtain ⟨pD, cD, rfl⟩ := hds.sl
                    conv => whnf
                    refine c_Both _ _ (S'.th k).b (S'.th fj).b _ ⟨readsRow (e := 3) (by simp [O6.1 _ (List.mem_cons_of_mem _ hbK)]) hbs, hI64 k hk, by omega⟩ ⟨readsRow (e := 3) (by simp [O6.1 _ List.mem_cons_self]) hds, hI64 fj (by omega), by omega⟩ (fun x hx => (List.mem_append.1 hx).elim (fun hx => by have := hbb x hx; omega) fun hx => by have := hd1 x hx; omega) (by omega) _ ?_
                    intro w hw
                    rw [both_len hbi hff.2] at hw ⊢
                    obtain ⟨pW, cW, rfl⟩ := hw.sl
                    conv => whnf
                    refine ifC_neg (by simp) ?_
                    conv => whnf
                    repeat (refine ⟨_, wi (by omega), ?_⟩; conv => whnf)
                    exact ⟨rfl, rfl, m3 - 1, _, by omega, weakDel 0 rfl, j3 + 1, _, X6, by first | rfl | (rw [hu]; rfl), by omega, hJ5.up (fun b hb => List.mem_cons_of_mem _ hb) O6, List.mem_cons_of_mem _ hbK, rfl⟩
                  · rw [hu]
                    conv => whnf
                    conv => whnf
                    repeat (refine ⟨_, wi (by omega), ?_⟩; conv => whnf)
                    exact ⟨rfl, rfl, m1 - 1, _, by omega, Weak.refl _, k + 1, _, _, _, _, rfl, by omega, hJ5, rfl⟩
                · conv => whnf
                  conv => whnf
                  repeat (refine ⟨_, wi (by omega), ?_⟩; conv => whnf)
                  exact ⟨rfl, rfl, m1 - 1, _, by omega, Weak.refl _, k + 1, _, _, _, _, rfl, by omega, hJ5, rfl⟩
            · conv => whnf
              refine awp_loopL hT 164 [3, 4, 5, 6, 7, 8, 12, 13, 14, 15, 18] (fun m vs H' => ∃ (j : Nat) (K X : List Atom), vs = [ptr g, .slice pg S'.gone.length cg, .slice (some ⟨gm, om, none⟩) _ cm, .slice (some ⟨gb, ob, none⟩) valk.length cb, .slice (some ⟨ga, oa, none⟩) cs.length ca, .int .i64 i, .int .i64 _, .int .i64 k, .slice pB (S'.th k).b.length cB, .bool uu, .int .i64 j] ∧ m + j = (S'.th k).f.length ∧
                RI g H.M K X cs (.slice (some ⟨ga, oa, none⟩) cs.length ca) N S' _ _ _ _ _ _ (i + 1) ∧ Atom.row (.slice pB (S'.th k).b.length cB) 3 1 (ints (S'.th k).b) ∈ K ∧ H' = ⟨H.M, .row _ 3 1 _ :: .row _ 40 2 _ :: .row _ 22 1 _ :: X⟩) (S'.th k).f.length rfl rfl (Weak.refl _)
                ⟨0, _, _, by first | rfl | (rw [hu]; rfl), by omega, hJ4, List.mem_cons_self, rfl⟩ ?_
              rintro m3 u3 vs3 H3 ⟨j3, K5, X5, rfl, hj3, hJ5, hbK, rfl⟩
              obtain ⟨pF, cF, eF, hcF⟩ := intsAt (hJ5.mr k (by omega))
              have hcm2 : ∀ L, _ ∈ L → _ := fun L h => hcm1.mono (hle_one (M := H.M) (L := L) h)
              conv => whnf
              refine ⟨gm, om, rfl, by omega, ?_⟩
              conv => whnf
              refine ⟨_, hcm2 _ (by simp) 0 _ (by rw [mcc, eF]; rfl), ?_⟩
              conv => whnf
              refine ifC_dec (fun h4 => ?_) (fun h4 => ?_)
              · rcases Bool.eq_false_or_eq_true uu with hu | hu
                · rw [hu] at eu ⊢
                  conv => whnf
                  refine ⟨gm, om, rfl, by omega, ?_⟩
                  conv => whnf
                  refine ⟨_, hcm2 _ (by simp) 0 _ (by rw [mcc, eF]; rfl), ?_⟩
                  conv => whnf
                  obtain ⟨g2, o2, rfl, hcell2⟩ := hcF j3 (by omega) (by omega)
                  refine ⟨g2, o2, rfl, by omega, ?_⟩
                  conv => whnf
                  refine ⟨_, HLe.cell (hle_sub fun b hb => by simp [hJ5.bo.1 b hb]) hcell2, ?_⟩
                  have hmemF := geti_mem (l := (S'.th k).f) (i := (j3 : Int)) (by omega) (by omega)
                  have hfk := hJ.ok.fk hk _ hmemF
                  have hff := hJ.inv.f k hk eu _ hmemF
                  obtain ⟨fj, hfj⟩ : ∃ fj : Nat, geti (S'.th k).f j3 = fj := ⟨(geti (S'.th k).f j3).toNat, by omega⟩
                  rw [hfj] at hfk hff ⊢
                  obtain ⟨hd1, hd2, _⟩ := base_I64 hJ.ok (k := fj) (by omega)
                  conv => whnf
                  refine q_Depends [_, _, _] hJ5.bo hJ5.ok (i := fj) ⟨by omega, by omega⟩ ?_
                  intro X6 ds hds O6
                  obtain ⟨pD, cD, rfl⟩ := hds.sl
                  conv => whnf
                  refine c_Both _ _ (S'.th k).b (S'.th fj).b _ ⟨readsRow (e := 3) (by simp [O6.1 _ (List.mem_cons_of_mem _ hbK)]) hbs, hI64 k hk, by omega⟩ ⟨readsRow (e := 3) (by simp [O6.1 _ List.mem_cons_self]) hds, hI64 fj (by omega), by omega⟩ (fun x hx => (List.mem_append.1 hx).elim (fun hx => by have := hbb x hx; omega) fun hx => by have := hd1 x hx; omega) (by omega) _ ?_
                  intro w hw
                  rw [both_len hbi hff.2] at hw ⊢
                  obtain ⟨pW, cW, rfl⟩ := hw.sl
                  conv => whnf
                  refine ifC_neg (by simp) ?_
                  conv => whnf
                  repeat (refine ⟨_, wi (by omega), ?_⟩; conv => whnf)
                  exact ⟨rfl, rfl, m3 - 1, _, by omega, weakDel 0 rfl, j3 + 1, _, X6, by first | rfl | (rw [hu]; rfl), by omega, hJ5.up (fun b hb => List.mem_cons_of_mem _ hb) O6, List.mem_cons_of_mem _ hbK, rfl⟩
                · rw [hu]
                  conv => whnf
                  conv => whnf
                  repeat (refine ⟨_, wi (by omega), ?_⟩; conv => whnf)
                  exact ⟨rfl, rfl, m1 - 1, _, by omega, Weak.refl _, k + 1, _, _, _, _, rfl, by omega, hJ5, rfl⟩
              · conv => whnf
                conv => whnf
                repeat (refine ⟨_, wi (by omega), ?_⟩; conv => whnf)
                exact ⟨rfl, rfl, m1 - 1, _, by omega, Weak.refl _, k + 1, _, _, _, _, rfl, by omega, hJ5, rfl⟩
        · conv => whnf
          repeat (refine ⟨_, wi (by omega), ?_⟩; conv => whnf)
          exact ⟨rfl, rfl, m - 1, _, by omega, Weak.refl _, i + 1, S', _, _, _, _, valk, Kk, Xk, rfl, by omega, { hJ with br := fun j h _ => hJ.br j h (Or.inl (by omega)) }, rfl⟩
      · conv => whnf
        refine ifC_dec (fun hk1 => ?_) (fun hk1 => ?_)
        · have hr1 := hd.rm hk1
          conv => whnf
          refine ⟨ga, oa, rfl, by omega, ?_⟩
          conv => whnf
          refine ⟨_, hce _ (fun b hb => by simp [hKX b hb]) 1 _ rfl, ?_⟩
          conv => whnf
          intro q
          conv => whnf
          obtain ⟨e1, e2, e3⟩ := hr1
          have hgl0 := hI.gl
          refine ⟨H.M, .row mv 40 2 (mcs made) :: .row bv 22 1 vals :: X2, ints S.gone, ints [cs[i].a.n], readsNew rfl rfl, ints_one _, weakDel 0 rfl, by rw [ints_length, ints_length]; simp; omega, by rw [ints_length, ints_length]; simp [maxLen]; omega, fun v2 hv2 => ?_⟩
          rw [← ints_append, ← e1] at hv2 ⊢
          have hml0 := hI.ml
          have hbl0 := hI.bl
          have hRI : RI g H.M (.row (.slice s1 s2 s3) 3 1 (ints r') :: K) X2 cs (.slice (some ⟨ga, oa, none⟩) cs.length ca) N S' v2 mv bv made vals (fun k => (k : Int) ≠ -1) (i + 1) := by
            exact { ok := hokd, inv := hd.inv, gv := hv2, mv := hI.mv, bv := hI.bv, ml := by omega, bl := by omega, gl := by rw [e1]; simp; omega, sl := by have := hI.sl; omega, mr := fun k h => by rw [(e3 k (by omega)).2]; exact (hI.mr k h).mono (hle_sub fun b hb => List.mem_cons_of_mem _ hb), br := fun k h _ => by rw [(e3 k (by omega)).1]; exact (hI.br k h trivial).mono (hle_sub fun b hb => List.mem_cons_of_mem _ hb), vo := hI.vo, mo := hI.mo, ka := fun b hb => List.mem_cons_of_mem _ (hI.ka b hb), bo := O2 }
          conv => whnf
          refine awp_loopL hT 164 [3, 4, 5, 6, 7, 8, 12, 13] (fun m vs H' => ∃ (k : Nat) (bv : Value) (vals : List Value) (K X : List Atom), vs = [ptr g, v2, mv, bv, .slice (some ⟨ga, oa, none⟩) cs.length ca, .int .i64 i, .int .i64 (-1), .int .i64 k] ∧ m + k = S'.ts.length ∧
            RI g H.M K X cs (.slice (some ⟨ga, oa, none⟩) cs.length ca) N S' v2 mv bv made vals (fun j => j < k ∨ (j : Int) ≠ (-1)) (i + 1) ∧ H' = ⟨H.M, .row v2 3 1 (ints S'.gone) :: .row mv 40 2 (mcs made) :: .row bv 22 1 vals :: X⟩) S'.ts.length rfl rfl (Weak.refl _)
            ⟨0, bv, vals, _, _, rfl, by omega, { hRI with br := fun k h hp => hRI.br k h (hp.resolve_left (by omega)) }, rfl⟩ ?_
          rintro m1 u1 vs1 H1 ⟨k, bk, valk, Kk, Xk, rfl, hm1, hJ, rfl⟩
          have hml := hJ.ml
          have hbl' := hJ.bl
          obtain ⟨pm, cm, rfl, hcm⟩ := flatAt mcc (fun _ => rfl) (by omega) (H := ⟨H.M, [.row mv 40 2 (mcs made)]⟩) (l := made) (readsRow (e := 40) List.mem_cons_self hJ.mv)
          obtain ⟨pg, cg, rfl⟩ := hJ.gv.sl
          obtain ⟨pb, cb, rfl, hcb⟩ := flatAt (sz := 1) (fun v : Value => [v]) (fun _ => rfl) (by omega) (H := ⟨H.M, [.row bk 22 1 valk]⟩) (v := bk) (l := valk) (by rw [vals_flat]; exact readsRow (e := 22) List.mem_cons_self hJ.bv)
          conv => whnf
          refine ifC_dec (fun h2 => ?_) (fun h2 => ?_)
          · have hk : k < S'.ts.length := by omega
            have hgl := hJ.gl
            have hsl := hJ.sl
            obtain ⟨hbb, hbl, hbi⟩ := base_I64 hJ.ok hk
            have hFl : (S'.th k).f.length ≤ k := inc_len (riseF_iff.1 (hJ.ok.th _ _ (St.th_some (S := S') (i := k) (by omega) (by omega))).f).1 (hJ.ok.fk hk)
            obtain ⟨gm, om, rfl, hcm1⟩ := hcm k (by omega)
            obtain ⟨gb, ob, rfl, hcb1⟩ := hcb k (by omega)
            have hI64 : ∀ j : Nat, j < S'.ts.length → ∀ x ∈ (S'.th j).b, I64 x := fun j hj x hx => by have := (base_I64 hJ.ok hj).1 x hx; omega
            conv => whnf
            refine q_Depends [_, _, _] hJ.bo hJ.ok (i := k) ⟨by omega, by omega⟩ ?_
            intro X3 bs hbs O3
            have hJ3 := hJ.up (fun b hb => List.mem_cons_of_mem _ hb) O3
            obtain ⟨pB, cB, rfl⟩ := hbs.sl
            obtain ⟨uu, eu⟩ : ∃ uu, (S'.th k).u = uu := ⟨_, rfl⟩
            rw [eu]
            have hcb2 := fun L (h : _ ∈ L) => hcb1.mono (hle_one (M := H.M) (L := L) h)
            conv => whnf
            have hko : (k : Int) ≠ -1 := by omega
            conv => whnf
            refine ⟨gb, ob, rfl, by omega, ?_⟩
            conv => whnf
            refine ⟨_, hcb2 _ (by simp) 0 _ rfl, ?_⟩
            conv => whnf
            refine c_SameInts _ _ (S'.th k).b (S'.th k).b _ ⟨readsRow (e := 3) (by simp [O3.1 _ List.mem_cons_self]) hbs, hI64 k hk, by omega⟩ ⟨(hJ3.br k (by omega) (.inr hko)).mono (hle_sub fun b hb => by simp [O3.1 _ hb]), hI64 k hk, by omega⟩ _ ?_
            rw [decide_eq_true (show (S'.th k).b = (S'.th k).b from rfl)]
            conv => whnf
            refine ⟨gb, ob, rfl, by omega, ?_⟩
            conv => whnf
            refine stW 2 rfl k (by omega) (by simp; omega) ⟨rfl, trivial⟩ (xs' := valk.set k (.slice pB (S'.th k).b.length cB)) (by simp [setN]) ?_
            conv => whnf
            have hJ4 : RI g H.M (.row (.slice pB (S'.th k).b.length cB) 3 1 (ints (S'.th k).b) :: Kk) X3 cs (.slice (some ⟨ga, oa, none⟩) cs.length ca) N S' _ _ _ _ (valk.set k (.slice pB (S'.th k).b.length cB)) (fun j => j < k + 1 ∨ (j : Int) ≠ (-1)) (i + 1) :=
              { hJ3 with
                bv := RowVal.len hJ3.bv (by simp)
                bl := by rw [List.length_set]; exact hbl'
                br := fun j h hp => by
                  rw [List.length_set] at h
                  by_cases hjk : j = k
                  · subst hjk; rw [List.getElem_set_self]; exact readsRow (e := 3) List.mem_cons_self hbs
                  · rw [List.getElem_set_ne (by omega)]; exact hJ3.br j h (hp.imp (by omega) id)
                vo := fun x hx => (List.mem_or_eq_of_mem_set hx).elim (hJ3.vo x) fun e => by rw [e]; rfl }
            refine awp_loopL hT 164 [3, 4, 5, 6, 7, 8, 12, 13, 14, 15, 17] (fun m vs H' => ∃ (j : Nat), vs = [ptr g, .slice pg S'.gone.length cg, .slice (some ⟨gm, om, none⟩) _ cm, .slice (some ⟨gb, ob, none⟩) valk.length cb, .slice (some ⟨ga, oa, none⟩) cs.length ca, .int .i64 i, .int .i64 _, .int .i64 k, .slice pB (S'.th k).b.length cB, .bool uu, .int .i64 j] ∧ m + j = S'.gone.length ∧
              H' = ⟨H.M, .row _ 3 1 _ :: .row _ 40 2 _ :: .row _ 22 1 _ :: X3⟩) S'.gone.length rfl rfl (Weak.refl _) ⟨0, rfl, by omega, rfl⟩ ?_
            rintro m2 u2 vs2 H2 ⟨j2, rfl, hj2, rfl⟩
            have hIg : IntsAt ⟨H.M, .row (.slice pg S'.gone.length cg) 3 1 (ints S'.gone) :: .row (.slice (some ⟨gm, om, none⟩) (List.length made) cm) 40 2 (mcs made) :: .row (.slice (some ⟨gb, ob, none⟩) valk.length cb) 22 1 (valk.set k (.slice pB (S'.th k).b.length cB)) :: X3⟩ (.slice pg S'.gone.length cg) S'.gone := ⟨readsRow (e := 3) List.mem_cons_self hJ.gv, fun x hx => by have := hJ.ok.gone x hx; omega, by have := hJ.gl; omega⟩
            obtain ⟨_, _, ez, _, hcg⟩ := hIg.open
            cases ez
            conv => whnf
            refine ifC_dec (fun h3 => ?_) (fun h3 => ?_)
            · rcases Bool.eq_false_or_eq_true uu with hu | hu
              · rw [hu]
                conv => whnf
                obtain ⟨g1, o1, rfl, hcell⟩ := hcg j2 (by omega) (by omega)
                refine ⟨g1, o1, rfl, by omega, ?_⟩
                conv => whnf
                refine ⟨_, hcell, ?_⟩
                conv => whnf
                refine c_Has26 _ (S'.th k).b _ _ ⟨readsRow (e := 3) (by simp [O3.1 _ List.mem_cons_self]) hbs, hI64 k hk, by omega⟩ _ ?_
                rw [decide_eq_false (hJ.inv.g k hk (by rw [eu, hu]) _ (geti_mem (by omega) (by omega)))]
                conv => whnf
                repeat (refine ⟨_, wi (by omega), ?_⟩; conv => whnf)
                exact ⟨rfl, rfl, m2 - 1, _, by omega, Weak.refl _, j2 + 1, by first | rfl | (rw [hu]; rfl), by omega, rfl⟩
              · rw [hu]
                conv => whnf
                refine awp_loopL hT 164 [3, 4, 5, 6, 7, 8, 12, 13, 14, 15, 18] (fun m vs H' => ∃ (j : Nat) (K X : List Atom), vs = [ptr g, .slice pg S'.gone.length cg, .slice (some ⟨gm, om, none⟩) _ cm, .slice (some ⟨gb, ob, none⟩) valk.length cb, .slice (some ⟨ga, oa, none⟩) cs.length ca, .int .i64 i, .int .i64 _, .int .i64 k, .slice pB (S'.th k).b.length cB, .bool uu, .int .i64 j] ∧ m + j = (S'.th k).f.length ∧
                  RI g H.M K X cs (.slice (some ⟨ga, oa, none⟩) cs.length ca) N S' _ _ _ _ _ _ (i + 1) ∧ Atom.row (.slice pB (S'.th k).b.length cB) 3 1 (ints (S'.th k).b) ∈ K ∧ H' = ⟨H.M, .row _ 3 1 _ :: .row _ 40 2 _ :: .row _ 22 1 _ :: X⟩) (S'.th k).f.length rfl rfl (Weak.refl _)
                  ⟨0, _, _, by first | rfl | (rw [hu]; rfl), by omega, hJ4, List.mem_cons_self, rfl⟩ ?_
                rintro m3 u3 vs3 H3 ⟨j3, K5, X5, rfl, hj3, hJ5, hbK, rfl⟩
                obtain ⟨pF, cF, eF, hcF⟩ := intsAt (hJ5.mr k (by omega))
                have hcm2 : ∀ L, _ ∈ L → _ := fun L h => hcm1.mono (hle_one (M := H.M) (L := L) h)
                conv => whnf
                refine ⟨gm, om, rfl, by omega, ?_⟩
                conv => whnf
                refine ⟨_, hcm2 _ (by simp) 0 _ (by rw [mcc, eF]; rfl), ?_⟩
                conv => whnf
                refine ifC_dec (fun h4 => ?_) (fun h4 => ?_)
                · rcases Bool.eq_false_or_eq_true uu with hu | hu
                  · rw [hu] at eu ⊢
                    conv => whnf
                    refine ⟨gm, om, rfl, by omega, ?_⟩
                    conv => whnf
                    refine ⟨_, hcm2 _ (by simp) 0 _ (by rw [mcc, eF]; rfl), ?_⟩
                    conv => whnf
                    obtain ⟨g2, o2, rfl, hcell2⟩ := hcF j3 (by omega) (by omega)
                    refine ⟨g2, o2, rfl, by omega, ?_⟩
                    conv => whnf
                    refine ⟨_, HLe.cell (hle_sub fun b hb => by simp [hJ5.bo.1 b hb]) hcell2, ?_⟩
                    have hmemF := geti_mem (l := (S'.th k).f) (i := (j3 : Int)) (by omega) (by omega)
                    have hfk := hJ.ok.fk hk _ hmemF
                    have hff := hJ.inv.f k hk eu _ hmemF
                    obtain ⟨fj, hfj⟩ : ∃ fj : Nat, geti (S'.th k).f j3 = fj := ⟨(geti (S'.th k).f j3).toNat, by omega⟩
                    rw [hfj] at hfk hff ⊢
                    obtain ⟨hd1, hd2, _⟩ := base_I64 hJ.ok (k := fj) (by omega)
                    conv => whnf
                    refine q_Depends [_, _, _] hJ5.bo hJ5.ok (i := fj) ⟨by omega, by omega⟩ ?_
                    intro X6 ds hds O6
                    obtain ⟨pD, cD, rfl⟩ := hds.sl
                    conv => whnf
                    refine c_Both _ _ (S'.th k).b (S'.th fj).b _ ⟨readsRow (e := 3) (by simp [O6.1 _ (List.mem_cons_of_mem _ hbK)]) hbs, hI64 k hk, by omega⟩ ⟨readsRow (e := 3) (by simp [O6.1 _ List.mem_cons_self]) hds, hI64 fj (by omega), by omega⟩ (fun x hx => (List.mem_append.1 hx).elim (fun hx => by have := hbb x hx; omega) fun hx => by have := hd1 x hx; omega) (by omega) _ ?_
                    intro w hw
                    rw [both_len hbi hff.2] at hw ⊢
                    obtain ⟨pW, cW, rfl⟩ := hw.sl
                    conv => whnf
                    refine ifC_neg (by simp) ?_
                    conv => whnf
                    repeat (refine ⟨_, wi (by omega), ?_⟩; conv => whnf)
                    exact ⟨rfl, rfl, m3 - 1, _, by omega, weakDel 0 rfl, j3 + 1, _, X6, by first | rfl | (rw [hu]; rfl), by omega, hJ5.up (fun b hb => List.mem_cons_of_mem _ hb) O6, List.mem_cons_of_mem _ hbK, rfl⟩
                  · rw [hu]
                    conv => whnf
                    conv => whnf
                    repeat (refine ⟨_, wi (by omega), ?_⟩; conv => whnf)
                    exact ⟨rfl, rfl, m1 - 1, _, by omega, Weak.refl _, k + 1, _, _, _, _, rfl, by omega, hJ5, rfl⟩
                · conv => whnf
                  conv => whnf
                  repeat (refine ⟨_, wi (by omega), ?_⟩; conv => whnf)
                  exact ⟨rfl, rfl, m1 - 1, _, by omega, Weak.refl _, k + 1, _, _, _, _, rfl, by omega, hJ5, rfl⟩
            · conv => whnf
              refine awp_loopL hT 164 [3, 4, 5, 6, 7, 8, 12, 13, 14, 15, 18] (fun m vs H' => ∃ (j : Nat) (K X : List Atom), vs = [ptr g, .slice pg S'.gone.length cg, .slice (some ⟨gm, om, none⟩) _ cm, .slice (some ⟨gb, ob, none⟩) valk.length cb, .slice (some ⟨ga, oa, none⟩) cs.length ca, .int .i64 i, .int .i64 _, .int .i64 k, .slice pB (S'.th k).b.length cB, .bool uu, .int .i64 j] ∧ m + j = (S'.th k).f.length ∧
                RI g H.M K X cs (.slice (some ⟨ga, oa, none⟩) cs.length ca) N S' _ _ _ _ _ _ (i + 1) ∧ Atom.row (.slice pB (S'.th k).b.length cB) 3 1 (ints (S'.th k).b) ∈ K ∧ H' = ⟨H.M, .row _ 3 1 _ :: .row _ 40 2 _ :: .row _ 22 1 _ :: X⟩) (S'.th k).f.length rfl rfl (Weak.refl _)
                ⟨0, _, _, by first | rfl | (rw [hu]; rfl), by omega, hJ4, List.mem_cons_self, rfl⟩ ?_
              rintro m3 u3 vs3 H3 ⟨j3, K5, X5, rfl, hj3, hJ5, hbK, rfl⟩
              obtain ⟨pF, cF, eF, hcF⟩ := intsAt (hJ5.mr k (by omega))
              have hcm2 : ∀ L, _ ∈ L → _ := fun L h => hcm1.mono (hle_one (M := H.M) (L := L) h)
              conv => whnf
              refine ⟨gm, om, rfl, by omega, ?_⟩
              conv => whnf
              refine ⟨_, hcm2 _ (by simp) 0 _ (by rw [mcc, eF]; rfl), ?_⟩
              conv => whnf
              refine ifC_dec (fun h4 => ?_) (fun h4 => ?_)
              · rcases Bool.eq_false_or_eq_true uu with hu | hu
                · rw [hu] at eu ⊢
                  conv => whnf
                  refine ⟨gm, om, rfl, by omega, ?_⟩
                  conv => whnf
                  refine ⟨_, hcm2 _ (by simp) 0 _ (by rw [mcc, eF]; rfl), ?_⟩
                  conv => whnf
                  obtain ⟨g2, o2, rfl, hcell2⟩ := hcF j3 (by omega) (by omega)
                  refine ⟨g2, o2, rfl, by omega, ?_⟩
                  conv => whnf
                  refine ⟨_, HLe.cell (hle_sub fun b hb => by simp [hJ5.bo.1 b hb]) hcell2, ?_⟩
                  have hmemF := geti_mem (l := (S'.th k).f) (i := (j3 : Int)) (by omega) (by omega)
                  have hfk := hJ.ok.fk hk _ hmemF
                  have hff := hJ.inv.f k hk eu _ hmemF
                  obtain ⟨fj, hfj⟩ : ∃ fj : Nat, geti (S'.th k).f j3 = fj := ⟨(geti (S'.th k).f j3).toNat, by omega⟩
                  rw [hfj] at hfk hff ⊢
                  obtain ⟨hd1, hd2, _⟩ := base_I64 hJ.ok (k := fj) (by omega)
                  conv => whnf
                  refine q_Depends [_, _, _] hJ5.bo hJ5.ok (i := fj) ⟨by omega, by omega⟩ ?_
                  intro X6 ds hds O6
                  obtain ⟨pD, cD, rfl⟩ := hds.sl
                  conv => whnf
                  refine c_Both _ _ (S'.th k).b (S'.th fj).b _ ⟨readsRow (e := 3) (by simp [O6.1 _ (List.mem_cons_of_mem _ hbK)]) hbs, hI64 k hk, by omega⟩ ⟨readsRow (e := 3) (by simp [O6.1 _ List.mem_cons_self]) hds, hI64 fj (by omega), by omega⟩ (fun x hx => (List.mem_append.1 hx).elim (fun hx => by have := hbb x hx; omega) fun hx => by have := hd1 x hx; omega) (by omega) _ ?_
                  intro w hw
                  rw [both_len hbi hff.2] at hw ⊢
                  obtain ⟨pW, cW, rfl⟩ := hw.sl
                  conv => whnf
                  refine ifC_neg (by simp) ?_
                  conv => whnf
                  repeat (refine ⟨_, wi (by omega), ?_⟩; conv => whnf)
                  exact ⟨rfl, rfl, m3 - 1, _, by omega, weakDel 0 rfl, j3 + 1, _, X6, by first | rfl | (rw [hu]; rfl), by omega, hJ5.up (fun b hb => List.mem_cons_of_mem _ hb) O6, List.mem_cons_of_mem _ hbK, rfl⟩
                · rw [hu]
                  conv => whnf
                  conv => whnf
                  repeat (refine ⟨_, wi (by omega), ?_⟩; conv => whnf)
                  exact ⟨rfl, rfl, m1 - 1, _, by omega, Weak.refl _, k + 1, _, _, _, _, rfl, by omega, hJ5, rfl⟩
              · conv => whnf
                conv => whnf
                repeat (refine ⟨_, wi (by omega), ?_⟩; conv => whnf)
                exact ⟨rfl, rfl, m1 - 1, _, by omega, Weak.refl _, k + 1, _, _, _, _, rfl, by omega, hJ5, rfl⟩
          · conv => whnf
            repeat (refine ⟨_, wi (by omega), ?_⟩; conv => whnf)
            exact ⟨rfl, rfl, m - 1, _, by omega, Weak.refl _, i + 1, S', _, _, _, _, valk, Kk, Xk, rfl, by omega, { hJ with br := fun j h _ => hJ.br j h (Or.inl (by omega)) }, rfl⟩
        · have hk2 : cs[i].a.k = 2 := by have := ho.k; omega
          have hn2 := hd.rn hk2
          conv => whnf
          refine ⟨ga, oa, rfl, by omega, ?_⟩
          conv => whnf
          refine ⟨_, hce _ (fun b hb => by simp [hKX b hb]) 1 _ rfl, ?_⟩
          conv => whnf
          obtain ⟨e1, e2, e3⟩ := hn2
          rw [← e1]
          have hml0 := hI.ml
          have hbl0 := hI.bl
          have hRI : RI g H.M (.row (.slice s1 s2 s3) 3 1 (ints r') :: K) X2 cs (.slice (some ⟨ga, oa, none⟩) cs.length ca) N S' gv mv bv made vals (fun k => (k : Int) ≠ cs[i].a.n) (i + 1) := by
            exact { ok := hokd, inv := hd.inv, gv := by rw [e1]; exact hI.gv, mv := hI.mv, bv := hI.bv, ml := by omega, bl := by omega, gl := by rw [e1]; have := hI.gl; omega, sl := by have := hI.sl; omega, mr := fun k h => by rw [(e3 k (by omega)).2]; exact (hI.mr k h).mono (hle_sub fun b hb => List.mem_cons_of_mem _ hb), br := fun k h hp => by rw [(e3 k (by omega)).1 hp]; exact (hI.br k h trivial).mono (hle_sub fun b hb => List.mem_cons_of_mem _ hb), vo := hI.vo, mo := hI.mo, ka := fun b hb => List.mem_cons_of_mem _ (hI.ka b hb), bo := O2 }
          refine awp_loopL hT 164 [3, 4, 5, 6, 7, 8, 12, 13] (fun m vs H' => ∃ (k : Nat) (bv : Value) (vals : List Value) (K X : List Atom), vs = [ptr g, gv, mv, bv, .slice (some ⟨ga, oa, none⟩) cs.length ca, .int .i64 i, .int .i64 cs[i].a.n, .int .i64 k] ∧ m + k = S'.ts.length ∧
            RI g H.M K X cs (.slice (some ⟨ga, oa, none⟩) cs.length ca) N S' gv mv bv made vals (fun j => j < k ∨ (j : Int) ≠ cs[i].a.n) (i + 1) ∧ H' = ⟨H.M, .row gv 3 1 (ints S'.gone) :: .row mv 40 2 (mcs made) :: .row bv 22 1 vals :: X⟩) S'.ts.length rfl rfl (Weak.refl _)
            ⟨0, bv, vals, _, _, rfl, by omega, { hRI with br := fun k h hp => hRI.br k h (hp.resolve_left (by omega)) }, rfl⟩ ?_
          rintro m1 u1 vs1 H1 ⟨k, bk, valk, Kk, Xk, rfl, hm1, hJ, rfl⟩
          have hml := hJ.ml
          have hbl' := hJ.bl
          obtain ⟨pm, cm, rfl, hcm⟩ := flatAt mcc (fun _ => rfl) (by omega) (H := ⟨H.M, [.row mv 40 2 (mcs made)]⟩) (l := made) (readsRow (e := 40) List.mem_cons_self hJ.mv)
          obtain ⟨pg, cg, rfl⟩ := hJ.gv.sl
          obtain ⟨pb, cb, rfl, hcb⟩ := flatAt (sz := 1) (fun v : Value => [v]) (fun _ => rfl) (by omega) (H := ⟨H.M, [.row bk 22 1 valk]⟩) (v := bk) (l := valk) (by rw [vals_flat]; exact readsRow (e := 22) List.mem_cons_self hJ.bv)
          conv => whnf
          refine ifC_dec (fun h2 => ?_) (fun h2 => ?_)
          · have hk : k < S'.ts.length := by omega
            have hgl := hJ.gl
            have hsl := hJ.sl
            obtain ⟨hbb, hbl, hbi⟩ := base_I64 hJ.ok hk
            have hFl : (S'.th k).f.length ≤ k := inc_len (riseF_iff.1 (hJ.ok.th _ _ (St.th_some (S := S') (i := k) (by omega) (by omega))).f).1 (hJ.ok.fk hk)
            obtain ⟨gm, om, rfl, hcm1⟩ := hcm k (by omega)
            obtain ⟨gb, ob, rfl, hcb1⟩ := hcb k (by omega)
            have hI64 : ∀ j : Nat, j < S'.ts.length → ∀ x ∈ (S'.th j).b, I64 x := fun j hj x hx => by have := (base_I64 hJ.ok hj).1 x hx; omega
            conv => whnf
            refine q_Depends [_, _, _] hJ.bo hJ.ok (i := k) ⟨by omega, by omega⟩ ?_
            intro X3 bs hbs O3
            have hJ3 := hJ.up (fun b hb => List.mem_cons_of_mem _ hb) O3
            obtain ⟨pB, cB, rfl⟩ := hbs.sl
            obtain ⟨uu, eu⟩ : ∃ uu, (S'.th k).u = uu := ⟨_, rfl⟩
            rw [eu]
            have hcb2 := fun L (h : _ ∈ L) => hcb1.mono (hle_one (M := H.M) (L := L) h)
            conv => whnf
            refine ifC_dec (fun hko => ?_) (fun hko => ?_)
            · conv => whnf
              refine ⟨gb, ob, rfl, by omega, ?_⟩
              conv => whnf
              refine ⟨_, hcb2 _ (by simp) 0 _ rfl, ?_⟩
              conv => whnf
              refine c_SameInts _ _ (S'.th k).b (S'.th k).b _ ⟨readsRow (e := 3) (by simp [O3.1 _ List.mem_cons_self]) hbs, hI64 k hk, by omega⟩ ⟨(hJ3.br k (by omega) (.inr hko)).mono (hle_sub fun b hb => by simp [O3.1 _ hb]), hI64 k hk, by omega⟩ _ ?_
              rw [decide_eq_true (show (S'.th k).b = (S'.th k).b from rfl)]
              conv => whnf
              refine ⟨gb, ob, rfl, by omega, ?_⟩
              conv => whnf
              refine stW 2 rfl k (by omega) (by simp; omega) ⟨rfl, trivial⟩ (xs' := valk.set k (.slice pB (S'.th k).b.length cB)) (by simp [setN]) ?_
              conv => whnf
              have hJ4 : RI g H.M (.row (.slice pB (S'.th k).b.length cB) 3 1 (ints (S'.th k).b) :: Kk) X3 cs (.slice (some ⟨ga, oa, none⟩) cs.length ca) N S' _ _ _ _ (valk.set k (.slice pB (S'.th k).b.length cB)) (fun j => j < k + 1 ∨ (j : Int) ≠ cs[i].a.n) (i + 1) :=
                { hJ3 with
                  bv := RowVal.len hJ3.bv (by simp)
                  bl := by rw [List.length_set]; exact hbl'
                  br := fun j h hp => by
                    rw [List.length_set] at h
                    by_cases hjk : j = k
                    · subst hjk; rw [List.getElem_set_self]; exact readsRow (e := 3) List.mem_cons_self hbs
                    · rw [List.getElem_set_ne (by omega)]; exact hJ3.br j h (hp.imp (by omega) id)
                  vo := fun x hx => (List.mem_or_eq_of_mem_set hx).elim (hJ3.vo x) fun e => by rw [e]; rfl }
              refine awp_loopL hT 164 [3, 4, 5, 6, 7, 8, 12, 13, 14, 15, 17] (fun m vs H' => ∃ (j : Nat), vs = [ptr g, .slice pg S'.gone.length cg, .slice (some ⟨gm, om, none⟩) _ cm, .slice (some ⟨gb, ob, none⟩) valk.length cb, .slice (some ⟨ga, oa, none⟩) cs.length ca, .int .i64 i, .int .i64 _, .int .i64 k, .slice pB (S'.th k).b.length cB, .bool uu, .int .i64 j] ∧ m + j = S'.gone.length ∧
                H' = ⟨H.M, .row _ 3 1 _ :: .row _ 40 2 _ :: .row _ 22 1 _ :: X3⟩) S'.gone.length rfl rfl (Weak.refl _) ⟨0, rfl, by omega, rfl⟩ ?_
              rintro m2 u2 vs2 H2 ⟨j2, rfl, hj2, rfl⟩
              have hIg : IntsAt ⟨H.M, .row (.slice pg S'.gone.length cg) 3 1 (ints S'.gone) :: .row (.slice (some ⟨gm, om, none⟩) (List.length made) cm) 40 2 (mcs made) :: .row (.slice (some ⟨gb, ob, none⟩) valk.length cb) 22 1 (valk.set k (.slice pB (S'.th k).b.length cB)) :: X3⟩ (.slice pg S'.gone.length cg) S'.gone := ⟨readsRow (e := 3) List.mem_cons_self hJ.gv, fun x hx => by have := hJ.ok.gone x hx; omega, by have := hJ.gl; omega⟩
              obtain ⟨_, _, ez, _, hcg⟩ := hIg.open
              cases ez
              conv => whnf
              refine ifC_dec (fun h3 => ?_) (fun h3 => ?_)
              · rcases Bool.eq_false_or_eq_true uu with hu | hu
                · rw [hu]
                  conv => whnf
                  obtain ⟨g1, o1, rfl, hcell⟩ := hcg j2 (by omega) (by omega)
                  refine ⟨g1, o1, rfl, by omega, ?_⟩
                  conv => whnf
                  refine ⟨_, hcell, ?_⟩
                  conv => whnf
                  refine c_Has26 _ (S'.th k).b _ _ ⟨readsRow (e := 3) (by simp [O3.1 _ List.mem_cons_self]) hbs, hI64 k hk, by omega⟩ _ ?_
                  rw [decide_eq_false (hJ.inv.g k hk (by rw [eu, hu]) _ (geti_mem (by omega) (by omega)))]
                  conv => whnf
                  repeat (refine ⟨_, wi (by omega), ?_⟩; conv => whnf)
                  exact ⟨rfl, rfl, m2 - 1, _, by omega, Weak.refl _, j2 + 1, by first | rfl | (rw [hu]; rfl), by omega, rfl⟩
                · rw [hu]
                  conv => whnf
                  refine awp_loopL hT 164 [3, 4, 5, 6, 7, 8, 12, 13, 14, 15, 18] (fun m vs H' => ∃ (j : Nat) (K X : List Atom), vs = [ptr g, .slice pg S'.gone.length cg, .slice (some ⟨gm, om, none⟩) _ cm, .slice (some ⟨gb, ob, none⟩) valk.length cb, .slice (some ⟨ga, oa, none⟩) cs.length ca, .int .i64 i, .int .i64 _, .int .i64 k, .slice pB (S'.th k).b.length cB, .bool uu, .int .i64 j] ∧ m + j = (S'.th k).f.length ∧
                    RI g H.M K X cs (.slice (some ⟨ga, oa, none⟩) cs.length ca) N S' _ _ _ _ _ _ (i + 1) ∧ Atom.row (.slice pB (S'.th k).b.length cB) 3 1 (ints (S'.th k).b) ∈ K ∧ H' = ⟨H.M, .row _ 3 1 _ :: .row _ 40 2 _ :: .row _ 22 1 _ :: X⟩) (S'.th k).f.length rfl rfl (Weak.refl _)
                    ⟨0, _, _, by first | rfl | (rw [hu]; rfl), by omega, hJ4, List.mem_cons_self, rfl⟩ ?_
                  rintro m3 u3 vs3 H3 ⟨j3, K5, X5, rfl, hj3, hJ5, hbK, rfl⟩
                  obtain ⟨pF, cF, eF, hcF⟩ := intsAt (hJ5.mr k (by omega))
                  have hcm2 : ∀ L, _ ∈ L → _ := fun L h => hcm1.mono (hle_one (M := H.M) (L := L) h)
                  conv => whnf
                  refine ⟨gm, om, rfl, by omega, ?_⟩
                  conv => whnf
                  refine ⟨_, hcm2 _ (by simp) 0 _ (by rw [mcc, eF]; rfl), ?_⟩
                  conv => whnf
                  refine ifC_dec (fun h4 => ?_) (fun h4 => ?_)
                  · rcases Bool.eq_false_or_eq_true uu with hu | hu
                    · rw [hu] at eu ⊢
                      conv => whnf
                      refine ⟨gm, om, rfl, by omega, ?_⟩
                      conv => whnf
                      refine ⟨_, hcm2 _ (by simp) 0 _ (by rw [mcc, eF]; rfl), ?_⟩
                      conv => whnf
                      obtain ⟨g2, o2, rfl, hcell2⟩ := hcF j3 (by omega) (by omega)
                      refine ⟨g2, o2, rfl, by omega, ?_⟩
                      conv => whnf
                      refine ⟨_, HLe.cell (hle_sub fun b hb => by simp [hJ5.bo.1 b hb]) hcell2, ?_⟩
                      have hmemF := geti_mem (l := (S'.th k).f) (i := (j3 : Int)) (by omega) (by omega)
                      have hfk := hJ.ok.fk hk _ hmemF
                      have hff := hJ.inv.f k hk eu _ hmemF
                      obtain ⟨fj, hfj⟩ : ∃ fj : Nat, geti (S'.th k).f j3 = fj := ⟨(geti (S'.th k).f j3).toNat, by omega⟩
                      rw [hfj] at hfk hff ⊢
                      obtain ⟨hd1, hd2, _⟩ := base_I64 hJ.ok (k := fj) (by omega)
                      conv => whnf
                      refine q_Depends [_, _, _] hJ5.bo hJ5.ok (i := fj) ⟨by omega, by omega⟩ ?_
                      intro X6 ds hds O6
                      obtain ⟨pD, cD, rfl⟩ := hds.sl
                      conv => whnf
                      refine c_Both _ _ (S'.th k).b (S'.th fj).b _ ⟨readsRow (e := 3) (by simp [O6.1 _ (List.mem_cons_of_mem _ hbK)]) hbs, hI64 k hk, by omega⟩ ⟨readsRow (e := 3) (by simp [O6.1 _ List.mem_cons_self]) hds, hI64 fj (by omega), by omega⟩ (fun x hx => (List.mem_append.1 hx).elim (fun hx => by have := hbb x hx; omega) fun hx => by have := hd1 x hx; omega) (by omega) _ ?_
                      intro w hw
                      rw [both_len hbi hff.2] at hw ⊢
                      obtain ⟨pW, cW, rfl⟩ := hw.sl
                      conv => whnf
                      refine ifC_neg (by simp) ?_
                      conv => whnf
                      repeat (refine ⟨_, wi (by omega), ?_⟩; conv => whnf)
                      exact ⟨rfl, rfl, m3 - 1, _, by omega, weakDel 0 rfl, j3 + 1, _, X6, by first | rfl | (rw [hu]; rfl), by omega, hJ5.up (fun b hb => List.mem_cons_of_mem _ hb) O6, List.mem_cons_of_mem _ hbK, rfl⟩
                    · rw [hu]
                      conv => whnf
                      conv => whnf
                      repeat (refine ⟨_, wi (by omega), ?_⟩; conv => whnf)
                      exact ⟨rfl, rfl, m1 - 1, _, by omega, Weak.refl _, k + 1, _, _, _, _, rfl, by omega, hJ5, rfl⟩
                  · conv => whnf
                    conv => whnf
                    repeat (refine ⟨_, wi (by omega), ?_⟩; conv => whnf)
                    exact ⟨rfl, rfl, m1 - 1, _, by omega, Weak.refl _, k + 1, _, _, _, _, rfl, by omega, hJ5, rfl⟩
              · conv => whnf
                refine awp_loopL hT 164 [3, 4, 5, 6, 7, 8, 12, 13, 14, 15, 18] (fun m vs H' => ∃ (j : Nat) (K X : List Atom), vs = [ptr g, .slice pg S'.gone.length cg, .slice (some ⟨gm, om, none⟩) _ cm, .slice (some ⟨gb, ob, none⟩) valk.length cb, .slice (some ⟨ga, oa, none⟩) cs.length ca, .int .i64 i, .int .i64 _, .int .i64 k, .slice pB (S'.th k).b.length cB, .bool uu, .int .i64 j] ∧ m + j = (S'.th k).f.length ∧
                  RI g H.M K X cs (.slice (some ⟨ga, oa, none⟩) cs.length ca) N S' _ _ _ _ _ _ (i + 1) ∧ Atom.row (.slice pB (S'.th k).b.length cB) 3 1 (ints (S'.th k).b) ∈ K ∧ H' = ⟨H.M, .row _ 3 1 _ :: .row _ 40 2 _ :: .row _ 22 1 _ :: X⟩) (S'.th k).f.length rfl rfl (Weak.refl _)
                  ⟨0, _, _, by first | rfl | (rw [hu]; rfl), by omega, hJ4, List.mem_cons_self, rfl⟩ ?_
                rintro m3 u3 vs3 H3 ⟨j3, K5, X5, rfl, hj3, hJ5, hbK, rfl⟩
                obtain ⟨pF, cF, eF, hcF⟩ := intsAt (hJ5.mr k (by omega))
                have hcm2 : ∀ L, _ ∈ L → _ := fun L h => hcm1.mono (hle_one (M := H.M) (L := L) h)
                conv => whnf
                refine ⟨gm, om, rfl, by omega, ?_⟩
                conv => whnf
                refine ⟨_, hcm2 _ (by simp) 0 _ (by rw [mcc, eF]; rfl), ?_⟩
                conv => whnf
                refine ifC_dec (fun h4 => ?_) (fun h4 => ?_)
                · rcases Bool.eq_false_or_eq_true uu with hu | hu
                  · rw [hu] at eu ⊢
                    conv => whnf
                    refine ⟨gm, om, rfl, by omega, ?_⟩
                    conv => whnf
                    refine ⟨_, hcm2 _ (by simp) 0 _ (by rw [mcc, eF]; rfl), ?_⟩
                    conv => whnf
                    obtain ⟨g2, o2, rfl, hcell2⟩ := hcF j3 (by omega) (by omega)
                    refine ⟨g2, o2, rfl, by omega, ?_⟩
                    conv => whnf
                    refine ⟨_, HLe.cell (hle_sub fun b hb => by simp [hJ5.bo.1 b hb]) hcell2, ?_⟩
                    have hmemF := geti_mem (l := (S'.th k).f) (i := (j3 : Int)) (by omega) (by omega)
                    have hfk := hJ.ok.fk hk _ hmemF
                    have hff := hJ.inv.f k hk eu _ hmemF
                    obtain ⟨fj, hfj⟩ : ∃ fj : Nat, geti (S'.th k).f j3 = fj := ⟨(geti (S'.th k).f j3).toNat, by omega⟩
                    rw [hfj] at hfk hff ⊢
                    obtain ⟨hd1, hd2, _⟩ := base_I64 hJ.ok (k := fj) (by omega)
                    conv => whnf
                    refine q_Depends [_, _, _] hJ5.bo hJ5.ok (i := fj) ⟨by omega, by omega⟩ ?_
                    intro X6 ds hds O6
                    obtain ⟨pD, cD, rfl⟩ := hds.sl
                    conv => whnf
                    refine c_Both _ _ (S'.th k).b (S'.th fj).b _ ⟨readsRow (e := 3) (by simp [O6.1 _ (List.mem_cons_of_mem _ hbK)]) hbs, hI64 k hk, by omega⟩ ⟨readsRow (e := 3) (by simp [O6.1 _ List.mem_cons_self]) hds, hI64 fj (by omega), by omega⟩ (fun x hx => (List.mem_append.1 hx).elim (fun hx => by have := hbb x hx; omega) fun hx => by have := hd1 x hx; omega) (by omega) _ ?_
                    intro w hw
                    rw [both_len hbi hff.2] at hw ⊢
                    obtain ⟨pW, cW, rfl⟩ := hw.sl
                    conv => whnf
                    refine ifC_neg (by simp) ?_
                    conv => whnf
                    repeat (refine ⟨_, wi (by omega), ?_⟩; conv => whnf)
                    exact ⟨rfl, rfl, m3 - 1, _, by omega, weakDel 0 rfl, j3 + 1, _, X6, by first | rfl | (rw [hu]; rfl), by omega, hJ5.up (fun b hb => List.mem_cons_of_mem _ hb) O6, List.mem_cons_of_mem _ hbK, rfl⟩
                  · rw [hu]
                    conv => whnf
                    conv => whnf
                    repeat (refine ⟨_, wi (by omega), ?_⟩; conv => whnf)
                    exact ⟨rfl, rfl, m1 - 1, _, by omega, Weak.refl _, k + 1, _, _, _, _, rfl, by omega, hJ5, rfl⟩
                · conv => whnf
                  conv => whnf
                  repeat (refine ⟨_, wi (by omega), ?_⟩; conv => whnf)
                  exact ⟨rfl, rfl, m1 - 1, _, by omega, Weak.refl _, k + 1, _, _, _, _, rfl, by omega, hJ5, rfl⟩
            · conv => whnf
              refine ⟨gb, ob, rfl, by omega, ?_⟩
              conv => whnf
              refine stW 2 rfl k (by omega) (by simp; omega) ⟨rfl, trivial⟩ (xs' := valk.set k (.slice pB (S'.th k).b.length cB)) (by simp [setN]) ?_
              conv => whnf
              have hJ4 : RI g H.M (.row (.slice pB (S'.th k).b.length cB) 3 1 (ints (S'.th k).b) :: Kk) X3 cs (.slice (some ⟨ga, oa, none⟩) cs.length ca) N S' _ _ _ _ (valk.set k (.slice pB (S'.th k).b.length cB)) (fun j => j < k + 1 ∨ (j : Int) ≠ cs[i].a.n) (i + 1) :=
                { hJ3 with
                  bv := RowVal.len hJ3.bv (by simp)
                  bl := by rw [List.length_set]; exact hbl'
                  br := fun j h hp => by
                    rw [List.length_set] at h
                    by_cases hjk : j = k
                    · subst hjk; rw [List.getElem_set_self]; exact readsRow (e := 3) List.mem_cons_self hbs
                    · rw [List.getElem_set_ne (by omega)]; exact hJ3.br j h (hp.imp (by omega) id)
                  vo := fun x hx => (List.mem_or_eq_of_mem_set hx).elim (hJ3.vo x) fun e => by rw [e]; rfl }
              refine awp_loopL hT 164 [3, 4, 5, 6, 7, 8, 12, 13, 14, 15, 17] (fun m vs H' => ∃ (j : Nat), vs = [ptr g, .slice pg S'.gone.length cg, .slice (some ⟨gm, om, none⟩) _ cm, .slice (some ⟨gb, ob, none⟩) valk.length cb, .slice (some ⟨ga, oa, none⟩) cs.length ca, .int .i64 i, .int .i64 _, .int .i64 k, .slice pB (S'.th k).b.length cB, .bool uu, .int .i64 j] ∧ m + j = S'.gone.length ∧
                H' = ⟨H.M, .row _ 3 1 _ :: .row _ 40 2 _ :: .row _ 22 1 _ :: X3⟩) S'.gone.length rfl rfl (Weak.refl _) ⟨0, rfl, by omega, rfl⟩ ?_
              rintro m2 u2 vs2 H2 ⟨j2, rfl, hj2, rfl⟩
              have hIg : IntsAt ⟨H.M, .row (.slice pg S'.gone.length cg) 3 1 (ints S'.gone) :: .row (.slice (some ⟨gm, om, none⟩) (List.length made) cm) 40 2 (mcs made) :: .row (.slice (some ⟨gb, ob, none⟩) valk.length cb) 22 1 (valk.set k (.slice pB (S'.th k).b.length cB)) :: X3⟩ (.slice pg S'.gone.length cg) S'.gone := ⟨readsRow (e := 3) List.mem_cons_self hJ.gv, fun x hx => by have := hJ.ok.gone x hx; omega, by have := hJ.gl; omega⟩
              obtain ⟨_, _, ez, _, hcg⟩ := hIg.open
              cases ez
              conv => whnf
              refine ifC_dec (fun h3 => ?_) (fun h3 => ?_)
              · rcases Bool.eq_false_or_eq_true uu with hu | hu
                · rw [hu]
                  conv => whnf
                  obtain ⟨g1, o1, rfl, hcell⟩ := hcg j2 (by omega) (by omega)
                  refine ⟨g1, o1, rfl, by omega, ?_⟩
                  conv => whnf
                  refine ⟨_, hcell, ?_⟩
                  conv => whnf
                  refine c_Has26 _ (S'.th k).b _ _ ⟨readsRow (e := 3) (by simp [O3.1 _ List.mem_cons_self]) hbs, hI64 k hk, by omega⟩ _ ?_
                  rw [decide_eq_false (hJ.inv.g k hk (by rw [eu, hu]) _ (geti_mem (by omega) (by omega)))]
                  conv => whnf
                  repeat (refine ⟨_, wi (by omega), ?_⟩; conv => whnf)
                  exact ⟨rfl, rfl, m2 - 1, _, by omega, Weak.refl _, j2 + 1, by first | rfl | (rw [hu]; rfl), by omega, rfl⟩
                · rw [hu]
                  conv => whnf
                  refine awp_loopL hT 164 [3, 4, 5, 6, 7, 8, 12, 13, 14, 15, 18] (fun m vs H' => ∃ (j : Nat) (K X : List Atom), vs = [ptr g, .slice pg S'.gone.length cg, .slice (some ⟨gm, om, none⟩) _ cm, .slice (some ⟨gb, ob, none⟩) valk.length cb, .slice (some ⟨ga, oa, none⟩) cs.length ca, .int .i64 i, .int .i64 _, .int .i64 k, .slice pB (S'.th k).b.length cB, .bool uu, .int .i64 j] ∧ m + j = (S'.th k).f.length ∧
                    RI g H.M K X cs (.slice (some ⟨ga, oa, none⟩) cs.length ca) N S' _ _ _ _ _ _ (i + 1) ∧ Atom.row (.slice pB (S'.th k).b.length cB) 3 1 (ints (S'.th k).b) ∈ K ∧ H' = ⟨H.M, .row _ 3 1 _ :: .row _ 40 2 _ :: .row _ 22 1 _ :: X⟩) (S'.th k).f.length rfl rfl (Weak.refl _)
                    ⟨0, _, _, by first | rfl | (rw [hu]; rfl), by omega, hJ4, List.mem_cons_self, rfl⟩ ?_
                  rintro m3 u3 vs3 H3 ⟨j3, K5, X5, rfl, hj3, hJ5, hbK, rfl⟩
                  obtain ⟨pF, cF, eF, hcF⟩ := intsAt (hJ5.mr k (by omega))
                  have hcm2 : ∀ L, _ ∈ L → _ := fun L h => hcm1.mono (hle_one (M := H.M) (L := L) h)
                  conv => whnf
                  refine ⟨gm, om, rfl, by omega, ?_⟩
                  conv => whnf
                  refine ⟨_, hcm2 _ (by simp) 0 _ (by rw [mcc, eF]; rfl), ?_⟩
                  conv => whnf
                  refine ifC_dec (fun h4 => ?_) (fun h4 => ?_)
                  · rcases Bool.eq_false_or_eq_true uu with hu | hu
                    · rw [hu] at eu ⊢
                      conv => whnf
                      refine ⟨gm, om, rfl, by omega, ?_⟩
                      conv => whnf
                      refine ⟨_, hcm2 _ (by simp) 0 _ (by rw [mcc, eF]; rfl), ?_⟩
                      conv => whnf
                      obtain ⟨g2, o2, rfl, hcell2⟩ := hcF j3 (by omega) (by omega)
                      refine ⟨g2, o2, rfl, by omega, ?_⟩
                      conv => whnf
                      refine ⟨_, HLe.cell (hle_sub fun b hb => by simp [hJ5.bo.1 b hb]) hcell2, ?_⟩
                      have hmemF := geti_mem (l := (S'.th k).f) (i := (j3 : Int)) (by omega) (by omega)
                      have hfk := hJ.ok.fk hk _ hmemF
                      have hff := hJ.inv.f k hk eu _ hmemF
                      obtain ⟨fj, hfj⟩ : ∃ fj : Nat, geti (S'.th k).f j3 = fj := ⟨(geti (S'.th k).f j3).toNat, by omega⟩
                      rw [hfj] at hfk hff ⊢
                      obtain ⟨hd1, hd2, _⟩ := base_I64 hJ.ok (k := fj) (by omega)
                      conv => whnf
                      refine q_Depends [_, _, _] hJ5.bo hJ5.ok (i := fj) ⟨by omega, by omega⟩ ?_
                      intro X6 ds hds O6
                      obtain ⟨pD, cD, rfl⟩ := hds.sl
                      conv => whnf
                      refine c_Both _ _ (S'.th k).b (S'.th fj).b _ ⟨readsRow (e := 3) (by simp [O6.1 _ (List.mem_cons_of_mem _ hbK)]) hbs, hI64 k hk, by omega⟩ ⟨readsRow (e := 3) (by simp [O6.1 _ List.mem_cons_self]) hds, hI64 fj (by omega), by omega⟩ (fun x hx => (List.mem_append.1 hx).elim (fun hx => by have := hbb x hx; omega) fun hx => by have := hd1 x hx; omega) (by omega) _ ?_
                      intro w hw
                      rw [both_len hbi hff.2] at hw ⊢
                      obtain ⟨pW, cW, rfl⟩ := hw.sl
                      conv => whnf
                      refine ifC_neg (by simp) ?_
                      conv => whnf
                      repeat (refine ⟨_, wi (by omega), ?_⟩; conv => whnf)
                      exact ⟨rfl, rfl, m3 - 1, _, by omega, weakDel 0 rfl, j3 + 1, _, X6, by first | rfl | (rw [hu]; rfl), by omega, hJ5.up (fun b hb => List.mem_cons_of_mem _ hb) O6, List.mem_cons_of_mem _ hbK, rfl⟩
                    · rw [hu]
                      conv => whnf
                      conv => whnf
                      repeat (refine ⟨_, wi (by omega), ?_⟩; conv => whnf)
                      exact ⟨rfl, rfl, m1 - 1, _, by omega, Weak.refl _, k + 1, _, _, _, _, rfl, by omega, hJ5, rfl⟩
                  · conv => whnf
                    conv => whnf
                    repeat (refine ⟨_, wi (by omega), ?_⟩; conv => whnf)
                    exact ⟨rfl, rfl, m1 - 1, _, by omega, Weak.refl _, k + 1, _, _, _, _, rfl, by omega, hJ5, rfl⟩
              · conv => whnf
                refine awp_loopL hT 164 [3, 4, 5, 6, 7, 8, 12, 13, 14, 15, 18] (fun m vs H' => ∃ (j : Nat) (K X : List Atom), vs = [ptr g, .slice pg S'.gone.length cg, .slice (some ⟨gm, om, none⟩) _ cm, .slice (some ⟨gb, ob, none⟩) valk.length cb, .slice (some ⟨ga, oa, none⟩) cs.length ca, .int .i64 i, .int .i64 _, .int .i64 k, .slice pB (S'.th k).b.length cB, .bool uu, .int .i64 j] ∧ m + j = (S'.th k).f.length ∧
                  RI g H.M K X cs (.slice (some ⟨ga, oa, none⟩) cs.length ca) N S' _ _ _ _ _ _ (i + 1) ∧ Atom.row (.slice pB (S'.th k).b.length cB) 3 1 (ints (S'.th k).b) ∈ K ∧ H' = ⟨H.M, .row _ 3 1 _ :: .row _ 40 2 _ :: .row _ 22 1 _ :: X⟩) (S'.th k).f.length rfl rfl (Weak.refl _)
                  ⟨0, _, _, by first | rfl | (rw [hu]; rfl), by omega, hJ4, List.mem_cons_self, rfl⟩ ?_
                rintro m3 u3 vs3 H3 ⟨j3, K5, X5, rfl, hj3, hJ5, hbK, rfl⟩
                obtain ⟨pF, cF, eF, hcF⟩ := intsAt (hJ5.mr k (by omega))
                have hcm2 : ∀ L, _ ∈ L → _ := fun L h => hcm1.mono (hle_one (M := H.M) (L := L) h)
                conv => whnf
                refine ⟨gm, om, rfl, by omega, ?_⟩
                conv => whnf
                refine ⟨_, hcm2 _ (by simp) 0 _ (by rw [mcc, eF]; rfl), ?_⟩
                conv => whnf
                refine ifC_dec (fun h4 => ?_) (fun h4 => ?_)
                · rcases Bool.eq_false_or_eq_true uu with hu | hu
                  · rw [hu] at eu ⊢
                    conv => whnf
                    refine ⟨gm, om, rfl, by omega, ?_⟩
                    conv => whnf
                    refine ⟨_, hcm2 _ (by simp) 0 _ (by rw [mcc, eF]; rfl), ?_⟩
                    conv => whnf
                    obtain ⟨g2, o2, rfl, hcell2⟩ := hcF j3 (by omega) (by omega)
                    refine ⟨g2, o2, rfl, by omega, ?_⟩
                    conv => whnf
                    refine ⟨_, HLe.cell (hle_sub fun b hb => by simp [hJ5.bo.1 b hb]) hcell2, ?_⟩
                    have hmemF := geti_mem (l := (S'.th k).f) (i := (j3 : Int)) (by omega) (by omega)
                    have hfk := hJ.ok.fk hk _ hmemF
                    have hff := hJ.inv.f k hk eu _ hmemF
                    obtain ⟨fj, hfj⟩ : ∃ fj : Nat, geti (S'.th k).f j3 = fj := ⟨(geti (S'.th k).f j3).toNat, by omega⟩
                    rw [hfj] at hfk hff ⊢
                    obtain ⟨hd1, hd2, _⟩ := base_I64 hJ.ok (k := fj) (by omega)
                    conv => whnf
                    refine q_Depends [_, _, _] hJ5.bo hJ5.ok (i := fj) ⟨by omega, by omega⟩ ?_
                    intro X6 ds hds O6
                    obtain ⟨pD, cD, rfl⟩ := hds.sl
                    conv => whnf
                    refine c_Both _ _ (S'.th k).b (S'.th fj).b _ ⟨readsRow (e := 3) (by simp [O6.1 _ (List.mem_cons_of_mem _ hbK)]) hbs, hI64 k hk, by omega⟩ ⟨readsRow (e := 3) (by simp [O6.1 _ List.mem_cons_self]) hds, hI64 fj (by omega), by omega⟩ (fun x hx => (List.mem_append.1 hx).elim (fun hx => by have := hbb x hx; omega) fun hx => by have := hd1 x hx; omega) (by omega) _ ?_
                    intro w hw
                    rw [both_len hbi hff.2] at hw ⊢
                    obtain ⟨pW, cW, rfl⟩ := hw.sl
                    conv => whnf
                    refine ifC_neg (by simp) ?_
                    conv => whnf
                    repeat (refine ⟨_, wi (by omega), ?_⟩; conv => whnf)
                    exact ⟨rfl, rfl, m3 - 1, _, by omega, weakDel 0 rfl, j3 + 1, _, X6, by first | rfl | (rw [hu]; rfl), by omega, hJ5.up (fun b hb => List.mem_cons_of_mem _ hb) O6, List.mem_cons_of_mem _ hbK, rfl⟩
                  · rw [hu]
                    conv => whnf
                    conv => whnf
                    repeat (refine ⟨_, wi (by omega), ?_⟩; conv => whnf)
                    exact ⟨rfl, rfl, m1 - 1, _, by omega, Weak.refl _, k + 1, _, _, _, _, rfl, by omega, hJ5, rfl⟩
                · conv => whnf
                  conv => whnf
                  repeat (refine ⟨_, wi (by omega), ?_⟩; conv => whnf)
                  exact ⟨rfl, rfl, m1 - 1, _, by omega, Weak.refl _, k + 1, _, _, _, _, rfl, by omega, hJ5, rfl⟩
          · conv => whnf
            repeat (refine ⟨_, wi (by omega), ?_⟩; conv => whnf)
            exact ⟨rfl, rfl, m - 1, _, by omega, Weak.refl _, i + 1, S', _, _, _, _, valk, Kk, Xk, rfl, by omega, { hJ with br := fun j h _ => hJ.br j h (Or.inl (by omega)) }, rfl⟩
  · conv => whnf
    refine c_lives26 _ _ ?_
    intro H'
    conv => whnf
    refine ⟨rfl, ?_⟩
    conv => whnf
    exact fin (Weak.refl _) (hR _)
end Go.Proofs.Ytjgljgkfflojbaa.A
