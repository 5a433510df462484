/- consent: Renew. -/
import Derived.Test.YtjgljgkfflojbaaD5
import Derived.Test.YtjgljgkfflojbaaK3
import Derived.Test.YtjgljgkfflojbaaK4
namespace Go.Proofs.Ytjgljgkfflojbaa.A
open Go Go.RowKit
set_option linter.unusedVariables false
set_option linter.unusedSimpArgs false
set_option maxRecDepth 20000

theorem tvs_set2 {ts : List TV} {k : Nat} (hk : k < ts.length) (v : Value) (l : List Int) : setN (tvs ts) (k * 4) [ts[k].fv, v] = tvs (ts.set k { ts[k] with pv := v, t := { ts[k].t with p := l } }) := by
  induction ts generalizing k with
  | nil => simp at hk
  | cons a r ih =>
    cases k with
    | zero => simp [tvs, tvc, setN]
    | succ k =>
      have := ih (k := k) (by simpa using hk)
      simp only [tvs, tvc, setN, List.flatMap_cons, List.set_cons_succ, List.cons_append, List.nil_append, List.getElem_cons_succ] at *
      rw [show (k + 1) * 4 + 1 = k * 4 + 1 + 1 + 1 + 1 + 1 by omega, show (k + 1) * 4 = k * 4 + 1 + 1 + 1 + 1 by omega]
      simp only [List.set_cons_succ]
      rw [this]
theorem tvs_set3 {ts : List TV} {k : Nat} (hk : k < ts.length) (v : Value) (l : List Int) : setN (tvs ts) (k * 4 + 2) [v] = tvs (ts.set k { ts[k] with bv := v, t := { ts[k].t with b := l } }) := by
  induction ts generalizing k with
  | nil => simp at hk
  | cons a r ih =>
    cases k with
    | zero => simp [tvs, tvc, setN]
    | succ k =>
      have := ih (k := k) (by simpa using hk)
      simp only [tvs, tvc, setN, List.flatMap_cons, List.set_cons_succ, List.cons_append, List.nil_append, List.getElem_cons_succ] at *
      rw [show (k + 1) * 4 = k * 4 + 2 + 1 + 1 by omega]
      simp only [List.set_cons_succ]
      rw [this]
theorem c_Renew1 (x : Int) (gb g : Nat) (tv : Value) (r : Nat) (ts : List TV) (gone : List Int) (H : Hp) (hc : H.cell gb 0 (ptr g)) (hb : CbAt H g tv r ts gone) (R : Ending → Hp → Prop)
    (hR : R (.returned (.bool (decide (x ∈ gone)))) H) : ACalls Try.prog 39 [.int .i64 x, ptr gb] H R := by
  refine acalls_code hT Try.func39 rfl rfl ?_
  conv => whnf
  refine ⟨_, hc, ?_⟩
  conv => whnf
  refine ⟨_, hb.h 1 _ rfl, ?_⟩
  conv => whnf
  refine ⟨_, hb.m, ?_⟩
  rw [mLook_gmap]
  conv => whnf
  refine ⟨rfl, ?_⟩
  conv => whnf
  exact fin (Weak.refl _) hR
theorem baseL_congr {S S' : St} (h : ∀ i, (S.th i).b = (S'.th i).b) (f p : List Int) : baseL S f p = baseL S' f p := by
  unfold baseL
  congr 1
  congr 1
  funext i
  exact h i
/-- What is asked of a book in memory. -/
structure okT2 (ts : List TV) : Prop where
  f : ∀ x ∈ ts, riseF (-1) ts.length x.t.f = true
  p : ∀ x ∈ ts, riseF (-1) 65536 x.t.p = true
  pl : ∀ x ∈ ts, x.t.p.length ≤ 512

set_option maxHeartbeats 4000000 in
theorem c_Renew (g : Nat) (tv : Value) (r : Nat) (ts : List TV) (gone : List Int) (i : Int) (M : Nat → Option Obj) (L : List Atom) (ht : RowVal tv 4 (tvs ts)) (hl : ∀ x ∈ ts, ThAt ⟨M, L⟩ x) (ho : okTs ts) (ho2 : okT2 ts) (R : Ending → Hp → Prop)
    (h0 : (rnS (stOf ts gone) i).2 ≠ 0 → R (.returned (.int .i64 (rnS (stOf ts gone) i).2)) ⟨M, cbA g tv r ts gone ++ L⟩)
    (h1 : (rnS (stOf ts gone) i).2 = 0 → ∀ (k : Nat) (hk : k < ts.length) x, i = k → x.t = rnT (stOf ts gone) ts[k].t → x.fv = ts[k].fv → RowVal x.pv 1 (ints x.t.p) → RowVal x.bv 1 (ints x.t.b) → RowVal tv 4 (tvs (ts.set k x)) →
      R (.returned (.int .i64 0)) ⟨M, cbA g tv r (ts.set k x) gone ++ (.row x.pv 3 1 (ints x.t.p) :: .row x.bv 3 1 (ints x.t.b) :: L)⟩) :
    ACalls Try.prog 19 [ptr g, .int .i64 i] ⟨M, cbA g tv r ts gone ++ L⟩ R := by
  have hn := ho.n
  have out : ∀ e, e ≠ 0 → (rnS (stOf ts gone) i).2 = e → R (.returned (.int .i64 e)) ⟨M, cbA g tv r ts gone ++ L⟩ := fun e he h => by rw [← h]; exact h0 (by rw [h]; exact he)
  have hcb : ∀ L', (∀ a ∈ cbA g tv r ts gone ++ L, a ∈ L') → CbAt ⟨M, L'⟩ g tv r ts gone := fun L' h => cbIn ht (fun x hx => (hl x hx).mono (hle_sub fun a ha => h a (List.mem_append_right _ ha))) fun a ha => h a (List.mem_append_left _ ha)
  obtain ⟨pt, ct, rfl, _⟩ := tvsAt (hcb _ (fun a ha => ha)).t
  have hsn : (stOf ts gone).ts.length = ts.length := by simp [stOf]
  refine acalls_code hT Try.func19 rfl rfl ?_
  conv => whnf
  intro g2
  conv => whnf
  refine ldS 0 rfl rfl ?_
  conv => whnf
  conv => whnf
  refine ldS 0 rfl rfl ?_
  conv => whnf
  refine c_has26 g _ r ts gone i _ (hcb _ (fun a ha => by simp [cbA] at ha; simp [cbA]; rcases ha with h | h | h | h <;> simp [h])) _ ?_
  unfold rnS at out h0 h1
  rw [hsn] at out h0 h1
  by_cases hi : 0 ≤ i ∧ i < ts.length
  · rw [if_neg (by omega)] at out h0 h1
    rw [decide_eq_true hi]
    obtain ⟨k, rfl⟩ : ∃ k : Nat, i = k := ⟨i.toNat, by omega⟩
    have hk : k < ts.length := by omega
    rw [th_at hk] at out h0 h1
    obtain ⟨q1, q2, eq, hct⟩ := tvsAt (hcb _ (fun a ha => ha)).t
    obtain ⟨gt, ot, e3, hce0⟩ := hct k hk
    cases eq
    subst e3
    have hcbk := hcb (.cells g2 23 [ptr g] :: (cbA g (.slice (some ⟨gt, ot, none⟩) ts.length ct) r ts gone ++ L)) (fun a ha => List.mem_cons_of_mem _ ha)
    have hceM := fun (L' : List Atom) h => hce0.mono (hle_sub (L' := L') h)
    have hce := hceM (.cells g2 23 [ptr g] :: (cbA g (.slice (some ⟨gt, ot, none⟩) ts.length ct) r ts gone ++ L)) (fun a ha => List.mem_cons_of_mem _ ha)
    have hmem := List.getElem_mem hk
    conv => whnf
    refine ldS 0 rfl rfl ?_
    conv => whnf
    refine ⟨_, hcbk.h 0 _ rfl, ?_⟩
    conv => whnf
    refine ⟨gt, ot, rfl, by omega, ?_⟩
    conv => whnf
    refine ⟨_, hce 3 _ rfl, ?_⟩
    conv => whnf
    cases hu : ts[k].t.u with
    | true =>
      conv => whnf
      refine ⟨rfl, ?_⟩
      conv => whnf
      exact fin (weakK 1 rfl) (out 8 (by omega) (by rw [if_pos hu]))
    | false =>
      rw [if_neg (by rw [hu]; simp)] at out h0 h1
      have hfr := ho2.f _ hmem
      have hfb := (riseF_iff.1 hfr).2
      have hpb := (riseF_iff.1 (ho2.p _ hmem)).2
      conv => whnf
      refine awp_drawQ hT hM 11 (by kernel_rfl) ?_
      conv => whnf
      refine ldS 0 rfl rfl ?_
      conv => whnf
      refine ldS 0 rfl rfl ?_
      conv => whnf
      refine ⟨_, hcbk.h 0 _ rfl, ?_⟩
      conv => whnf
      refine ⟨gt, ot, rfl, by omega, ?_⟩
      conv => whnf
      refine ⟨_, hce 0 _ rfl, ?_⟩
      conv => whnf
      refine c_stale g _ r ts gone _ ts[k].t.f _ hcbk ⟨(hcbk.l _ hmem).f, fun x hx => by have := hfb x hx; omega, by have := riseF_len hfr; omega⟩ (fun x hx => by have := hfb x hx; omega) _ ⟨Weak.refl _, ?_⟩
      cases hst : staleS (stOf ts gone) ts[k].t.f with
      | true =>
        conv => whnf
        refine ⟨rfl, ?_⟩
        conv => whnf
        exact fin (weakK 1 rfl) (out 17 (by omega) (by rw [if_pos hst]))
      | false =>
        rw [if_neg (by rw [hst]; simp)] at out h0 h1
        clear out h0
        have h1 := h1 rfl k hk
        conv => whnf
        refine ldS 0 rfl rfl ?_
        conv => whnf
        refine ⟨_, hcbk.h 0 _ rfl, ?_⟩
        conv => whnf
        refine ⟨gt, ot, rfl, by omega, ?_⟩
        conv => whnf
        refine ⟨_, hce 1 _ rfl, ?_⟩
        conv => whnf
        refine c_CloneI _ _ _ (hcbk.l _ hmem).p (ints_one _) (by rw [ints_length]; have := ho2.pl _ hmem; omega) _ ?_
        intro v0 hv0
        conv => whnf
        refine c_DeleteFuncI v0 ts[k].t.p M _ hv0 (fun x hx => by have := hpb x hx; omega) (by have := ho2.pl _ hmem; omega) 39 #[ptr g2] (fun x => decide (x ∈ gone))
          (fun x hx xs R' hR' => c_Renew1 x g2 g _ r ts gone _ (cellOwn (List.mem_cons_of_mem _ List.mem_cons_self) rfl) (hcb _ (fun a ha => List.mem_cons_of_mem _ (List.mem_cons_of_mem _ ha))) R' hR') _ ?_
        intro kv hkv
        obtain ⟨k1, k2, k3, rfl⟩ := hkv.slice
        generalize hkept : (ts[k].t.p.filter fun x => !decide (x ∈ gone)) = kept at *
        have hce1 := hceM (.row (.slice k1 k2 k3) 3 1 (ints kept) :: .cells g2 23 [ptr g] :: (cbA g (.slice (some ⟨gt, ot, none⟩) ts.length ct) r ts gone ++ L)) (fun a ha => List.mem_cons_of_mem _ (List.mem_cons_of_mem _ ha))
        obtain ⟨f1, f2, f3, efv, _⟩ := (hcbk.l _ hmem).f
        have hfc : CellsAt _ gt (ot + k * 4) [.slice f1 f2 f3] := fun j v hj => by
          match j, hj with
          | 0, hj => exact hce1 0 v (by rw [← hj, ← efv]; rfl)
          | j + 1, hj => simp at hj
        obtain ⟨x1, ex1⟩ : ∃ x1 : TV, x1 = ⟨.slice f1 f2 f3, .slice k1 k2 k3, ts[k].bv, { ts[k].t with p := kept }⟩ := ⟨_, rfl⟩
        have x1f : x1.fv = ts[k].fv := by rw [ex1, efv]
        have x1tf : x1.t.f = ts[k].t.f := by rw [ex1]
        have x1p : x1.pv = .slice k1 k2 k3 := by rw [ex1]
        have x1tp : x1.t.p = kept := by rw [ex1]
        have x1b : x1.bv = ts[k].bv := by rw [ex1]
        have x1tb : x1.t.b = ts[k].t.b := by rw [ex1]
        have hts2 : setN (tvs ts) (k * 4) [.slice f1 f2 f3, .slice k1 k2 k3] = tvs (ts.set k x1) := by rw [ex1, ← efv]; exact tvs_set2 hk _ kept
        conv => whnf
        refine ⟨_, hfc 0 _ rfl, ?_⟩
        conv => whnf
        refine stW 3 rfl (k * 4) (by simp) (by rw [tvs_length]; simp; omega) ⟨rfl, rfl, trivial⟩ hts2 ?_
        conv => whnf
        have hk1 : k < (ts.set k x1).length := by rw [List.length_set]; exact hk
        have hg1 : (ts.set k x1)[k] = x1 := by simp
        have ht1 : RowVal (.slice (some ⟨gt, ot, none⟩) ts.length ct) 4 (tvs (ts.set k x1)) := ht.len (by rw [tvs_length, tvs_length, List.length_set])
        refine awp_drawL (lk := [66]) hT hM 14 (List.range 14) (by kernel_rfl) M (.row (.slice k1 k2 k3) 3 1 (ints kept) :: .cells g2 23 [ptr g] :: .cells g 76 [.slice (some ⟨gt, ot, none⟩) ts.length ct, .map (some r)] :: .obj r (imapObj (gmap gone)) :: L) [.row (.slice (some ⟨gt, ot, none⟩) ts.length ct) 82 4 (tvs (ts.set k x1))]
          ((weakPull [3, 0, 0, 0, 0] (L' := .row (.slice (some ⟨gt, ot, none⟩) ts.length ct) 82 4 (tvs (ts.set k x1)) :: (.row (.slice k1 k2 k3) 3 1 (ints kept) :: .cells g2 23 [ptr g] :: .cells g 76 [.slice (some ⟨gt, ot, none⟩) ts.length ct, .map (some r)] :: .obj r (imapObj (gmap gone)) :: L)) rfl).trans (Weak.perm (List.perm_append_comm (l₁ := [_])))) ?_
        have hcb1 : CbAt ⟨M, (.row (.slice k1 k2 k3) 3 1 (ints kept) :: .cells g2 23 [ptr g] :: .cells g 76 [.slice (some ⟨gt, ot, none⟩) ts.length ct, .map (some r)] :: .obj r (imapObj (gmap gone)) :: L) ++ [.row (.slice (some ⟨gt, ot, none⟩) ts.length ct) 82 4 (tvs (ts.set k x1))]⟩ g (.slice (some ⟨gt, ot, none⟩) ts.length ct) r (ts.set k x1) gone := by
          refine cbIn ht1 (fun y hy => ?_) (fun a ha => by simp [cbA] at ha; simp; rcases ha with h | h | h <;> simp [h])
          rcases List.mem_or_eq_of_mem_set hy with h | h
          · exact (hl y h).mono (hle_sub fun a ha => by simp [ha])
          · subst h
            have hx := (hl _ hmem).mono (H' := ⟨M, (.row (.slice k1 k2 k3) 3 1 (ints kept) :: .cells g2 23 [ptr g] :: .cells g 76 [.slice (some ⟨gt, ot, none⟩) ts.length ct, .map (some r)] :: .obj r (imapObj (gmap gone)) :: L) ++ [.row (.slice (some ⟨gt, ot, none⟩) ts.length ct) 82 4 (tvs (ts.set k y))]⟩) (hle_sub fun a ha => by simp [ha])
            refine ⟨?_, ?_, ?_⟩
            · rw [x1f, x1tf]; exact hx.f
            · rw [x1p, x1tp]; exact readsRow (e := 3) (by simp) hkv
            · rw [x1b, x1tb]; exact hx.b
        obtain ⟨q1, q2, eq, hct1⟩ := tvsAt hcb1.t
        rw [List.length_set] at eq
        obtain ⟨gq, oq, e3, hcx⟩ := hct1 k hk1
        cases eq
        cases e3
        rw [hg1] at hcx
        have hcx2 : CellsAt _ gt (ot + k * 4) [.slice f1 f2 f3, .slice k1 k2 k3] := fun j v hj => by
          match j, hj with
          | 0, hj => exact hcx 0 v (by rw [← hj, ex1]; rfl)
          | 1, hj => exact hcx 1 v (by rw [← hj, ex1]; rfl)
          | j + 2, hj => simp at hj
        have hthb : ∀ i, ((stOf (ts.set k x1) gone).th i).b = ((stOf ts gone).th i).b := fun i => by
          simp only [St.th, stOf, List.map_set, List.getD_eq_getElem?_getD]
          by_cases h : k = i.toNat
          · subst h
            rw [List.getElem?_set_self (by simpa using hk)]
            simp [hk, x1tb]
          · rw [List.getElem?_set_ne h]
        have hbL : baseL (stOf (ts.set k x1) gone) ts[k].t.f kept = baseL (stOf ts gone) ts[k].t.f kept := baseL_congr hthb _ _
        have hkl : kept.length ≤ 512 := by rw [← hkept]; have := ho2.pl _ hmem; exact Nat.le_trans (List.length_filter_le _ _) this
        conv => whnf
        refine ldS 1 rfl rfl ?_
        conv => whnf
        refine ⟨_, rfl, hcx2, ?_⟩
        refine ⟨_, _, Weak.refl _, fun _ _ h => h, ?_⟩
        conv => whnf
        refine c_base g _ r (ts.set k x1) gone _ _ ts[k].t.f kept _ hcb1 ⟨by rw [← efv]; exact (hl _ hmem).f.mono (hle_sub fun a ha => by simp [ha]), fun x hx => by have := hfb x hx; omega, by have := riseF_len hfr; omega⟩ (readsRow (e := 3) (by simp) hkv) (by have := riseF_len hfr; omega) hkl (fun x hx => by rw [List.length_set]; have := hfb x hx; omega)
          (fun y hy => by
            rcases List.mem_or_eq_of_mem_set hy with h | h
            · exact ho.b _ h
            · rw [h, x1tb]; exact ho.b _ hmem) _ ?_
        rw [hbL]
        intro bv hbv
        obtain ⟨b1, b2, b3, rfl⟩ := hbv.slice
        refine ⟨_, _ :: _, weakMid, fun _ _ h => h, ?_⟩
        have hts3 := tvs_set3 hk1 (.slice b1 b2 b3) (norm (baseL (stOf ts gone) ts[k].t.f kept))
        rw [List.set_set, hg1] at hts3
        obtain ⟨x2, ex2⟩ : ∃ x2 : TV, x2 = { x1 with bv := .slice b1 b2 b3, t := { x1.t with b := norm (baseL (stOf ts gone) ts[k].t.f kept) } } := ⟨_, rfl⟩
        rw [← ex2] at hts3
        have hk2 : k < (ts.set k x2).length := by rw [List.length_set]; exact hk
        have hts4 := tvs_set hk2 true
        rw [List.set_set, show (ts.set k x2)[k] = x2 by simp] at hts4
        obtain ⟨x3, ex3⟩ : ∃ x3 : TV, x3 = { x2 with t := { x2.t with u := true } } := ⟨_, rfl⟩
        rw [← ex3] at hts4
        conv => whnf
        refine stWR 1 rfl (k * 4 + 2) (by simp; omega) (by rw [tvs_length, List.length_set]; simp; omega) ⟨rfl, trivial⟩ hts3 ?_
        refine ⟨_, _, Weak.refl _, fun _ _ h => h, ?_⟩
        conv => whnf
        refine stWR 1 rfl (k * 4 + 3) (by simp; omega) (by rw [tvs_length, List.length_set]; simp; omega) ⟨rfl, trivial⟩ hts4 ?_
        refine ⟨_, _, Weak.refl _, fun _ _ h => h, ?_⟩
        conv => whnf
        refine ⟨_, Weak.perm List.perm_append_comm, ?_⟩
        conv => whnf
        refine ⟨rfl, ?_⟩
        conv => whnf
        have hx3p : x3.pv = .slice k1 k2 k3 := by rw [ex3, ex2]; exact x1p
        have hx3b : x3.bv = .slice b1 b2 b3 := by rw [ex3, ex2]
        have hx3t : x3.t = ⟨ts[k].t.f, kept, norm (baseL (stOf ts gone) ts[k].t.f kept), true⟩ := by rw [ex3, ex2]; simp [x1tf, x1tp]
        have h1 := h1 x3 rfl (by rw [hx3t, rnT]; simp only [show (stOf ts gone).gone = gone from rfl]; rw [hkept]) (by rw [ex3, ex2]; exact x1f) (by rw [hx3p, hx3t]; exact hkv) (by rw [hx3b, hx3t]; exact hbv) (ht.len (by rw [tvs_length, tvs_length, List.length_set]))
        refine fin ?_ h1
        rw [hx3p, hx3b, hx3t]
        exact (weakPull [4, 1, 3, 1, 0] rfl).trans (weakSkip 5 1 rfl)
  · rw [if_pos (by omega)] at out
    rw [decide_eq_false hi]
    conv => whnf
    refine ⟨rfl, ?_⟩
    conv => whnf
    exact fin (weakK 1 rfl) (out 6 (by omega) rfl)
end Go.Proofs.Ytjgljgkfflojbaa.A
